/-
  ElectOne: inputs that are let go, what the arguments hold, and the walk for every input.
-/
import Derived.Test.YtjjdfhokmiaekaaElOne3
import Derived.Test.YtjjdfhokmiaekaaElArgs
namespace Go.Proofs.Ytjjdfhokmiaekaa
open Go.RowKit Go.Lst Go.Lx Go.ChangeShapes Go.WideShapes Go.Deep
set_option maxRecDepth 100000 in
set_option maxHeartbeats 4000000 in
theorem one_bad (cv ev av : Value) (conf : List Int) (en an : Nat) (w : World) (hc : Nums .i64 w cv conf) (he : Recs 5 QEnd w ev en) (ha : Recs 4 QAsk w av an) (hl : ¬(may conf = true ∧ en ≤ 100 ∧ an ≤ 200)) :
    Calls Try.prog 6 #[cv, ev, av] w fun e w' => e = .returned (.bool true) ∧ Below w.heap.size w w' := by
  have C1 := Lib.hid (rMayConf_calls cv conf w hc)
  obtain ⟨cp, cc, rfl, -⟩ := hc.parts
  obtain ⟨ep, ec, rfl, -⟩ := he
  obtain ⟨ap, ac, rfl, -⟩ := ha
  have hcs : may conf = false ∨ (may conf = true ∧ 100 < (en : Int)) ∨ (may conf = true ∧ ¬(100 < (en : Int)) ∧ 200 < (an : Int)) := by
    cases hm : may conf with
    | false => exact .inl rfl
    | true =>
      by_cases h1 : en ≤ 100
      · exact .inr (.inr ⟨rfl, by omega, by have : ¬ an ≤ 200 := fun h2 => hl ⟨hm, h1, h2⟩; omega⟩)
      · exact .inr (.inl ⟨rfl, by omega⟩)
  clear hl hc
  rcases hcs with h | ⟨h, h1⟩ | ⟨h, h1, h2⟩
  all_goals
    rw [h] at C1
    clear h
    go_enter Try.func6, Try.ntmps6
    go_wp2_with fail
    refine C1.out.mono ?_
    rintro e w1 ⟨rfl, hb⟩
    go_wp2_with fail
    refine (works25_calls _).mono ?_
    rintro e w8 ⟨rfl, hb8⟩
    go_wp2_with fail
    go_ret
    exact ⟨rfl, Lx.bstep hb (Nat.le_refl _) hb8⟩
section
variable {H : Type} {enc : TypeId × Value → H} {W : World} {base : Nat} {v : Value} {d : DataW H} {p : List MemPlace}
set_option maxRecDepth 100000 in
theorem open_asks (hv : Value.okWide Try.prog W .any base 81 v) (h : DataW.Trod enc Try.prog W 0 (fun _ => true) true 81 v d p) :
    ∃ n, Recs 4 QAsk W v n := by
  have hC : Try.prog.cellsOf 86 = 4 := by kernel_rfl
  have := recs_arg (Q := QAsk) Try.underlying81 (fun n cs y hy => ?_) hv h
  · rwa [hC] at this
  · obtain ⟨hl, n, hf⟩ := cells_trod Try.underlying86 (by kernel_rfl) (by kernel_rfl) hy
    obtain ⟨c0, c1, c2, c3, rfl⟩ := list4 hl
    obtain ⟨v0, y0, e0, h0⟩ := hf 0 _ rfl
    obtain ⟨v1, y1, e1, h1⟩ := hf 1 _ rfl
    obtain ⟨v2, y2, e2, h2⟩ := hf 2 _ rfl
    obtain ⟨v3, y3, e3, h3⟩ := hf 3 _ rfl
    cases e0; cases e1; cases e2; cases e3
    obtain ⟨a0, rfl, w0⟩ := int_of Try.underlying3 ⟨_, h0⟩
    obtain ⟨a1, rfl, w1⟩ := int_of Try.underlying3 ⟨_, h1⟩
    obtain ⟨a2, rfl, w2⟩ := int_of Try.underlying32 ⟨_, h2⟩
    obtain ⟨a3, rfl⟩ := bool_of Try.underlying4 ⟨_, h3⟩
    exact ⟨a0, a1, a2, a3, rfl, w2, w0, w1⟩
set_option maxRecDepth 100000 in
theorem open_ends (hv : Value.okWide Try.prog W .any base 80 v) (h : DataW.Trod enc Try.prog W 0 (fun _ => true) true 80 v d p) :
    ∃ n, Recs 5 QEnd W v n := by
  have hC : Try.prog.cellsOf 55 = 5 := by kernel_rfl
  have := recs_arg (Q := QEnd) Try.underlying80 (fun n cs y hy => ?_) hv h
  · rwa [hC] at this
  · obtain ⟨hl, n, hf⟩ := cells_trod Try.underlying55 (by kernel_rfl) (by kernel_rfl) hy
    obtain ⟨c0, c1, c2, c3, c4, rfl⟩ := list5 hl
    obtain ⟨v0, y0, e0, h0⟩ := hf 0 _ rfl
    obtain ⟨v1, y1, e1, h1⟩ := hf 1 _ rfl
    obtain ⟨v2, y2, e2, h2⟩ := hf 2 _ rfl
    obtain ⟨v3, y3, e3, h3⟩ := hf 3 _ rfl
    obtain ⟨v4, y4, e4, h4⟩ := hf 4 _ rfl
    cases e0; cases e1; cases e2; cases e3; cases e4
    obtain ⟨a0, rfl, w0⟩ := int_of Try.underlying32 ⟨_, h0⟩
    obtain ⟨a1, rfl, w1⟩ := int_of Try.underlying32 ⟨_, h1⟩
    obtain ⟨a2, rfl, w2⟩ := int_of Try.underlying5 ⟨_, h2⟩
    obtain ⟨a3, rfl, w3⟩ := string_of Try.underlying9 ⟨_, h3⟩
    obtain ⟨xs, hx⟩ := nums_trod Try.underlying33 Try.underlying3 (by kernel_rfl) h4
    obtain ⟨p, c, e, _⟩ := hx.parts
    subst e
    exact ⟨a0, a1, a2, a3, p, _, c, rfl⟩
end
theorem ElectOne_walk (cv : Value) (conf : List Int) (ev : Value) (en : Nat) (av : Value) (an : Nat) (w : World) (hc : Nums .i64 w cv conf) (he : Recs 5 QEnd w ev en) (ha : Recs 4 QAsk w av an) :
    Calls Try.prog 6 #[cv, ev, av] w fun e w' => e = .returned (.bool true) ∧ Below w.heap.size w w' := by
  by_cases h : may conf = true ∧ en ≤ 100 ∧ an ≤ 200
  · obtain ⟨a, c, rfl, _⟩ := hc.block_lt (may_facts h.1).2.2.1
    exact one_good conf a c ev av en an w hc he ha h.1 h.2
  · exact one_bad cv ev av conf en an w hc he ha h
end Go.Proofs.Ytjjdfhokmiaekaa
