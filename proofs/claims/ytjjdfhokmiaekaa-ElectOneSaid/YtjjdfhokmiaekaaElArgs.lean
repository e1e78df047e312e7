/-
  The structs of the elect laws that came in: votes, entries, steps, asks.
-/
import Derived.Test.YtjjdfhokmiaekaaArgs
import Derived.Test.YtjjdfhokmiaekaaConf
namespace Go.Proofs.Ytjjdfhokmiaekaa
open Go.RowKit Go.Lst Go.ChangeShapes Go.WideShapes Go.Deep
section
variable {H : Type} {enc : TypeId × Value → H} {W : World} {base : Nat} {v : Value} {d : DataW H} {p : List MemPlace}
set_option maxRecDepth 100000 in
theorem open_vote (hv : Value.okWide Try.prog W .any base 53 v) (h : DataW.Trod enc Try.prog W 0 (fun _ => true) true 53 v d p) :
    ∃ T F, v = .agg #[.int .u64 T, .int .i64 F] ∧ (Lit.int .u64 T).wf = true ∧ (Lit.int .i64 F).wf = true := by
  obtain ⟨cs, rfl, hl, n, hf⟩ := cells_arg Try.underlying53 (by kernel_rfl) (by kernel_rfl) hv h
  · obtain ⟨c0, c1, rfl⟩ := list2 hl
    obtain ⟨v0, y0, e0, h0⟩ := hf 0 _ rfl
    obtain ⟨v1, y1, e1, h1⟩ := hf 1 _ rfl
    cases e0; cases e1
    obtain ⟨a0, rfl, w0⟩ := int_of Try.underlying32 ⟨_, h0⟩
    obtain ⟨a1, rfl, w1⟩ := int_of Try.underlying3 ⟨_, h1⟩
    exact ⟨a0, a1, rfl, w0, w1⟩
set_option maxRecDepth 100000 in
theorem open_entry (hv : Value.okWide Try.prog W .any base 55 v) (h : DataW.Trod enc Try.prog W 0 (fun _ => true) true 55 v d p) :
    ∃ i t k s p n c, v = .agg #[.int .u64 i, .int .u64 t, .int .u8 k, .string s, .slice p n c] ∧ (Lit.int .u64 i).wf = true ∧ (Lit.int .u64 t).wf = true ∧ (Lit.int .u8 k).wf = true ∧ s.size ≤ maxLen ∧ ∃ xs, Nums .i64 W (.slice p n c) xs := by
  obtain ⟨cs, rfl, hl, n, hf⟩ := cells_arg Try.underlying55 (by kernel_rfl) (by kernel_rfl) hv h
  · obtain ⟨c0, c1, c2, c3, c4, rfl⟩ := list5 hl
    obtain ⟨v0, y0, e0, h0⟩ := hf 0 _ rfl
    obtain ⟨v1, y1, e1, h1⟩ := hf 1 _ rfl
    obtain ⟨v2, y2, e2, h2⟩ := hf 2 _ rfl
    obtain ⟨v3, y3, e3, h3⟩ := hf 3 _ rfl
    obtain ⟨v4, y4, e4, h4⟩ := hf 4 _ rfl
    cases e0; cases e1; cases e2; cases e3; cases e4
    obtain ⟨a0, rfl, w0⟩ := int_of Try.underlying32 ⟨_, h0⟩
    obtain ⟨a1, rfl, w1⟩ := int_of Try.underlying32 ⟨_, h1⟩
    obtain ⟨a2, rfl, w2⟩ := int_of Try.underlying5 ⟨_, h2⟩
    obtain ⟨a3, rfl, w3⟩ := string_of Try.underlying9 ⟨_, h3⟩
    obtain ⟨xs, hx⟩ := nums_trod Try.underlying33 Try.underlying3 (by kernel_rfl) h4
    obtain ⟨p, c, e, _⟩ := hx.parts
    subst e
    exact ⟨a0, a1, a2, a3, p, _, c, rfl, w0, w1, w2, w3, xs, hx⟩
set_option maxRecDepth 100000 in
theorem open_conf (hv : Value.okWide Try.prog W .any base 33 v) (h : DataW.Trod enc Try.prog W 0 (fun _ => true) true 33 v d p) : ∃ xs, Nums .i64 W v xs :=
  nums_arg Try.underlying33 Try.underlying3 (by kernel_rfl) hv h
end
end Go.Proofs.Ytjjdfhokmiaekaa
