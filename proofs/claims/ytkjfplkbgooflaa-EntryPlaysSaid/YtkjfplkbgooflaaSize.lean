/-
  codicillaw26.size, heavy: they answer.
-/
import Derived.Test.YtkjfplkbgooflaaScript
namespace Go.Proofs.Ytkjfplkbgooflaa
open Go Go.RowKit Go.Lst Go.Lx

/-- It answers with some number; with true or false. -/
def IsInt (e : Ending) : Prop := ∃ x : Int, e = .returned (.int .i64 x)
def IsBool (e : Ending) : Prop := ∃ x : Bool, e = .returned (.bool x)
set_option maxRecDepth 100000 in
set_option maxHeartbeats 2000000 in
theorem size_calls (B : Nat) (es : List Ent) (v : Value) (w : World) (h : Ents B w v es) :
    Calls Try.prog 16 #[v] w fun y w' => IsInt y ∧ Below w.heap.size w w' := by
  obtain ⟨p, c, hve, hc1, hc2, -⟩ := id h
  obtain ⟨n, hn⟩ : ∃ n, es.length = n := ⟨_, rfl⟩
  have hh := Lib.hid h
  rw [hn] at hve hc1
  rw [hve] at hh ⊢
  clear h hve
  have hnm : n ≤ maxLen := by omega
  unfold maxLen at hnm
  replace hc1 := Lib.hid hc1
  replace hc2 := Lib.hid hc2
  replace hn := Lib.hid hn
  go_enter Try.func16, Try.ntmps16
  go_wp2_with fail
  go_loopg [3, 4] 301 (fun k v3 v4 wr => ∃ (x : Int) (i : Nat), v3 = .int .i64 x ∧ v4 = .int .i64 (i : Int) ∧ i ≤ 300 ∧ 300 < i + k ∧ Below w.heap.size w wr)
  case atStart => exact ⟨0, 0, rfl, rfl, by omega, by omega, Below.refl _ _⟩
  case round =>
    obtain ⟨x, i, rfl, rfl, hi1, hi2, hb⟩ := hrel
    cases gk with
    | zero => omega
    | succ k =>
      by_cases hlt1 : i < n
      · have hlt2 : (i : Int) < (n : Int) := by omega
        have h0 : (0 : Int) ≤ (i : Int) := by omega
        by_cases h300 : i < 300
        · have h301 : (i : Int) < 300 := by omega
          have hil : i < es.length := by have := hn.out; omega
          obtain ⟨a, c', cw, ev, g0, g1, g2, g3, g4, hcf⟩ := hh.out.get i hil
          injection ev with e1 e2 e3
          subst e1 e3
          generalize es[i] = en at *
          obtain ⟨ei, et, ek, s, ec⟩ := en
          obtain ⟨pw, cc, rfl, -⟩ := hcf.n.parts
          dsimp only at g3
          replace g3 := (cell_below hb g3).trans g3
          replace g4 := (cell_below hb g4).trans g4
          replace hb := Lib.hid hb
          clear g0 g1 g2 hcf e2
          go_wp2_with fail
          go_quiet (fail)
          go_wp2_with fail
          go_roundg k
          case measure => omega
          case rel => exact ⟨_, i + 1, rfl, by first | rfl | (rw [IntWalk.wrap64_in _ (by omega)]; rfl), by omega, by omega, below_drewN hb.out _⟩
        · have h301 : decide ((i : Int) < 300) = false := by simp; omega
          replace hb := Lib.hid hb
          by_cases h200 : (200 : Int) < (n : Int)
          · go_wp2_with fail
            go_ret
            exact ⟨⟨_, rfl⟩, hb.out⟩
          · have h2 : decide ((200 : Int) < (n : Int)) = false := by simp; omega
            go_wp2_with fail
            go_ret
            exact ⟨⟨_, rfl⟩, hb.out⟩
      · have hd : decide ((i : Int) < (n : Int)) = false := by simp; omega
        replace hb := Lib.hid hb
        by_cases h200 : (200 : Int) < (n : Int)
        · go_wp2_with fail
          go_ret
          exact ⟨⟨_, rfl⟩, hb.out⟩
        · have h2 : decide ((200 : Int) < (n : Int)) = false := by simp; omega
          go_wp2_with fail
          go_ret
          exact ⟨⟨_, rfl⟩, hb.out⟩
/-- A step's cells. -/
theorem step_get {w : World} {v : Value} {n : Nat} (h : Recs 5 QStep w v n) (j : Nat) (hj : j < n) : ∃ a c d i t ev m es, v = .slice (some a) n c ∧ n ≤ c ∧ c ≤ maxLen ∧ w.cell? (a.add (j * 5)) = some (.int .i64 d) ∧ w.cell? ⟨(a.add (j * 5)).block, (a.add (j * 5)).off + 1, none⟩ = some (.int .u64 i) ∧ w.cell? ⟨(a.add (j * 5)).block, (a.add (j * 5)).off + 2, none⟩ = some (.int .u64 t) ∧
    w.cell? ⟨(a.add (j * 5)).block, (a.add (j * 5)).off + 3, none⟩ = some ev ∧ w.cell? ⟨(a.add (j * 5)).block, (a.add (j * 5)).off + 4, none⟩ = some (.int .i64 m) ∧ InEnts w ev es ∧ (Lit.int .u64 i).wf = true ∧ (Lit.int .u64 t).wf = true := by
  obtain ⟨p, c, rfl, h1, h2, h3⟩ := h
  obtain ⟨a, cs, rfl, _, ⟨d, i, t, ev, m, es, rfl, g1, g2, g3⟩, g4⟩ := h3 j hj
  have e : ∀ m, m < 5 → m ≠ 0 → a.add (j * 5 + m) = ⟨(a.add (j * 5)).block, (a.add (j * 5)).off + m, none⟩ := fun m hm h0 => by rw [← Lst.add_add]; unfold Addr.add; simp only [h0, if_false]
  refine ⟨a, c, d, i, t, ev, m, es, rfl, h1, h2, g4 0 (by omega), ?_, ?_, ?_, ?_, g1, g2, g3⟩
  · rw [← e 1 (by omega) (by omega)]; exact g4 1 (by omega)
  · rw [← e 2 (by omega) (by omega)]; exact g4 2 (by omega)
  · rw [← e 3 (by omega) (by omega)]; exact g4 3 (by omega)
  · rw [← e 4 (by omega) (by omega)]; exact g4 4 (by omega)
theorem InEnts.below {w w' : World} {v : Value} {es : List Ent} (h : InEnts w v es) (hb : Below w.heap.size w w') : Ents w.heap.size w' v es := by
  refine h.1.keepn (Calms.below hb) fun h0 g hg => hb.block g ?_
  obtain ⟨p, c, rfl, _, _, h3⟩ := h.1
  obtain ⟨a, cv, rfl, h4, _⟩ := h3 0 h0
  cases hg
  have := h4 0 (by omega)
  rcases Nat.lt_or_ge a.block w.heap.size with h' | h'
  · exact h'
  · have e : a.add (0 * 5 + 0) = a := rfl
    rw [e] at this
    simp [World.cell?, Array.getElem?_eq_none h', entC] at this
set_option maxRecDepth 100000 in
set_option maxHeartbeats 2000000 in
theorem heavy_calls (v : Value) (n : Nat) (w : World) (h : Recs 5 QStep w v n) :
    Calls Try.prog 15 #[v] w fun y w' => IsBool y ∧ Below w.heap.size w w' := by
  have hS := Lib.hid (fun B es v w h => size_calls B es v w h)
  obtain ⟨p, c, hve, hc1, hc2, -⟩ := id h
  have hh := Lib.hid h
  rw [hve] at hh ⊢
  clear h hve
  have hnm : n ≤ maxLen := by omega
  unfold maxLen at hnm
  replace hc1 := Lib.hid hc1
  replace hc2 := Lib.hid hc2
  go_enter Try.func15, Try.ntmps15
  go_wp2_with fail
  go_loopg [3, 4] 101 (fun k v3 v4 wr => ∃ (x : Int) (i : Nat), v3 = .int .i64 x ∧ v4 = .int .i64 (i : Int) ∧ i ≤ 100 ∧ 100 < i + k ∧ Below w.heap.size w wr)
  case atStart => exact ⟨0, 0, rfl, rfl, by omega, by omega, Below.refl _ _⟩
  case round =>
    obtain ⟨x, i, rfl, rfl, hi1, hi2, hb⟩ := hrel
    cases gk with
    | zero => omega
    | succ k =>
      by_cases hgo : i < n ∧ i < 100 ∧ x < 1048576
      · obtain ⟨hlt1, h100, hx⟩ := hgo
        have hlt2 : (i : Int) < (n : Int) := by omega
        have h0 : (0 : Int) ≤ (i : Int) := by omega
        have h101 : (i : Int) < 100 := by omega
        obtain ⟨a, c', d, ii, t, ev, m, es, e0, -, -, g0, g1, g2, g3, g4, hin, -, -⟩ := step_get hh.out i hlt1
        injection e0 with e1 e2 e3
        subst e1 e3
        replace g3 := (cell_below hb g3).trans g3
        have hS1 := Lib.hid (hS.out _ es ev wr (hin.below hb))
        obtain ⟨pe, ce, hpe, -⟩ := hin.1
        generalize es.length = ne at hpe
        subst hpe
        replace hb := Lib.hid hb
        clear g0 g1 g2 g4 hin
        go_wp2_with fail
        refine hS1.out.mono ?_
        rintro y w1 ⟨⟨z, rfl⟩, hb1⟩
        replace hb := Lib.hid (Lx.bstep hb.out (Nat.le_refl _) hb1)
        clear hb1 g3
        go_wp2_with fail
        go_roundg k
        case measure => omega
        case rel => exact ⟨_, i + 1, rfl, by first | rfl | (rw [IntWalk.wrap64_in _ (by omega)]; rfl), by omega, by omega, hb.out⟩
      · replace hb := Lib.hid hb
        have hways : (¬ (i < n)) ∨ (i < n ∧ ¬ (i < 100)) ∨ (i < n ∧ i < 100 ∧ ¬ (x < 1048576)) := by omega
        by_cases h60 : (60 : Int) < (n : Int)
        · rcases hways with h1 | ⟨h1, h2⟩ | ⟨h1, h2, h3⟩
          case' inl => have d1 : decide ((i : Int) < (n : Int)) = false := by simp; omega
          case' inr.inl => (have d1 : (i : Int) < (n : Int) := by omega); (have d2 : decide ((i : Int) < 100) = false := by simp; omega)
          case' inr.inr => (have d1 : (i : Int) < (n : Int) := by omega); (have d2 : (i : Int) < 100 := by omega); (have d3 : decide (x < 1048576) = false := by simp; omega)
          all_goals
            go_wp2_with fail
            go_ret
            exact ⟨⟨_, rfl⟩, hb.out⟩
        · have d60 : decide ((60 : Int) < (n : Int)) = false := by simp; omega
          rcases hways with h1 | ⟨h1, h2⟩ | ⟨h1, h2, h3⟩
          case' inl => have d1 : decide ((i : Int) < (n : Int)) = false := by simp; omega
          case' inr.inl => (have d1 : (i : Int) < (n : Int) := by omega); (have d2 : decide ((i : Int) < 100) = false := by simp; omega)
          case' inr.inr => (have d1 : (i : Int) < (n : Int) := by omega); (have d2 : (i : Int) < 100 := by omega); (have d3 : decide (x < 1048576) = false := by simp; omega)
          all_goals
            go_wp2_with fail
            go_ret
            exact ⟨⟨_, rfl⟩, hb.out⟩
end Go.Proofs.Ytkjfplkbgooflaa
