/-
  The contract of elect's Grant.
-/
import Derived.Test.YtjjdfhokmiaekaaElect4
namespace Go.Proofs.Ytjjdfhokmiaekaa
open Go.RowKit Go.Lst

theorem results_vote3 {fn : Func} {t s u : Tmp} (h : fn.results = #[.cell t 53, .tmp s, .tmp u]) {tmps : Array Value} {w : World} {b : Nat} {x y : Value} (hp : tmps.getD t undef = .pointer (some ⟨b, 0, none⟩)) (h2 : Two w b x y) :
    (results fn tmps).run Try.prog w = .ok (.tuple #[.agg #[x, y], tmps.getD s undef, tmps.getD u undef]) w := by
  have hp' : tmps[t]?.getD undef = .pointer (some ⟨b, 0, none⟩) := by simpa using hp
  simp [results, h, go_sem, hp', h2.c0, h2.c1]
def grant (v : Int × Int) (term who i t i' t' : Int) : (Int × Int) × Bool :=
  if term < (if v.1 < term then (term, (0 : Int)) else v).1 ∨ ((if v.1 < term then (term, (0 : Int)) else v).2 ≠ 0 ∧ (if v.1 < term then (term, (0 : Int)) else v).2 ≠ who) ∨ newer t i t' i' = false
  then (if v.1 < term then (term, (0 : Int)) else v, false) else (((if v.1 < term then (term, (0 : Int)) else v).1, who), true)
def mayGrant (v : Int × Int) (term who : Int) : Bool := mayVote v.1 v.2 && decide (1 ≤ term ∧ term ≤ 281474976710656 ∧ 1 ≤ who ∧ who ≤ 64)

/-- An entry's block: its end. -/
structure EndAt (w : World) (b : Nat) (x y : Value) : Prop where
  c0 : w.cell? ⟨b, 0, none⟩ = some x
  c1 : w.cell? ⟨b, 1, none⟩ = some y
theorem EndAt.below {w w' : World} {b : Nat} {x y : Value} (h : EndAt w b x y) (hb : Below w.heap.size w w') : EndAt w' b x y :=
  ⟨(cell_below hb h.c0).trans h.c0, (cell_below hb h.c1).trans h.c1⟩
theorem EndAt.alloc (w : World) (x y a b c : Value) (T : TypeId) : EndAt (w.alloc (.cells #[x, y, a, b, c] T)) w.heap.size x y := by
  have h : (w.alloc (.cells #[x, y, a, b, c] T)).heap[w.heap.size]? = some (.cells #[x, y, a, b, c] T) := by show (w.heap.push _)[w.heap.size]? = _; simp
  refine ⟨?_, ?_⟩ <;> simp only [World.cell?, h] <;> simp
theorem Two.keep {w : World} {b b' o : Nat} {x y z : Value} (h : Two w b x y) (hne : b ≠ b') : Two (w.setCell ⟨b', o, none⟩ z) b x y := by
  refine ⟨?_, ?_, ?_, ?_⟩
  · rw [World.cell?_setCell_other _ _ _ _ (by intro e; injection e with e _ _; exact hne e.symm)]; exact h.c0
  · rw [World.cell?_setCell_other _ _ _ _ (by intro e; injection e with e _ _; exact hne e.symm)]; exact h.c1
  · rw [World.frozen?_setCell]; exact h.f0
  · rw [World.frozen?_setCell]; exact h.f1
theorem Two.put1 {w : World} {b : Nat} {x y : Value} (h : Two w b x y) (y' : Value) : Two (w.setCell ⟨b, 1, none⟩ y') b x y' := by
  refine ⟨?_, ?_, ?_, ?_⟩
  · rw [World.cell?_setCell_other _ _ _ _ (by simp)]; exact h.c0
  · exact World.cell?_setCell_same' _ _ _ (by rw [h.c1]; rfl)
  · rw [World.frozen?_setCell]; exact h.f0
  · rw [World.frozen?_setCell]; exact h.f1
theorem EndAt.keep {w : World} {b b' o : Nat} {x y z : Value} (h : EndAt w b x y) (hne : b ≠ b') : EndAt (w.setCell ⟨b', o, none⟩ z) b x y := by
  refine ⟨?_, ?_⟩
  · rw [World.cell?_setCell_other _ _ _ _ (by intro e; injection e with e _ _; exact hne e.symm)]; exact h.c0
  · rw [World.cell?_setCell_other _ _ _ _ (by intro e; injection e with e _ _; exact hne e.symm)]; exact h.c1
/-- The world in which Grant asks first. -/
def gw (w : World) (T F i t i' t' : Int) (r s : Value × Value × Value) : World :=
  (((w.alloc (.cells #[.int .u64 T, .int .i64 F] 53)).alloc (.cells #[.int .u64 i, .int .u64 t, r.1, r.2.1, r.2.2] 55)).alloc (.cells #[.int .u64 i', .int .u64 t', s.1, s.2.1, s.2.2] 55)).alloc (.cells #[.int .u64 0, .int .i64 0] 53)
theorem gw_below (w : World) (T F i t i' t' : Int) (r s : Value × Value × Value) : Below w.heap.size w (gw w T F i t i' t' r s) :=
  ((((Below.refl _ _).alloc (Nat.le_refl _) _).alloc (by simp) _).alloc (by simp; omega) _).alloc (by simp; omega) _
theorem gw_facts (w : World) (T F i t i' t' : Int) (r s : Value × Value × Value) : Two (gw w T F i t i' t' r s) w.heap.size (.int .u64 T) (.int .i64 F) ∧ EndAt (gw w T F i t i' t' r s) (w.heap.size + 1) (.int .u64 i) (.int .u64 t) ∧
    EndAt (gw w T F i t i' t' r s) (w.heap.size + 2) (.int .u64 i') (.int .u64 t') ∧ Two (gw w T F i t i' t' r s) (w.heap.size + 3) (.int .u64 0) (.int .i64 0) := by
  unfold gw
  refine ⟨?_, ?_, ?_, ?_⟩
  · exact (((Two.alloc w _ _ _).below ((Below.refl _ _).alloc (Nat.le_refl _) _)).below ((Below.refl _ _).alloc (Nat.le_refl _) _)).below ((Below.refl _ _).alloc (Nat.le_refl _) _)
  · have := EndAt.alloc (w.alloc (.cells #[.int .u64 T, .int .i64 F] 53)) (.int .u64 i) (.int .u64 t) r.1 r.2.1 r.2.2 55
    rw [show (w.alloc (.cells #[.int .u64 T, .int .i64 F] 53)).heap.size = w.heap.size + 1 from by simp] at this
    exact (this.below ((Below.refl _ _).alloc (Nat.le_refl _) _)).below ((Below.refl _ _).alloc (Nat.le_refl _) _)
  · have := EndAt.alloc ((w.alloc (.cells #[.int .u64 T, .int .i64 F] 53)).alloc (.cells #[.int .u64 i, .int .u64 t, r.1, r.2.1, r.2.2] 55)) (.int .u64 i') (.int .u64 t') s.1 s.2.1 s.2.2 55
    rw [show ((w.alloc (.cells #[.int .u64 T, .int .i64 F] 53)).alloc (.cells #[.int .u64 i, .int .u64 t, r.1, r.2.1, r.2.2] 55)).heap.size = w.heap.size + 2 from by simp] at this
    exact this.below ((Below.refl _ _).alloc (Nat.le_refl _) _)
  · have := Two.alloc (((w.alloc (.cells #[.int .u64 T, .int .i64 F] 53)).alloc (.cells #[.int .u64 i, .int .u64 t, r.1, r.2.1, r.2.2] 55)).alloc (.cells #[.int .u64 i', .int .u64 t', s.1, s.2.1, s.2.2] 55)) (.int .u64 0) (.int .i64 0) 53
    rw [show (((w.alloc (.cells #[.int .u64 T, .int .i64 F] 53)).alloc (.cells #[.int .u64 i, .int .u64 t, r.1, r.2.1, r.2.2] 55)).alloc (.cells #[.int .u64 i', .int .u64 t', s.1, s.2.1, s.2.2] 55)).heap.size = w.heap.size + 3 from by simp] at this
    exact this

set_option maxRecDepth 100000 in
set_option maxHeartbeats 2000000 in
theorem Grant_bad (v : Int × Int) (term who i t i' t' : Int) (r s : Value × Value × Value) (w : World) (hT : 0 ≤ v.1) (h : mayGrant v term who = false) :
    Calls Try.prog 23 #[vv v, .int .u64 term, .int .i64 who, ev i t r, ev i' t' s] w fun e w' => e = .returned (.tuple #[vv (0, 0), .bool false, .int .i64 2]) ∧ Below w.heap.size w w' := by
  obtain ⟨T, F⟩ := v
  have C1 := Lib.hid (fun W => mayVote_calls T F W hT)
  have hm : mayVote T F = false ∨ (mayVote T F = true ∧ (term < 1 ∨ (1 ≤ term ∧ 281474976710656 < term) ∨ (1 ≤ term ∧ term ≤ 281474976710656 ∧ who < 1) ∨ (1 ≤ term ∧ term ≤ 281474976710656 ∧ 1 ≤ who ∧ 64 < who))) := by
    unfold mayGrant at h
    rw [Bool.and_eq_false_iff, decide_eq_false_iff_not] at h
    cases hx : mayVote T F with
    | false => exact .inl rfl
    | true => right; refine ⟨rfl, ?_⟩; rcases h with h | h
              · rw [hx] at h; cases h
              · omega
  clear h
  unfold vv ev
  dsimp only at *
  have hg := gw_facts w T F i t i' t' r s
  have hgb := Lib.hid (gw_below w T F i t i' t' r s)
  rcases hm with hm | ⟨hm, hc | ⟨hc1, hc2⟩ | ⟨hc1, hc2, hc3⟩ | ⟨hc1, hc2, hc3, hc4⟩⟩
  all_goals
    rw [hm] at C1
    clear hm
    go_enter Try.func23, Try.ntmps23
    go_wp2_with fail
    refine (C1.out (gw w T _ i t i' t' r s)).mono ?_
    rintro e w1 ⟨rfl, hb1⟩
    have hb := Lib.hid (hg.2.2.2.below hb1)
    have hB := Lib.hid (Lx.bstep hgb.out (Nat.le_refl _) hb1)
    obtain ⟨b0, b1, b2, b3⟩ := hb.out
    clear hb1
    go_wp2_with fail
    exact bodyPost_ret (results_vote3 rfl rfl (hb.out.put _ _)) rfl ⟨rfl, below_put2 hB.out (by omega) _ _⟩

set_option maxRecDepth 100000 in
set_option maxHeartbeats 4000000 in
theorem Grant_good (v : Int × Int) (term who i t i' t' : Int) (r s : Value × Value × Value) (w : World) (hT : 0 ≤ v.1) (h : mayGrant v term who = true) :
    Calls Try.prog 23 #[vv v, .int .u64 term, .int .i64 who, ev i t r, ev i' t' s] w fun e w' => e = .returned (.tuple #[vv (grant v term who i t i' t').1, .bool (grant v term who i t i' t').2, .int .i64 0]) ∧ Below w.heap.size w w' := by
  obtain ⟨T, F⟩ := v
  have C1 := Lib.hid (fun W => mayVote_calls T F W hT)
  obtain ⟨hm, hc1, hc2, hc3, hc4⟩ : mayVote T F = true ∧ 1 ≤ term ∧ term ≤ 281474976710656 ∧ 1 ≤ who ∧ who ≤ 64 := by
    unfold mayGrant at h
    rw [Bool.and_eq_true, decide_eq_true_eq] at h
    exact h
  clear h
  have C2 := Lib.hid (fun W => Newer_calls t i t' i' W)
  unfold vv ev
  rw [hm] at C1
  clear hm
  dsimp only at *
  have hg := gw_facts w T F i t i' t' r s
  have hgb := Lib.hid (gw_below w T F i t i' t' r s)
  obtain ⟨R, hR⟩ : ∃ R, grant (T, F) term who i t i' t' = R := ⟨_, rfl⟩
  rw [hR]
  unfold grant at hR
  dsimp only at hR
  generalize newer t i t' i' = nw at *
  by_cases h1 : T < term
  · rw [if_pos h1] at hR
    have g1 : ¬ term < term := by omega
    cases nw with
    | true =>
      rw [if_neg (by simp)] at hR
      subst hR
      go_enter Try.func23, Try.ntmps23
      go_wp2_with fail
      refine (C1.out (gw w T _ i t i' t' r s)).mono ?_
      rintro e w1 ⟨rfl, hb1⟩
      have hb := Lib.hid (hg.2.2.2.below hb1)
      have ha := Lib.hid (hg.1.below hb1)
      have hB := Lib.hid (Lx.bstep hgb.out (Nat.le_refl _) hb1)
      obtain ⟨a0, a1, a2, a3⟩ := ha.out
      obtain ⟨b0, b1, b2, b3⟩ := hb.out
      obtain ⟨x0, x1⟩ := hg.2.1.below hb1
      obtain ⟨y0, y1⟩ := hg.2.2.1.below hb1
      clear hb1
      go_wp2_with fail
      refine (C2.out _).mono ?_
      rintro e w2 ⟨rfl, hb2⟩
      have ha2 := Lib.hid ((ha.out.put (.int .u64 term) (.int .i64 0)).below hb2)
      have hb3 := Lib.hid (((hb.out.keep (o := 0) (z := .int .u64 term) (b' := w.heap.size) (by omega)).keep (o := 1) (z := .int .i64 0) (b' := w.heap.size) (by omega)).below hb2)
      have hB2 := Lib.hid (Lx.bstep (below_put2 hB.out (Nat.le_refl _) (.int .u64 term) (.int .i64 0)) (by simp) hb2)
      clear a0 a1 a2 a3 b0 b1 b2 b3 x0 x1 y0 y1 hb2
      obtain ⟨a0, a1, a2, a3⟩ := ha2.out
      obtain ⟨b0, b1, b2, b3⟩ := hb3.out
      go_wp2_with fail
      exact bodyPost_ret (results_vote3 rfl rfl ((hb3.out.keep (b' := w.heap.size) (by omega)).put _ _)) rfl ⟨rfl, below_put2 (hB2.out.setCell (p := ⟨w.heap.size, 1, none⟩) (Nat.le_refl _) _) (by omega) _ _⟩
    | false =>
      rw [if_pos (by simp)] at hR
      subst hR
      go_enter Try.func23, Try.ntmps23
      go_wp2_with fail
      refine (C1.out (gw w T _ i t i' t' r s)).mono ?_
      rintro e w1 ⟨rfl, hb1⟩
      have hb := Lib.hid (hg.2.2.2.below hb1)
      have ha := Lib.hid (hg.1.below hb1)
      have hB := Lib.hid (Lx.bstep hgb.out (Nat.le_refl _) hb1)
      obtain ⟨a0, a1, a2, a3⟩ := ha.out
      obtain ⟨b0, b1, b2, b3⟩ := hb.out
      obtain ⟨x0, x1⟩ := hg.2.1.below hb1
      obtain ⟨y0, y1⟩ := hg.2.2.1.below hb1
      clear hb1
      go_wp2_with fail
      refine (C2.out _).mono ?_
      rintro e w2 ⟨rfl, hb2⟩
      have ha2 := Lib.hid ((ha.out.put (.int .u64 term) (.int .i64 0)).below hb2)
      have hb3 := Lib.hid (((hb.out.keep (o := 0) (z := .int .u64 term) (b' := w.heap.size) (by omega)).keep (o := 1) (z := .int .i64 0) (b' := w.heap.size) (by omega)).below hb2)
      have hB2 := Lib.hid (Lx.bstep (below_put2 hB.out (Nat.le_refl _) (.int .u64 term) (.int .i64 0)) (by simp) hb2)
      clear a0 a1 a2 a3 b0 b1 b2 b3 x0 x1 y0 y1 hb2
      obtain ⟨a0, a1, a2, a3⟩ := ha2.out
      obtain ⟨b0, b1, b2, b3⟩ := hb3.out
      go_wp2_with fail
      exact bodyPost_ret (results_vote3 rfl rfl (hb3.out.put _ _)) rfl ⟨rfl, below_put2 hB2.out (by omega) _ _⟩
  · rw [if_neg h1] at hR
    dsimp only at hR
    by_cases h2 : term < T
    · rw [if_pos (.inl h2)] at hR
      subst hR
      go_enter Try.func23, Try.ntmps23
      go_wp2_with fail
      refine (C1.out (gw w T _ i t i' t' r s)).mono ?_
      rintro e w1 ⟨rfl, hb1⟩
      have hb := Lib.hid (hg.2.2.2.below hb1)
      have ha := Lib.hid (hg.1.below hb1)
      have hB := Lib.hid (Lx.bstep hgb.out (Nat.le_refl _) hb1)
      obtain ⟨a0, a1, a2, a3⟩ := ha.out
      obtain ⟨b0, b1, b2, b3⟩ := hb.out
      obtain ⟨x0, x1⟩ := hg.2.1.below hb1
      obtain ⟨y0, y1⟩ := hg.2.2.1.below hb1
      clear hb1
      go_wp2_with fail
      exact bodyPost_ret (results_vote3 rfl rfl (hb.out.put _ _)) rfl ⟨rfl, below_put2 hB.out (by omega) _ _⟩
    · by_cases h3 : F ≠ 0 ∧ F ≠ who
      · rw [if_pos (.inr (.inl h3))] at hR
        subst hR
        have h4 : (F != 0) = true := by simpa using h3.1
        have h5 : (F != who) = true := by simpa using h3.2
        clear h3
        go_enter Try.func23, Try.ntmps23
        go_wp2_with fail
        refine (C1.out (gw w T _ i t i' t' r s)).mono ?_
        rintro e w1 ⟨rfl, hb1⟩
        have hb := Lib.hid (hg.2.2.2.below hb1)
        have ha := Lib.hid (hg.1.below hb1)
        have hB := Lib.hid (Lx.bstep hgb.out (Nat.le_refl _) hb1)
        obtain ⟨a0, a1, a2, a3⟩ := ha.out
        obtain ⟨b0, b1, b2, b3⟩ := hb.out
        obtain ⟨x0, x1⟩ := hg.2.1.below hb1
        obtain ⟨y0, y1⟩ := hg.2.2.1.below hb1
        clear hb1
        go_wp2_with fail
        exact bodyPost_ret (results_vote3 rfl rfl (hb.out.put _ _)) rfl ⟨rfl, below_put2 hB.out (by omega) _ _⟩
      · have h4 : F = 0 ∨ ((F != 0) = true ∧ F = who) := by
          by_cases e : F = 0
          · exact .inl e
          · right; refine ⟨by simpa using e, ?_⟩
            by_cases e2 : F = who
            · exact e2
            · exact absurd ⟨e, e2⟩ h3
        cases nw with
        | true =>
          rw [if_neg (by simp; omega)] at hR
          subst hR
          clear h3
          rcases h4 with rfl | ⟨h4, rfl⟩
          all_goals
            go_enter Try.func23, Try.ntmps23
            go_wp2_with fail
            refine (C1.out (gw w T _ i t i' t' r s)).mono ?_
            rintro e w1 ⟨rfl, hb1⟩
            have hb := Lib.hid (hg.2.2.2.below hb1)
            have ha := Lib.hid (hg.1.below hb1)
            have hB := Lib.hid (Lx.bstep hgb.out (Nat.le_refl _) hb1)
            obtain ⟨a0, a1, a2, a3⟩ := ha.out
            obtain ⟨b0, b1, b2, b3⟩ := hb.out
            obtain ⟨x0, x1⟩ := hg.2.1.below hb1
            obtain ⟨y0, y1⟩ := hg.2.2.1.below hb1
            clear hb1
            go_wp2_with fail
            refine (C2.out _).mono ?_
            rintro e w2 ⟨rfl, hb2⟩
            have ha2 := Lib.hid (ha.out.below hb2)
            have hb3 := Lib.hid (hb.out.below hb2)
            have hB2 := Lib.hid (Lx.bstep hB.out (Nat.le_refl _) hb2)
            clear a0 a1 a2 a3 b0 b1 b2 b3 x0 x1 y0 y1 hb2
            obtain ⟨a0, a1, a2, a3⟩ := ha2.out
            obtain ⟨b0, b1, b2, b3⟩ := hb3.out
            go_wp2_with fail
            exact bodyPost_ret (results_vote3 rfl rfl ((hb3.out.keep (b' := w.heap.size) (by omega)).put _ _)) rfl ⟨rfl, below_put2 (hB2.out.setCell (p := ⟨w.heap.size, 1, none⟩) (Nat.le_refl _) _) (by omega) _ _⟩
        | false =>
          rw [if_pos (by simp)] at hR
          subst hR
          clear h3
          rcases h4 with rfl | ⟨h4, rfl⟩
          all_goals
            go_enter Try.func23, Try.ntmps23
            go_wp2_with fail
            refine (C1.out (gw w T _ i t i' t' r s)).mono ?_
            rintro e w1 ⟨rfl, hb1⟩
            have hb := Lib.hid (hg.2.2.2.below hb1)
            have ha := Lib.hid (hg.1.below hb1)
            have hB := Lib.hid (Lx.bstep hgb.out (Nat.le_refl _) hb1)
            obtain ⟨a0, a1, a2, a3⟩ := ha.out
            obtain ⟨b0, b1, b2, b3⟩ := hb.out
            obtain ⟨x0, x1⟩ := hg.2.1.below hb1
            obtain ⟨y0, y1⟩ := hg.2.2.1.below hb1
            clear hb1
            go_wp2_with fail
            refine (C2.out _).mono ?_
            rintro e w2 ⟨rfl, hb2⟩
            have ha2 := Lib.hid (ha.out.below hb2)
            have hb3 := Lib.hid (hb.out.below hb2)
            have hB2 := Lib.hid (Lx.bstep hB.out (Nat.le_refl _) hb2)
            clear a0 a1 a2 a3 b0 b1 b2 b3 x0 x1 y0 y1 hb2
            obtain ⟨a0, a1, a2, a3⟩ := ha2.out
            obtain ⟨b0, b1, b2, b3⟩ := hb3.out
            go_wp2_with fail
            exact bodyPost_ret (results_vote3 rfl rfl (hb3.out.put _ _)) rfl ⟨rfl, below_put2 hB2.out (by omega) _ _⟩
end Go.Proofs.Ytjjdfhokmiaekaa
