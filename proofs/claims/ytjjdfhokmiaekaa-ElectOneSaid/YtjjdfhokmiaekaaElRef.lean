/-
  The contracts of the reference's Newer, May, MayGrant, and of the law's end.
-/
import Derived.Test.YtjjdfhokmiaekaaElect6
namespace Go.Proofs.Ytjjdfhokmiaekaa
open Go.RowKit Go.Lst

set_option maxRecDepth 100000 in
theorem rNewer_calls (t i t' i' : Int) (w : World) : Calls Try.prog 28 #[.int .u64 t, .int .u64 i, .int .u64 t', .int .u64 i'] w fun e w' => e = .returned (.bool (newer t i t' i')) ∧ w = w' := by
  obtain ⟨r, hr⟩ : ∃ r, newer t i t' i' = r := ⟨_, rfl⟩
  rw [hr]
  have hr' := Lib.hid hr
  clear hr
  go_enter Try.func28, Try.ntmps28
  go_wp2_with fail
  all_goals
    go_ret
    refine ⟨congrArg (fun b => Ending.returned (.bool b)) ?_, rfl⟩
    rw [← hr'.out]
    unfold newer
    first
      | (refine (decide_eq_true ?_).symm; omega)
      | (refine (decide_eq_false ?_).symm; omega)
      | (rw [Bool.eq_iff_iff]; simp; omega)
set_option maxRecDepth 100000 in
theorem rMay_calls (T F : Int) (w : World) (hT : 0 ≤ T) : Calls Try.prog 31 #[.agg #[.int .u64 T, .int .i64 F]] w fun e w' => e = .returned (.bool (mayVote T F)) ∧ Below w.heap.size w w' := by
  obtain ⟨r, hr⟩ : ∃ r, mayVote T F = r := ⟨_, rfl⟩
  rw [hr]
  have hr' := Lib.hid hr
  clear hr
  go_enter Try.func31, Try.ntmps31
  go_wp2_with fail
  all_goals
    go_ret
    refine ⟨congrArg (fun b => Ending.returned (.bool b)) ?_, (Below.refl _ _).alloc (Nat.le_refl _) _⟩
    rw [← hr'.out]
    unfold mayVote
    first
      | (refine (decide_eq_true ?_).symm; omega)
      | (refine (decide_eq_false ?_).symm; omega)
      | (rw [Bool.eq_iff_iff]; simp; omega)

set_option maxRecDepth 100000 in
set_option maxHeartbeats 1000000 in
theorem rMayGrant_calls (v : Int × Int) (term who : Int) (w : World) (hT : 0 ≤ v.1) : Calls Try.prog 29 #[vv v, .int .u64 term, .int .i64 who] w fun e w' => e = .returned (.bool (mayGrant v term who)) ∧ Below w.heap.size w w' := by
  obtain ⟨T, F⟩ := v
  have C1 := Lib.hid (fun W => rMay_calls T F W hT)
  unfold vv
  dsimp only at *
  obtain ⟨r, hr⟩ : ∃ r, mayGrant (T, F) term who = r := ⟨_, rfl⟩
  rw [hr]
  have hr' := Lib.hid hr
  clear hr
  cases hm : mayVote T F with
  | false =>
    rw [hm] at C1
    have hr2 : r = false := by rw [← hr'.out]; simp [mayGrant, hm]
    subst hr2
    clear hm
    go_enter Try.func29, Try.ntmps29
    go_wp2_with fail
    refine (C1.out _).mono ?_
    rintro e w1 ⟨rfl, hb1⟩
    go_wp2_with fail
    go_ret
    exact ⟨rfl, Lx.bstep ((Below.refl _ _).alloc (Nat.le_refl _) _) (by simp) hb1⟩
  | true =>
    rw [hm] at C1
    have hr2 : r = decide (1 ≤ term ∧ term ≤ 281474976710656 ∧ 1 ≤ who ∧ who ≤ 64) := by rw [← hr'.out]; simp [mayGrant, hm]
    replace hr2 := Lib.hid hr2
    clear hm hr'
    go_enter Try.func29, Try.ntmps29
    go_wp2_with fail
    refine (C1.out _).mono ?_
    rintro e w1 ⟨rfl, hb1⟩
    go_wp2_with fail
    all_goals
      go_ret
      refine ⟨congrArg (fun b => Ending.returned (.bool b)) ?_, Lx.bstep ((Below.refl _ _).alloc (Nat.le_refl _) _) (by simp) hb1⟩
      rw [hr2.out]
      first
        | (refine (decide_eq_true ?_).symm; omega)
        | (refine (decide_eq_false ?_).symm; omega)
        | (rw [Bool.eq_iff_iff]; simp; omega)
end Go.Proofs.Ytjjdfhokmiaekaa
