/-
  The contract of the reference's Grant, and of the law's end.
-/
import Derived.Test.YtjjdfhokmiaekaaElRef
namespace Go.Proofs.Ytjjdfhokmiaekaa
open Go.RowKit Go.Lst

theorem last4 (w : World) (A B C : Obj) (x y : Value) (T : TypeId) : Two ((((w.alloc A).alloc B).alloc C).alloc (.cells #[x, y] T)) (w.heap.size + 1 + 1 + 1) x y := by
  have := Two.alloc (((w.alloc A).alloc B).alloc C) x y T
  rw [show (((w.alloc A).alloc B).alloc C).heap.size = w.heap.size + 1 + 1 + 1 from by simp] at this
  exact this
theorem below4 (w : World) (A B C D : Obj) : Below w.heap.size w ((((w.alloc A).alloc B).alloc C).alloc D) :=
  ((((Below.refl _ _).alloc (Nat.le_refl _) _).alloc (by simp) _).alloc (by simp; omega) _).alloc (by simp; omega) _
set_option maxRecDepth 100000 in
set_option maxHeartbeats 1000000 in
theorem rGrant_calls (v : Int × Int) (term who i t i' t' : Int) (r s : Value × Value × Value) (w : World) :
    Calls Try.prog 30 #[vv v, .int .u64 term, .int .i64 who, ev i t r, ev i' t' s] w fun e w' => e = .returned (.tuple #[vv (grant v term who i t i' t').1, .bool (grant v term who i t i' t').2]) ∧ Below w.heap.size w w' := by
  obtain ⟨T, F⟩ := v
  have C2 := Lib.hid (fun W => rNewer_calls t i t' i' W)
  unfold vv ev
  dsimp only at *
  obtain ⟨R, hR⟩ : ∃ R, grant (T, F) term who i t i' t' = R := ⟨_, rfl⟩
  rw [hR]
  unfold grant at hR
  dsimp only at hR
  generalize newer t i t' i' = nw at *
  by_cases h1 : T < term
  · rw [if_pos h1] at hR
    cases nw with
    | true =>
      rw [if_neg (by simp)] at hR
      subst hR
      go_enter Try.func30, Try.ntmps30
      go_wp2_with fail
      refine (C2.out _).mono ?_
      rintro e w2 ⟨rfl, rfl⟩
      go_wp2_with fail
      exact bodyPost_ret (results_vote2 rfl rfl (last4 _ _ _ _ _ _ _)) rfl ⟨rfl, below4 _ _ _ _ _⟩
    | false =>
      rw [if_pos (by simp)] at hR
      subst hR
      go_enter Try.func30, Try.ntmps30
      go_wp2_with fail
      refine (C2.out _).mono ?_
      rintro e w2 ⟨rfl, rfl⟩
      go_wp2_with fail
      exact bodyPost_ret (results_vote2 rfl rfl (last4 _ _ _ _ _ _ _)) rfl ⟨rfl, below4 _ _ _ _ _⟩
  · rw [if_neg h1] at hR
    dsimp only at hR
    by_cases h2 : term < T
    · rw [if_pos (.inl h2)] at hR
      subst hR
      have g2 : (term == T) = false := beq_eq_false_iff_ne.2 (by omega)
      go_enter Try.func30, Try.ntmps30
      go_wp2_with fail
      exact bodyPost_ret (results_vote2 rfl rfl (last4 _ _ _ _ _ _ _)) rfl ⟨rfl, below4 _ _ _ _ _⟩
    · have e : term = T := by omega
      subst e
      by_cases h3 : F ≠ 0 ∧ F ≠ who
      · rw [if_pos (.inr (.inl h3))] at hR
        subst hR
        have h4 : (F == 0) = false := by simpa using h3.1
        have h5 : (F == who) = false := by simpa using h3.2
        clear h3
        go_enter Try.func30, Try.ntmps30
        go_wp2_with fail
        exact bodyPost_ret (results_vote2 rfl rfl (last4 _ _ _ _ _ _ _)) rfl ⟨rfl, below4 _ _ _ _ _⟩
      · have h4 : F = 0 ∨ ((F == 0) = false ∧ F = who) := by
          by_cases e : F = 0
          · exact .inl e
          · right; refine ⟨by simpa using e, ?_⟩
            by_cases e2 : F = who
            · exact e2
            · exact absurd ⟨e, e2⟩ h3
        cases nw with
        | true =>
          rw [if_neg (by simp; omega)] at hR
          subst hR
          clear h3
          rcases h4 with rfl | ⟨h4, rfl⟩
          all_goals
            go_enter Try.func30, Try.ntmps30
            go_wp2_with fail
            refine (C2.out _).mono ?_
            rintro e w2 ⟨rfl, rfl⟩
            go_wp2_with fail
            exact bodyPost_ret (results_vote2 rfl rfl (last4 _ _ _ _ _ _ _)) rfl ⟨rfl, below4 _ _ _ _ _⟩
        | false =>
          rw [if_pos (by simp)] at hR
          subst hR
          clear h3
          rcases h4 with rfl | ⟨h4, rfl⟩
          all_goals
            go_enter Try.func30, Try.ntmps30
            go_wp2_with fail
            refine (C2.out _).mono ?_
            rintro e w2 ⟨rfl, rfl⟩
            go_wp2_with fail
            exact bodyPost_ret (results_vote2 rfl rfl (last4 _ _ _ _ _ _ _)) rfl ⟨rfl, below4 _ _ _ _ _⟩
end Go.Proofs.Ytjjdfhokmiaekaa
