/-
  Which entries may be: msg.MayEntry and its reference.
-/
import Derived.Test.YtkjfplkbgooflaaMsgConf
import Derived.Test.YtkjfplkbgooflaaMayConf
import Derived.Test.YtkjfplkbgooflaaOwnE
namespace Go.Proofs.Ytkjfplkbgooflaa
open Go.RowKit Go.Lst Go.Lx

def mayE (e : Ent) : Bool := decide (1 ≤ e.i ∧ e.i ≤ 281474976710656 ∧ 1 ≤ e.t ∧ e.t ≤ 281474976710656) &&
  (if e.k = 1 then e.s.toList.isEmpty && ((e.c.length : Int) == 0) else if e.k = 2 then decide ((e.s.size : Int) ≤ 8192) && ((e.c.length : Int) == 0) else if e.k = 3 then e.s.toList.isEmpty && may e.c else false)
set_option maxRecDepth 100000 in
set_option maxHeartbeats 2000000 in
theorem MayEntry_calls (e : Ent) (cv : Value) (w : World) (h : Nums .i64 w cv e.c) :
    Calls Try.prog 37 #[entV e cv] w fun x w' => x = .returned (.bool (mayE e)) ∧ Below w.heap.size w w' := by
  obtain ⟨i, t, k, s, c⟩ := e
  dsimp only at h
  have hC := Lib.hid (fun W h => mMayConf_calls cv c W h)
  obtain ⟨p, cc, rfl, -⟩ := h.parts
  replace h := Lib.hid h
  obtain ⟨r, hr⟩ : ∃ r, mayE ⟨i, t, k, s, c⟩ = r := ⟨_, rfl⟩
  rw [hr]
  unfold mayE at hr
  dsimp only at hr
  unfold entV
  dsimp only
  have hcs : i < 1 ∨ 281474976710656 < i ∨ t < 1 ∨ 281474976710656 < t ∨ (¬ i < 1 ∧ ¬ 281474976710656 < i ∧ ¬ t < 1 ∧ ¬ 281474976710656 < t) := by omega
  by_cases hg : 1 ≤ i ∧ i ≤ 281474976710656 ∧ 1 ≤ t ∧ t ≤ 281474976710656
  case neg =>
    have hr' : r = false := by rw [← hr, decide_eq_false hg]; rfl
    subst hr'
    clear hr
    by_cases h1 : i < 1
    · clear hg
      go_enter Try.func37, Try.ntmps37
      go_wp2_with fail
      go_ret
      exact ⟨rfl, (by repeat (first | exact Below.refl _ _ | exact Lx.Ext.below _ | refine Below.drew ?_ | refine below_drewN ?_ _ | (refine Below.alloc ?_ (by first | exact Nat.le_refl _ | (simp; done) | (simp; omega)) _) | (refine Below.setCell ?_ (by first | exact Nat.le_refl _ | (simp; done) | (simp; omega)) _)))⟩
    by_cases h2 : 281474976710656 < i
    · clear hg
      go_enter Try.func37, Try.ntmps37
      go_wp2_with fail
      go_ret
      exact ⟨rfl, (by repeat (first | exact Below.refl _ _ | exact Lx.Ext.below _ | refine Below.drew ?_ | refine below_drewN ?_ _ | (refine Below.alloc ?_ (by first | exact Nat.le_refl _ | (simp; done) | (simp; omega)) _) | (refine Below.setCell ?_ (by first | exact Nat.le_refl _ | (simp; done) | (simp; omega)) _)))⟩
    by_cases h3 : t < 1
    · clear hg
      go_enter Try.func37, Try.ntmps37
      go_wp2_with fail
      go_ret
      exact ⟨rfl, (by repeat (first | exact Below.refl _ _ | exact Lx.Ext.below _ | refine Below.drew ?_ | refine below_drewN ?_ _ | (refine Below.alloc ?_ (by first | exact Nat.le_refl _ | (simp; done) | (simp; omega)) _) | (refine Below.setCell ?_ (by first | exact Nat.le_refl _ | (simp; done) | (simp; omega)) _)))⟩
    have h4 : 281474976710656 < t := by omega
    clear hg
    go_enter Try.func37, Try.ntmps37
    go_wp2_with fail
    go_ret
    exact ⟨rfl, (by repeat (first | exact Below.refl _ _ | exact Lx.Ext.below _ | refine Below.drew ?_ | refine below_drewN ?_ _ | (refine Below.alloc ?_ (by first | exact Nat.le_refl _ | (simp; done) | (simp; omega)) _) | (refine Below.setCell ?_ (by first | exact Nat.le_refl _ | (simp; done) | (simp; omega)) _)))⟩
  case pos =>
    have h1 : decide (i < 1) = false := by simp; omega
    have h2 : decide (281474976710656 < i) = false := by simp; omega
    have h3 : decide (t < 1) = false := by simp; omega
    have h4 : decide (281474976710656 < t) = false := by simp; omega
    rw [decide_eq_true hg, Bool.true_and] at hr
    clear hg hcs
    by_cases k1 : k = 1
    · subst k1
      rw [if_pos rfl] at hr
      cases hs : s.toList.isEmpty with
      | false =>
        rw [hs] at hr
        replace hr := Lib.hid hr
        go_enter Try.func37, Try.ntmps37
        go_wp2_with fail
        go_ret
        exact ⟨by rw [← hr.out]; rfl, (by repeat (first | exact Below.refl _ _ | exact Lx.Ext.below _ | refine Below.drew ?_ | refine below_drewN ?_ _ | (refine Below.alloc ?_ (by first | exact Nat.le_refl _ | (simp; done) | (simp; omega)) _) | (refine Below.setCell ?_ (by first | exact Nat.le_refl _ | (simp; done) | (simp; omega)) _)))⟩
      | true =>
        cases hc : ((c.length : Int) == 0)
        all_goals
          rw [hs, hc] at hr
          replace hr := Lib.hid hr
          go_enter Try.func37, Try.ntmps37
          go_wp2_with fail
          go_ret
          exact ⟨by rw [← hr.out]; rfl, (by repeat (first | exact Below.refl _ _ | exact Lx.Ext.below _ | refine Below.drew ?_ | refine below_drewN ?_ _ | (refine Below.alloc ?_ (by first | exact Nat.le_refl _ | (simp; done) | (simp; omega)) _) | (refine Below.setCell ?_ (by first | exact Nat.le_refl _ | (simp; done) | (simp; omega)) _)))⟩
    rw [if_neg k1] at hr
    have g1 : (k == 1) = false := by simpa using k1
    by_cases k2 : k = 2
    · subst k2
      rw [if_pos rfl] at hr
      cases hs : decide ((s.size : Int) ≤ 8192) with
      | false =>
        rw [hs] at hr
        replace hr := Lib.hid hr
        go_enter Try.func37, Try.ntmps37
        go_wp2_with fail
        go_ret
        exact ⟨by rw [← hr.out]; rfl, (by repeat (first | exact Below.refl _ _ | exact Lx.Ext.below _ | refine Below.drew ?_ | refine below_drewN ?_ _ | (refine Below.alloc ?_ (by first | exact Nat.le_refl _ | (simp; done) | (simp; omega)) _) | (refine Below.setCell ?_ (by first | exact Nat.le_refl _ | (simp; done) | (simp; omega)) _)))⟩
      | true =>
        cases hc : ((c.length : Int) == 0)
        all_goals
          rw [hs, hc] at hr
          replace hr := Lib.hid hr
          go_enter Try.func37, Try.ntmps37
          go_wp2_with fail
          go_ret
          exact ⟨by rw [← hr.out]; rfl, (by repeat (first | exact Below.refl _ _ | exact Lx.Ext.below _ | refine Below.drew ?_ | refine below_drewN ?_ _ | (refine Below.alloc ?_ (by first | exact Nat.le_refl _ | (simp; done) | (simp; omega)) _) | (refine Below.setCell ?_ (by first | exact Nat.le_refl _ | (simp; done) | (simp; omega)) _)))⟩
    rw [if_neg k2] at hr
    have g2 : (k == 2) = false := by simpa using k2
    by_cases k3 : k = 3
    · subst k3
      rw [if_pos rfl] at hr
      cases hs : s.toList.isEmpty with
      | false =>
        rw [hs] at hr
        replace hr := Lib.hid hr
        go_enter Try.func37, Try.ntmps37
        go_wp2_with fail
        go_ret
        exact ⟨by rw [← hr.out]; rfl, (by repeat (first | exact Below.refl _ _ | exact Lx.Ext.below _ | refine Below.drew ?_ | refine below_drewN ?_ _ | (refine Below.alloc ?_ (by first | exact Nat.le_refl _ | (simp; done) | (simp; omega)) _) | (refine Below.setCell ?_ (by first | exact Nat.le_refl _ | (simp; done) | (simp; omega)) _)))⟩
      | true =>
        rw [hs, Bool.true_and] at hr
        subst hr
        generalize may c = m at *
        go_enter Try.func37, Try.ntmps37
        go_wp2_with fail
        have hb1 := ((by repeat (first | exact Below.refl _ _ | exact Lx.Ext.below _ | refine Below.drew ?_ | refine below_drewN ?_ _ | (refine Below.alloc ?_ (by first | exact Nat.le_refl _ | (simp; done) | (simp; omega)) _) | (refine Below.setCell ?_ (by first | exact Nat.le_refl _ | (simp; done) | (simp; omega)) _))) : Below w.heap.size w (w.alloc (.cells #[.int .u64 i, .int .u64 t, .int .u8 3, .string s, .slice p c.length cc] 31)))
        ((with_reducible refine (hC.out _ (h.out.below hb1)).mono ?_); rintro x w2 ⟨rfl, hb2⟩)
        have hB := Lib.hid (Lx.bstep hb1 (Nat.le_refl _) hb2)
        clear hb1 hb2
        go_wp2_with fail
        go_ret
        exact ⟨rfl, hB.out⟩
    rw [if_neg k3] at hr
    have g3 : (k == 3) = false := by simpa using k3
    replace hr := Lib.hid hr
    clear k1 k2 k3
    go_enter Try.func37, Try.ntmps37
    go_wp2_with fail
    go_ret
    exact ⟨by rw [← hr.out]; rfl, (by repeat (first | exact Below.refl _ _ | exact Lx.Ext.below _ | refine Below.drew ?_ | refine below_drewN ?_ _ | (refine Below.alloc ?_ (by first | exact Nat.le_refl _ | (simp; done) | (simp; omega)) _) | (refine Below.setCell ?_ (by first | exact Nat.le_refl _ | (simp; done) | (simp; omega)) _)))⟩
set_option maxRecDepth 100000 in
set_option maxHeartbeats 2000000 in
theorem rMayEntry_calls (e : Ent) (cv : Value) (w : World) (h : Nums .i64 w cv e.c) :
    Calls Try.prog 48 #[entV e cv] w fun x w' => x = .returned (.bool (mayE e)) ∧ Below w.heap.size w w' := by
  obtain ⟨i, t, k, s, c⟩ := e
  dsimp only at h
  have hC := Lib.hid (fun W h => rMayConf_calls cv c W h)
  obtain ⟨p, cc, rfl, -⟩ := h.parts
  replace h := Lib.hid h
  obtain ⟨r, hr⟩ : ∃ r, mayE ⟨i, t, k, s, c⟩ = r := ⟨_, rfl⟩
  rw [hr]
  unfold mayE at hr
  dsimp only at hr
  unfold entV
  dsimp only
  have hcs : i < 1 ∨ 281474976710656 < i ∨ t < 1 ∨ 281474976710656 < t ∨ (¬ i < 1 ∧ ¬ 281474976710656 < i ∧ ¬ t < 1 ∧ ¬ 281474976710656 < t) := by omega
  by_cases hg : 1 ≤ i ∧ i ≤ 281474976710656 ∧ 1 ≤ t ∧ t ≤ 281474976710656
  case neg =>
    have hr' : r = false := by rw [← hr, decide_eq_false hg]; rfl
    subst hr'
    clear hr
    by_cases h1 : i < 1
    · clear hg
      go_enter Try.func48, Try.ntmps48
      go_wp2_with fail
      go_ret
      exact ⟨rfl, (by repeat (first | exact Below.refl _ _ | exact Lx.Ext.below _ | refine Below.drew ?_ | refine below_drewN ?_ _ | (refine Below.alloc ?_ (by first | exact Nat.le_refl _ | (simp; done) | (simp; omega)) _) | (refine Below.setCell ?_ (by first | exact Nat.le_refl _ | (simp; done) | (simp; omega)) _)))⟩
    by_cases h2 : 281474976710656 < i
    · clear hg
      go_enter Try.func48, Try.ntmps48
      go_wp2_with fail
      go_ret
      exact ⟨rfl, (by repeat (first | exact Below.refl _ _ | exact Lx.Ext.below _ | refine Below.drew ?_ | refine below_drewN ?_ _ | (refine Below.alloc ?_ (by first | exact Nat.le_refl _ | (simp; done) | (simp; omega)) _) | (refine Below.setCell ?_ (by first | exact Nat.le_refl _ | (simp; done) | (simp; omega)) _)))⟩
    by_cases h3 : t < 1
    · clear hg
      go_enter Try.func48, Try.ntmps48
      go_wp2_with fail
      go_ret
      exact ⟨rfl, (by repeat (first | exact Below.refl _ _ | exact Lx.Ext.below _ | refine Below.drew ?_ | refine below_drewN ?_ _ | (refine Below.alloc ?_ (by first | exact Nat.le_refl _ | (simp; done) | (simp; omega)) _) | (refine Below.setCell ?_ (by first | exact Nat.le_refl _ | (simp; done) | (simp; omega)) _)))⟩
    have h4 : 281474976710656 < t := by omega
    clear hg
    go_enter Try.func48, Try.ntmps48
    go_wp2_with fail
    go_ret
    exact ⟨rfl, (by repeat (first | exact Below.refl _ _ | exact Lx.Ext.below _ | refine Below.drew ?_ | refine below_drewN ?_ _ | (refine Below.alloc ?_ (by first | exact Nat.le_refl _ | (simp; done) | (simp; omega)) _) | (refine Below.setCell ?_ (by first | exact Nat.le_refl _ | (simp; done) | (simp; omega)) _)))⟩
  case pos =>
    have h1 : decide (i < 1) = false := by simp; omega
    have h2 : decide (281474976710656 < i) = false := by simp; omega
    have h3 : decide (t < 1) = false := by simp; omega
    have h4 : decide (281474976710656 < t) = false := by simp; omega
    rw [decide_eq_true hg, Bool.true_and] at hr
    clear hg hcs
    by_cases k1 : k = 1
    · subst k1
      rw [if_pos rfl] at hr
      cases hs : s.toList.isEmpty with
      | false =>
        rw [hs] at hr
        replace hr := Lib.hid hr
        go_enter Try.func48, Try.ntmps48
        go_wp2_with fail
        go_ret
        exact ⟨by rw [← hr.out]; rfl, (by repeat (first | exact Below.refl _ _ | exact Lx.Ext.below _ | refine Below.drew ?_ | refine below_drewN ?_ _ | (refine Below.alloc ?_ (by first | exact Nat.le_refl _ | (simp; done) | (simp; omega)) _) | (refine Below.setCell ?_ (by first | exact Nat.le_refl _ | (simp; done) | (simp; omega)) _)))⟩
      | true =>
        cases hc : ((c.length : Int) == 0)
        all_goals
          rw [hs, hc] at hr
          replace hr := Lib.hid hr
          go_enter Try.func48, Try.ntmps48
          go_wp2_with fail
          go_ret
          exact ⟨by rw [← hr.out]; rfl, (by repeat (first | exact Below.refl _ _ | exact Lx.Ext.below _ | refine Below.drew ?_ | refine below_drewN ?_ _ | (refine Below.alloc ?_ (by first | exact Nat.le_refl _ | (simp; done) | (simp; omega)) _) | (refine Below.setCell ?_ (by first | exact Nat.le_refl _ | (simp; done) | (simp; omega)) _)))⟩
    rw [if_neg k1] at hr
    have g1 : (k == 1) = false := by simpa using k1
    by_cases k2 : k = 2
    · subst k2
      rw [if_pos rfl] at hr
      cases hs : decide ((s.size : Int) ≤ 8192) with
      | false =>
        rw [hs] at hr
        replace hr := Lib.hid hr
        go_enter Try.func48, Try.ntmps48
        go_wp2_with fail
        go_ret
        exact ⟨by rw [← hr.out]; rfl, (by repeat (first | exact Below.refl _ _ | exact Lx.Ext.below _ | refine Below.drew ?_ | refine below_drewN ?_ _ | (refine Below.alloc ?_ (by first | exact Nat.le_refl _ | (simp; done) | (simp; omega)) _) | (refine Below.setCell ?_ (by first | exact Nat.le_refl _ | (simp; done) | (simp; omega)) _)))⟩
      | true =>
        cases hc : ((c.length : Int) == 0)
        all_goals
          rw [hs, hc] at hr
          replace hr := Lib.hid hr
          go_enter Try.func48, Try.ntmps48
          go_wp2_with fail
          go_ret
          exact ⟨by rw [← hr.out]; rfl, (by repeat (first | exact Below.refl _ _ | exact Lx.Ext.below _ | refine Below.drew ?_ | refine below_drewN ?_ _ | (refine Below.alloc ?_ (by first | exact Nat.le_refl _ | (simp; done) | (simp; omega)) _) | (refine Below.setCell ?_ (by first | exact Nat.le_refl _ | (simp; done) | (simp; omega)) _)))⟩
    rw [if_neg k2] at hr
    have g2 : (k == 2) = false := by simpa using k2
    by_cases k3 : k = 3
    · subst k3
      rw [if_pos rfl] at hr
      cases hs : s.toList.isEmpty with
      | false =>
        rw [hs] at hr
        replace hr := Lib.hid hr
        go_enter Try.func48, Try.ntmps48
        go_wp2_with fail
        go_ret
        exact ⟨by rw [← hr.out]; rfl, (by repeat (first | exact Below.refl _ _ | exact Lx.Ext.below _ | refine Below.drew ?_ | refine below_drewN ?_ _ | (refine Below.alloc ?_ (by first | exact Nat.le_refl _ | (simp; done) | (simp; omega)) _) | (refine Below.setCell ?_ (by first | exact Nat.le_refl _ | (simp; done) | (simp; omega)) _)))⟩
      | true =>
        rw [hs, Bool.true_and] at hr
        subst hr
        generalize may c = m at *
        go_enter Try.func48, Try.ntmps48
        go_wp2_with fail
        have hb1 := ((by repeat (first | exact Below.refl _ _ | exact Lx.Ext.below _ | refine Below.drew ?_ | refine below_drewN ?_ _ | (refine Below.alloc ?_ (by first | exact Nat.le_refl _ | (simp; done) | (simp; omega)) _) | (refine Below.setCell ?_ (by first | exact Nat.le_refl _ | (simp; done) | (simp; omega)) _))) : Below w.heap.size w (w.alloc (.cells #[.int .u64 i, .int .u64 t, .int .u8 3, .string s, .slice p c.length cc] 31)))
        ((with_reducible refine (hC.out _ (h.out.below hb1)).mono ?_); rintro x w2 ⟨rfl, hb2⟩)
        have hB := Lib.hid (Lx.bstep hb1 (Nat.le_refl _) hb2)
        clear hb1 hb2
        go_wp2_with fail
        go_ret
        exact ⟨rfl, hB.out⟩
    rw [if_neg k3] at hr
    have g3 : (k == 3) = false := by simpa using k3
    replace hr := Lib.hid hr
    clear k1 k2 k3
    go_enter Try.func48, Try.ntmps48
    go_wp2_with fail
    go_ret
    exact ⟨by rw [← hr.out]; rfl, (by repeat (first | exact Below.refl _ _ | exact Lx.Ext.below _ | refine Below.drew ?_ | refine below_drewN ?_ _ | (refine Below.alloc ?_ (by first | exact Nat.le_refl _ | (simp; done) | (simp; omega)) _) | (refine Below.setCell ?_ (by first | exact Nat.le_refl _ | (simp; done) | (simp; omega)) _)))⟩
theorem mayE_len {e : Ent} (h : mayE e = true) : e.c.length ≤ 7 := by
  unfold mayE at h
  rw [Bool.and_eq_true] at h
  have h2 := h.2
  split at h2
  · simp at h2; simp [h2.2]
  · split at h2
    · simp at h2; simp [h2.2]
    · split at h2
      · simp at h2
        have := h2.2
        unfold may at this
        simp at this
        omega
      · cases h2
end Go.Proofs.Ytkjfplkbgooflaa
