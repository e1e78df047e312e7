/-
  The reference's done: files, behind a call.
-/
import Derived.Test.YtenjllkhbpoffaaDoorDrFn
import Derived.Test.YtenjllkhbpoffaaDoorTail
namespace Go.Proofs.YtenjllkhbpoffaaDoor
open Go Go.Maps Go.WideMaps Go.Dsk Go.Lx Go.Lst Go.RowKit

set_option maxRecDepth 100000 in
set_option maxHeartbeats 4000000 in
theorem rdone_app {B : Nat} {w : World} {v : Value} {F : Files} (h : FRow B w v F) (hR : Rise F) (k s : ByteArray) (hz : (atF F k).size + s.size ≤ 100000000) (hl : F.length ≤ 999) : Calls Tryd.prog 56 #[v, .agg #[.int .i64 0, .string k, .string s, .int .i64 0]] w fun e w' => ∃ v', e = .returned v' ∧ FRow w.heap.size w' v' (putF F k (atF F k ++ s)) ∧ Below w.heap.size w w' := by
  have hm := made1 w #[.int .i64 0, .string k, .string s, .int .i64 0] 81
  obtain ⟨hbk, hB0, hz0⟩ := hm
  obtain ⟨k0, k1, k2, k3, -⟩ := hbk.c4
  have hh := Lib.hid (h.to hB0)
  have hF := Lib.hid (Find_calls (h.to hB0) k (by omega))
  have hP : Hid (∀ i, FindIs F k i → (hasF F k = false ∧ i = -1 ∧ atF F k = ⟨#[]⟩) ∨ (hasF F k = true ∧ ∃ (j : Nat) (hj : j < F.length), i = (j : Int) ∧ F[j].2 = atF F k)) := Lib.hid (fun i hi => hi.some hR)
  have hadd : (9223372036854775807 < (atF F k).size + s.size) = False := eq_false (by omega)
  have hadd0 : (9223372036854775807 < s.size) = False := eq_false (by omega)
  have hC := Lib.hid (with_calls (h.to hB0) hR k (atF F k ++ s) (by omega))
  clear hz
  generalize atF F k = D at *
  have hB0' := Lib.hid hB0
  replace hR := Lib.hid hR
  replace hl := Lib.hid hl
  clear hB0 h hbk hz0
  go_enter Tryd.func56, Tryd.ntmps56
  go_wp2_with fail
  refine hF.out.mono ?_
  rintro e w1 ⟨i, rfl, hi, rfl⟩
  have hp2 := hP.out i hi
  clear hi hF hP
  obtain ⟨p, c, hv, hc1, hc2⟩ := hh.out.parts
  subst hv
  rcases hp2 with ⟨-, rfl, hD⟩ | ⟨-, j, hj, rfl, hD⟩
  case inl =>
    subst hD
    go_wp2_with fail
    refine hC.out.mono ?_
    rintro e w2 ⟨v2, rfl, hr2, hb2⟩
    replace hr2 := Lib.hid hr2
    replace hb2 := Lib.hid hb2
    clear hC
    go_wp2_with fail
    go_ret
    exact ⟨_, rfl, RRow.mono hr2.out hB0'.out.size, Lx.bstep hB0'.out (Nat.le_refl _) hb2.out⟩
  case inr =>
    obtain ⟨g1, c', e, q1, q2⟩ := hh.out.get j hj
    obtain rfl : p = some ⟨g1, 0, none⟩ := by injection e
    clear e
    rw [hD] at q2
    have hj1 : (j : Int) < (F.length : Int) := by omega
    have hj0 : (0 : Int) ≤ (j : Int) := by omega
    clear hD hj q1
    generalize hn : F.length = n at *
    go_wp2_with fail
    refine hC.out.mono ?_
    rintro e w2 ⟨v2, rfl, hr2, hb2⟩
    replace hr2 := Lib.hid hr2
    replace hb2 := Lib.hid hb2
    clear hC
    go_wp2_with fail
    go_ret
    exact ⟨_, rfl, RRow.mono hr2.out hB0'.out.size, Lx.bstep hB0'.out (Nat.le_refl _) hb2.out⟩
set_option maxRecDepth 100000 in
set_option maxHeartbeats 4000000 in
theorem rdone_cut {B : Nat} {w : World} {v : Value} {F : Files} (h : FRow B w v F) (hR : Rise F) (k : ByteArray) (m : Nat) (hH : hasF F k = true) (hm2 : m ≤ (atF F k).size) (hz : (atF F k).size ≤ 100000000) (hl : F.length ≤ 999) : Calls Tryd.prog 56 #[v, .agg #[.int .i64 1, .string k, .string ⟨#[]⟩, .int .i64 m]] w fun e w' => ∃ v', e = .returned v' ∧ FRow w.heap.size w' v' (putF F k ((atF F k).extract 0 m)) ∧ Below w.heap.size w w' := by
  have hm := made1 w #[.int .i64 1, .string k, .string ⟨#[]⟩, .int .i64 m] 81
  obtain ⟨hbk, hB0, hz0⟩ := hm
  obtain ⟨k0, k1, k2, k3, -⟩ := hbk.c4
  have hh := Lib.hid (h.to hB0)
  have hF := Lib.hid (Find_calls (h.to hB0) k (by omega))
  have hP : Hid (∀ i, FindIs F k i → (hasF F k = false ∧ i = -1 ∧ atF F k = ⟨#[]⟩) ∨ (hasF F k = true ∧ ∃ (j : Nat) (hj : j < F.length), i = (j : Int) ∧ F[j].2 = atF F k)) := Lib.hid (fun i hi => hi.some hR)
  have hm0 : (0 : Int) ≤ (m : Int) := by omega
  have hm3 : (m : Int) ≤ ((atF F k).size : Int) := by omega
  have hC := Lib.hid (fun (x : Lx.Ext (w.alloc (.cells #[.int .i64 1, .string k, .string ⟨#[]⟩, .int .i64 m] 81))) => with_calls (h.to (Lx.bstep hB0 (Nat.le_refl _) x.below)) hR k ((atF F k).extract 0 m) (by omega))
  have hHH := Lib.hid hH
  clear hH
  generalize atF F k = D at *
  have hB0' := Lib.hid hB0
  replace hR := Lib.hid hR
  replace hl := Lib.hid hl
  clear hB0 h hbk hz0
  go_enter Tryd.func56, Tryd.ntmps56
  go_wp2_with fail
  refine hF.out.mono ?_
  rintro e w1 ⟨i, rfl, hi, rfl⟩
  have hp2 := hP.out i hi
  clear hi hF hP
  obtain ⟨p, c, hv, hc1, hc2⟩ := hh.out.parts
  subst hv
  rcases hp2 with ⟨hq, rfl, hD⟩ | ⟨-, j, hj, rfl, hD⟩
  case inl =>
    rw [hHH.out] at hq
    cases hq
  case inr =>
    obtain ⟨g1, c', e, q1, q2⟩ := hh.out.get j hj
    obtain rfl : p = some ⟨g1, 0, none⟩ := by injection e
    clear e
    rw [hD] at q2
    have hj1 : (j : Int) < (F.length : Int) := by omega
    have hj0 : (0 : Int) ≤ (j : Int) := by omega
    clear hD hj q1
    generalize hn : F.length = n at *
    go_wp2_with fail
    generalize w.alloc (.cells #[.int .i64 1, .string k, .string ⟨#[]⟩, .int .i64 m] 81) = W at *
    have y1 := fun x : Ext W => below_cell x.below k1
    have y3 := fun x : Ext W => below_cell x.below k3
    have hnon : Nonempty (Ext W) := ⟨⟨W, Below.refl _ _⟩⟩
    refine Lx.wp_region_chain_tail (fun w' => ∃ y : Ext W, w' = y.wo) (fun _ => False) [] [] 8 (fun A => Below W.heap.size W A) (by kernel_rfl) (by kernel_rfl) (by kernel_rfl) (by kernel_rfl) Lx.ext_drew ((Below.refl _ _).drew) ?_
    simp only [List.take_succ_cons, List.take_zero, List.drop_succ_cons, List.drop_zero]
    repeat (refine Lx.wpCh_one (by rfl) (by rfl) ?_; go_big_quiet_step (fail); refine wpQuiet_nil ?_)
    refine Lx.wpCh_nil ?_
    intro w4 hx hS
    obtain ⟨x, rfl⟩ := hx
    have hC2 := Lib.hid (hC.out x)
    generalize x.wo = w4 at *
    clear x y1 y3 hnon hC
    replace hS := Lib.hid hS
    go_wp2_with fail
    refine hC2.out.mono ?_
    rintro e w2 ⟨v2, rfl, hr2, hb2⟩
    have hr2' := Lib.hid (RRow.mono hr2 (Nat.le_trans hB0'.out.size hS.out.size))
    have hb2' := Lib.hid (Lx.bstep (Lx.bstep hB0'.out (Nat.le_refl _) hS.out) (Nat.le_refl _) hb2)
    clear hr2 hb2
    go_wp2_with fail
    go_ret
    exact ⟨_, rfl, hr2'.out, hb2'.out⟩
set_option maxRecDepth 100000 in
set_option maxHeartbeats 4000000 in
theorem rdone_rem {B : Nat} {w : World} {v : Value} {F : Files} (h : FRow B w v F) (hR : Rise F) (k : ByteArray) (hl : F.length ≤ 999) : Calls Tryd.prog 56 #[v, .agg #[.int .i64 3, .string k, .string ⟨#[]⟩, .int .i64 0]] w fun e w' => ∃ v', e = .returned v' ∧ FRow w.heap.size w' v' (delF F k) ∧ Below w.heap.size w w' := by
  have hm := made1 w #[.int .i64 3, .string k, .string ⟨#[]⟩, .int .i64 0] 81
  obtain ⟨hbk, hB0, hz0⟩ := hm
  obtain ⟨k0, k1, k2, k3, -⟩ := hbk.c4
  have hh := Lib.hid (h.to hB0)
  have hF := Lib.hid (Find_calls (h.to hB0) k (by omega))
  have hP : Hid (∀ i, FindIs F k i → (hasF F k = false ∧ i = -1 ∧ atF F k = ⟨#[]⟩) ∨ (hasF F k = true ∧ ∃ (j : Nat) (hj : j < F.length), i = (j : Int) ∧ F[j].2 = atF F k)) := Lib.hid (fun i hi => hi.some hR)
  have hC := Lib.hid (without_calls (h.to hB0) k (by omega))
  generalize atF F k = D at *
  have hB0' := Lib.hid hB0
  replace hR := Lib.hid hR
  replace hl := Lib.hid hl
  clear hB0 h hbk hz0
  go_enter Tryd.func56, Tryd.ntmps56
  go_wp2_with fail
  refine hF.out.mono ?_
  rintro e w1 ⟨i, rfl, hi, rfl⟩
  have hp2 := hP.out i hi
  clear hi hF hP
  obtain ⟨p, c, hv, hc1, hc2⟩ := hh.out.parts
  subst hv
  rcases hp2 with ⟨-, rfl, hD⟩ | ⟨-, j, hj, rfl, hD⟩
  case inl =>
    subst hD
    go_wp2_with fail
    refine hC.out.mono ?_
    rintro e w2 ⟨v2, rfl, hr2, hb2⟩
    replace hr2 := Lib.hid hr2
    replace hb2 := Lib.hid hb2
    clear hC
    go_wp2_with fail
    go_ret
    exact ⟨_, rfl, RRow.mono hr2.out hB0'.out.size, Lx.bstep hB0'.out (Nat.le_refl _) hb2.out⟩
  case inr =>
    obtain ⟨g1, c', e, q1, q2⟩ := hh.out.get j hj
    obtain rfl : p = some ⟨g1, 0, none⟩ := by injection e
    clear e
    rw [hD] at q2
    have hj1 : (j : Int) < (F.length : Int) := by omega
    have hj0 : (0 : Int) ≤ (j : Int) := by omega
    clear hD hj q1
    generalize hn : F.length = n at *
    go_wp2_with fail
    refine hC.out.mono ?_
    rintro e w2 ⟨v2, rfl, hr2, hb2⟩
    replace hr2 := Lib.hid hr2
    replace hb2 := Lib.hid hb2
    clear hC
    go_wp2_with fail
    go_ret
    exact ⟨_, rfl, RRow.mono hr2.out hB0'.out.size, Lx.bstep hB0'.out (Nat.le_refl _) hb2.out⟩
set_option maxRecDepth 100000 in
set_option maxHeartbeats 4000000 in
theorem rdone_ren {B : Nat} {w : World} {v : Value} {F : Files} (h : FRow B w v F) (hR : Rise F) (k t : ByteArray) (hl : F.length ≤ 999) : Calls Tryd.prog 56 #[v, .agg #[.int .i64 2, .string k, .string t, .int .i64 0]] w fun e w' => ∃ v', e = .returned v' ∧ FRow w.heap.size w' v' (putF (delF F k) t (atF F k)) ∧ Below w.heap.size w w' := by
  have hm := made1 w #[.int .i64 2, .string k, .string t, .int .i64 0] 81
  obtain ⟨hbk, hB0, hz0⟩ := hm
  obtain ⟨k0, k1, k2, k3, -⟩ := hbk.c4
  have hh := Lib.hid (h.to hB0)
  have hF := Lib.hid (Find_calls (h.to hB0) k (by omega))
  have hP : Hid (∀ i, FindIs F k i → (hasF F k = false ∧ i = -1 ∧ atF F k = ⟨#[]⟩) ∨ (hasF F k = true ∧ ∃ (j : Nat) (hj : j < F.length), i = (j : Int) ∧ F[j].2 = atF F k)) := Lib.hid (fun i hi => hi.some hR)
  have hC := Lib.hid (fun (x : Lx.Ext (w.alloc (.cells #[.int .i64 2, .string k, .string t, .int .i64 0] 81))) => without_calls (h.to (Lx.bstep hB0 (Nat.le_refl _) x.below)) k (by omega))
  have hdl := del_len F k
  have hD9 : Hid (∀ (A : World) (v : Value) (B : Nat), FRow B A v (delF F k) → Calls Tryd.prog 55 #[v, .agg #[.string t, .string (atF F k)]] A fun e w' => ∃ v', e = .returned v' ∧ FRow A.heap.size w' v' (putF (delF F k) t (atF F k)) ∧ Below A.heap.size A w') := Lib.hid (fun A v B hv => with_calls hv (rise_del hR k) t (atF F k) (by omega))
  generalize delF F k = F2 at *
  clear hdl
  generalize atF F k = D at *
  have hB0' := Lib.hid hB0
  replace hR := Lib.hid hR
  replace hl := Lib.hid hl
  clear hB0 h hbk hz0
  go_enter Tryd.func56, Tryd.ntmps56
  go_wp2_with fail
  refine hF.out.mono ?_
  rintro e w1 ⟨i, rfl, hi, rfl⟩
  have hp2 := hP.out i hi
  clear hi hF hP
  obtain ⟨p, c, hv, hc1, hc2⟩ := hh.out.parts
  subst hv
  rcases hp2 with ⟨-, rfl, hD⟩ | ⟨-, j, hj, rfl, hD⟩
  case inl =>
    subst hD
    go_wp2_with fail
    generalize w.alloc (.cells #[.int .i64 2, .string k, .string t, .int .i64 0] 81) = W at *
    have y1 := fun x : Ext W => below_cell x.below k1
    have y2 := fun x : Ext W => below_cell x.below k2
    have hnon : Nonempty (Ext W) := ⟨⟨W, Below.refl _ _⟩⟩
    refine Lx.wp_region_chain_tail (fun w' => ∃ y : Ext W, w' = y.wo) (fun _ => False) [3] [] 8 (fun A => Below W.heap.size W A) (by kernel_rfl) (by kernel_rfl) (by kernel_rfl) (by kernel_rfl) Lx.ext_drew ((Below.refl _ _).drew) ?_
    simp only [List.take_succ_cons, List.take_zero, List.drop_succ_cons, List.drop_zero]
    repeat (refine Lx.wpCh_one (by rfl) (by rfl) ?_; go_big_quiet_step (fail); refine wpQuiet_nil ?_)
    refine Lx.wpCh_relp (fun v A => FRow W.heap.size A v F2 ∧ Below W.heap.size W A) (by rfl) (by rfl) (fun h => by cases h) (fun w' hx hS R hR => ?_) (fun v hv => ?_)
    · obtain ⟨y, rfl⟩ := hx
      have hC2 := Lib.hid (hC.out y)
      clear hC
      replace hS := Lib.hid hS
      go_simp
      refine hC2.out.mono ?_
      rintro e w' ⟨u, rfl, hrow, hb⟩
      exact ⟨_, rfl, hR _ _ ⟨⟨_, Lx.bstep y.below (Nat.le_refl _) hb⟩, rfl⟩ ⟨RRow.mono hrow hS.out.size, Lx.bstep hS.out (Nat.le_refl _) hb⟩ (fun h => by cases h)⟩
    obtain ⟨_, -, hv9, -⟩ := hv
    clear hC
    obtain ⟨p9, c9, rfl, -⟩ := hv9.parts
    clear hv9
    generalize hl9 : F2.length = l9 at *
    go_big_quiet_step (fail)
    refine wpQuiet_nil ?_
    repeat (refine Lx.wpCh_one (by rfl) (by rfl) ?_; go_big_quiet_step (fail); refine wpQuiet_nil ?_)
    refine Lx.wpCh_nil ?_
    intro w4 hx hS
    obtain ⟨x, rfl⟩ := hx
    have hC2 := Lib.hid (hD9.out _ _ _ hS.1)
    replace hS := Lib.hid hS.2
    generalize x.wo = w4 at *
    clear x y1 y2 hnon hD9
    go_wp2_with fail
    refine hC2.out.mono ?_
    rintro e w2 ⟨v2, rfl, hr2, hb2⟩
    have hr2' := Lib.hid (RRow.mono hr2 (Nat.le_trans hB0'.out.size hS.out.size))
    have hb2' := Lib.hid (Lx.bstep (Lx.bstep hB0'.out (Nat.le_refl _) hS.out) (Nat.le_refl _) hb2)
    clear hr2 hb2
    go_wp2_with fail
    go_ret
    exact ⟨_, rfl, hr2'.out, hb2'.out⟩
  case inr =>
    obtain ⟨g1, c', e, q1, q2⟩ := hh.out.get j hj
    obtain rfl : p = some ⟨g1, 0, none⟩ := by injection e
    clear e
    rw [hD] at q2
    have hj1 : (j : Int) < (F.length : Int) := by omega
    have hj0 : (0 : Int) ≤ (j : Int) := by omega
    clear hD hj q1
    generalize hn : F.length = n at *
    go_wp2_with fail
    generalize w.alloc (.cells #[.int .i64 2, .string k, .string t, .int .i64 0] 81) = W at *
    have y1 := fun x : Ext W => below_cell x.below k1
    have y2 := fun x : Ext W => below_cell x.below k2
    have hnon : Nonempty (Ext W) := ⟨⟨W, Below.refl _ _⟩⟩
    refine Lx.wp_region_chain_tail (fun w' => ∃ y : Ext W, w' = y.wo) (fun _ => False) [3] [] 8 (fun A => Below W.heap.size W A) (by kernel_rfl) (by kernel_rfl) (by kernel_rfl) (by kernel_rfl) Lx.ext_drew ((Below.refl _ _).drew) ?_
    simp only [List.take_succ_cons, List.take_zero, List.drop_succ_cons, List.drop_zero]
    repeat (refine Lx.wpCh_one (by rfl) (by rfl) ?_; go_big_quiet_step (fail); refine wpQuiet_nil ?_)
    refine Lx.wpCh_relp (fun v A => FRow W.heap.size A v F2 ∧ Below W.heap.size W A) (by rfl) (by rfl) (fun h => by cases h) (fun w' hx hS R hR => ?_) (fun v hv => ?_)
    · obtain ⟨y, rfl⟩ := hx
      have hC2 := Lib.hid (hC.out y)
      clear hC
      replace hS := Lib.hid hS
      go_simp
      refine hC2.out.mono ?_
      rintro e w' ⟨u, rfl, hrow, hb⟩
      exact ⟨_, rfl, hR _ _ ⟨⟨_, Lx.bstep y.below (Nat.le_refl _) hb⟩, rfl⟩ ⟨RRow.mono hrow hS.out.size, Lx.bstep hS.out (Nat.le_refl _) hb⟩ (fun h => by cases h)⟩
    obtain ⟨_, -, hv9, -⟩ := hv
    clear hC
    obtain ⟨p9, c9, rfl, -⟩ := hv9.parts
    clear hv9
    generalize hl9 : F2.length = l9 at *
    go_big_quiet_step (fail)
    refine wpQuiet_nil ?_
    repeat (refine Lx.wpCh_one (by rfl) (by rfl) ?_; go_big_quiet_step (fail); refine wpQuiet_nil ?_)
    refine Lx.wpCh_nil ?_
    intro w4 hx hS
    obtain ⟨x, rfl⟩ := hx
    have hC2 := Lib.hid (hD9.out _ _ _ hS.1)
    replace hS := Lib.hid hS.2
    generalize x.wo = w4 at *
    clear x y1 y2 hnon hD9
    go_wp2_with fail
    refine hC2.out.mono ?_
    rintro e w2 ⟨v2, rfl, hr2, hb2⟩
    have hr2' := Lib.hid (RRow.mono hr2 (Nat.le_trans hB0'.out.size hS.out.size))
    have hb2' := Lib.hid (Lx.bstep (Lx.bstep hB0'.out (Nat.le_refl _) hS.out) (Nat.le_refl _) hb2)
    clear hr2 hb2
    go_wp2_with fail
    go_ret
    exact ⟨_, rfl, hr2'.out, hb2'.out⟩
end Go.Proofs.YtenjllkhbpoffaaDoor
