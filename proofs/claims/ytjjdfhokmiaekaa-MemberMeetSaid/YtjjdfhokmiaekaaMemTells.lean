/-
  The walk of MemberTells.
-/
import Derived.Test.YtjjdfhokmiaekaaMember9
import Derived.Test.YtjjdfhokmiaekaaMember8
import Derived.Test.YtjjdfhokmiaekaaMember4
import Derived.Outline
namespace Go.Proofs.Ytjjdfhokmiaekaa
open Go.RowKit Go.Lst Go.Lx

theorem Quorum_bad (v u : Value) (xs ys : List Int) (w : World) (h : Nums .i64 w v xs) (hu : Nums .i64 w u ys) (hm : may ys = false) :
    Calls Try.prog 43 #[v, u] w fun e w' => e = .returned (.tuple #[.bool false, .int .i64 2]) ∧ Below w.heap.size w w' := by
  have C1 := Lib.hid (Majority_calls u ys w hu)
  rw [hm, if_neg (by decide)] at C1
  obtain ⟨p, c, rfl, -⟩ := h.parts
  obtain ⟨q, d, rfl, -⟩ := hu.parts
  clear h hu hm
  go_enter Try.func43, Try.ntmps43
  go_wp2_with fail
  refine C1.out.mono ?_
  rintro e w1 ⟨rfl, hb1⟩
  go_wp2_with fail
  go_ret2
  exact ⟨rfl, hb1⟩

set_option maxRecDepth 100000 in
set_option maxHeartbeats 2000000 in
theorem tells_big (v u vv mv : Value) (conf other votes ms : List Int) (n : Int) (w : World) (hc : Nums .i64 w v conf) (ho : Nums .i64 w u other) (hv : Nums .i64 w vv votes) (hm : Nums .u64 w mv ms)
    (hl : ¬(conf.length ≤ 100 ∧ other.length ≤ 100 ∧ votes.length ≤ 200 ∧ ms.length ≤ 100)) :
    Calls Try.prog 8 #[v, u, vv, .int .i64 n, mv] w fun e w' => e = .returned (.bool true) ∧ Below w.heap.size w w' := by
  obtain ⟨cp, cc, rfl, -⟩ := hc.parts
  obtain ⟨op, oc, rfl, -⟩ := ho.parts
  obtain ⟨vp, vc, rfl, -⟩ := hv.parts
  obtain ⟨mp, mc, rfl, -⟩ := hm.parts
  clear hc ho hv hm
  generalize conf.length = a at *
  generalize other.length = b at *
  generalize votes.length = c at *
  generalize ms.length = d at *
  have hcs : (100 < (a : Int)) ∨ (¬(100 < (a : Int)) ∧ 100 < (b : Int)) ∨ (¬(100 < (a : Int)) ∧ ¬(100 < (b : Int)) ∧ 200 < (c : Int)) ∨ (¬(100 < (a : Int)) ∧ ¬(100 < (b : Int)) ∧ ¬(200 < (c : Int)) ∧ 100 < (d : Int)) := by omega
  clear hl
  go_enter Try.func8, Try.ntmps8
  rcases hcs with h | ⟨h1, h⟩ | ⟨h1, h2, h⟩ | ⟨h1, h2, h3, h⟩
  all_goals
    go_wp2_with fail
    refine (works24_calls _).mono ?_
    rintro e w1 ⟨rfl, hb1⟩
    go_wp2_with fail
    go_ret
    exact ⟨rfl, hb1⟩

set_option maxRecDepth 100000 in
set_option maxHeartbeats 4000000 in
theorem tells_bad (v u vv mv : Value) (conf other votes ms : List Int) (n : Int) (w : World) (hc : Nums .i64 w v conf) (ho : Nums .i64 w u other) (hv : Nums .i64 w vv votes) (hn : (Lit.int .i64 n).wf = true) (hm : Nums .u64 w mv ms)
    (hl : conf.length ≤ 100 ∧ other.length ≤ 100 ∧ votes.length ≤ 200 ∧ ms.length ≤ 100) (hbad : may conf = false) :
    Calls Try.prog 8 #[v, u, vv, .int .i64 n, mv] w fun e w' => e = .returned (.bool true) ∧ Below w.heap.size w w' := by
  obtain ⟨cp, cc, rfl, -⟩ := hc.parts
  obtain ⟨op, oc, rfl, -⟩ := ho.parts
  obtain ⟨vp, vc, rfl, -⟩ := hv.parts
  obtain ⟨mp, mc, rfl, -⟩ := hm.parts
  obtain ⟨l1, l2, l3, l4⟩ := hl
  have k1 : (conf.length : Int) ≤ 100 := by omega
  have k2 : (other.length : Int) ≤ 100 := by omega
  have k3 : (votes.length : Int) ≤ 200 := by omega
  have k4 : (ms.length : Int) ≤ 100 := by omega
  have C1 := Lib.hid (fun W h => Majority_calls (.slice cp conf.length cc) conf W h)
  have C2 := Lib.hid (fun x W h h' => Quorum_bad x (.slice cp conf.length cc) votes conf W h h' hbad)
  have C3 := Lib.hid (fun x W h => Add_calls x conf n W h hn)
  have C4 := Lib.hid (fun x W h => Remove_calls x conf n W h)
  have C5 := Lib.hid (fun x W h h' => Agreed_calls x (.slice cp conf.length cc) ms conf W h h')
  have C6 := Lib.hid (fun W h => rMayConf_calls (.slice cp conf.length cc) conf W h)
  have C7 := Lib.hid (fun W h => May_calls (.slice cp conf.length cc) conf W h)
  have C8 := Lib.hid (fun W h h' => Near_calls (.slice cp conf.length cc) (.slice op other.length oc) conf other W h h')
  have C9 := Lib.hid (fun W h h' => rNear_calls (.slice cp conf.length cc) (.slice op other.length oc) conf other W h h')
  have CA := Lib.hid (fun W h => Has_calls (.slice cp conf.length cc) conf n W h)
  have CB := Lib.hid (fun W h => rHas_calls (.slice cp conf.length cc) conf n W h)
  rw [hbad, if_neg (by decide)] at C1
  rw [show addE conf n = 2 by unfold addE; rw [if_pos (.inl hbad)], show addL conf n = [] by unfold addL; rw [show addE conf n = 2 by unfold addE; rw [if_pos (.inl hbad)]]; rfl] at C3
  rw [show remE conf n = 2 by unfold remE; rw [if_pos hbad], show remL conf n = [] by unfold remL; rw [show remE conf n = 2 by unfold remE; rw [if_pos hbad]]; rfl] at C4
  rw [hbad] at C6 C7
  simp only [hbad, Bool.false_eq_true, false_and, if_false] at C5
  have hne : ∀ b : Bool, (b != b) = false := fun b => by simp
  generalize near conf other = nr at *
  generalize decide (n ∈ conf) = hs at *
  have q1 := hne nr
  have q2 := hne hs
  have hC := Lib.hid hc; have hO := Lib.hid ho; have hV := Lib.hid hv; have hM := Lib.hid hm
  have hB := Lib.hid (Below.refl w.heap.size w)
  replace l1 := Lib.hid l1
  replace l2 := Lib.hid l2
  replace l3 := Lib.hid l3
  replace l4 := Lib.hid l4
  replace hbad := Lib.hid hbad
  replace hn := Lib.hid hn
  clear hc ho hv hm hne
  go_enter Try.func8, Try.ntmps8
  go_wp2_with fail
  refine (C1.out _ hC.out).mono ?_
  rintro e w1 ⟨rfl, hb⟩
  replace hb : Below w.heap.size w w1 := Lx.bstep (by repeat (first | exact Below.refl _ _ | exact Lx.Ext.below _ | refine Below.drew ?_ | refine below_drewN ?_ _ | (refine Below.alloc ?_ (by first | exact Nat.le_refl _ | (simp; done) | (simp; omega)) _) | (refine Below.setCell ?_ (by first | exact Nat.le_refl _ | (simp; done) | (simp; omega)) _))) (Nat.le_refl _) hb
  replace hC := Lib.hid (hC.out.below hb)
  replace hO := Lib.hid (hO.out.below hb)
  replace hV := Lib.hid (hV.out.below hb)
  replace hM := Lib.hid (hM.out.below hb)
  replace hB := Lib.hid (Lx.bstep hB.out (Nat.le_refl _) hb)
  clear hb
  go_wp2_with (at_builtin; refine wpList_copied rfl (.const (.slice none 0 0)) (.tmp 51) 33 rfl 3 .i64 8 Try.underlying33 infoInt rfl (.slice vp votes.length vc) votes rfl hV.out (by have := l3.out; omega) ?_; intro x2 w2 h2 hb; replace h2 := Lib.hid (Nums.own h2 hV.out.2); replace hb := Lib.hid hb)
  replace hb := hb.out
  replace hb : Below w1.heap.size w1 w2 := Lx.bstep (by repeat (first | exact Below.refl _ _ | exact Lx.Ext.below _ | refine Below.drew ?_ | refine below_drewN ?_ _ | (refine Below.alloc ?_ (by first | exact Nat.le_refl _ | (simp; done) | (simp; omega)) _) | (refine Below.setCell ?_ (by first | exact Nat.le_refl _ | (simp; done) | (simp; omega)) _))) (Nat.le_refl _) hb
  replace hC := Lib.hid (hC.out.below hb)
  replace hO := Lib.hid (hO.out.below hb)
  replace hV := Lib.hid (hV.out.below hb)
  replace hM := Lib.hid (hM.out.below hb)
  replace hB := Lib.hid (Lx.bstep hB.out (Nat.le_refl _) hb)
  clear hb
  refine (C2.out _ _ h2.out hC.out).mono ?_
  rintro e w3 ⟨rfl, hb⟩
  replace hb : Below w2.heap.size w2 w3 := Lx.bstep (by repeat (first | exact Below.refl _ _ | exact Lx.Ext.below _ | refine Below.drew ?_ | refine below_drewN ?_ _ | (refine Below.alloc ?_ (by first | exact Nat.le_refl _ | (simp; done) | (simp; omega)) _) | (refine Below.setCell ?_ (by first | exact Nat.le_refl _ | (simp; done) | (simp; omega)) _))) (Nat.le_refl _) hb
  replace hC := Lib.hid (hC.out.below hb)
  replace hO := Lib.hid (hO.out.below hb)
  replace hV := Lib.hid (hV.out.below hb)
  replace hM := Lib.hid (hM.out.below hb)
  replace hB := Lib.hid (Lx.bstep hB.out (Nat.le_refl _) hb)
  clear hb
  clear h2
  go_wp2_with (at_builtin; refine wpList_copied rfl (.const (.slice none 0 0)) (.tmp 58) 33 rfl 3 .i64 8 Try.underlying33 infoInt rfl (.slice cp conf.length cc) conf rfl hC.out (by have := l1.out; omega) ?_; intro x4 w4 h4 hb; replace h4 := Lib.hid (Nums.own h4 hC.out.2); replace hb := Lib.hid hb)
  replace hb := hb.out
  replace hb : Below w3.heap.size w3 w4 := Lx.bstep (by repeat (first | exact Below.refl _ _ | exact Lx.Ext.below _ | refine Below.drew ?_ | refine below_drewN ?_ _ | (refine Below.alloc ?_ (by first | exact Nat.le_refl _ | (simp; done) | (simp; omega)) _) | (refine Below.setCell ?_ (by first | exact Nat.le_refl _ | (simp; done) | (simp; omega)) _))) (Nat.le_refl _) hb
  replace hC := Lib.hid (hC.out.below hb)
  replace hO := Lib.hid (hO.out.below hb)
  replace hV := Lib.hid (hV.out.below hb)
  replace hM := Lib.hid (hM.out.below hb)
  replace hB := Lib.hid (Lx.bstep hB.out (Nat.le_refl _) hb)
  clear hb
  refine (C3.out _ _ h4.out).mono ?_
  rintro e w5 ⟨⟨u5, rfl, h5⟩, hb⟩
  obtain ⟨p5, c5, rfl, -⟩ := h5.parts
  replace hb : Below w4.heap.size w4 w5 := Lx.bstep (by repeat (first | exact Below.refl _ _ | exact Lx.Ext.below _ | refine Below.drew ?_ | refine below_drewN ?_ _ | (refine Below.alloc ?_ (by first | exact Nat.le_refl _ | (simp; done) | (simp; omega)) _) | (refine Below.setCell ?_ (by first | exact Nat.le_refl _ | (simp; done) | (simp; omega)) _))) (Nat.le_refl _) hb
  replace hC := Lib.hid (hC.out.below hb)
  replace hO := Lib.hid (hO.out.below hb)
  replace hV := Lib.hid (hV.out.below hb)
  replace hM := Lib.hid (hM.out.below hb)
  replace hB := Lib.hid (Lx.bstep hB.out (Nat.le_refl _) hb)
  clear hb
  clear h4 h5
  go_wp2_with (at_builtin; refine wpList_copied rfl (.const (.slice none 0 0)) (.tmp 65) 33 rfl 3 .i64 8 Try.underlying33 infoInt rfl (.slice cp conf.length cc) conf rfl hC.out (by have := l1.out; omega) ?_; intro x6 w6 h6 hb; replace h6 := Lib.hid (Nums.own h6 hC.out.2); replace hb := Lib.hid hb)
  replace hb := hb.out
  replace hb : Below w5.heap.size w5 w6 := Lx.bstep (by repeat (first | exact Below.refl _ _ | exact Lx.Ext.below _ | refine Below.drew ?_ | refine below_drewN ?_ _ | (refine Below.alloc ?_ (by first | exact Nat.le_refl _ | (simp; done) | (simp; omega)) _) | (refine Below.setCell ?_ (by first | exact Nat.le_refl _ | (simp; done) | (simp; omega)) _))) (Nat.le_refl _) hb
  replace hC := Lib.hid (hC.out.below hb)
  replace hO := Lib.hid (hO.out.below hb)
  replace hV := Lib.hid (hV.out.below hb)
  replace hM := Lib.hid (hM.out.below hb)
  replace hB := Lib.hid (Lx.bstep hB.out (Nat.le_refl _) hb)
  clear hb
  refine (C4.out _ _ h6.out).mono ?_
  rintro e w7 ⟨⟨u7, rfl, h7⟩, hb⟩
  obtain ⟨p7, c7, rfl, -⟩ := h7.parts
  replace hb : Below w6.heap.size w6 w7 := Lx.bstep (by repeat (first | exact Below.refl _ _ | exact Lx.Ext.below _ | refine Below.drew ?_ | refine below_drewN ?_ _ | (refine Below.alloc ?_ (by first | exact Nat.le_refl _ | (simp; done) | (simp; omega)) _) | (refine Below.setCell ?_ (by first | exact Nat.le_refl _ | (simp; done) | (simp; omega)) _))) (Nat.le_refl _) hb
  replace hC := Lib.hid (hC.out.below hb)
  replace hO := Lib.hid (hO.out.below hb)
  replace hV := Lib.hid (hV.out.below hb)
  replace hM := Lib.hid (hM.out.below hb)
  replace hB := Lib.hid (Lx.bstep hB.out (Nat.le_refl _) hb)
  clear hb
  clear h6 h7
  go_wp2_with (at_builtin; refine wpList_copied rfl (.const (.slice none 0 0)) (.tmp 72) 48 rfl 32 .u64 8 Try.underlying48 infoU64 rfl (.slice mp ms.length mc) ms rfl hM.out (by have := l4.out; omega) ?_; intro x8 w8 h8 hb; replace h8 := Lib.hid (Nums.own h8 hM.out.2); replace hb := Lib.hid hb)
  replace hb := hb.out
  replace hb : Below w7.heap.size w7 w8 := Lx.bstep (by repeat (first | exact Below.refl _ _ | exact Lx.Ext.below _ | refine Below.drew ?_ | refine below_drewN ?_ _ | (refine Below.alloc ?_ (by first | exact Nat.le_refl _ | (simp; done) | (simp; omega)) _) | (refine Below.setCell ?_ (by first | exact Nat.le_refl _ | (simp; done) | (simp; omega)) _))) (Nat.le_refl _) hb
  replace hC := Lib.hid (hC.out.below hb)
  replace hO := Lib.hid (hO.out.below hb)
  replace hV := Lib.hid (hV.out.below hb)
  replace hM := Lib.hid (hM.out.below hb)
  replace hB := Lib.hid (Lx.bstep hB.out (Nat.le_refl _) hb)
  clear hb
  refine (C5.out _ _ h8.out hC.out).mono ?_
  rintro e w9 ⟨⟨x9, rfl, rfl⟩, hb⟩
  replace hb : Below w8.heap.size w8 w9 := Lx.bstep (by repeat (first | exact Below.refl _ _ | exact Lx.Ext.below _ | refine Below.drew ?_ | refine below_drewN ?_ _ | (refine Below.alloc ?_ (by first | exact Nat.le_refl _ | (simp; done) | (simp; omega)) _) | (refine Below.setCell ?_ (by first | exact Nat.le_refl _ | (simp; done) | (simp; omega)) _))) (Nat.le_refl _) hb
  replace hC := Lib.hid (hC.out.below hb)
  replace hO := Lib.hid (hO.out.below hb)
  replace hV := Lib.hid (hV.out.below hb)
  replace hM := Lib.hid (hM.out.below hb)
  replace hB := Lib.hid (Lx.bstep hB.out (Nat.le_refl _) hb)
  clear hb
  clear h8
  go_wp2_with fail
  refine (C6.out _ hC.out).mono ?_
  rintro e wa ⟨rfl, hb⟩
  replace hb : Below w9.heap.size w9 wa := Lx.bstep (by repeat (first | exact Below.refl _ _ | exact Lx.Ext.below _ | refine Below.drew ?_ | refine below_drewN ?_ _ | (refine Below.alloc ?_ (by first | exact Nat.le_refl _ | (simp; done) | (simp; omega)) _) | (refine Below.setCell ?_ (by first | exact Nat.le_refl _ | (simp; done) | (simp; omega)) _))) (Nat.le_refl _) hb
  replace hC := Lib.hid (hC.out.below hb)
  replace hO := Lib.hid (hO.out.below hb)
  replace hV := Lib.hid (hV.out.below hb)
  replace hM := Lib.hid (hM.out.below hb)
  replace hB := Lib.hid (Lx.bstep hB.out (Nat.le_refl _) hb)
  clear hb
  go_wp2_with fail
  refine (C7.out _ hC.out).mono ?_
  rintro e wb ⟨rfl, hb⟩
  replace hb : Below wa.heap.size wa wb := Lx.bstep (by repeat (first | exact Below.refl _ _ | exact Lx.Ext.below _ | refine Below.drew ?_ | refine below_drewN ?_ _ | (refine Below.alloc ?_ (by first | exact Nat.le_refl _ | (simp; done) | (simp; omega)) _) | (refine Below.setCell ?_ (by first | exact Nat.le_refl _ | (simp; done) | (simp; omega)) _))) (Nat.le_refl _) hb
  replace hC := Lib.hid (hC.out.below hb)
  replace hO := Lib.hid (hO.out.below hb)
  replace hV := Lib.hid (hV.out.below hb)
  replace hM := Lib.hid (hM.out.below hb)
  replace hB := Lib.hid (Lx.bstep hB.out (Nat.le_refl _) hb)
  clear hb
  go_wp2_with fail
  refine (C8.out _ hC.out hO.out).mono ?_
  rintro e wc ⟨rfl, hb⟩
  replace hb : Below wb.heap.size wb wc := Lx.bstep (by repeat (first | exact Below.refl _ _ | exact Lx.Ext.below _ | refine Below.drew ?_ | refine below_drewN ?_ _ | (refine Below.alloc ?_ (by first | exact Nat.le_refl _ | (simp; done) | (simp; omega)) _) | (refine Below.setCell ?_ (by first | exact Nat.le_refl _ | (simp; done) | (simp; omega)) _))) (Nat.le_refl _) hb
  replace hC := Lib.hid (hC.out.below hb)
  replace hO := Lib.hid (hO.out.below hb)
  replace hV := Lib.hid (hV.out.below hb)
  replace hM := Lib.hid (hM.out.below hb)
  replace hB := Lib.hid (Lx.bstep hB.out (Nat.le_refl _) hb)
  clear hb
  go_wp2_with fail
  refine (C9.out _ hC.out hO.out).mono ?_
  rintro e wd ⟨rfl, hb⟩
  replace hb : Below wc.heap.size wc wd := Lx.bstep (by repeat (first | exact Below.refl _ _ | exact Lx.Ext.below _ | refine Below.drew ?_ | refine below_drewN ?_ _ | (refine Below.alloc ?_ (by first | exact Nat.le_refl _ | (simp; done) | (simp; omega)) _) | (refine Below.setCell ?_ (by first | exact Nat.le_refl _ | (simp; done) | (simp; omega)) _))) (Nat.le_refl _) hb
  replace hC := Lib.hid (hC.out.below hb)
  replace hO := Lib.hid (hO.out.below hb)
  replace hV := Lib.hid (hV.out.below hb)
  replace hM := Lib.hid (hM.out.below hb)
  replace hB := Lib.hid (Lx.bstep hB.out (Nat.le_refl _) hb)
  clear hb
  go_wp2_with fail
  refine (CA.out _ hC.out).mono ?_
  rintro e we ⟨rfl, hb⟩
  replace hb : Below wd.heap.size wd we := Lx.bstep (by repeat (first | exact Below.refl _ _ | exact Lx.Ext.below _ | refine Below.drew ?_ | refine below_drewN ?_ _ | (refine Below.alloc ?_ (by first | exact Nat.le_refl _ | (simp; done) | (simp; omega)) _) | (refine Below.setCell ?_ (by first | exact Nat.le_refl _ | (simp; done) | (simp; omega)) _))) (Nat.le_refl _) hb
  replace hC := Lib.hid (hC.out.below hb)
  replace hO := Lib.hid (hO.out.below hb)
  replace hV := Lib.hid (hV.out.below hb)
  replace hM := Lib.hid (hM.out.below hb)
  replace hB := Lib.hid (Lx.bstep hB.out (Nat.le_refl _) hb)
  clear hb
  go_wp2_with fail
  refine (CB.out _ hC.out).mono ?_
  rintro e wf ⟨rfl, hb⟩
  replace hb : Below we.heap.size we wf := Lx.bstep (by repeat (first | exact Below.refl _ _ | exact Lx.Ext.below _ | refine Below.drew ?_ | refine below_drewN ?_ _ | (refine Below.alloc ?_ (by first | exact Nat.le_refl _ | (simp; done) | (simp; omega)) _) | (refine Below.setCell ?_ (by first | exact Nat.le_refl _ | (simp; done) | (simp; omega)) _))) (Nat.le_refl _) hb
  replace hC := Lib.hid (hC.out.below hb)
  replace hO := Lib.hid (hO.out.below hb)
  replace hV := Lib.hid (hV.out.below hb)
  replace hM := Lib.hid (hM.out.below hb)
  replace hB := Lib.hid (Lx.bstep hB.out (Nat.le_refl _) hb)
  clear hb
  go_wp2_with fail
  refine (works24_calls _).mono ?_
  rintro e wg ⟨rfl, hb⟩
  replace hb : Below wf.heap.size wf wg := Lx.bstep (by repeat (first | exact Below.refl _ _ | exact Lx.Ext.below _ | refine Below.drew ?_ | refine below_drewN ?_ _ | (refine Below.alloc ?_ (by first | exact Nat.le_refl _ | (simp; done) | (simp; omega)) _) | (refine Below.setCell ?_ (by first | exact Nat.le_refl _ | (simp; done) | (simp; omega)) _))) (Nat.le_refl _) hb
  replace hB := Lib.hid (Lx.bstep hB.out (Nat.le_refl _) hb)
  clear hb
  go_wp2_with fail
  go_ret
  exact ⟨rfl, hB.out⟩
end Go.Proofs.Ytjjdfhokmiaekaa
