/-
  The walk of MemberTells, where the conf may be; the whole.
-/
import Derived.Test.YtjjdfhokmiaekaaMemTells
namespace Go.Proofs.Ytjjdfhokmiaekaa
open Go.RowKit Go.Lst Go.Lx

theorem agreed_law (v u : Value) (ms cs : List Int) (w : World) (h : Nums .u64 w v ms) (hu : Nums .i64 w u cs) (hm : may cs = true) :
    Calls Try.prog 46 #[v, u] w fun e w' => (∃ x E : Int, e = .returned (.tuple #[.int .u64 x, .int .i64 E]) ∧ (ms.length = cs.length → E = 0 ∧ agr ms cs.length ms = x) ∧ (ms.length ≠ cs.length → E = 2 ∧ x = 0)) ∧ Below w.heap.size w w' := by
  refine (Agreed_calls v u ms cs w h hu).mono ?_
  rintro e w' ⟨⟨x, rfl, hx⟩, hb⟩
  refine ⟨⟨x, _, rfl, fun hl => ?_, fun hl => ?_⟩, hb⟩
  · rw [if_pos ⟨hm, hl⟩] at hx ⊢
    refine ⟨rfl, agr_eq (fun y hy => ?_) hx.1 hx.2.1 (fun y hy hlt => Nat.le_trans (Nat.mul_le_mul_left 2 (cntG_le_cntM ms hlt)) hx.2.2)⟩
    have := h.2 y hy
    have e0 : IntKind.u64.min = 0 := rfl
    simp [Lit.wf, e0] at this
    omega
  · rw [if_neg (fun h => hl h.2)] at hx ⊢
    exact ⟨rfl, hx⟩

set_option maxRecDepth 100000 in
set_option maxHeartbeats 4000000 in
theorem tells_good (v u vv mv : Value) (conf other votes ms : List Int) (n : Int) (w : World) (hc : Nums .i64 w v conf) (ho : Nums .i64 w u other) (hv : Nums .i64 w vv votes) (hn : (Lit.int .i64 n).wf = true) (hm : Nums .u64 w mv ms)
    (hl : conf.length ≤ 100 ∧ other.length ≤ 100 ∧ votes.length ≤ 200 ∧ ms.length ≤ 100) (hgd : may conf = true) :
    Calls Try.prog 8 #[v, u, vv, .int .i64 n, mv] w fun e w' => e = .returned (.bool true) ∧ Below w.heap.size w w' := by
  obtain ⟨cp, cc, rfl, -⟩ := hc.parts
  obtain ⟨op, oc, rfl, -⟩ := ho.parts
  obtain ⟨vp, vc, rfl, -⟩ := hv.parts
  obtain ⟨mp, mc, rfl, -⟩ := hm.parts
  obtain ⟨l1, l2, l3, l4⟩ := hl
  have k1 : (conf.length : Int) ≤ 100 := by omega
  have k2 : (other.length : Int) ≤ 100 := by omega
  have k3 : (votes.length : Int) ≤ 200 := by omega
  have k4 : (ms.length : Int) ≤ 100 := by omega
  have C1 := Lib.hid (fun W h => Majority_calls (.slice cp conf.length cc) conf W h)
  have C2 := Lib.hid (fun x W h h' => Quorum_calls x (.slice cp conf.length cc) votes conf W h h' hgd)
  have C3 := Lib.hid (fun x W h => Add_calls x conf n W h hn)
  have C4 := Lib.hid (fun x W h => Remove_calls x conf n W h)
  have C5 := Lib.hid (fun x W h h' => agreed_law x (.slice cp conf.length cc) ms conf W h h' hgd)
  have C6 := Lib.hid (fun W h => rMayConf_calls (.slice cp conf.length cc) conf W h)
  have C7 := Lib.hid (fun W h => May_calls (.slice cp conf.length cc) conf W h)
  have C8 := Lib.hid (fun W h h' => Near_calls (.slice cp conf.length cc) (.slice op other.length oc) conf other W h h')
  have C9 := Lib.hid (fun W h h' => rNear_calls (.slice cp conf.length cc) (.slice op other.length oc) conf other W h h')
  have CA := Lib.hid (fun W h => Has_calls (.slice cp conf.length cc) conf n W h)
  have CB := Lib.hid (fun W h => rHas_calls (.slice cp conf.length cc) conf n W h)
  have CC := Lib.hid (fun W h => rAdd_calls (.slice cp conf.length cc) conf n W h hgd hn)
  have CD := Lib.hid (fun W h => rRemove_calls (.slice cp conf.length cc) conf n W h hgd)
  have CE := Lib.hid (fun W h h' => rQuorum_calls (.slice vp votes.length vc) (.slice cp conf.length cc) votes conf W h h' (by omega))
  have CF := Lib.hid (fun W h h' => rAgreed_calls (.slice mp ms.length mc) (.slice cp conf.length cc) ms conf W h h' l4 l1)
  have CG := Lib.hid (fun a b W h h' => rSame_calls a b (addL conf n) (addL conf n) W h h')
  have CH := Lib.hid (fun a b W h h' => rSame_calls a b (remL conf n) (remL conf n) W h h')
  rw [decide_eq_true rfl] at CG CH
  rw [hgd, if_pos rfl] at C1
  rw [hgd] at C6 C7
  have hne : ∀ b : Bool, (b != b) = false := fun b => by simp
  have hni : ∀ b : Int, (b != b) = false := fun b => by simp
  generalize near conf other = nr at *
  generalize addE conf n = EA at *
  generalize remE conf n = ER at *
  generalize addL conf n = LA at *
  generalize remL conf n = LR at *
  generalize quorum votes conf = qr at *
  obtain ⟨M, hM0⟩ : ∃ M : Nat, conf.length / 2 + 1 = M := ⟨_, rfl⟩
  rw [hM0] at C1
  have q3 := hne qr
  have q6 : ((M : Int) != ((conf.length : Int) / 2 + 1)) = false := by simp; omega
  have q4 := hni EA
  have q5 := hni ER
  generalize decide (n ∈ conf) = hs at *
  have q1 := hne nr
  have q2 := hne hs
  have hC := Lib.hid hc; have hO := Lib.hid ho; have hV := Lib.hid hv; have hM := Lib.hid hm
  have hB := Lib.hid (Below.refl w.heap.size w)
  replace l1 := Lib.hid l1
  replace l2 := Lib.hid l2
  replace l3 := Lib.hid l3
  replace l4 := Lib.hid l4
  replace hgd := Lib.hid hgd
  replace hn := Lib.hid hn
  replace hM0 := Lib.hid hM0
  clear hc ho hv hm hne hni
  go_enter Try.func8, Try.ntmps8
  go_wp2_with fail
  refine (C1.out _ hC.out).mono ?_
  rintro e w1 ⟨rfl, hb⟩
  replace hb : Below w.heap.size w w1 := Lx.bstep (by repeat (first | exact Below.refl _ _ | exact Lx.Ext.below _ | refine Below.drew ?_ | refine below_drewN ?_ _ | (refine Below.alloc ?_ (by first | exact Nat.le_refl _ | (simp; done) | (simp; omega)) _) | (refine Below.setCell ?_ (by first | exact Nat.le_refl _ | (simp; done) | (simp; omega)) _))) (Nat.le_refl _) hb
  replace hC := Lib.hid (hC.out.below hb)
  replace hO := Lib.hid (hO.out.below hb)
  replace hV := Lib.hid (hV.out.below hb)
  replace hM := Lib.hid (hM.out.below hb)
  replace hB := Lib.hid (Lx.bstep hB.out (Nat.le_refl _) hb)
  clear hb
  go_wp2_with (at_builtin; refine wpList_copied rfl (.const (.slice none 0 0)) (.tmp 51) 33 rfl 3 .i64 8 Try.underlying33 infoInt rfl (.slice vp votes.length vc) votes rfl hV.out (by have := l3.out; omega) ?_; intro x2 w2 h2 hb; replace h2 := Lib.hid (Nums.own h2 hV.out.2); replace hb := Lib.hid hb)
  replace hb := hb.out
  replace hb : Below w1.heap.size w1 w2 := Lx.bstep (by repeat (first | exact Below.refl _ _ | exact Lx.Ext.below _ | refine Below.drew ?_ | refine below_drewN ?_ _ | (refine Below.alloc ?_ (by first | exact Nat.le_refl _ | (simp; done) | (simp; omega)) _) | (refine Below.setCell ?_ (by first | exact Nat.le_refl _ | (simp; done) | (simp; omega)) _))) (Nat.le_refl _) hb
  replace hC := Lib.hid (hC.out.below hb)
  replace hO := Lib.hid (hO.out.below hb)
  replace hV := Lib.hid (hV.out.below hb)
  replace hM := Lib.hid (hM.out.below hb)
  replace hB := Lib.hid (Lx.bstep hB.out (Nat.le_refl _) hb)
  clear hb
  refine (C2.out _ _ h2.out hC.out).mono ?_
  rintro e w3 ⟨rfl, hb⟩
  replace hb : Below w2.heap.size w2 w3 := Lx.bstep (by repeat (first | exact Below.refl _ _ | exact Lx.Ext.below _ | refine Below.drew ?_ | refine below_drewN ?_ _ | (refine Below.alloc ?_ (by first | exact Nat.le_refl _ | (simp; done) | (simp; omega)) _) | (refine Below.setCell ?_ (by first | exact Nat.le_refl _ | (simp; done) | (simp; omega)) _))) (Nat.le_refl _) hb
  replace hC := Lib.hid (hC.out.below hb)
  replace hO := Lib.hid (hO.out.below hb)
  replace hV := Lib.hid (hV.out.below hb)
  replace hM := Lib.hid (hM.out.below hb)
  replace hB := Lib.hid (Lx.bstep hB.out (Nat.le_refl _) hb)
  clear hb
  clear h2
  go_wp2_with (at_builtin; refine wpList_copied rfl (.const (.slice none 0 0)) (.tmp 58) 33 rfl 3 .i64 8 Try.underlying33 infoInt rfl (.slice cp conf.length cc) conf rfl hC.out (by have := l1.out; omega) ?_; intro x4 w4 h4 hb; replace h4 := Lib.hid (Nums.own h4 hC.out.2); replace hb := Lib.hid hb)
  replace hb := hb.out
  replace hb : Below w3.heap.size w3 w4 := Lx.bstep (by repeat (first | exact Below.refl _ _ | exact Lx.Ext.below _ | refine Below.drew ?_ | refine below_drewN ?_ _ | (refine Below.alloc ?_ (by first | exact Nat.le_refl _ | (simp; done) | (simp; omega)) _) | (refine Below.setCell ?_ (by first | exact Nat.le_refl _ | (simp; done) | (simp; omega)) _))) (Nat.le_refl _) hb
  replace hC := Lib.hid (hC.out.below hb)
  replace hO := Lib.hid (hO.out.below hb)
  replace hV := Lib.hid (hV.out.below hb)
  replace hM := Lib.hid (hM.out.below hb)
  replace hB := Lib.hid (Lx.bstep hB.out (Nat.le_refl _) hb)
  clear hb
  refine (C3.out _ _ h4.out).mono ?_
  rintro e w5 ⟨⟨u5, rfl, h5⟩, hb⟩
  replace h5 := Lib.hid h5
  replace hb : Below w4.heap.size w4 w5 := Lx.bstep (by repeat (first | exact Below.refl _ _ | exact Lx.Ext.below _ | refine Below.drew ?_ | refine below_drewN ?_ _ | (refine Below.alloc ?_ (by first | exact Nat.le_refl _ | (simp; done) | (simp; omega)) _) | (refine Below.setCell ?_ (by first | exact Nat.le_refl _ | (simp; done) | (simp; omega)) _))) (Nat.le_refl _) hb
  replace hC := Lib.hid (hC.out.below hb)
  replace hO := Lib.hid (hO.out.below hb)
  replace hV := Lib.hid (hV.out.below hb)
  replace hM := Lib.hid (hM.out.below hb)
  replace hB := Lib.hid (Lx.bstep hB.out (Nat.le_refl _) hb)
  clear hb
  clear h4
  go_wp2_with (at_builtin; refine wpList_copied rfl (.const (.slice none 0 0)) (.tmp 65) 33 rfl 3 .i64 8 Try.underlying33 infoInt rfl (.slice cp conf.length cc) conf rfl hC.out (by have := l1.out; omega) ?_; intro x6 w6 h6 hb; replace h6 := Lib.hid (Nums.own h6 hC.out.2); replace hb := Lib.hid hb)
  replace hb := hb.out
  replace hb : Below w5.heap.size w5 w6 := Lx.bstep (by repeat (first | exact Below.refl _ _ | exact Lx.Ext.below _ | refine Below.drew ?_ | refine below_drewN ?_ _ | (refine Below.alloc ?_ (by first | exact Nat.le_refl _ | (simp; done) | (simp; omega)) _) | (refine Below.setCell ?_ (by first | exact Nat.le_refl _ | (simp; done) | (simp; omega)) _))) (Nat.le_refl _) hb
  replace hC := Lib.hid (hC.out.below hb)
  replace hO := Lib.hid (hO.out.below hb)
  replace hV := Lib.hid (hV.out.below hb)
  replace hM := Lib.hid (hM.out.below hb)
  replace h5 := Lib.hid (h5.out.below hb)
  replace hB := Lib.hid (Lx.bstep hB.out (Nat.le_refl _) hb)
  clear hb
  refine (C4.out _ _ h6.out).mono ?_
  rintro e w7 ⟨⟨u7, rfl, h7⟩, hb⟩
  replace h7 := Lib.hid h7
  replace hb : Below w6.heap.size w6 w7 := Lx.bstep (by repeat (first | exact Below.refl _ _ | exact Lx.Ext.below _ | refine Below.drew ?_ | refine below_drewN ?_ _ | (refine Below.alloc ?_ (by first | exact Nat.le_refl _ | (simp; done) | (simp; omega)) _) | (refine Below.setCell ?_ (by first | exact Nat.le_refl _ | (simp; done) | (simp; omega)) _))) (Nat.le_refl _) hb
  replace hC := Lib.hid (hC.out.below hb)
  replace hO := Lib.hid (hO.out.below hb)
  replace hV := Lib.hid (hV.out.below hb)
  replace hM := Lib.hid (hM.out.below hb)
  replace h5 := Lib.hid (h5.out.below hb)
  replace hB := Lib.hid (Lx.bstep hB.out (Nat.le_refl _) hb)
  clear hb
  clear h6
  go_wp2_with (at_builtin; refine wpList_copied rfl (.const (.slice none 0 0)) (.tmp 72) 48 rfl 32 .u64 8 Try.underlying48 infoU64 rfl (.slice mp ms.length mc) ms rfl hM.out (by have := l4.out; omega) ?_; intro x8 w8 h8 hb; replace h8 := Lib.hid (Nums.own h8 hM.out.2); replace hb := Lib.hid hb)
  replace hb := hb.out
  replace hb : Below w7.heap.size w7 w8 := Lx.bstep (by repeat (first | exact Below.refl _ _ | exact Lx.Ext.below _ | refine Below.drew ?_ | refine below_drewN ?_ _ | (refine Below.alloc ?_ (by first | exact Nat.le_refl _ | (simp; done) | (simp; omega)) _) | (refine Below.setCell ?_ (by first | exact Nat.le_refl _ | (simp; done) | (simp; omega)) _))) (Nat.le_refl _) hb
  replace hC := Lib.hid (hC.out.below hb)
  replace hO := Lib.hid (hO.out.below hb)
  replace hV := Lib.hid (hV.out.below hb)
  replace hM := Lib.hid (hM.out.below hb)
  replace h5 := Lib.hid (h5.out.below hb)
  replace h7 := Lib.hid (h7.out.below hb)
  replace hB := Lib.hid (Lx.bstep hB.out (Nat.le_refl _) hb)
  clear hb
  refine (C5.out _ _ h8.out hC.out).mono ?_
  rintro e w9 ⟨⟨x9, E9, rfl, hx1, hx2⟩, hb⟩
  replace hx1 := Lib.hid hx1
  replace hx2 := Lib.hid hx2
  replace hb : Below w8.heap.size w8 w9 := Lx.bstep (by repeat (first | exact Below.refl _ _ | exact Lx.Ext.below _ | refine Below.drew ?_ | refine below_drewN ?_ _ | (refine Below.alloc ?_ (by first | exact Nat.le_refl _ | (simp; done) | (simp; omega)) _) | (refine Below.setCell ?_ (by first | exact Nat.le_refl _ | (simp; done) | (simp; omega)) _))) (Nat.le_refl _) hb
  replace hC := Lib.hid (hC.out.below hb)
  replace hO := Lib.hid (hO.out.below hb)
  replace hV := Lib.hid (hV.out.below hb)
  replace hM := Lib.hid (hM.out.below hb)
  replace h5 := Lib.hid (h5.out.below hb)
  replace h7 := Lib.hid (h7.out.below hb)
  replace hB := Lib.hid (Lx.bstep hB.out (Nat.le_refl _) hb)
  clear hb
  clear h8
  go_wp2_with fail
  refine (C6.out _ hC.out).mono ?_
  rintro e wa ⟨rfl, hb⟩
  replace hb : Below w9.heap.size w9 wa := Lx.bstep (by repeat (first | exact Below.refl _ _ | exact Lx.Ext.below _ | refine Below.drew ?_ | refine below_drewN ?_ _ | (refine Below.alloc ?_ (by first | exact Nat.le_refl _ | (simp; done) | (simp; omega)) _) | (refine Below.setCell ?_ (by first | exact Nat.le_refl _ | (simp; done) | (simp; omega)) _))) (Nat.le_refl _) hb
  replace hC := Lib.hid (hC.out.below hb)
  replace hO := Lib.hid (hO.out.below hb)
  replace hV := Lib.hid (hV.out.below hb)
  replace hM := Lib.hid (hM.out.below hb)
  replace h5 := Lib.hid (h5.out.below hb)
  replace h7 := Lib.hid (h7.out.below hb)
  replace hB := Lib.hid (Lx.bstep hB.out (Nat.le_refl _) hb)
  clear hb
  go_wp2_with fail
  refine (C7.out _ hC.out).mono ?_
  rintro e wb ⟨rfl, hb⟩
  replace hb : Below wa.heap.size wa wb := Lx.bstep (by repeat (first | exact Below.refl _ _ | exact Lx.Ext.below _ | refine Below.drew ?_ | refine below_drewN ?_ _ | (refine Below.alloc ?_ (by first | exact Nat.le_refl _ | (simp; done) | (simp; omega)) _) | (refine Below.setCell ?_ (by first | exact Nat.le_refl _ | (simp; done) | (simp; omega)) _))) (Nat.le_refl _) hb
  replace hC := Lib.hid (hC.out.below hb)
  replace hO := Lib.hid (hO.out.below hb)
  replace hV := Lib.hid (hV.out.below hb)
  replace hM := Lib.hid (hM.out.below hb)
  replace h5 := Lib.hid (h5.out.below hb)
  replace h7 := Lib.hid (h7.out.below hb)
  replace hB := Lib.hid (Lx.bstep hB.out (Nat.le_refl _) hb)
  clear hb
  go_wp2_with fail
  refine (C8.out _ hC.out hO.out).mono ?_
  rintro e wc ⟨rfl, hb⟩
  replace hb : Below wb.heap.size wb wc := Lx.bstep (by repeat (first | exact Below.refl _ _ | exact Lx.Ext.below _ | refine Below.drew ?_ | refine below_drewN ?_ _ | (refine Below.alloc ?_ (by first | exact Nat.le_refl _ | (simp; done) | (simp; omega)) _) | (refine Below.setCell ?_ (by first | exact Nat.le_refl _ | (simp; done) | (simp; omega)) _))) (Nat.le_refl _) hb
  replace hC := Lib.hid (hC.out.below hb)
  replace hO := Lib.hid (hO.out.below hb)
  replace hV := Lib.hid (hV.out.below hb)
  replace hM := Lib.hid (hM.out.below hb)
  replace h5 := Lib.hid (h5.out.below hb)
  replace h7 := Lib.hid (h7.out.below hb)
  replace hB := Lib.hid (Lx.bstep hB.out (Nat.le_refl _) hb)
  clear hb
  go_wp2_with fail
  refine (C9.out _ hC.out hO.out).mono ?_
  rintro e wd ⟨rfl, hb⟩
  replace hb : Below wc.heap.size wc wd := Lx.bstep (by repeat (first | exact Below.refl _ _ | exact Lx.Ext.below _ | refine Below.drew ?_ | refine below_drewN ?_ _ | (refine Below.alloc ?_ (by first | exact Nat.le_refl _ | (simp; done) | (simp; omega)) _) | (refine Below.setCell ?_ (by first | exact Nat.le_refl _ | (simp; done) | (simp; omega)) _))) (Nat.le_refl _) hb
  replace hC := Lib.hid (hC.out.below hb)
  replace hO := Lib.hid (hO.out.below hb)
  replace hV := Lib.hid (hV.out.below hb)
  replace hM := Lib.hid (hM.out.below hb)
  replace h5 := Lib.hid (h5.out.below hb)
  replace h7 := Lib.hid (h7.out.below hb)
  replace hB := Lib.hid (Lx.bstep hB.out (Nat.le_refl _) hb)
  clear hb
  go_wp2_with fail
  refine (CA.out _ hC.out).mono ?_
  rintro e we ⟨rfl, hb⟩
  replace hb : Below wd.heap.size wd we := Lx.bstep (by repeat (first | exact Below.refl _ _ | exact Lx.Ext.below _ | refine Below.drew ?_ | refine below_drewN ?_ _ | (refine Below.alloc ?_ (by first | exact Nat.le_refl _ | (simp; done) | (simp; omega)) _) | (refine Below.setCell ?_ (by first | exact Nat.le_refl _ | (simp; done) | (simp; omega)) _))) (Nat.le_refl _) hb
  replace hC := Lib.hid (hC.out.below hb)
  replace hO := Lib.hid (hO.out.below hb)
  replace hV := Lib.hid (hV.out.below hb)
  replace hM := Lib.hid (hM.out.below hb)
  replace h5 := Lib.hid (h5.out.below hb)
  replace h7 := Lib.hid (h7.out.below hb)
  replace hB := Lib.hid (Lx.bstep hB.out (Nat.le_refl _) hb)
  clear hb
  go_wp2_with fail
  refine (CB.out _ hC.out).mono ?_
  rintro e wf ⟨rfl, hb⟩
  replace hb : Below we.heap.size we wf := Lx.bstep (by repeat (first | exact Below.refl _ _ | exact Lx.Ext.below _ | refine Below.drew ?_ | refine below_drewN ?_ _ | (refine Below.alloc ?_ (by first | exact Nat.le_refl _ | (simp; done) | (simp; omega)) _) | (refine Below.setCell ?_ (by first | exact Nat.le_refl _ | (simp; done) | (simp; omega)) _))) (Nat.le_refl _) hb
  replace hC := Lib.hid (hC.out.below hb)
  replace hO := Lib.hid (hO.out.below hb)
  replace hV := Lib.hid (hV.out.below hb)
  replace hM := Lib.hid (hM.out.below hb)
  replace h5 := Lib.hid (h5.out.below hb)
  replace h7 := Lib.hid (h7.out.below hb)
  replace hB := Lib.hid (Lx.bstep hB.out (Nat.le_refl _) hb)
  clear hb
  go_wp2_with fail
  refine (CC.out _ hC.out).mono ?_
  rintro e wg ⟨⟨ug, rfl, hg⟩, hb⟩
  replace hg := Lib.hid hg
  replace hb : Below wf.heap.size wf wg := Lx.bstep (by repeat (first | exact Below.refl _ _ | exact Lx.Ext.below _ | refine Below.drew ?_ | refine below_drewN ?_ _ | (refine Below.alloc ?_ (by first | exact Nat.le_refl _ | (simp; done) | (simp; omega)) _) | (refine Below.setCell ?_ (by first | exact Nat.le_refl _ | (simp; done) | (simp; omega)) _))) (Nat.le_refl _) hb
  replace hC := Lib.hid (hC.out.below hb)
  replace hO := Lib.hid (hO.out.below hb)
  replace hV := Lib.hid (hV.out.below hb)
  replace hM := Lib.hid (hM.out.below hb)
  replace h5 := Lib.hid (h5.out.below hb)
  replace h7 := Lib.hid (h7.out.below hb)
  replace hB := Lib.hid (Lx.bstep hB.out (Nat.le_refl _) hb)
  clear hb
  go_wp2_with fail
  refine (CD.out _ hC.out).mono ?_
  rintro e wh ⟨⟨uh, rfl, hh⟩, hb⟩
  replace hh := Lib.hid hh
  replace hb : Below wg.heap.size wg wh := Lx.bstep (by repeat (first | exact Below.refl _ _ | exact Lx.Ext.below _ | refine Below.drew ?_ | refine below_drewN ?_ _ | (refine Below.alloc ?_ (by first | exact Nat.le_refl _ | (simp; done) | (simp; omega)) _) | (refine Below.setCell ?_ (by first | exact Nat.le_refl _ | (simp; done) | (simp; omega)) _))) (Nat.le_refl _) hb
  replace hC := Lib.hid (hC.out.below hb)
  replace hO := Lib.hid (hO.out.below hb)
  replace hV := Lib.hid (hV.out.below hb)
  replace hM := Lib.hid (hM.out.below hb)
  replace h5 := Lib.hid (h5.out.below hb)
  replace h7 := Lib.hid (h7.out.below hb)
  replace hg := Lib.hid (hg.out.below hb)
  replace hB := Lib.hid (Lx.bstep hB.out (Nat.le_refl _) hb)
  clear hb
  go_wp2_with fail
  refine (CE.out _ hV.out hC.out).mono ?_
  rintro e wi ⟨rfl, hb⟩
  replace hb : Below wh.heap.size wh wi := Lx.bstep (by repeat (first | exact Below.refl _ _ | exact Lx.Ext.below _ | refine Below.drew ?_ | refine below_drewN ?_ _ | (refine Below.alloc ?_ (by first | exact Nat.le_refl _ | (simp; done) | (simp; omega)) _) | (refine Below.setCell ?_ (by first | exact Nat.le_refl _ | (simp; done) | (simp; omega)) _))) (Nat.le_refl _) hb
  replace hC := Lib.hid (hC.out.below hb)
  replace hO := Lib.hid (hO.out.below hb)
  replace hV := Lib.hid (hV.out.below hb)
  replace hM := Lib.hid (hM.out.below hb)
  replace h5 := Lib.hid (h5.out.below hb)
  replace h7 := Lib.hid (h7.out.below hb)
  replace hg := Lib.hid (hg.out.below hb)
  replace hh := Lib.hid (hh.out.below hb)
  replace hB := Lib.hid (Lx.bstep hB.out (Nat.le_refl _) hb)
  clear hb
  go_wp2_with fail
  refine (CG.out _ _ _ h5.out hg.out).mono ?_
  rintro e wj ⟨rfl, hb⟩
  replace hb : Below wi.heap.size wi wj := Lx.bstep (by repeat (first | exact Below.refl _ _ | exact Lx.Ext.below _ | refine Below.drew ?_ | refine below_drewN ?_ _ | (refine Below.alloc ?_ (by first | exact Nat.le_refl _ | (simp; done) | (simp; omega)) _) | (refine Below.setCell ?_ (by first | exact Nat.le_refl _ | (simp; done) | (simp; omega)) _))) (Nat.le_refl _) hb
  replace hC := Lib.hid (hC.out.below hb)
  replace hO := Lib.hid (hO.out.below hb)
  replace hV := Lib.hid (hV.out.below hb)
  replace hM := Lib.hid (hM.out.below hb)
  replace h7 := Lib.hid (h7.out.below hb)
  replace hh := Lib.hid (hh.out.below hb)
  replace hB := Lib.hid (Lx.bstep hB.out (Nat.le_refl _) hb)
  clear hb
  go_wp2_with fail
  refine (CH.out _ _ _ h7.out hh.out).mono ?_
  rintro e wk ⟨rfl, hb⟩
  replace hb : Below wj.heap.size wj wk := Lx.bstep (by repeat (first | exact Below.refl _ _ | exact Lx.Ext.below _ | refine Below.drew ?_ | refine below_drewN ?_ _ | (refine Below.alloc ?_ (by first | exact Nat.le_refl _ | (simp; done) | (simp; omega)) _) | (refine Below.setCell ?_ (by first | exact Nat.le_refl _ | (simp; done) | (simp; omega)) _))) (Nat.le_refl _) hb
  replace hC := Lib.hid (hC.out.below hb)
  replace hO := Lib.hid (hO.out.below hb)
  replace hV := Lib.hid (hV.out.below hb)
  replace hM := Lib.hid (hM.out.below hb)
  replace hB := Lib.hid (Lx.bstep hB.out (Nat.le_refl _) hb)
  clear hb
  by_cases hlen : ms.length = conf.length
  · obtain ⟨rfl, hag⟩ := hx1.out hlen
    rw [hag] at CF
    have q7 : ((ms.length : Int) != (conf.length : Int)) = false := by simp; omega
    clear hlen hag
    replace hx1 := Lib.hid hx1
    go_wp2_with fail
    refine (CF.out _ hM.out hC.out).mono ?_
    rintro e wl ⟨rfl, hb⟩
    replace hb : Below wk.heap.size wk wl := Lx.bstep (by repeat (first | exact Below.refl _ _ | exact Lx.Ext.below _ | refine Below.drew ?_ | refine below_drewN ?_ _ | (refine Below.alloc ?_ (by first | exact Nat.le_refl _ | (simp; done) | (simp; omega)) _) | (refine Below.setCell ?_ (by first | exact Nat.le_refl _ | (simp; done) | (simp; omega)) _))) (Nat.le_refl _) hb
    replace hB := Lib.hid (Lx.bstep hB.out (Nat.le_refl _) hb)
    clear hb
    go_wp2_with fail
    refine (works24_calls _).mono ?_
    rintro e wg ⟨rfl, hb⟩
    replace hb : Below wl.heap.size wl wg := Lx.bstep (by repeat (first | exact Below.refl _ _ | exact Lx.Ext.below _ | refine Below.drew ?_ | refine below_drewN ?_ _ | (refine Below.alloc ?_ (by first | exact Nat.le_refl _ | (simp; done) | (simp; omega)) _) | (refine Below.setCell ?_ (by first | exact Nat.le_refl _ | (simp; done) | (simp; omega)) _))) (Nat.le_refl _) hb
    replace hB := Lib.hid (Lx.bstep hB.out (Nat.le_refl _) hb)
    clear hb
    go_wp2_with fail
    go_ret
    exact ⟨rfl, hB.out⟩
  · obtain ⟨rfl, rfl⟩ := hx2.out hlen
    have q7 : ((ms.length : Int) != (conf.length : Int)) = true := by simp; omega
    clear hlen
    go_wp2_with fail
    refine (works24_calls _).mono ?_
    rintro e wl ⟨rfl, hb⟩
    replace hb : Below wk.heap.size wk wl := Lx.bstep (by repeat (first | exact Below.refl _ _ | exact Lx.Ext.below _ | refine Below.drew ?_ | refine below_drewN ?_ _ | (refine Below.alloc ?_ (by first | exact Nat.le_refl _ | (simp; done) | (simp; omega)) _) | (refine Below.setCell ?_ (by first | exact Nat.le_refl _ | (simp; done) | (simp; omega)) _))) (Nat.le_refl _) hb
    replace hB := Lib.hid (Lx.bstep hB.out (Nat.le_refl _) hb)
    clear hb
    go_wp2_with fail
    go_ret
    exact ⟨rfl, hB.out⟩
theorem MemberTells_walk (v : Value) (conf : List Int) (u : Value) (other : List Int) (vv : Value) (votes : List Int) (n : Int) (mv : Value) (ms : List Int) (w : World) (hc : Nums .i64 w v conf) (ho : Nums .i64 w u other) (hv : Nums .i64 w vv votes) (hn : (Lit.int .i64 n).wf = true) (hm : Nums .u64 w mv ms) :
    Calls Try.prog 8 #[v, u, vv, .int .i64 n, mv] w fun e w' => e = .returned (.bool true) ∧ Below w.heap.size w w' := by
  by_cases hl : conf.length ≤ 100 ∧ other.length ≤ 100 ∧ votes.length ≤ 200 ∧ ms.length ≤ 100
  · cases hg : may conf with
    | true => exact tells_good v u vv mv conf other votes ms n w hc ho hv hn hm hl hg
    | false => exact tells_bad v u vv mv conf other votes ms n w hc ho hv hn hm hl hg
  · exact tells_big v u vv mv conf other votes ms n w hc ho hv hm hl
end Go.Proofs.Ytjjdfhokmiaekaa
