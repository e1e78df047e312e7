/-
  The walk of MemberMeet.
-/
import Derived.Test.YtjjdfhokmiaekaaMemTells
import Derived.Test.YtjjdfhokmiaekaaMemMath
import Derived.Deep.DeepCutAuto
namespace Go.Proofs.Ytjjdfhokmiaekaa
open Go.RowKit Go.Lst Go.Lx

set_option maxRecDepth 100000 in
set_option maxHeartbeats 2000000 in
theorem meet_big (v va vb : Value) (conf a b : List Int) (n : Int) (adds : Bool) (w : World) (hc : Nums .i64 w v conf) (ha : Nums .i64 w va a) (hb : Nums .i64 w vb b)
    (hl : ¬(conf.length ≤ 100 ∧ a.length ≤ 100 ∧ b.length ≤ 100)) :
    Calls Try.prog 9 #[v, .int .i64 n, .bool adds, va, vb] w fun e w' => e = .returned (.bool true) ∧ Below w.heap.size w w' := by
  obtain ⟨cp, cc, rfl, -⟩ := hc.parts
  obtain ⟨op, oc, rfl, -⟩ := ha.parts
  obtain ⟨vp, vc, rfl, -⟩ := hb.parts
  clear hc ha hb
  generalize conf.length = x at *
  generalize a.length = y at *
  generalize b.length = z at *
  have hcs : (100 < (x : Int)) ∨ (¬(100 < (x : Int)) ∧ 100 < (y : Int)) ∨ (¬(100 < (x : Int)) ∧ ¬(100 < (y : Int)) ∧ 100 < (z : Int)) := by omega
  clear hl
  go_enter Try.func9, Try.ntmps9
  rcases hcs with h | ⟨h1, h⟩ | ⟨h1, h2, h⟩
  all_goals
    go_wp2_with fail
    refine (works24_calls _).mono ?_
    rintro e w1 ⟨rfl, hb1⟩
    go_wp2_with fail
    go_ret
    exact ⟨rfl, hb1⟩

set_option maxRecDepth 100000 in
set_option maxHeartbeats 4000000 in
theorem meet_bad (v va vb : Value) (conf a b : List Int) (n : Int) (adds : Bool) (w : World) (hc : Nums .i64 w v conf) (ha : Nums .i64 w va a) (hb : Nums .i64 w vb b) (hn : (Lit.int .i64 n).wf = true)
    (hl : conf.length ≤ 100 ∧ a.length ≤ 100 ∧ b.length ≤ 100) (hbad : may conf = false) :
    Calls Try.prog 9 #[v, .int .i64 n, .bool adds, va, vb] w fun e w' => e = .returned (.bool true) ∧ Below w.heap.size w w' := by
  obtain ⟨cp, cc, rfl, -⟩ := hc.parts
  obtain ⟨op, oc, rfl, -⟩ := ha.parts
  obtain ⟨vp, vc, rfl, -⟩ := hb.parts
  obtain ⟨l1, l2, l3⟩ := hl
  have k1 : (conf.length : Int) ≤ 100 := by omega
  have k2 : (a.length : Int) ≤ 100 := by omega
  have k3 : (b.length : Int) ≤ 100 := by omega
  have C3 := Lib.hid (fun x W h => Add_calls x conf n W h hn)
  have C4 := Lib.hid (fun x W h => Remove_calls x conf n W h)
  have C7 := Lib.hid (fun W h => May_calls (.slice cp conf.length cc) conf W h)
  rw [show addE conf n = 2 by unfold addE; rw [if_pos (.inl hbad)]] at C3
  rw [show remE conf n = 2 by unfold remE; rw [if_pos hbad]] at C4
  rw [hbad] at C7
  have hC := Lib.hid hc
  have hB := Lib.hid (Below.refl w.heap.size w)
  replace l1 := Lib.hid l1
  replace l2 := Lib.hid l2
  replace l3 := Lib.hid l3
  replace hbad := Lib.hid hbad
  replace hn := Lib.hid hn
  clear hc ha hb
  go_enter Try.func9, Try.ntmps9
  go_wp2_with (at_builtin; refine wpList_copied rfl (.const (.slice none 0 0)) (.tmp 37) 33 rfl 3 .i64 8 Try.underlying33 infoInt rfl (.slice cp conf.length cc) conf rfl hC.out (by have := l1.out; omega) ?_; intro x4 w4 h4 hb; replace h4 := Lib.hid (Nums.own h4 hC.out.2); replace hb := Lib.hid hb)
  replace hb := hb.out
  replace hb : Below w.heap.size w w4 := Lx.bstep (by repeat (first | exact Below.refl _ _ | exact Lx.Ext.below _ | refine Below.drew ?_ | refine below_drewN ?_ _ | (refine Below.alloc ?_ (by first | exact Nat.le_refl _ | (simp; done) | (simp; omega)) _) | (refine Below.setCell ?_ (by first | exact Nat.le_refl _ | (simp; done) | (simp; omega)) _))) (Nat.le_refl _) hb
  replace hC := Lib.hid (hC.out.below hb)
  replace hB := Lib.hid (Lx.bstep hB.out (Nat.le_refl _) hb)
  clear hb
  refine (C3.out _ _ h4.out).mono ?_
  rintro e w5 ⟨⟨u5, rfl, -⟩, hb⟩
  replace hb : Below w4.heap.size w4 w5 := Lx.bstep (by repeat (first | exact Below.refl _ _ | exact Lx.Ext.below _ | refine Below.drew ?_ | refine below_drewN ?_ _ | (refine Below.alloc ?_ (by first | exact Nat.le_refl _ | (simp; done) | (simp; omega)) _) | (refine Below.setCell ?_ (by first | exact Nat.le_refl _ | (simp; done) | (simp; omega)) _))) (Nat.le_refl _) hb
  replace hC := Lib.hid (hC.out.below hb)
  replace h4 := Lib.hid (h4.out.below hb)
  replace hB := Lib.hid (Lx.bstep hB.out (Nat.le_refl _) hb)
  clear hb
  go_wp2_with fail
  refine (C4.out _ _ h4.out).mono ?_
  rintro e w7 ⟨⟨u7, rfl, -⟩, hb⟩
  replace hb : Below w5.heap.size w5 w7 := Lx.bstep (by repeat (first | exact Below.refl _ _ | exact Lx.Ext.below _ | refine Below.drew ?_ | refine below_drewN ?_ _ | (refine Below.alloc ?_ (by first | exact Nat.le_refl _ | (simp; done) | (simp; omega)) _) | (refine Below.setCell ?_ (by first | exact Nat.le_refl _ | (simp; done) | (simp; omega)) _))) (Nat.le_refl _) hb
  replace hC := Lib.hid (hC.out.below hb)
  replace hB := Lib.hid (Lx.bstep hB.out (Nat.le_refl _) hb)
  clear hb
  clear h4
  cases adds
  all_goals
    go_wp2_with fail
    refine (C7.out _ hC.out).mono ?_
    rintro e w8 ⟨rfl, hb⟩
    replace hb : Below w7.heap.size w7 w8 := Lx.bstep (by repeat (first | exact Below.refl _ _ | exact Lx.Ext.below _ | refine Below.drew ?_ | refine below_drewN ?_ _ | (refine Below.alloc ?_ (by first | exact Nat.le_refl _ | (simp; done) | (simp; omega)) _) | (refine Below.setCell ?_ (by first | exact Nat.le_refl _ | (simp; done) | (simp; omega)) _))) (Nat.le_refl _) hb
    replace hC := Lib.hid (hC.out.below hb)
    replace hB := Lib.hid (Lx.bstep hB.out (Nat.le_refl _) hb)
    clear hb
    go_wp2_with fail
    refine (C7.out _ hC.out).mono ?_
    rintro e w9 ⟨rfl, hb⟩
    replace hb : Below w8.heap.size w8 w9 := Lx.bstep (by repeat (first | exact Below.refl _ _ | exact Lx.Ext.below _ | refine Below.drew ?_ | refine below_drewN ?_ _ | (refine Below.alloc ?_ (by first | exact Nat.le_refl _ | (simp; done) | (simp; omega)) _) | (refine Below.setCell ?_ (by first | exact Nat.le_refl _ | (simp; done) | (simp; omega)) _))) (Nat.le_refl _) hb
    replace hC := Lib.hid (hC.out.below hb)
    replace hB := Lib.hid (Lx.bstep hB.out (Nat.le_refl _) hb)
    clear hb
    go_wp2_with fail
    refine (works24_calls _).mono ?_
    rintro e wg ⟨rfl, hb⟩
    replace hb : Below w9.heap.size w9 wg := Lx.bstep (by repeat (first | exact Below.refl _ _ | exact Lx.Ext.below _ | refine Below.drew ?_ | refine below_drewN ?_ _ | (refine Below.alloc ?_ (by first | exact Nat.le_refl _ | (simp; done) | (simp; omega)) _) | (refine Below.setCell ?_ (by first | exact Nat.le_refl _ | (simp; done) | (simp; omega)) _))) (Nat.le_refl _) hb
    replace hB := Lib.hid (Lx.bstep hB.out (Nat.le_refl _) hb)
    clear hb
    go_wp2_with fail
    go_ret
    exact ⟨rfl, hB.out⟩

def hit (conf L a b : List Int) (i k : Nat) : Prop := a.getD i 0 = b.getD k 0 ∧ a.getD i 0 ∈ conf ∧ a.getD i 0 ∈ L
theorem no_hit {conf L a b : List Int} (h : ∀ i, i < a.length → ∀ k, k < b.length → ¬ hit conf L a b i k) (hm : ∃ x ∈ a, x ∈ b ∧ x ∈ conf ∧ x ∈ L) : False := by
  obtain ⟨x, h1, h2, h3, h4⟩ := hm
  obtain ⟨i, hi, e1⟩ := List.mem_iff_getElem.1 h1
  obtain ⟨k, hk, e2⟩ := List.mem_iff_getElem.1 h2
  refine h i hi k hk ⟨?_, ?_, ?_⟩
  · rw [List.getD_eq_getElem?_getD, List.getElem?_eq_getElem hi, List.getD_eq_getElem?_getD, List.getElem?_eq_getElem hk]; simp [e1, e2]
  · rw [List.getD_eq_getElem?_getD, List.getElem?_eq_getElem hi]; simpa [e1] using h3
  · rw [List.getD_eq_getElem?_getD, List.getElem?_eq_getElem hi]; simpa [e1] using h4
theorem next_sel (conf : List Int) (n : Int) (adds : Bool) : (adds = true ∧ ((addE conf n : Nat) : Int) = 0 ∧ addL conf n = nextL conf n adds) ∨ (adds = true ∧ ((addE conf n : Nat) : Int) ≠ 0 ∧ conf = nextL conf n adds) ∨
    (adds = false ∧ ((remE conf n : Nat) : Int) = 0 ∧ remL conf n = nextL conf n adds) ∨ (adds = false ∧ ((remE conf n : Nat) : Int) ≠ 0 ∧ conf = nextL conf n adds) := by
  cases adds with
  | true =>
    by_cases h : addE conf n = 0
    · exact .inl ⟨rfl, by omega, by unfold nextL nextE; simp [h]⟩
    · exact .inr (.inl ⟨rfl, by omega, by unfold nextL nextE; simp [h]⟩)
  | false =>
    by_cases h : remE conf n = 0
    · exact .inr (.inr (.inl ⟨rfl, by omega, by unfold nextL nextE; simp [h]⟩))
    · exact .inr (.inr (.inr ⟨rfl, by omega, by unfold nextL nextE; simp [h]⟩))

set_option maxRecDepth 100000 in
set_option maxHeartbeats 8000000 in
theorem meet_good (v va vb : Value) (conf a b : List Int) (n : Int) (adds : Bool) (w : World) (hc : Nums .i64 w v conf) (ha : Nums .i64 w va a) (hb : Nums .i64 w vb b) (hn : (Lit.int .i64 n).wf = true)
    (hl : conf.length ≤ 100 ∧ a.length ≤ 100 ∧ b.length ≤ 100) (hgd : may conf = true) :
    Calls Try.prog 9 #[v, .int .i64 n, .bool adds, va, vb] w fun e w' => e = .returned (.bool true) ∧ Below w.heap.size w w' := by
  obtain ⟨cp, cc, rfl, -⟩ := hc.parts
  obtain ⟨op, oc, rfl, o1, o2, -⟩ := ha.parts
  obtain ⟨vp, vc, rfl, p1, p2, -⟩ := hb.parts
  obtain ⟨l1, l2, l3⟩ := hl
  have hsel := next_sel conf n adds
  have nm := next_may (n := n) (adds := adds) hgd
  have hmeet := next_meet (conf := conf) (a := a) (b := b) (n := n) (adds := adds)
  have hnz : ∀ e : Int, e ≠ 0 → (e != 0) = true := fun e h => by simpa using h
  have k1 : (conf.length : Int) ≤ 100 := by omega
  have k2 : (a.length : Int) ≤ 100 := by omega
  have k3 : (b.length : Int) ≤ 100 := by omega
  have C3 := Lib.hid (fun x W h => Add_calls x conf n W h hn)
  have C4 := Lib.hid (fun x W h => Remove_calls x conf n W h)
  have C7 := Lib.hid (fun W h => May_calls (.slice cp conf.length cc) conf W h)
  rw [hgd] at C7
  have D1 := Lib.hid (fun x W h => May_calls x (nextL conf n adds) W h)
  have D2 := Lib.hid (fun x W h h' => Near_calls (.slice cp conf.length cc) x conf (nextL conf n adds) W h h')
  have D3 := Lib.hid (fun x W h h' => Near_calls x (.slice cp conf.length cc) (nextL conf n adds) conf W h h')
  have D4 := Lib.hid (fun x W h h' => Quorum_calls x (.slice cp conf.length cc) a conf W h h' hgd)
  have D5 := Lib.hid (fun x y W h h' => Quorum_calls x y b (nextL conf n adds) W h h' nm.1)
  have D6 := Lib.hid (fun x W h => Has_calls (.slice cp conf.length cc) conf x W h)
  have D7 := Lib.hid (fun y x W h => Has_calls y (nextL conf n adds) x W h)
  rw [nm.1] at D1
  rw [nm.2.1] at D2
  rw [nm.2.2] at D3
  clear nm
  generalize nextL conf n adds = L at *
  generalize ((addE conf n : Nat) : Int) = EA at *
  generalize ((remE conf n : Nat) : Int) = ER at *
  generalize hLA : addL conf n = LA at *
  generalize hLR : remL conf n = LR at *
  clear hLA hLR
  generalize quorum a conf = P at *
  generalize quorum b L = Q at *
  have hC := Lib.hid hc; have hA := Lib.hid ha; have hV := Lib.hid hb
  have hB := Lib.hid (Below.refl w.heap.size w)
  replace l1 := Lib.hid l1
  replace l2 := Lib.hid l2
  replace l3 := Lib.hid l3
  replace hgd := Lib.hid hgd
  replace hn := Lib.hid hn
  replace hmeet := Lib.hid hmeet
  replace hsel := Lib.hid hsel
  replace hnz := Lib.hid hnz
  replace o1 := Lib.hid o1
  replace o2 := Lib.hid o2
  replace p1 := Lib.hid p1
  replace p2 := Lib.hid p2
  clear hc ha hb
  go_enter Try.func9, Try.ntmps9
  go_wp2_with (at_builtin; refine wpList_copied rfl (.const (.slice none 0 0)) (.tmp 37) 33 rfl 3 .i64 8 Try.underlying33 infoInt rfl (.slice cp conf.length cc) conf rfl hC.out (by have := l1.out; omega) ?_; intro x4 w4 h4 hb; replace h4 := Lib.hid (Nums.own h4 hC.out.2); replace hb := Lib.hid hb)
  replace hb := hb.out
  replace hb : Below w.heap.size w w4 := Lx.bstep (by repeat (first | exact Below.refl _ _ | exact Lx.Ext.below _ | refine Below.drew ?_ | refine below_drewN ?_ _ | (refine Below.alloc ?_ (by first | exact Nat.le_refl _ | (simp; done) | (simp; omega)) _) | (refine Below.setCell ?_ (by first | exact Nat.le_refl _ | (simp; done) | (simp; omega)) _))) (Nat.le_refl _) hb
  replace hC := Lib.hid (hC.out.below hb)
  replace hA := Lib.hid (hA.out.below hb)
  replace hV := Lib.hid (hV.out.below hb)
  replace hB := Lib.hid (Lx.bstep hB.out (Nat.le_refl _) hb)
  clear hb
  refine (C3.out _ _ h4.out).mono ?_
  rintro e w5 ⟨⟨u5, rfl, h5⟩, hb⟩
  replace h5 := Lib.hid h5
  replace hb : Below w4.heap.size w4 w5 := Lx.bstep (by repeat (first | exact Below.refl _ _ | exact Lx.Ext.below _ | refine Below.drew ?_ | refine below_drewN ?_ _ | (refine Below.alloc ?_ (by first | exact Nat.le_refl _ | (simp; done) | (simp; omega)) _) | (refine Below.setCell ?_ (by first | exact Nat.le_refl _ | (simp; done) | (simp; omega)) _))) (Nat.le_refl _) hb
  replace hC := Lib.hid (hC.out.below hb)
  replace hA := Lib.hid (hA.out.below hb)
  replace hV := Lib.hid (hV.out.below hb)
  replace h4 := Lib.hid (h4.out.below hb)
  replace hB := Lib.hid (Lx.bstep hB.out (Nat.le_refl _) hb)
  clear hb
  go_wp2_with fail
  refine (C4.out _ _ h4.out).mono ?_
  rintro e w7 ⟨⟨u7, rfl, h7⟩, hb⟩
  replace h7 := Lib.hid h7
  replace hb : Below w5.heap.size w5 w7 := Lx.bstep (by repeat (first | exact Below.refl _ _ | exact Lx.Ext.below _ | refine Below.drew ?_ | refine below_drewN ?_ _ | (refine Below.alloc ?_ (by first | exact Nat.le_refl _ | (simp; done) | (simp; omega)) _) | (refine Below.setCell ?_ (by first | exact Nat.le_refl _ | (simp; done) | (simp; omega)) _))) (Nat.le_refl _) hb
  replace hC := Lib.hid (hC.out.below hb)
  replace hA := Lib.hid (hA.out.below hb)
  replace hV := Lib.hid (hV.out.below hb)
  replace h5 := Lib.hid (h5.out.below hb)
  replace hB := Lib.hid (Lx.bstep hB.out (Nat.le_refl _) hb)
  clear hb
  clear h4
  have hr1 : adds = true → (EA = 0 → Nums .i64 w7 u5 L) ∧ (EA ≠ 0 → conf = L) := fun ha => by
    rcases hsel.out with ⟨_, h0, hL⟩ | ⟨_, h0, hL⟩ | ⟨h, _⟩ | ⟨h, _⟩
    · exact ⟨fun _ => by rw [← hL]; exact h5.out, fun h => absurd h0 h⟩
    · exact ⟨fun h => absurd h h0, fun _ => hL⟩
    · rw [ha] at h; cases h
    · rw [ha] at h; cases h
  have hr2 : adds = false → (ER = 0 → Nums .i64 w7 u7 L) ∧ (ER ≠ 0 → conf = L) := fun ha => by
    rcases hsel.out with ⟨h, _⟩ | ⟨h, _⟩ | ⟨_, h0, hL⟩ | ⟨_, h0, hL⟩
    · rw [ha] at h; cases h
    · rw [ha] at h; cases h
    · exact ⟨fun _ => by rw [← hL]; exact h7.out, fun h => absurd h0 h⟩
    · exact ⟨fun h => absurd h h0, fun _ => hL⟩
  replace hr1 := Lib.hid hr1
  replace hr2 := Lib.hid hr2
  clear hsel h5 h7
  go_upto_if 51 with (fail)
  go_cut [11, 12] (fun v11 v12 wx => wx = w7 ∧ ∃ E : Int, v12 = .int .i64 E ∧ (E = 0 → Nums .i64 w7 v11 L) ∧ (E ≠ 0 → conf = L))
  case first =>
    cases adds with
    | true =>
      replace hr1 := Lib.hid (hr1.out rfl)
      go_wp2_with fail
      go_meet
      exact ⟨rfl, _, rfl, hr1.out⟩
    | false =>
      replace hr2 := Lib.hid (hr2.out rfl)
      go_wp2_with fail
      go_meet
      exact ⟨rfl, _, rfl, hr2.out⟩
  case rest =>
  obtain ⟨rfl, E, rfl, hE1, hE2⟩ := hcut
  clear hr1 hr2
  replace hE1 := Lib.hid hE1
  replace hE2 := Lib.hid hE2
  go_upto_if 57 with (fail)
  go_cut [11] (fun v11 wx => wx = wc ∧ Nums .i64 wc v11 L)
  case first =>
    by_cases h0 : E = 0
    · have hX := Lib.hid (hE1.out h0)
      subst h0
      go_wp2_with fail
      go_meet
      exact ⟨rfl, hX.out⟩
    · have hX : Nums .i64 wc (.slice cp conf.length cc) L := by rw [← hE2.out h0]; exact hC.out
      replace hX := Lib.hid hX
      replace h0 := hnz.out _ h0
      go_wp2_with fail
      go_meet
      exact ⟨rfl, hX.out⟩
  case rest =>
  obtain ⟨rfl, hX⟩ := hcut
  clear hE1 hE2
  replace hX := Lib.hid hX
  go_wp2_with fail
  refine (C7.out _ hC.out).mono ?_
  rintro e w8 ⟨rfl, hb⟩
  replace hb : Below wc.heap.size wc w8 := Lx.bstep (by repeat (first | exact Below.refl _ _ | exact Lx.Ext.below _ | refine Below.drew ?_ | refine below_drewN ?_ _ | (refine Below.alloc ?_ (by first | exact Nat.le_refl _ | (simp; done) | (simp; omega)) _) | (refine Below.setCell ?_ (by first | exact Nat.le_refl _ | (simp; done) | (simp; omega)) _))) (Nat.le_refl _) hb
  replace hC := Lib.hid (hC.out.below hb)
  replace hA := Lib.hid (hA.out.below hb)
  replace hV := Lib.hid (hV.out.below hb)
  replace hX := Lib.hid (hX.out.below hb)
  replace hB := Lib.hid (Lx.bstep hB.out (Nat.le_refl _) hb)
  clear hb
  go_wp2_with fail
  refine (D1.out _ _ hX.out).mono ?_
  rintro e w9 ⟨rfl, hb⟩
  replace hb : Below w8.heap.size w8 w9 := Lx.bstep (by repeat (first | exact Below.refl _ _ | exact Lx.Ext.below _ | refine Below.drew ?_ | refine below_drewN ?_ _ | (refine Below.alloc ?_ (by first | exact Nat.le_refl _ | (simp; done) | (simp; omega)) _) | (refine Below.setCell ?_ (by first | exact Nat.le_refl _ | (simp; done) | (simp; omega)) _))) (Nat.le_refl _) hb
  replace hC := Lib.hid (hC.out.below hb)
  replace hA := Lib.hid (hA.out.below hb)
  replace hV := Lib.hid (hV.out.below hb)
  replace hX := Lib.hid (hX.out.below hb)
  replace hB := Lib.hid (Lx.bstep hB.out (Nat.le_refl _) hb)
  clear hb
  go_wp2_with fail
  refine (D2.out _ _ hC.out hX.out).mono ?_
  rintro e wa ⟨rfl, hb⟩
  replace hb : Below w9.heap.size w9 wa := Lx.bstep (by repeat (first | exact Below.refl _ _ | exact Lx.Ext.below _ | refine Below.drew ?_ | refine below_drewN ?_ _ | (refine Below.alloc ?_ (by first | exact Nat.le_refl _ | (simp; done) | (simp; omega)) _) | (refine Below.setCell ?_ (by first | exact Nat.le_refl _ | (simp; done) | (simp; omega)) _))) (Nat.le_refl _) hb
  replace hC := Lib.hid (hC.out.below hb)
  replace hA := Lib.hid (hA.out.below hb)
  replace hV := Lib.hid (hV.out.below hb)
  replace hX := Lib.hid (hX.out.below hb)
  replace hB := Lib.hid (Lx.bstep hB.out (Nat.le_refl _) hb)
  clear hb
  go_wp2_with fail
  refine (D3.out _ _ hX.out hC.out).mono ?_
  rintro e wb ⟨rfl, hb⟩
  replace hb : Below wa.heap.size wa wb := Lx.bstep (by repeat (first | exact Below.refl _ _ | exact Lx.Ext.below _ | refine Below.drew ?_ | refine below_drewN ?_ _ | (refine Below.alloc ?_ (by first | exact Nat.le_refl _ | (simp; done) | (simp; omega)) _) | (refine Below.setCell ?_ (by first | exact Nat.le_refl _ | (simp; done) | (simp; omega)) _))) (Nat.le_refl _) hb
  replace hC := Lib.hid (hC.out.below hb)
  replace hA := Lib.hid (hA.out.below hb)
  replace hV := Lib.hid (hV.out.below hb)
  replace hX := Lib.hid (hX.out.below hb)
  replace hB := Lib.hid (Lx.bstep hB.out (Nat.le_refl _) hb)
  clear hb
  go_wp2_with (at_builtin; refine wpList_copied rfl (.const (.slice none 0 0)) (.tmp 88) 33 rfl 3 .i64 8 Try.underlying33 infoInt rfl (.slice op a.length oc) a rfl hA.out (by have := l2.out; omega) ?_; intro xc wc hxc hb; replace hxc := Lib.hid (Nums.own hxc hA.out.2); replace hb := Lib.hid hb)
  replace hb := hb.out
  replace hb : Below wb.heap.size wb wc := Lx.bstep (by repeat (first | exact Below.refl _ _ | exact Lx.Ext.below _ | refine Below.drew ?_ | refine below_drewN ?_ _ | (refine Below.alloc ?_ (by first | exact Nat.le_refl _ | (simp; done) | (simp; omega)) _) | (refine Below.setCell ?_ (by first | exact Nat.le_refl _ | (simp; done) | (simp; omega)) _))) (Nat.le_refl _) hb
  replace hC := Lib.hid (hC.out.below hb)
  replace hA := Lib.hid (hA.out.below hb)
  replace hV := Lib.hid (hV.out.below hb)
  replace hX := Lib.hid (hX.out.below hb)
  replace hB := Lib.hid (Lx.bstep hB.out (Nat.le_refl _) hb)
  clear hb
  refine (D4.out _ _ hxc.out hC.out).mono ?_
  rintro e wd ⟨rfl, hb⟩
  replace hb : Below wc.heap.size wc wd := Lx.bstep (by repeat (first | exact Below.refl _ _ | exact Lx.Ext.below _ | refine Below.drew ?_ | refine below_drewN ?_ _ | (refine Below.alloc ?_ (by first | exact Nat.le_refl _ | (simp; done) | (simp; omega)) _) | (refine Below.setCell ?_ (by first | exact Nat.le_refl _ | (simp; done) | (simp; omega)) _))) (Nat.le_refl _) hb
  replace hC := Lib.hid (hC.out.below hb)
  replace hA := Lib.hid (hA.out.below hb)
  replace hV := Lib.hid (hV.out.below hb)
  replace hX := Lib.hid (hX.out.below hb)
  replace hB := Lib.hid (Lx.bstep hB.out (Nat.le_refl _) hb)
  clear hb
  clear hxc
  go_wp2_with (at_builtin; refine wpList_copied rfl (.const (.slice none 0 0)) (.tmp 95) 33 rfl 3 .i64 8 Try.underlying33 infoInt rfl (.slice vp b.length vc) b rfl hV.out (by have := l3.out; omega) ?_; intro xe we hxe hb; replace hxe := Lib.hid (Nums.own hxe hV.out.2); replace hb := Lib.hid hb)
  replace hb := hb.out
  replace hb : Below wd.heap.size wd we := Lx.bstep (by repeat (first | exact Below.refl _ _ | exact Lx.Ext.below _ | refine Below.drew ?_ | refine below_drewN ?_ _ | (refine Below.alloc ?_ (by first | exact Nat.le_refl _ | (simp; done) | (simp; omega)) _) | (refine Below.setCell ?_ (by first | exact Nat.le_refl _ | (simp; done) | (simp; omega)) _))) (Nat.le_refl _) hb
  replace hC := Lib.hid (hC.out.below hb)
  replace hA := Lib.hid (hA.out.below hb)
  replace hV := Lib.hid (hV.out.below hb)
  replace hX := Lib.hid (hX.out.below hb)
  replace hB := Lib.hid (Lx.bstep hB.out (Nat.le_refl _) hb)
  clear hb
  refine (D5.out _ _ _ hxe.out hX.out).mono ?_
  rintro e wf ⟨rfl, hb⟩
  replace hb : Below we.heap.size we wf := Lx.bstep (by repeat (first | exact Below.refl _ _ | exact Lx.Ext.below _ | refine Below.drew ?_ | refine below_drewN ?_ _ | (refine Below.alloc ?_ (by first | exact Nat.le_refl _ | (simp; done) | (simp; omega)) _) | (refine Below.setCell ?_ (by first | exact Nat.le_refl _ | (simp; done) | (simp; omega)) _))) (Nat.le_refl _) hb
  replace hC := Lib.hid (hC.out.below hb)
  replace hA := Lib.hid (hA.out.below hb)
  replace hV := Lib.hid (hV.out.below hb)
  replace hX := Lib.hid (hX.out.below hb)
  replace hB := Lib.hid (Lx.bstep hB.out (Nat.le_refl _) hb)
  clear hb
  clear hxe
  cases P with
  | false =>
    go_wp2_with fail
    refine (works24_calls _).mono ?_
    rintro e wE ⟨rfl, hb⟩
    replace hb : Below wf.heap.size wf wE := Lx.bstep (by repeat (first | exact Below.refl _ _ | exact Lx.Ext.below _ | refine Below.drew ?_ | refine below_drewN ?_ _ | (refine Below.alloc ?_ (by first | exact Nat.le_refl _ | (simp; done) | (simp; omega)) _) | (refine Below.setCell ?_ (by first | exact Nat.le_refl _ | (simp; done) | (simp; omega)) _))) (Nat.le_refl _) hb
    replace hB := Lib.hid (Lx.bstep hB.out (Nat.le_refl _) hb)
    clear hb
    go_wp2_with fail
    go_ret
    exact ⟨rfl, hB.out⟩
  | true =>
  cases Q with
  | false =>
    go_wp2_with fail
    refine (works24_calls _).mono ?_
    rintro e wE ⟨rfl, hb⟩
    replace hb : Below wf.heap.size wf wE := Lx.bstep (by repeat (first | exact Below.refl _ _ | exact Lx.Ext.below _ | refine Below.drew ?_ | refine below_drewN ?_ _ | (refine Below.alloc ?_ (by first | exact Nat.le_refl _ | (simp; done) | (simp; omega)) _) | (refine Below.setCell ?_ (by first | exact Nat.le_refl _ | (simp; done) | (simp; omega)) _))) (Nat.le_refl _) hb
    replace hB := Lib.hid (Lx.bstep hB.out (Nat.le_refl _) hb)
    clear hb
    go_wp2_with fail
    go_ret
    exact ⟨rfl, hB.out⟩
  | true =>
  replace hmeet := Lib.hid (hmeet.out rfl rfl)
  clear C3 C4 C7 D1 D2 D3 D4 D5
  obtain ⟨_, _, e1, -, -, hcell⟩ := hA.out.parts
  injection e1 with e1 _ e2
  subst e1 e2
  obtain ⟨_, _, e1, -, -, hdell⟩ := hV.out.parts
  injection e1 with e1 _ e2
  subst e1 e2
  replace hcell := Lib.hid hcell
  replace hdell := Lib.hid hdell
  go_wp2_with fail
  go_loopg [21] (a.length + 1) (fun k v21 wr => ∃ i : Nat, v21 = .int .i64 (i : Int) ∧ i ≤ a.length ∧ a.length < i + k ∧ (∀ i', i' < i → ∀ k', k' < b.length → ¬ hit conf L a b i' k') ∧ Below wf.heap.size wf wr)
  case atStart => exact ⟨0, rfl, by omega, by omega, fun i hi => by omega, Below.refl _ _⟩
  case round =>
    obtain ⟨i, rfl, hile, hfuel, hno, hb⟩ := hrel
    cases gk with
    | zero => omega
    | succ k =>
      by_cases hlt : i < a.length
      · have hlt1 : (i : Int) < (a.length : Int) := by omega
        have h0i : (0 : Int) ≤ (i : Int) := by omega
        obtain ⟨ad, rfl, hcA0⟩ := hcell.out i hlt
        replace hcA0 := Lib.hid hcA0
        replace hno := Lib.hid hno
        replace hb := Lib.hid hb
        go_wp2_with fail
        go_loopg [22] (b.length + 1) (fun k v22 wr2 => ∃ j : Nat, v22 = .int .i64 (j : Int) ∧ j ≤ b.length ∧ b.length < j + k ∧ (∀ k', k' < j → ¬ hit conf L a b i k') ∧ Below wf.heap.size wf wr2)
        case atStart => exact ⟨0, rfl, by omega, by omega, fun i hi => by omega, hb.out⟩
        case round =>
          have hfu := hfuel
          clear hb hfuel
          obtain ⟨j, rfl, hjle, hfuel, hno2, hb⟩ := hrel
          cases gk with
          | zero => omega
          | succ k2 =>
            by_cases hlt2 : j < b.length
            · have hlt3 : (j : Int) < (b.length : Int) := by omega
              have h0j : (0 : Int) ≤ (j : Int) := by omega
              obtain ⟨bd, rfl, hcB0⟩ := hdell.out j hlt2
              have hcA1 := (cell_below hb hcA0.out).trans hcA0.out
              have hcB1 := (cell_below hb hcB0).trans hcB0
              have ga := fun x : Ext wr => (cell_below x.below hcA1).trans hcA1
              have gb := fun x : Ext wr => (cell_below x.below hcB1).trans hcB1
              have hh := Lib.hid (show hit conf L a b i j ↔ a.getD i 0 = b.getD j 0 ∧ a.getD i 0 ∈ conf ∧ a.getD i 0 ∈ L from Iff.rfl)
              generalize a.getD i 0 = A at *
              generalize b.getD j 0 = C at *
              have nC := Lib.hid (hC.out.below hb)
              have nX := Lib.hid (hX.out.below hb)
              have H1 := Lib.hid (fun x : Ext wr => D6.out A _ (nC.out.below x.below))
              have H2 := Lib.hid (fun x : Ext wr => D7.out _ A _ (nX.out.below x.below))
              replace hno2 := Lib.hid hno2
              replace hb := Lib.hid hb
              replace hcB0 := Lib.hid hcB0
              replace hcA1 := Lib.hid hcA1
              replace hcB1 := Lib.hid hcB1
              by_cases hAC : A = C
              case neg =>
                have r1 : (A == C) = false := by simpa using hAC
                have hnh := Lib.hid (fun h => hAC (hh.out.1 h).1 : ¬ hit conf L a b i j)
                replace hAC := Lib.hid hAC
                go_wp2_with fail
                refine Lx.wp_region_chain_lit (fun w' => ∃ x : Lx.Ext wr, w' = x.wo) (fun b => wr.heap.size ≤ b) [15, 23] [] (fun _ => True) (by kernel_rfl) (by kernel_rfl) (by kernel_rfl) (by kernel_rfl) Lx.ext_drew trivial ?_
                repeat (refine Lx.wpCh_one (by rfl) (by rfl) ?_; go_big_quiet_step (fail); refine wpQuiet_nil ?_)
                refine Lx.wpCh_skipp Lx.ext_ne (by rfl) ?_
                go_big_quiet_step (fail)
                refine wpQuiet_nil ?_
                repeat (refine Lx.wpCh_one (by rfl) (by rfl) ?_; go_big_quiet_step (fail); refine wpQuiet_nil ?_)
                refine Lx.wpCh_skipp Lx.ext_ne (by rfl) ?_
                go_big_quiet_step (fail)
                refine wpQuiet_nil ?_
                repeat (refine Lx.wpCh_one (by rfl) (by rfl) ?_; go_big_quiet_step (fail); refine wpQuiet_nil ?_)
                refine Lx.wpCh_nil ?_
                intro w1 hx _
                obtain ⟨x, rfl⟩ := hx
                replace hb := Lib.hid (Lx.bstep hb.out (Nat.le_refl _) x.below)
                clear ga gb H1 H2 nC nX hcA1 hcB1
                generalize x.wo = w1 at *
                go_wp2_with fail
                go_roundg k2
                case measure => omega
                case rel => exact ⟨j + 1, by first | rfl | go_num, by omega, by omega, fun k' hk' => by
                  by_cases e : k' = j
                  · subst e; exact hnh.out
                  · exact hno2.out k' (by omega), hb.out⟩
              case pos =>
              subst hAC
              have r1 : (A == A) = true := by simp
              by_cases hin1 : A ∈ conf
              case neg =>
                have hnh := Lib.hid (fun h => hin1 (hh.out.1 h).2.1 : ¬ hit conf L a b i j)
                rw [decide_eq_false hin1] at H1
                replace hin1 := Lib.hid hin1
                go_wp2_with fail
                refine Lx.wp_region_chain_lit (fun w' => ∃ x : Lx.Ext wr, w' = x.wo) (fun b => wr.heap.size ≤ b) [15, 23] [] (fun _ => True) (by kernel_rfl) (by kernel_rfl) (by kernel_rfl) (by kernel_rfl) Lx.ext_drew trivial ?_
                repeat (refine Lx.wpCh_one (by rfl) (by rfl) ?_; go_big_quiet_step (fail); refine wpQuiet_nil ?_)
                refine Lx.wpCh_extp (.bool false) (by rfl) (by rfl) (fun x R hR => ?_) ?_
                · go_simp
                  refine (H1.out x).mono ?_
                  rintro e w'' ⟨rfl, hb⟩
                  exact ⟨_, rfl, hR _ hb⟩
                go_big_quiet_step (fail)
                refine wpQuiet_nil ?_
                repeat (refine Lx.wpCh_one (by rfl) (by rfl) ?_; go_big_quiet_step (fail); refine wpQuiet_nil ?_)
                refine Lx.wpCh_skipp Lx.ext_ne (by rfl) ?_
                go_big_quiet_step (fail)
                refine wpQuiet_nil ?_
                repeat (refine Lx.wpCh_one (by rfl) (by rfl) ?_; go_big_quiet_step (fail); refine wpQuiet_nil ?_)
                refine Lx.wpCh_nil ?_
                intro w1 hx _
                obtain ⟨x, rfl⟩ := hx
                replace hb := Lib.hid (Lx.bstep hb.out (Nat.le_refl _) x.below)
                clear ga gb H1 H2 nC nX hcA1 hcB1
                generalize x.wo = w1 at *
                go_wp2_with fail
                go_roundg k2
                case measure => omega
                case rel => exact ⟨j + 1, by first | rfl | go_num, by omega, by omega, fun k' hk' => by
                  by_cases e : k' = j
                  · subst e; exact hnh.out
                  · exact hno2.out k' (by omega), hb.out⟩
              case pos =>
              rw [decide_eq_true hin1] at H1
              by_cases hin2 : A ∈ L
              case neg =>
                have hnh := Lib.hid (fun h => hin2 (hh.out.1 h).2.2 : ¬ hit conf L a b i j)
                rw [decide_eq_false hin2] at H2
                replace hin2 := Lib.hid hin2
                replace hin1 := Lib.hid hin1
                go_wp2_with fail
                refine Lx.wp_region_chain_lit (fun w' => ∃ x : Lx.Ext wr, w' = x.wo) (fun b => wr.heap.size ≤ b) [15, 23] [] (fun _ => True) (by kernel_rfl) (by kernel_rfl) (by kernel_rfl) (by kernel_rfl) Lx.ext_drew trivial ?_
                repeat (refine Lx.wpCh_one (by rfl) (by rfl) ?_; go_big_quiet_step (fail); refine wpQuiet_nil ?_)
                refine Lx.wpCh_extp (.bool true) (by rfl) (by rfl) (fun x R hR => ?_) ?_
                · go_simp
                  refine (H1.out x).mono ?_
                  rintro e w'' ⟨rfl, hb⟩
                  exact ⟨_, rfl, hR _ hb⟩
                go_big_quiet_step (fail)
                refine wpQuiet_nil ?_
                repeat (refine Lx.wpCh_one (by rfl) (by rfl) ?_; go_big_quiet_step (fail); refine wpQuiet_nil ?_)
                refine Lx.wpCh_extp (.bool false) (by rfl) (by rfl) (fun x R hR => ?_) ?_
                · go_simp
                  refine (H2.out x).mono ?_
                  rintro e w'' ⟨rfl, hb⟩
                  exact ⟨_, rfl, hR _ hb⟩
                go_big_quiet_step (fail)
                refine wpQuiet_nil ?_
                repeat (refine Lx.wpCh_one (by rfl) (by rfl) ?_; go_big_quiet_step (fail); refine wpQuiet_nil ?_)
                refine Lx.wpCh_nil ?_
                intro w1 hx _
                obtain ⟨x, rfl⟩ := hx
                replace hb := Lib.hid (Lx.bstep hb.out (Nat.le_refl _) x.below)
                clear ga gb H1 H2 nC nX hcA1 hcB1
                generalize x.wo = w1 at *
                go_wp2_with fail
                go_roundg k2
                case measure => omega
                case rel => exact ⟨j + 1, by first | rfl | go_num, by omega, by omega, fun k' hk' => by
                  by_cases e : k' = j
                  · subst e; exact hnh.out
                  · exact hno2.out k' (by omega), hb.out⟩
              case pos =>
              rw [decide_eq_true hin2] at H2
              clear hin1 hin2
              go_wp2_with fail
              refine Lx.wp_region_chain_lit (fun w' => ∃ x : Lx.Ext wr, w' = x.wo) (fun b => wr.heap.size ≤ b) [15, 23] [] (fun _ => True) (by kernel_rfl) (by kernel_rfl) (by kernel_rfl) (by kernel_rfl) Lx.ext_drew trivial ?_
              repeat (refine Lx.wpCh_one (by rfl) (by rfl) ?_; go_big_quiet_step (fail); refine wpQuiet_nil ?_)
              refine Lx.wpCh_extp (.bool true) (by rfl) (by rfl) (fun x R hR => ?_) ?_
              · go_simp
                refine (H1.out x).mono ?_
                rintro e w'' ⟨rfl, hb⟩
                exact ⟨_, rfl, hR _ hb⟩
              go_big_quiet_step (fail)
              refine wpQuiet_nil ?_
              repeat (refine Lx.wpCh_one (by rfl) (by rfl) ?_; go_big_quiet_step (fail); refine wpQuiet_nil ?_)
              refine Lx.wpCh_extp (.bool true) (by rfl) (by rfl) (fun x R hR => ?_) ?_
              · go_simp
                refine (H2.out x).mono ?_
                rintro e w'' ⟨rfl, hb⟩
                exact ⟨_, rfl, hR _ hb⟩
              go_big_quiet_step (fail)
              refine wpQuiet_nil ?_
              repeat (refine Lx.wpCh_one (by rfl) (by rfl) ?_; go_big_quiet_step (fail); refine wpQuiet_nil ?_)
              refine Lx.wpCh_nil ?_
              intro w1 hx _
              obtain ⟨x, rfl⟩ := hx
              replace hb := Lib.hid (Lx.bstep hb.out (Nat.le_refl _) x.below)
              replace hB := Lib.hid (Lx.bstep hB.out (Nat.le_refl _) hb.out)
              clear ga gb H1 H2 nC nX hcA1 hcB1
              generalize x.wo = w1 at *
              go_wp2_with fail
              refine (works24_calls _).mono ?_
              rintro e wE ⟨rfl, hb9⟩
              replace hb9 : Below w1.heap.size w1 wE := Lx.bstep (by repeat (first | exact Below.refl _ _ | exact Lx.Ext.below _ | refine Below.drew ?_ | refine below_drewN ?_ _ | (refine Below.alloc ?_ (by first | exact Nat.le_refl _ | (simp; done) | (simp; omega)) _) | (refine Below.setCell ?_ (by first | exact Nat.le_refl _ | (simp; done) | (simp; omega)) _))) (Nat.le_refl _) hb9
              replace hB := Lib.hid (Lx.bstep hB.out (Nat.le_refl _) hb9)
              clear hb9
              go_wp2_with fail
              go_ret
              exact ⟨rfl, hB.out⟩
            · have hd : decide ((j : Int) < (b.length : Int)) = false := by simp; omega
              replace hno2 := Lib.hid hno2
              replace hb := Lib.hid hb
              go_wp2_with fail
              go_roundg k
              case measure => omega
              case rel => exact ⟨i + 1, by first | rfl | go_num, by omega, by omega, fun i' hi' k' hk' => by
                by_cases e : i' = i
                · subst e; exact hno2.out k' (by omega)
                · exact hno.out i' (by omega) k' hk', hb.out⟩
      · exact (no_hit (fun i' hi' k' hk' => hno i' (by omega) k' hk') hmeet.out).elim
theorem MemberMeet_walk (v : Value) (conf : List Int) (n : Int) (adds : Bool) (va : Value) (a : List Int) (vb : Value) (b : List Int) (w : World) (hc : Nums .i64 w v conf) (hn : (Lit.int .i64 n).wf = true) (ha : Nums .i64 w va a) (hb : Nums .i64 w vb b) :
    Calls Try.prog 9 #[v, .int .i64 n, .bool adds, va, vb] w fun e w' => e = .returned (.bool true) ∧ Below w.heap.size w w' := by
  by_cases hl : conf.length ≤ 100 ∧ a.length ≤ 100 ∧ b.length ≤ 100
  · cases hg : may conf with
    | true => exact meet_good v va vb conf a b n adds w hc ha hb hn hl hg
    | false => exact meet_bad v va vb conf a b n adds w hc ha hb hn hl hg
  · exact meet_big v va vb conf a b n adds w hc ha hb hl
end Go.Proofs.Ytjjdfhokmiaekaa
