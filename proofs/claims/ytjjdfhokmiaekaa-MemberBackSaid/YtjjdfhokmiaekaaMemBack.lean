/-
  The walk of MemberBack.
-/
import Derived.Test.YtjjdfhokmiaekaaMemTells
import Derived.Test.YtjjdfhokmiaekaaMemMath
import Derived.Maps.AppendAt
namespace Go.Proofs.Ytjjdfhokmiaekaa
open Go.RowKit Go.Lst Go.Lx

/-- Two rows of the call's own, apart. -/
structure TwoRows (w : World) (B : Nat) (v u : Value) (xs ys : List Int) : Prop where
  y : w.ownsRow B 3 1 v xs.length (xs.map fun x => .int .i64 x)
  n : w.ownsRow B 3 1 u ys.length (ys.map fun x => .int .i64 x)
  d : ∀ k, v.ownBlock = some k → u.ownBlock ≠ some k
theorem TwoRows.swap {w : World} {B : Nat} {v u : Value} {xs ys : List Int} (h : TwoRows w B v u xs ys) : TwoRows w B u v ys xs := ⟨h.n, h.y, fun k e e' => h.d k e' e⟩
theorem TwoRows.add {w w4 : World} {B : Nat} {v u v' : Value} {xs ys : List Int} {x : Int} {X : Obj} (h : TwoRows w B v u xs ys) (hown : w4.ownsRow B 3 1 v' (xs.length + 1) (xs.map (fun x => .int .i64 x) ++ [.int .i64 x]))
    (hg : (w.alloc X).grownBy w4 v.ownBlock) (hf : v'.ownBlock = v.ownBlock ∨ v'.ownBlock = some (w.alloc X).heap.size) : TwoRows w4 B v' u (xs ++ [x]) ys := by
  refine ⟨by rw [List.length_append, List.map_append]; exact hown, own_keep h.n (fun k e => ?_), fun k e e' => ?_⟩
  · have hk := (own_block h.n e).2
    exact (hg.block k (by simp; omega) (fun e2 => h.d k e2.symm e)).trans (Below.heap_alloc _ _ _ hk)
  · rcases hf with hf | hf
    · exact h.d k (hf ▸ e) e'
    · have := (own_block h.n e').2
      rw [hf] at e; cases e; simp at this; omega
theorem TwoRows.grown {w w4 w0 : World} {B : Nat} {v u : Value} {xs ys : List Int} {X : Obj} (h : TwoRows w B v u xs ys) (hb : Below B w0 w) (hg : (w.alloc X).grownBy w4 v.ownBlock) (hs : B ≤ w.heap.size) : Below B w0 w4 :=
  (hb.alloc hs _).grown hg (by simp; omega) (fun k e => (own_block h.y e).1)

set_option maxRecDepth 100000 in
set_option maxHeartbeats 2000000 in
theorem back_big (v mv : Value) (conf ms : List Int) (n : Int) (w : World) (hc : Nums .i64 w v conf) (hm : Nums .u64 w mv ms) (hl : ¬(conf.length ≤ 100 ∧ ms.length ≤ 100)) :
    Calls Try.prog 10 #[v, .int .i64 n, mv] w fun e w' => e = .returned (.bool true) ∧ Below w.heap.size w w' := by
  obtain ⟨cp, cc, rfl, -⟩ := hc.parts
  obtain ⟨mp, mc, rfl, -⟩ := hm.parts
  clear hc hm
  generalize conf.length = x at *
  generalize ms.length = y at *
  have hcs : (100 < (x : Int)) ∨ (¬(100 < (x : Int)) ∧ 100 < (y : Int)) := by omega
  clear hl
  go_enter Try.func10, Try.ntmps10
  rcases hcs with h | ⟨h1, h⟩
  all_goals
    go_wp2_with fail
    refine (works24_calls _).mono ?_
    rintro e w1 ⟨rfl, hb1⟩
    go_wp2_with fail
    go_ret
    exact ⟨rfl, hb1⟩
theorem agreed_back (v u : Value) (ms cs : List Int) (w : World) (h : Nums .u64 w v ms) (hu : Nums .i64 w u cs) :
    Calls Try.prog 46 #[v, u] w fun e w' => (∃ x E : Int, e = .returned (.tuple #[.int .u64 x, .int .i64 E]) ∧ (may cs = true ∧ ms.length = cs.length → E = 0 ∧ cs.length < 2 * cntG ms x ∧ 2 * cntM ms x ≤ cs.length) ∧ (¬(may cs = true ∧ ms.length = cs.length) → E = 2 ∧ x = 0)) ∧ Below w.heap.size w w' := by
  refine (Agreed_calls v u ms cs w h hu).mono ?_
  rintro e w' ⟨⟨x, rfl, hx⟩, hb⟩
  refine ⟨⟨x, _, rfl, fun hl => ?_, fun hl => ?_⟩, hb⟩
  · rw [if_pos hl] at hx ⊢
    exact ⟨rfl, hx.2⟩
  · rw [if_neg hl] at hx ⊢
    exact ⟨rfl, hx⟩
theorem back_sel (conf : List Int) (n : Int) : (((addE conf n : Nat) : Int) = 0 ∧ ((remE conf n : Nat) : Int) ≠ 0) ∨ (((addE conf n : Nat) : Int) ≠ 0 ∧ ((remE conf n : Nat) : Int) = 0) ∨ (((addE conf n : Nat) : Int) ≠ 0 ∧ ((remE conf n : Nat) : Int) ≠ 0) := by
  have h : ¬(addE conf n = 0 ∧ remE conf n = 0) := fun ⟨h1, h2⟩ => (addE_zero.1 h1).2.2.2.1 (remE_zero.1 h2).2.1
  omega

set_option maxRecDepth 100000 in
set_option maxHeartbeats 8000000 in
theorem back_small (v mv : Value) (conf ms : List Int) (n : Int) (w : World) (hc : Nums .i64 w v conf) (hm : Nums .u64 w mv ms) (hn : (Lit.int .i64 n).wf = true) (hl : conf.length ≤ 100 ∧ ms.length ≤ 100) :
    Calls Try.prog 10 #[v, .int .i64 n, mv] w fun e w' => e = .returned (.bool true) ∧ Below w.heap.size w w' := by
  obtain ⟨cp, cc, rfl, o1, o2, -⟩ := hc.parts
  obtain ⟨mp, mc, rfl, p1, p2, -⟩ := hm.parts
  obtain ⟨l1, l2⟩ := hl
  have hsel := back_sel conf n
  have hnz : ∀ e : Int, e ≠ 0 → (e != 0) = true ∧ (e == 0) = false := fun e h => by simpa using h
  have k1 : (conf.length : Int) ≤ 100 := by omega
  have k2 : (ms.length : Int) ≤ 100 := by omega
  have C3 := Lib.hid (fun x W h => Add_calls x conf n W h hn)
  have C4 := Lib.hid (fun x W h => Remove_calls x conf n W h)
  have C5 := Lib.hid (fun x W h h' => agreed_back x (.slice cp conf.length cc) ms conf W h h')
  have C6 := Lib.hid (fun x W h h' => rSame_calls x (.slice cp conf.length cc) conf conf W h h')
  rw [decide_eq_true rfl] at C6
  have C7 : addE conf n = 0 → (addL conf n).length = conf.length + 1 ∧ ∀ x W, Nums .i64 W x (addL conf n) → Calls Try.prog 45 #[x, .int .i64 n] W fun e w' => (∃ u, e = .returned (.tuple #[u, .int .i64 0]) ∧ Nums .i64 w' u conf) ∧ Below W.heap.size W w' := fun h0 => by
    obtain ⟨b1, b2, b3⟩ := back_add h0
    have e : addL conf n = ins conf n := by unfold addL; rw [if_pos h0]
    rw [e]
    refine ⟨b3, fun x W hx => ?_⟩
    have := Remove_calls x (ins conf n) n W hx
    rw [b1, show remL (ins conf n) n = conf by unfold remL; rw [if_pos b1, b2]] at this
    exact this
  have C8 : remE conf n = 0 → (remL conf n).length + 1 = conf.length ∧ ∀ x W, Nums .i64 W x (remL conf n) → Calls Try.prog 44 #[x, .int .i64 n] W fun e w' => (∃ u, e = .returned (.tuple #[u, .int .i64 0]) ∧ Nums .i64 w' u conf) ∧ Below W.heap.size W w' := fun h0 => by
    obtain ⟨b1, b2, b3⟩ := back_rem h0
    have e : remL conf n = rem conf n := by unfold remL; rw [if_pos h0]
    rw [e]
    refine ⟨b3, fun x W hx => ?_⟩
    have := Add_calls x (rem conf n) n W hx hn
    rw [b1, show addL (rem conf n) n = conf by unfold addL; rw [if_pos b1, b2]] at this
    exact this
  replace C7 : ((addE conf n : Nat) : Int) = 0 → _ := fun h => C7 (by omega)
  replace C8 : ((remE conf n : Nat) : Int) = 0 → _ := fun h => C8 (by omega)
  generalize ((addE conf n : Nat) : Int) = EA at *
  generalize ((remE conf n : Nat) : Int) = ER at *
  generalize hLA : addL conf n = LA at *
  generalize hLR : remL conf n = LR at *
  clear hLA hLR
  have hC := Lib.hid hc; have hM := Lib.hid hm
  have hB := Lib.hid (Below.refl w.heap.size w)
  obtain ⟨i0, hi, hz0, hz1, hz2⟩ := info_parts infoInt
  replace l1 := Lib.hid l1
  replace l2 := Lib.hid l2
  replace hn := Lib.hid hn
  replace hsel := Lib.hid hsel
  replace hnz := Lib.hid hnz
  replace o1 := Lib.hid o1
  replace o2 := Lib.hid o2
  replace p1 := Lib.hid p1
  replace p2 := Lib.hid p2
  replace C7 := Lib.hid C7
  replace C8 := Lib.hid C8
  clear hc hm
  go_enter Try.func10, Try.ntmps10
  go_wp2_with (at_builtin; refine wpList_copied rfl (.const (.slice none 0 0)) (.tmp 34) 33 rfl 3 .i64 8 Try.underlying33 infoInt rfl (.slice cp conf.length cc) conf rfl hC.out (by have := l1.out; omega) ?_; intro x4 w4 h4 hb; replace h4 := Lib.hid (Nums.own h4 hC.out.2); replace hb := Lib.hid hb)
  replace hb := hb.out
  replace hb : Below w.heap.size w w4 := Lx.bstep (by repeat (first | exact Below.refl _ _ | exact Lx.Ext.below _ | refine Below.drew ?_ | refine below_drewN ?_ _ | (refine Below.alloc ?_ (by first | exact Nat.le_refl _ | (simp; done) | (simp; omega)) _) | (refine Below.setCell ?_ (by first | exact Nat.le_refl _ | (simp; done) | (simp; omega)) _))) (Nat.le_refl _) hb
  replace hC := Lib.hid (hC.out.below hb)
  replace hM := Lib.hid (hM.out.below hb)
  replace hB := Lib.hid (Lx.bstep hB.out (Nat.le_refl _) hb)
  clear hb
  refine (C3.out _ _ h4.out).mono ?_
  rintro e w5 ⟨⟨u5, rfl, h5⟩, hb⟩
  replace h5 := Lib.hid h5
  replace hb : Below w4.heap.size w4 w5 := Lx.bstep (by repeat (first | exact Below.refl _ _ | exact Lx.Ext.below _ | refine Below.drew ?_ | refine below_drewN ?_ _ | (refine Below.alloc ?_ (by first | exact Nat.le_refl _ | (simp; done) | (simp; omega)) _) | (refine Below.setCell ?_ (by first | exact Nat.le_refl _ | (simp; done) | (simp; omega)) _))) (Nat.le_refl _) hb
  replace hC := Lib.hid (hC.out.below hb)
  replace hM := Lib.hid (hM.out.below hb)
  replace hB := Lib.hid (Lx.bstep hB.out (Nat.le_refl _) hb)
  clear hb
  clear h4
  rcases hsel.out with ⟨rfl, h0⟩ | ⟨h0, rfl⟩ | ⟨h0, h1⟩
  case' inl =>
    obtain ⟨c1, c2⟩ := C7.out rfl
    obtain ⟨q0, q1⟩ := hnz.out _ h0
    obtain ⟨p5, d5, rfl, -⟩ := h5.out.parts
    have l5 := Lib.hid (show LA.length ≤ 101 by have := l1.out; omega)
    have q2 : ((LA.length : Int) != (conf.length : Int) + 1) = false := by simp; omega
    replace c1 := Lib.hid c1
    replace c2 := Lib.hid c2
    clear h0
    go_wp2_with (at_builtin; refine wpList_copied rfl (.const (.slice none 0 0)) (.tmp 43) 33 rfl 3 .i64 8 Try.underlying33 infoInt rfl (.slice p5 LA.length d5) LA rfl h5.out (by have := l5.out; omega) ?_; intro x6 w6 h6 hb; replace h6 := Lib.hid (Nums.own h6 h5.out.2); replace hb := Lib.hid hb)
    replace hb := hb.out
    replace hb : Below w5.heap.size w5 w6 := Lx.bstep (by repeat (first | exact Below.refl _ _ | exact Lx.Ext.below _ | refine Below.drew ?_ | refine below_drewN ?_ _ | (refine Below.alloc ?_ (by first | exact Nat.le_refl _ | (simp; done) | (simp; omega)) _) | (refine Below.setCell ?_ (by first | exact Nat.le_refl _ | (simp; done) | (simp; omega)) _))) (Nat.le_refl _) hb
    replace hC := Lib.hid (hC.out.below hb)
    replace hM := Lib.hid (hM.out.below hb)
    replace h5 := Lib.hid (h5.out.below hb)
    replace hB := Lib.hid (Lx.bstep hB.out (Nat.le_refl _) hb)
    clear hb
    refine (c2.out _ _ h6.out).mono ?_
    rintro e w7 ⟨⟨u7, rfl, h7⟩, hb⟩
    replace h7 := Lib.hid h7
    replace hb : Below w6.heap.size w6 w7 := Lx.bstep (by repeat (first | exact Below.refl _ _ | exact Lx.Ext.below _ | refine Below.drew ?_ | refine below_drewN ?_ _ | (refine Below.alloc ?_ (by first | exact Nat.le_refl _ | (simp; done) | (simp; omega)) _) | (refine Below.setCell ?_ (by first | exact Nat.le_refl _ | (simp; done) | (simp; omega)) _))) (Nat.le_refl _) hb
    replace hC := Lib.hid (hC.out.below hb)
    replace hM := Lib.hid (hM.out.below hb)
    replace h5 := Lib.hid (h5.out.below hb)
    replace hB := Lib.hid (Lx.bstep hB.out (Nat.le_refl _) hb)
    clear hb
    go_wp2_with fail
    refine (C6.out _ _ h7.out hC.out).mono ?_
    rintro e w8 ⟨rfl, hb⟩
    replace hb : Below w7.heap.size w7 w8 := Lx.bstep (by repeat (first | exact Below.refl _ _ | exact Lx.Ext.below _ | refine Below.drew ?_ | refine below_drewN ?_ _ | (refine Below.alloc ?_ (by first | exact Nat.le_refl _ | (simp; done) | (simp; omega)) _) | (refine Below.setCell ?_ (by first | exact Nat.le_refl _ | (simp; done) | (simp; omega)) _))) (Nat.le_refl _) hb
    replace hC := Lib.hid (hC.out.below hb)
    replace hM := Lib.hid (hM.out.below hb)
    replace h5 := Lib.hid (h5.out.below hb)
    replace hB := Lib.hid (Lx.bstep hB.out (Nat.le_refl _) hb)
    clear hb
    go_wp2_with (at_builtin; refine wpList_copied rfl (.const (.slice none 0 0)) (.tmp 66) 33 rfl 3 .i64 8 Try.underlying33 infoInt rfl (.slice cp conf.length cc) conf rfl hC.out (by have := l1.out; omega) ?_; intro x9 w9 h9 hb; replace h9 := Lib.hid (Nums.own h9 hC.out.2); replace hb := Lib.hid hb)
    replace hb := hb.out
    replace hb : Below w8.heap.size w8 w9 := Lx.bstep (by repeat (first | exact Below.refl _ _ | exact Lx.Ext.below _ | refine Below.drew ?_ | refine below_drewN ?_ _ | (refine Below.alloc ?_ (by first | exact Nat.le_refl _ | (simp; done) | (simp; omega)) _) | (refine Below.setCell ?_ (by first | exact Nat.le_refl _ | (simp; done) | (simp; omega)) _))) (Nat.le_refl _) hb
    replace hC := Lib.hid (hC.out.below hb)
    replace hM := Lib.hid (hM.out.below hb)
    replace hB := Lib.hid (Lx.bstep hB.out (Nat.le_refl _) hb)
    clear hb
    refine (C4.out _ _ h9.out).mono ?_
    rintro e wT ⟨⟨u9, rfl, -⟩, hb⟩
    replace hb : Below w9.heap.size w9 wT := Lx.bstep (by repeat (first | exact Below.refl _ _ | exact Lx.Ext.below _ | refine Below.drew ?_ | refine below_drewN ?_ _ | (refine Below.alloc ?_ (by first | exact Nat.le_refl _ | (simp; done) | (simp; omega)) _) | (refine Below.setCell ?_ (by first | exact Nat.le_refl _ | (simp; done) | (simp; omega)) _))) (Nat.le_refl _) hb
    replace hC := Lib.hid (hC.out.below hb)
    replace hM := Lib.hid (hM.out.below hb)
    replace hB := Lib.hid (Lx.bstep hB.out (Nat.le_refl _) hb)
    clear hb
    clear c1 c2 h5 h6 h7 h9 l5 q2
  case' inr.inl =>
    obtain ⟨c1, c2⟩ := C8.out rfl
    obtain ⟨q0, q1⟩ := hnz.out _ h0
    have l5 := Lib.hid (show LR.length ≤ 101 by have := l1.out; omega)
    have q2 : ((LR.length : Int) != (conf.length : Int) - 1) = false := by simp; omega
    replace c1 := Lib.hid c1
    replace c2 := Lib.hid c2
    clear h0
    go_wp2_with (at_builtin; refine wpList_copied rfl (.const (.slice none 0 0)) (.tmp 66) 33 rfl 3 .i64 8 Try.underlying33 infoInt rfl (.slice cp conf.length cc) conf rfl hC.out (by have := l1.out; omega) ?_; intro x9 w9 h9 hb; replace h9 := Lib.hid (Nums.own h9 hC.out.2); replace hb := Lib.hid hb)
    replace hb := hb.out
    replace hb : Below w5.heap.size w5 w9 := Lx.bstep (by repeat (first | exact Below.refl _ _ | exact Lx.Ext.below _ | refine Below.drew ?_ | refine below_drewN ?_ _ | (refine Below.alloc ?_ (by first | exact Nat.le_refl _ | (simp; done) | (simp; omega)) _) | (refine Below.setCell ?_ (by first | exact Nat.le_refl _ | (simp; done) | (simp; omega)) _))) (Nat.le_refl _) hb
    replace hC := Lib.hid (hC.out.below hb)
    replace hM := Lib.hid (hM.out.below hb)
    replace hB := Lib.hid (Lx.bstep hB.out (Nat.le_refl _) hb)
    clear hb
    refine (C4.out _ _ h9.out).mono ?_
    rintro e w6 ⟨⟨u9, rfl, hu⟩, hb⟩
    obtain ⟨p9, d9, rfl, -⟩ := hu.parts
    replace hu := Lib.hid hu
    replace hb : Below w9.heap.size w9 w6 := Lx.bstep (by repeat (first | exact Below.refl _ _ | exact Lx.Ext.below _ | refine Below.drew ?_ | refine below_drewN ?_ _ | (refine Below.alloc ?_ (by first | exact Nat.le_refl _ | (simp; done) | (simp; omega)) _) | (refine Below.setCell ?_ (by first | exact Nat.le_refl _ | (simp; done) | (simp; omega)) _))) (Nat.le_refl _) hb
    replace hC := Lib.hid (hC.out.below hb)
    replace hM := Lib.hid (hM.out.below hb)
    replace hB := Lib.hid (Lx.bstep hB.out (Nat.le_refl _) hb)
    clear hb
    go_wp2_with (at_builtin; refine wpList_copied rfl (.const (.slice none 0 0)) (.tmp 75) 33 rfl 3 .i64 8 Try.underlying33 infoInt rfl (.slice p9 LR.length d9) LR rfl hu.out (by have := l5.out; omega) ?_; intro x7 w7 h7 hb; replace h7 := Lib.hid (Nums.own h7 hu.out.2); replace hb := Lib.hid hb)
    replace hb := hb.out
    replace hb : Below w6.heap.size w6 w7 := Lx.bstep (by repeat (first | exact Below.refl _ _ | exact Lx.Ext.below _ | refine Below.drew ?_ | refine below_drewN ?_ _ | (refine Below.alloc ?_ (by first | exact Nat.le_refl _ | (simp; done) | (simp; omega)) _) | (refine Below.setCell ?_ (by first | exact Nat.le_refl _ | (simp; done) | (simp; omega)) _))) (Nat.le_refl _) hb
    replace hC := Lib.hid (hC.out.below hb)
    replace hM := Lib.hid (hM.out.below hb)
    replace hB := Lib.hid (Lx.bstep hB.out (Nat.le_refl _) hb)
    clear hb
    refine (c2.out _ _ h7.out).mono ?_
    rintro e w8 ⟨⟨u8, rfl, h8⟩, hb⟩
    replace h8 := Lib.hid h8
    replace hb : Below w7.heap.size w7 w8 := Lx.bstep (by repeat (first | exact Below.refl _ _ | exact Lx.Ext.below _ | refine Below.drew ?_ | refine below_drewN ?_ _ | (refine Below.alloc ?_ (by first | exact Nat.le_refl _ | (simp; done) | (simp; omega)) _) | (refine Below.setCell ?_ (by first | exact Nat.le_refl _ | (simp; done) | (simp; omega)) _))) (Nat.le_refl _) hb
    replace hC := Lib.hid (hC.out.below hb)
    replace hM := Lib.hid (hM.out.below hb)
    replace hB := Lib.hid (Lx.bstep hB.out (Nat.le_refl _) hb)
    clear hb
    go_wp2_with fail
    refine (C6.out _ _ h8.out hC.out).mono ?_
    rintro e wT ⟨rfl, hb⟩
    replace hb : Below w8.heap.size w8 wT := Lx.bstep (by repeat (first | exact Below.refl _ _ | exact Lx.Ext.below _ | refine Below.drew ?_ | refine below_drewN ?_ _ | (refine Below.alloc ?_ (by first | exact Nat.le_refl _ | (simp; done) | (simp; omega)) _) | (refine Below.setCell ?_ (by first | exact Nat.le_refl _ | (simp; done) | (simp; omega)) _))) (Nat.le_refl _) hb
    replace hC := Lib.hid (hC.out.below hb)
    replace hM := Lib.hid (hM.out.below hb)
    replace hB := Lib.hid (Lx.bstep hB.out (Nat.le_refl _) hb)
    clear hb
    clear c1 c2 h5 h7 h8 h9 l5 hu
  case' inr.inr =>
    obtain ⟨q0, q1⟩ := hnz.out _ h0
    obtain ⟨q2, q3⟩ := hnz.out _ h1
    clear h0 h1
    go_wp2_with (at_builtin; refine wpList_copied rfl (.const (.slice none 0 0)) (.tmp 66) 33 rfl 3 .i64 8 Try.underlying33 infoInt rfl (.slice cp conf.length cc) conf rfl hC.out (by have := l1.out; omega) ?_; intro x9 w9 h9 hb; replace h9 := Lib.hid (Nums.own h9 hC.out.2); replace hb := Lib.hid hb)
    replace hb := hb.out
    replace hb : Below w5.heap.size w5 w9 := Lx.bstep (by repeat (first | exact Below.refl _ _ | exact Lx.Ext.below _ | refine Below.drew ?_ | refine below_drewN ?_ _ | (refine Below.alloc ?_ (by first | exact Nat.le_refl _ | (simp; done) | (simp; omega)) _) | (refine Below.setCell ?_ (by first | exact Nat.le_refl _ | (simp; done) | (simp; omega)) _))) (Nat.le_refl _) hb
    replace hC := Lib.hid (hC.out.below hb)
    replace hM := Lib.hid (hM.out.below hb)
    replace hB := Lib.hid (Lx.bstep hB.out (Nat.le_refl _) hb)
    clear hb
    refine (C4.out _ _ h9.out).mono ?_
    rintro e wT ⟨⟨u9, rfl, -⟩, hb⟩
    replace hb : Below w9.heap.size w9 wT := Lx.bstep (by repeat (first | exact Below.refl _ _ | exact Lx.Ext.below _ | refine Below.drew ?_ | refine below_drewN ?_ _ | (refine Below.alloc ?_ (by first | exact Nat.le_refl _ | (simp; done) | (simp; omega)) _) | (refine Below.setCell ?_ (by first | exact Nat.le_refl _ | (simp; done) | (simp; omega)) _))) (Nat.le_refl _) hb
    replace hC := Lib.hid (hC.out.below hb)
    replace hM := Lib.hid (hM.out.below hb)
    replace hB := Lib.hid (Lx.bstep hB.out (Nat.le_refl _) hb)
    clear hb
    clear h5 h9
  all_goals
    clear hsel hnz C7 C8 C3 C4 C6
    go_wp2_with (at_builtin; refine wpList_copied rfl (.const (.slice none 0 0)) (.tmp 98) 48 rfl 32 .u64 8 Try.underlying48 infoU64 rfl (.slice mp ms.length mc) ms rfl hM.out (by have := l2.out; omega) ?_; intro xU wU hxU hb; replace hxU := Lib.hid (Nums.own hxU hM.out.2); replace hb := Lib.hid hb)
    replace hb := hb.out
    replace hb : Below wT.heap.size wT wU := Lx.bstep (by repeat (first | exact Below.refl _ _ | exact Lx.Ext.below _ | refine Below.drew ?_ | refine below_drewN ?_ _ | (refine Below.alloc ?_ (by first | exact Nat.le_refl _ | (simp; done) | (simp; omega)) _) | (refine Below.setCell ?_ (by first | exact Nat.le_refl _ | (simp; done) | (simp; omega)) _))) (Nat.le_refl _) hb
    replace hC := Lib.hid (hC.out.below hb)
    replace hM := Lib.hid (hM.out.below hb)
    replace hB := Lib.hid (Lx.bstep hB.out (Nat.le_refl _) hb)
    clear hb
    refine (C5.out _ _ hxU.out hC.out).mono ?_
    rintro e w0 ⟨⟨X, E9, rfl, hx1, hx2⟩, hb⟩
    replace hx1 := Lib.hid hx1
    replace hx2 := Lib.hid hx2
    replace hb : Below wU.heap.size wU w0 := Lx.bstep (by repeat (first | exact Below.refl _ _ | exact Lx.Ext.below _ | refine Below.drew ?_ | refine below_drewN ?_ _ | (refine Below.alloc ?_ (by first | exact Nat.le_refl _ | (simp; done) | (simp; omega)) _) | (refine Below.setCell ?_ (by first | exact Nat.le_refl _ | (simp; done) | (simp; omega)) _))) (Nat.le_refl _) hb
    replace hC := Lib.hid (hC.out.below hb)
    replace hM := Lib.hid (hM.out.below hb)
    replace hB := Lib.hid (Lx.bstep hB.out (Nat.le_refl _) hb)
    clear hb
    clear hxU C5
    by_cases hgood : may conf = true ∧ ms.length = conf.length
    · obtain ⟨rfl, hq1, hq2⟩ := hx1.out hgood
      clear hx1 hx2
      have q7 : ((ms.length : Int) != (conf.length : Int)) = false := by simp; omega
      obtain ⟨s1, s2⟩ := sel_quorum hgood.1 hgood.2 hq1 hq2
      have D1 := Lib.hid (fun x W h h' => Quorum_calls x (.slice cp conf.length cc) (sel (fun y => decide (X ≤ y)) conf ms conf.length) conf W h h' hgood.1)
      have D2 := Lib.hid (fun x W h h' => Quorum_calls x (.slice cp conf.length cc) (sel (fun y => decide (X < y)) conf ms conf.length) conf W h h' hgood.1)
      rw [s1] at D1
      rw [s2] at D2
      clear s1 s2 hq1 hq2
      have st1 : ∀ i, sel (fun y => decide (X ≤ y)) conf ms (i + 1) = sel (fun y => decide (X ≤ y)) conf ms i ++ if X ≤ ms.getD i 0 then [conf.getD i 0] else [] := fun i => by rw [sel_succ]; simp
      have st2 : ∀ i, sel (fun y => decide (X < y)) conf ms (i + 1) = sel (fun y => decide (X < y)) conf ms i ++ if X < ms.getD i 0 then [conf.getD i 0] else [] := fun i => by rw [sel_succ]; simp
      have sl1 := sel_length (fun y => decide (X ≤ y)) conf ms
      have sl2 := sel_length (fun y => decide (X < y)) conf ms
      have sm1 : ∀ x ∈ sel (fun y => decide (X ≤ y)) conf ms conf.length, (Lit.int .i64 x).wf = true := fun x hx => hC.out.2 x (sel_mem _ (Nat.le_refl _) x hx)
      have sm2 : ∀ x ∈ sel (fun y => decide (X < y)) conf ms conf.length, (Lit.int .i64 x).wf = true := fun x hx => hC.out.2 x (sel_mem _ (Nat.le_refl _) x hx)
      have z1 : sel (fun y => decide (X ≤ y)) conf ms 0 = [] := rfl
      have z2 : sel (fun y => decide (X < y)) conf ms 0 = [] := rfl
      generalize sel (fun y => decide (X ≤ y)) conf ms = S1 at *
      generalize sel (fun y => decide (X < y)) conf ms = S2 at *
      replace hgood := Lib.hid hgood
      replace st1 := Lib.hid st1
      replace st2 := Lib.hid st2
      replace sl1 := Lib.hid sl1
      replace sl2 := Lib.hid sl2
      replace sm1 := Lib.hid sm1
      replace sm2 := Lib.hid sm2
      replace z1 := Lib.hid z1
      replace z2 := Lib.hid z2
      obtain ⟨_, _, e1, -, -, hcell⟩ := hC.out.parts
      injection e1 with e1 _ e2
      subst e1 e2
      obtain ⟨_, _, e1, -, -, hdell⟩ := hM.out.parts
      injection e1 with e1 _ e2
      subst e1 e2
      replace hcell := Lib.hid hcell
      replace hdell := Lib.hid hdell
      go_wp2_with fail
      go_loopg [17, 18, 19] (ms.length + 1) (fun k v17 v18 v19 wr => ∃ i : Nat, v19 = .int .i64 (i : Int) ∧ TwoRows wr w0.heap.size v17 v18 (S1 i) (S2 i) ∧ i ≤ ms.length ∧ ms.length < i + k ∧ Below w0.heap.size w0 wr)
      case atStart => exact ⟨0, rfl, ⟨by rw [z1.out]; exact own_nil _ _ _, by rw [z2.out]; exact own_nil _ _ _, fun k e => by cases e⟩, by omega, by omega, Below.refl _ _⟩
      case round =>
        obtain ⟨i, rfl, hT, hile, hfuel, hb⟩ := hrel
        cases gk with
        | zero => omega
        | succ k =>
          obtain ⟨g17, l17, c17, rfl⟩ := own_slice hT.y
          obtain ⟨g18, l18, c18, rfl⟩ := own_slice hT.n
          have hbs := hb.size
          by_cases hlt : i < ms.length
          · have hlt1 : (i : Int) < (ms.length : Int) := by omega
            have hlt2 : (i : Int) < (conf.length : Int) := by have := hgood.out.2; omega
            have h0 : (0 : Int) ≤ (i : Int) := by omega
            obtain ⟨a, rfl, hcA0⟩ := hcell.out i (by rw [← hgood.out.2]; exact hlt)
            obtain ⟨a', rfl, hcM0⟩ := hdell.out i hlt
            have hcA := (cell_below hb hcA0).trans hcA0
            have hcM := (cell_below hb hcM0).trans hcM0
            have t1 := Lib.hid (st1.out i)
            have t2 := Lib.hid (st2.out i)
            have b1 : (S1 i).length ≤ 100 := Nat.le_trans (sl1.out i) (by have := l2.out; omega)
            have b2 : (S2 i).length ≤ 100 := Nat.le_trans (sl2.out i) (by have := l2.out; omega)
            generalize hY : ms.getD i 0 = Y at *
            generalize hCc : conf.getD i 0 = C at *
            replace hY := Lib.hid hY
            replace hCc := Lib.hid hCc
            replace hcA0 := Lib.hid hcA0
            replace hcM0 := Lib.hid hcM0
            by_cases hy1 : X ≤ Y
            · replace t1 := Lib.hid (t1.out.trans (by rw [if_pos hy1]))
              by_cases hy2 : X < Y
              · replace t2 := Lib.hid (t2.out.trans (by rw [if_pos hy2]))
                go_wp2_with (first | (at_builtin; refine wpList_append_own_at _ rfl (.tmp 134) (.tmp 139) 33 rfl w0.heap.size 3 i0 (.int .i64 0) 1 8 Try.underlying33 hi hz0 hz1 hz2 rfl (by decide) _ _ _ rfl (hT.y.alloc _) ⟨wr.heap.size, 0, none⟩ 1 1 [.int .i64 C] rfl rfl (cell_one_new _ _ _) (by simp [Value.oneCell']) (by unfold maxLen; omega) (by omega) (by simp; omega) ?_; intro v4 w4 hown4 hg4 _ hf4; obtain ⟨g4, l4, c4, rfl⟩ := own_slice hown4; have hT4 := hT.add hown4 hg4 hf4; have hb4 := hT.grown hb hg4 hbs; have hbs4 := hb4.size; clear hown4 hg4 hf4; replace hcA := (cell_below hb4 hcA0.out).trans hcA0.out; replace hcM := (cell_below hb4 hcM0.out).trans hcM0.out; clear hT hb hbs) | (at_builtin; refine wpList_append_own_at _ rfl (.tmp 147) (.tmp 152) 33 rfl w0.heap.size 3 i0 (.int .i64 0) 1 8 Try.underlying33 hi hz0 hz1 hz2 rfl (by decide) _ _ _ rfl (hT4.n.alloc _) ⟨w4.heap.size, 0, none⟩ 1 1 [.int .i64 C] rfl rfl (cell_one_new _ _ _) (by simp [Value.oneCell']) (by unfold maxLen; omega) (by omega) (by simp; omega) ?_; intro v6 w6 hown6 hg6 _ hf6; obtain ⟨g6, l6, c6, rfl⟩ := own_slice hown6; have hT6 := hT4.swap.add hown6 hg6 hf6; have hb6 := hT4.swap.grown hb4 hg6 hbs4; clear hown6 hg6 hf6; replace hT6 := Lib.hid hT6.swap; replace hb6 := Lib.hid hb6; clear hT4 hb4 hbs4))
                go_roundg k
                case measure => omega
                case rel => exact ⟨i + 1, by first | rfl | go_num, by rw [t1.out, t2.out]; exact hT6.out, by omega, by omega, hb6.out⟩
              · replace t2 := Lib.hid (t2.out.trans (by rw [if_neg hy2]))
                have hy3 : decide (X < Y) = false := decide_eq_false hy2
                go_wp2_with (at_builtin; refine wpList_append_own_at _ rfl (.tmp 134) (.tmp 139) 33 rfl w0.heap.size 3 i0 (.int .i64 0) 1 8 Try.underlying33 hi hz0 hz1 hz2 rfl (by decide) _ _ _ rfl (hT.y.alloc _) ⟨wr.heap.size, 0, none⟩ 1 1 [.int .i64 C] rfl rfl (cell_one_new _ _ _) (by simp [Value.oneCell']) (by unfold maxLen; omega) (by omega) (by simp; omega) ?_; intro v4 w4 hown4 hg4 _ hf4; obtain ⟨g4, l4, c4, rfl⟩ := own_slice hown4; have hT4 := hT.add hown4 hg4 hf4; have hb4 := hT.grown hb hg4 hbs; have hbs4 := hb4.size; clear hown4 hg4 hf4; replace hcA := (cell_below hb4 hcA0.out).trans hcA0.out; replace hcM := (cell_below hb4 hcM0.out).trans hcM0.out; clear hT hb hbs)
                go_roundg k
                case measure => omega
                case rel => exact ⟨i + 1, by first | rfl | go_num, by rw [t1.out, t2.out, List.append_nil]; exact hT4, by omega, by omega, hb4⟩
            · replace t1 := Lib.hid (t1.out.trans (by rw [if_neg hy1]))
              replace t2 := Lib.hid (t2.out.trans (by rw [if_neg (by omega)]))
              have hy2 : ¬ X < Y := by omega
              have hy3 : decide (X < Y) = false := decide_eq_false hy2
              have hy4 : decide (X ≤ Y) = false := decide_eq_false hy1
              replace hT := Lib.hid hT
              replace hb := Lib.hid hb
              go_wp2_with fail
              go_roundg k
              case measure => omega
              case rel => exact ⟨i + 1, by first | rfl | go_num, by rw [t1.out, t2.out, List.append_nil, List.append_nil]; exact hT.out, by omega, by omega, hb.out⟩
          · have hd : decide ((i : Int) < (ms.length : Int)) = false := by simp; omega
            obtain rfl : i = conf.length := by have := hgood.out.2; omega
            have n1 := Lib.hid (Nums.own hT.y sm1.out)
            have n2 := Lib.hid (Nums.own hT.n sm2.out)
            replace hC := Lib.hid (hC.out.below hb)
            replace hB := Lib.hid (Lx.bstep hB.out (Nat.le_refl _) hb)
            clear hT hb hbs hcell hdell
            go_wp2_with fail
            refine (D1.out _ _ n1.out hC.out).mono ?_
            rintro e wA ⟨rfl, hb⟩
            replace hb : Below wr.heap.size wr wA := Lx.bstep (by repeat (first | exact Below.refl _ _ | exact Lx.Ext.below _ | refine Below.drew ?_ | refine below_drewN ?_ _ | (refine Below.alloc ?_ (by first | exact Nat.le_refl _ | (simp; done) | (simp; omega)) _) | (refine Below.setCell ?_ (by first | exact Nat.le_refl _ | (simp; done) | (simp; omega)) _))) (Nat.le_refl _) hb
            replace hC := Lib.hid (hC.out.below hb)
            replace n2 := Lib.hid (n2.out.below hb)
            replace hB := Lib.hid (Lx.bstep hB.out (Nat.le_refl _) hb)
            clear hb
            go_wp2_with fail
            refine (D2.out _ _ n2.out hC.out).mono ?_
            rintro e wB ⟨rfl, hb⟩
            replace hb : Below wA.heap.size wA wB := Lx.bstep (by repeat (first | exact Below.refl _ _ | exact Lx.Ext.below _ | refine Below.drew ?_ | refine below_drewN ?_ _ | (refine Below.alloc ?_ (by first | exact Nat.le_refl _ | (simp; done) | (simp; omega)) _) | (refine Below.setCell ?_ (by first | exact Nat.le_refl _ | (simp; done) | (simp; omega)) _))) (Nat.le_refl _) hb
            replace hB := Lib.hid (Lx.bstep hB.out (Nat.le_refl _) hb)
            clear hb
            go_wp2_with fail
            refine (works24_calls _).mono ?_
            rintro e wE ⟨rfl, hb⟩
            replace hb : Below wB.heap.size wB wE := Lx.bstep (by repeat (first | exact Below.refl _ _ | exact Lx.Ext.below _ | refine Below.drew ?_ | refine below_drewN ?_ _ | (refine Below.alloc ?_ (by first | exact Nat.le_refl _ | (simp; done) | (simp; omega)) _) | (refine Below.setCell ?_ (by first | exact Nat.le_refl _ | (simp; done) | (simp; omega)) _))) (Nat.le_refl _) hb
            replace hB := Lib.hid (Lx.bstep hB.out (Nat.le_refl _) hb)
            clear hb
            go_wp2_with fail
            go_ret
            exact ⟨rfl, hB.out⟩
    · obtain ⟨rfl, rfl⟩ := hx2.out hgood
      clear hgood
      go_wp2_with fail
      refine (works24_calls _).mono ?_
      rintro e wE ⟨rfl, hb⟩
      replace hb : Below w0.heap.size w0 wE := Lx.bstep (by repeat (first | exact Below.refl _ _ | exact Lx.Ext.below _ | refine Below.drew ?_ | refine below_drewN ?_ _ | (refine Below.alloc ?_ (by first | exact Nat.le_refl _ | (simp; done) | (simp; omega)) _) | (refine Below.setCell ?_ (by first | exact Nat.le_refl _ | (simp; done) | (simp; omega)) _))) (Nat.le_refl _) hb
      replace hB := Lib.hid (Lx.bstep hB.out (Nat.le_refl _) hb)
      clear hb
      go_wp2_with fail
      go_ret
      exact ⟨rfl, hB.out⟩
theorem MemberBack_walk (v : Value) (conf : List Int) (n : Int) (mv : Value) (ms : List Int) (w : World) (hc : Nums .i64 w v conf) (hn : (Lit.int .i64 n).wf = true) (hm : Nums .u64 w mv ms) :
    Calls Try.prog 10 #[v, .int .i64 n, mv] w fun e w' => e = .returned (.bool true) ∧ Below w.heap.size w w' := by
  by_cases hl : conf.length ≤ 100 ∧ ms.length ≤ 100
  · exact back_small v mv conf ms n w hc hm hn hl
  · exact back_big v mv conf ms n w hc hm hl
end Go.Proofs.Ytjjdfhokmiaekaa
