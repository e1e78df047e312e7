/-
  The references' Same: confs, entries, slices of entries.
-/
import Derived.Test.YtkjfplkbgooflaaStoreMath
import Derived.WalkSmall
namespace Go.Proofs.Ytkjfplkbgooflaa
open Go Go.RowKit Go.Lst Go.Lx

set_option maxRecDepth 100000 in
set_option maxHeartbeats 1000000 in
theorem rSame_calls (v u : Value) (xs ys : List Int) (w : World) (h : Nums .i64 w v xs) (hu : Nums .i64 w u ys) :
    Calls Try.prog 29 #[v, u] w fun e w' => e = .returned (.bool (decide (xs = ys))) ∧ Below w.heap.size w w' := by
  obtain ⟨p, c, rfl, hc1, hc2, hcell⟩ := h.parts
  obtain ⟨q, d, rfl, hd1, hd2, hdell⟩ := hu.parts
  clear h hu
  by_cases hl : xs.length = ys.length
  · obtain ⟨n, hn⟩ : ∃ n, xs.length = n := ⟨_, rfl⟩
    rw [← hl] at hd1 ⊢
    obtain ⟨r, hr⟩ : ∃ r, decide (xs = ys) = r := ⟨_, rfl⟩
    rw [hr]
    rw [hn] at hc1 ⊢
    have hnm : n ≤ maxLen := by omega
    unfold maxLen at hnm
    replace hcell := Lib.hid hcell
    replace hdell := Lib.hid hdell
    replace hl := Lib.hid hl
    replace hn := Lib.hid hn
    replace hr := Lib.hid hr
    replace hc1 := Lib.hid hc1
    replace hc2 := Lib.hid hc2
    replace hd1 := Lib.hid hd1
    replace hd2 := Lib.hid hd2
    have hne : ((n : Int) != (n : Int)) = false := by simp
    go_enter Try.func29, Try.ntmps29
    go_wp2_with fail
    go_loopg [5] (n + 1) (fun k v5 wr => ∃ i : Nat, v5 = .int .i64 (i : Int) ∧ i ≤ n ∧ n < i + k ∧ (∀ j, j < i → xs.getD j 0 = ys.getD j 0) ∧ Below w.heap.size w wr)
    case atStart => exact ⟨0, rfl, by omega, by omega, fun j hj => by omega, Below.refl _ _⟩
    case round =>
      obtain ⟨i, rfl, hile, hfuel, hE, hB⟩ := hrel
      cases gk with
      | zero => omega
      | succ k =>
        by_cases hlt : i < n
        · have hlt1 : (i : Int) < (n : Int) := by omega
          have h0 : (0 : Int) ≤ (i : Int) := by omega
          obtain ⟨a, rfl, hca⟩ := hcell.out i (by rw [hn.out]; exact hlt)
          obtain ⟨b, rfl, hcb⟩ := hdell.out i (by rw [← hl.out, hn.out]; exact hlt)
          replace hca := (cell_below hB hca).trans hca
          replace hcb := (cell_below hB hcb).trans hcb
          have hE' := Lib.hid hE
          replace hB := Lib.hid hB
          clear hE
          by_cases hxy : xs.getD i 0 = ys.getD i 0
          · obtain ⟨X, hX⟩ : ∃ X, xs.getD i 0 = X := ⟨_, rfl⟩
            rw [← hxy] at hcb
            rw [hX] at hca hcb
            have hXY := Lib.hid hxy
            clear hxy hX
            have hb : (X != X) = false := by simp
            go_wp2_with fail
            go_quiet (fail)
            go_wp2_with fail
            go_roundg k
            case measure => omega
            case rel => exact ⟨i + 1, by first | rfl | go_num, by omega, by omega, fun j hj => by
              by_cases e : j = i
              · subst e; exact hXY.out
              · exact hE'.out j (by omega), below_drewN hB.out _⟩
          · have hrf : r = false := by rw [← hr.out]; exact decide_eq_false (fun e => hxy (by rw [e]))
            subst hrf
            have hb : (xs.getD i 0 != ys.getD i 0) = true := by simpa using hxy
            clear hxy
            generalize xs.getD i 0 = X at *
            generalize ys.getD i 0 = Y at *
            go_wp2_with fail
            go_quiet (fail)
            go_wp2_with fail
            go_ret
            exact ⟨rfl, below_drewN hB.out _⟩
        · have hd : decide ((i : Int) < (n : Int)) = false := by simp; omega
          have hrt : r = true := by
            rw [← hr.out]
            refine decide_eq_true (List.ext_getElem hl.out fun j h1 h2 => ?_)
            have := hE j (by have := hn.out; omega)
            rw [List.getD_eq_getElem?_getD, List.getD_eq_getElem?_getD, List.getElem?_eq_getElem h1, List.getElem?_eq_getElem h2] at this
            exact this
          subst hrt
          replace hB := Lib.hid hB
          clear hE
          go_wp2_with fail
          go_ret
          exact ⟨rfl, hB.out⟩
  · have hr : decide (xs = ys) = false := decide_eq_false (fun e => hl (by rw [e]))
    rw [hr]
    have hb : ((xs.length : Int) != (ys.length : Int)) = true := by rw [bne_iff_ne]; omega
    clear hr hcell hdell
    go_enter Try.func29, Try.ntmps29
    go_wp2_with fail
    go_ret
    exact ⟨rfl, Below.refl _ _⟩

set_option maxRecDepth 100000 in
set_option maxHeartbeats 2000000 in
/-- Entries that are alike. -/
theorem SameEntry_calls (e : Ent) (v u : Value) (w : World) (h : Nums .i64 w v e.c) (hu : Nums .i64 w u e.c) :
    Calls Try.prog 21 #[entV e v, entV e u] w fun y w' => y = .returned (.bool true) ∧ Below w.heap.size w w' := by
  obtain ⟨p, c, rfl, hc1, hc2, hcell⟩ := h.parts
  obtain ⟨q, d, rfl, hd1, hd2, hdell⟩ := hu.parts
  obtain ⟨ei, et, ek, s, ec⟩ := e
  unfold entV
  dsimp only at hcell hdell hc1 hd1 ⊢
  clear h hu
  obtain ⟨n, hn⟩ : ∃ n, ec.length = n := ⟨_, rfl⟩
  rw [hn] at hc1 hd1 ⊢
  have hnm : n ≤ maxLen := by omega
  unfold maxLen at hnm
  have hm := made2 w #[.int .u64 ei, .int .u64 et, .int .u8 ek, .string s, .slice p n c] #[.int .u64 ei, .int .u64 et, .int .u8 ek, .string s, .slice q n d] 31 31
  dsimp only at hm
  replace hcell := Lib.hid hcell
  replace hdell := Lib.hid hdell
  replace hc1 := Lib.hid hc1
  replace hc2 := Lib.hid hc2
  replace hd1 := Lib.hid hd1
  replace hd2 := Lib.hid hd2
  replace hn := Lib.hid hn
  have z1 : (ei != ei) = false := by simp
  have z2 : (et != et) = false := by simp
  have z3 : (ek != ek) = false := by simp
  have z4 : (s.data.toList != s.data.toList) = false := by simp
  have z5 : ((n : Int) != (n : Int)) = false := by simp
  obtain ⟨A1, A2, hB, hz⟩ := hm
  obtain ⟨a0, a1, a2, a3, a4, -⟩ := A1.c5
  obtain ⟨b0, b1, b2, b3, b4, -⟩ := A2.c5
  go_enter Try.func21, Try.ntmps21
  go_wp2_with fail
  generalize (w.alloc (.cells #[.int .u64 ei, .int .u64 et, .int .u8 ek, .string s, .slice p n c] 31)).alloc (.cells #[.int .u64 ei, .int .u64 et, .int .u8 ek, .string s, .slice q n d] 31) = W at *
  clear a0 a1 a2 a3 a4 b0 b1 b2 b3 b4 hz
  go_loopg [5] (n + 1) (fun k v5 wr => ∃ i : Nat, v5 = .int .i64 (i : Int) ∧ i ≤ n ∧ n < i + k ∧ Below W.heap.size W wr)
  case atStart => exact ⟨0, rfl, by omega, by omega, Below.refl _ _⟩
  case round =>
    obtain ⟨i, rfl, hile, hfuel, hb⟩ := hrel
    have a4 := (A1.below hb).cell 4 rfl
    have b4 := (A2.below hb).cell 4 rfl
    cases gk with
    | zero => omega
    | succ k =>
      by_cases hlt : i < n
      · have hlt1 : (i : Int) < (n : Int) := by omega
        have h0 : (0 : Int) ≤ (i : Int) := by omega
        obtain ⟨a, rfl, hca⟩ := hcell.out i (by rw [hn.out]; exact hlt)
        obtain ⟨b, rfl, hcb⟩ := hdell.out i (by rw [hn.out]; exact hlt)
        replace hca := (cell_below (Lx.bstep hB (Nat.le_refl _) hb) hca).trans hca
        replace hcb := (cell_below (Lx.bstep hB (Nat.le_refl _) hb) hcb).trans hcb
        generalize ec.getD i 0 = X at *
        have hXX : (X != X) = false := by simp
        replace hb := Lib.hid hb
        replace A1 := Lib.hid A1
        replace A2 := Lib.hid A2
        replace hB := Lib.hid hB
        go_wp2_with fail
        go_quiet (fail)
        go_wp2_with fail
        go_roundg k
        case measure => omega
        case rel => exact ⟨i + 1, by first | rfl | (rw [IntWalk.wrap64_in _ (by omega)]; rfl), by omega, by omega, below_drewN hb.out _⟩
      · have hd : decide ((i : Int) < (n : Int)) = false := by simp; omega
        replace A1 := Lib.hid A1
        replace A2 := Lib.hid A2
        go_wp2_with fail
        go_ret
        exact ⟨rfl, Lx.bstep hB (Nat.le_refl _) hb⟩
theorem Ents.parts {B : Nat} {w : World} {v : Value} {es : List Ent} (h : Ents B w v es) : ∃ p c, v = .slice p es.length c ∧ es.length ≤ c ∧ c ≤ maxLen := by
  obtain ⟨p, c, h1, h2, h3, _⟩ := h
  exact ⟨p, c, h1, h2, h3⟩
set_option maxRecDepth 100000 in
set_option maxHeartbeats 2000000 in
/-- Slices of entries that are alike; each is as it was all along. -/
theorem SameEntries_calls (B B' : Nat) (es : List Ent) (v u : Value) (w : World) (h : Ents B w v es) (hu : Ents B' w u es) :
    Calls Try.prog 20 #[v, u] w fun y w' => y = .returned (.bool true) ∧ Below w.heap.size w w' := by
  have hS := Lib.hid (fun e v u w h hu => SameEntry_calls e v u w h hu)
  unfold entV at hS
  obtain ⟨p, c, hv, hc1, hc2⟩ := h.parts
  obtain ⟨q, d, hw, hd1, hd2⟩ := hu.parts
  obtain ⟨n, hn⟩ : ∃ n, es.length = n := ⟨_, rfl⟩
  have hh := Lib.hid h
  have huu := Lib.hid hu
  rw [hv, hw, hn]
  rw [hn] at hv hw hc1
  clear h hu
  have hnm : n ≤ maxLen := by omega
  unfold maxLen at hnm
  have z5 : ((n : Int) != (n : Int)) = false := by simp
  replace hv := Lib.hid hv
  replace hw := Lib.hid hw
  replace hc1 := Lib.hid hc1
  replace hc2 := Lib.hid hc2
  replace hd1 := Lib.hid hd1
  replace hd2 := Lib.hid hd2
  replace hn := Lib.hid hn
  go_enter Try.func20, Try.ntmps20
  go_wp2_with fail
  go_loopg [5] (n + 1) (fun k v5 wr => ∃ i : Nat, v5 = .int .i64 (i : Int) ∧ i ≤ n ∧ n < i + k ∧ Below w.heap.size w wr)
  case atStart => exact ⟨0, rfl, by omega, by omega, Below.refl _ _⟩
  case round =>
    obtain ⟨i, rfl, hile, hfuel, hb⟩ := hrel
    cases gk with
    | zero => omega
    | succ k =>
      by_cases hlt : i < n
      · have hlt1 : (i : Int) < (n : Int) := by omega
        have h0 : (0 : Int) ≤ (i : Int) := by omega
        have hil : i < es.length := by have := hn.out; omega
        obtain ⟨a, c', cw, ev, g0, g1, g2, g3, g4, hcf⟩ := hh.out.get i hil
        obtain ⟨a', c2, cu, eu, k0, k1, k2, k3, k4, hcu⟩ := huu.out.get i hil
        obtain ⟨e1, e3⟩ : p = some a ∧ c = c' := by
          have := hv.out.symm.trans ev
          injection this with e1 e2 e3
          exact ⟨e1, e3⟩
        subst e1 e3
        obtain ⟨e1, e3⟩ : q = some a' ∧ d = c2 := by
          have := hw.out.symm.trans eu
          injection this with e1 e2 e3
          exact ⟨e1, e3⟩
        subst e1 e3
        generalize es[i] = en at *
        obtain ⟨ei, et, ek, s, ec⟩ := en
        obtain ⟨pw, cc, rfl, -⟩ := hcf.n.parts
        obtain ⟨pu, cd, rfl, -⟩ := hcu.n.parts
        have hS1 := Lib.hid (fun A (hb : Below w.heap.size w A) => hS.out ⟨ei, et, ek, s, ec⟩ (.slice pw ec.length cc) (.slice pu ec.length cd) A (hcf.n.below hb) (hcu.n.below hb))
        dsimp only at g0 g1 g2 g3 k0 k1 k2 k3 hS1
        have y0 := fun y : Ext wr => (cell_below (Lx.bstep hb (Nat.le_refl _) y.below) g0).trans g0
        have y1 := fun y : Ext wr => (cell_below (Lx.bstep hb (Nat.le_refl _) y.below) g1).trans g1
        have y2 := fun y : Ext wr => (cell_below (Lx.bstep hb (Nat.le_refl _) y.below) g2).trans g2
        have y3 := fun y : Ext wr => (cell_below (Lx.bstep hb (Nat.le_refl _) y.below) g3).trans g3
        have y4 := fun y : Ext wr => (cell_below (Lx.bstep hb (Nat.le_refl _) y.below) g4).trans g4
        have x0 := fun y : Ext wr => (cell_below (Lx.bstep hb (Nat.le_refl _) y.below) k0).trans k0
        have x1 := fun y : Ext wr => (cell_below (Lx.bstep hb (Nat.le_refl _) y.below) k1).trans k1
        have x2 := fun y : Ext wr => (cell_below (Lx.bstep hb (Nat.le_refl _) y.below) k2).trans k2
        have x3 := fun y : Ext wr => (cell_below (Lx.bstep hb (Nat.le_refl _) y.below) k3).trans k3
        have x4 := fun y : Ext wr => (cell_below (Lx.bstep hb (Nat.le_refl _) y.below) k4).trans k4
        clear g0 g1 g2 g3 g4 k0 k1 k2 k3 k4 hcf hcu
        replace hb := Lib.hid hb
        go_wp2_with fail
        refine Lx.wp_region_chain_lit (fun w' => ∃ x : Lx.Ext wr, w' = x.wo) (fun b => wr.heap.size ≤ b) [8] [] (fun _ => True) (by kernel_rfl) (by kernel_rfl) (by kernel_rfl) (by kernel_rfl) Lx.ext_drew trivial ?_
        repeat (refine Lx.wpCh_one (by rfl) (by rfl) ?_; go_big_quiet_step (fail); refine wpQuiet_nil ?_)
        refine Lx.wpCh_extp (.bool true) (by rfl) (by rfl) (fun x R hR => ?_) ?_
        · go_simp
          refine (hS1.out x.wo (Lx.bstep hb.out (Nat.le_refl _) x.below)).mono ?_
          rintro e w'' ⟨rfl, hb⟩
          exact ⟨_, rfl, hR _ hb⟩
        go_big_quiet_step (fail)
        refine wpQuiet_nil ?_
        repeat (refine Lx.wpCh_one (by rfl) (by rfl) ?_; go_big_quiet_step (fail); refine wpQuiet_nil ?_)
        refine Lx.wpCh_nil ?_
        intro w4 hx hSt
        obtain ⟨x, rfl⟩ := hx
        have hb4 := Lib.hid (Lx.bstep hb.out (Nat.le_refl _) x.below)
        clear y0 y1 y2 y3 y4 x0 x1 x2 x3 x4
        generalize x.wo = w4 at *
        clear x hSt
        go_wp2_with fail
        go_roundg k
        case measure => omega
        case rel => exact ⟨i + 1, by first | rfl | (rw [IntWalk.wrap64_in _ (by omega)]; rfl), by omega, by omega, hb4.out⟩
      · have hd : decide ((i : Int) < (n : Int)) = false := by simp; omega
        replace hb := Lib.hid hb
        go_wp2_with fail
        go_ret
        exact ⟨rfl, hb.out⟩
end Go.Proofs.Ytkjfplkbgooflaa
