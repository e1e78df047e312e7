/-
  EntryCompacts.
-/
import Derived.Test.YtkjfplkbgooflaaPair
import Derived.Test.YtkjfplkbgooflaaCompMath
import Derived.Test.YtkjfplkbgooflaaSame
import Derived.Test.YtkjfplkbgooflaaCopied
namespace Go.Proofs.Ytkjfplkbgooflaa
open Go Go.RowKit Go.Lst Go.Lx

theorem Ents.upto2 {B : Nat} {w : World} {p : Option Addr} {n c : Nat} {es : List Ent} (h : Ents B w (.slice p n c) es) (N : Nat) (hN : N ≤ es.length) : Ents B w (.slice p N c) (es.take N) := by
  obtain ⟨p', c', e, h1, h2, h3⟩ := h
  injection e with e1 e2 e3
  subst e1 e2 e3
  have hl : (es.take N).length = N := by rw [List.length_take]; omega
  refine ⟨p, c, by rw [hl], by rw [hl]; omega, h2, fun j hj => ?_⟩
  obtain ⟨a, cv, ha, h4, h5⟩ := h3 j (by omega)
  refine ⟨a, cv, ha, fun m hm => ?_, ?_⟩
  · rw [List.getElem_take]; exact h4 m hm
  · rw [List.getElem_take]; exact h5
theorem stays_cell {O : Nat → Prop} {W w' : World} (h : Stays O W w') {a : Addr} {v : Value} (hc : W.cell? a = some v) (hn : ¬ O a.block) : w'.cell? a = some v := by
  have hlt : a.block < W.heap.size := by
    rcases Nat.lt_or_ge a.block W.heap.size with h' | h'
    · exact h'
    · simp [World.cell?, Array.getElem?_eq_none h'] at hc
  rw [cell_same (h.block a.block hlt hn), hc]
theorem stays_step {O : Nat → Prop} {W w1 w2 : World} (h : Stays O W w1) (hb : Below w1.heap.size w1 w2) : Stays O W w2 := h.trans (Stays.of_below (O := fun _ => False) hb) (fun i _ hf => hf.elim)
/-- A starting log, in a block that is new. -/
theorem New_mine2 (w0 w : World) (b : Nat) (hb : Blk w b [.int .i64 1, .int .i64 2, .int .i64 3]) (hw : Below w0.heap.size w0 w) :
    Calls Try.prog 8 #[.int .u64 0, .int .u64 0, .slice (some ⟨b, 0, none⟩) 3 3] w fun y w' => ∃ b cv, y = .returned (.tuple #[.pointer (some ⟨b, 0, none⟩), .int .i64 0]) ∧ Mine w0 w' b cv (.slice none 0 0) L0 ∧ Below w.heap.size w w' ∧ w.heap.size ≤ b := by
  refine (New_good w0.heap.size 0 0 _ [1, 2, 3] w (nums_blk [1, 2, 3] hb (by decide) (by decide)) (by decide) (by decide) (by decide) hw.size).mono ?_
  rintro y w' ⟨b', cv, rfl, h1, h2, h3, h4⟩
  exact ⟨b', cv, rfl, ⟨⟨h2.blk, h2.cf, h2.row.elim (fun h => .inl (h.mono hw.size)) .inr, h2.nb, ⟨Nat.le_refl _, Nat.le_trans hw.size h1⟩, h2.sz, h2.nn⟩, h3, Nat.le_trans hw.size h1, fun k hk => (by cases hk), Lx.bstep hw (Nat.le_refl _) h4⟩, h4, h1⟩
/-- Nothing but two logs was written. -/
def OnlyTwo (b1 : Nat) (lv1 : Value) (b2 : Nat) (lv2 : Value) (W w' : World) : Prop := Stays (fun k => (k = b1 ∨ lv1.ownBlock = some k) ∨ (k = b2 ∨ lv2.ownBlock = some k)) W w'
def OnlyB (b : Nat) (W w' : World) : Prop := Stays (fun k => k = b) W w'
set_option maxRecDepth 100000 in
set_option maxHeartbeats 8000000 in
theorem EntryCompacts_walk (sv : Value) (n : Nat) (ix : Int) (w : World) (hs : Recs 5 QStep w sv n) (wi : (Lit.int .u64 ix).wf = true) :
    Calls Try.prog 6 #[sv, .int .u64 ix] w fun e w' => e = .returned (.bool true) ∧ Below w.heap.size w w' := by
  have hix : 0 ≤ ix ∧ ix < 18446744073709551616 := by
    unfold Lit.wf at wi
    rw [Bool.and_eq_true, decide_eq_true_eq, decide_eq_true_eq] at wi
    have h1 : IntKind.u64.min = 0 := rfl
    have h2 : IntKind.u64.max = 18446744073709551615 := rfl
    omega
  clear wi
  have hs' := Lib.hid hs
  obtain ⟨ps, cs, hsv, hsc, hsm, -⟩ := hs
  rw [hsv] at hs' ⊢
  clear hsv
  have hH := Lib.hid (heavy_calls (.slice ps n cs) n w hs'.out)
  have hnn : (n : Int) ≤ 9223372036854775807 := by unfold maxLen at hsm; omega
  replace hsc := Lib.hid hsc
  replace hsm := Lib.hid hsm
  replace hix := Lib.hid hix
  go_enter Try.func6, Try.ntmps6
  go_wp2_with fail
  refine hH.out.mono ?_
  rintro y w1 ⟨⟨hv, rfl⟩, hb1⟩
  clear hH
  cases hv with
  | true =>
    go_wp2_with fail
    refine (works26_calls _).mono ?_
    rintro y w2 ⟨rfl, hb2⟩
    have hB := Lib.hid (Lx.bstep hb1 (Nat.le_refl _) hb2)
    clear hb1 hb2
    go_wp2_with fail
    go_ret
    exact ⟨rfl, hB.out⟩
  | false =>
  replace hb1 := Lib.hid hb1
  have hm := made1 w1 #[.int .i64 1, .int .i64 2, .int .i64 3] 3
  replace hm := Lib.hid hm
  go_wp2_with fail
  generalize w1.alloc (.cells #[.int .i64 1, .int .i64 2, .int .i64 3] 3) = W at *
  refine (New_mine w W _ hm.out.1 (Lx.bstep hb1.out (Nat.le_refl _) hm.out.2.1)).mono ?_
  rintro y w2 ⟨b1, cv1, rfl, hL1, -⟩
  replace hL1 := Lib.hid hL1
  clear hm hb1
  have hm := made1 w2 #[.int .i64 1, .int .i64 2, .int .i64 3] 3
  replace hm := Lib.hid hm
  go_wp2_with fail
  generalize w2.alloc (.cells #[.int .i64 1, .int .i64 2, .int .i64 3] 3) = W2 at *
  have hL1' := hL1.out.then hm.out.2.1
  refine (New_mine2 w W2 _ hm.out.1 hL1'.below).mono ?_
  rintro y w3 ⟨b2, cv2, rfl, hL2, hb3, hlo⟩
  have hS0 : Hid (Twins w w3 b1 b2) := Lib.hid ⟨cv1, _, cv2, _, L0, ⟨hL1'.then hb3, hL2, (by have := hL1'.log.lt; omega), fun e => (by cases e), fun e => (by cases e), fun _ e => (by cases e)⟩, rfl⟩
  clear hm hL1 hL1' hL2 hb3 hlo
  go_wp2_with fail
  go_loopg [9] (n + 1) (fun k v9 wr => ∃ i : Nat, v9 = .int .i64 (i : Int) ∧ i ≤ n ∧ n < i + k ∧ Twins w wr b1 b2)
  case atStart => exact ⟨0, rfl, by omega, by omega, hS0.out⟩
  case round => as_aux_lemma =>
    clear hS0
    obtain ⟨i, rfl, hi1, hi2, hT⟩ := hrel
    cases gk with
    | zero => omega
    | succ k =>
      by_cases hlt : i < n
      case neg => as_aux_lemma =>
        have hd : decide ((i : Int) < (n : Int)) = false := by simp; omega
        clear hi1 hi2
        obtain ⟨cv1, lv1, cv2, lv2, L, hP, hL0⟩ := hT
        replace hP := Lib.hid hP
        have hok := Lib.hid hP.out.m1.ok
        have hsz := Lib.hid hP.out.m1.log.sz
        have hla := hP.out.m1.ok.last
        rw [hL0] at hla
        have hCL := Lib.hid (Last_calls hP.out.m1.log)
        obtain ⟨la, hla'⟩ : ∃ la, (lastOf L).1 = la := ⟨_, rfl⟩
        rw [hla'] at hla hCL
        have hlz : la ≤ 4096 ∧ 0 ≤ la := by have := hsz.out; omega
        have W1 : IntKind.u64.wrap (la + 1) = la + 1 := by rw [IntKind.wrap_u64]; omega
        have c1 : decide ((4096 : Int) < la) = false := by simp; omega
        have c1' : ¬ (4096 : Int) < la := by omega
        have c2 : (la + 1 == 0) = false := by simp; omega
        have c2' : ¬ la + 1 = 0 := by omega
        replace hla' := Lib.hid hla'
        replace hlz := Lib.hid hlz
        replace hL0 := Lib.hid hL0
        clear hla
        go_wp2_with fail
        refine hCL.out.mono ?_
        clear hCL
        generalize (lastOf L).2 = lt
        rintro y w4 ⟨rfl, hb⟩
        replace hP := Lib.hid (hP.out.then hb)
        clear hb
        go_wp2_with fail
        obtain ⟨ax, hax⟩ : ∃ x, ix.tmod (la + 1) = x := ⟨_, rfl⟩
        rw [hax]
        have hax0 : 0 ≤ ax ∧ ax ≤ la := by
          have h1 := Int.tmod_nonneg (la + 1) hix.out.1
          have h2 := Int.tmod_lt_of_pos ix (b := la + 1) (by have := hlz.out; omega)
          rw [hax] at h1 h2
          omega
        clear hax
        have hT : (termAt L ax).2 = 0 := termAt_in hok.out (by rw [hL0.out]; exact hax0.1) (by rw [hla'.out]; exact hax0.2)
        have hCm := Lib.hid (Compact_pair hP.out.swap ax hax0.1)
        rw [hT] at hCm
        replace hT := Lib.hid hT
        replace hax0 := Lib.hid hax0
        refine hCm.out.mono ?_
        clear hCm hP
        rintro y w5 ⟨rfl, cv2', lv2', hP⟩
        replace hP := Lib.hid hP.swap
        have hC1 := Lib.hid (Conf_calls hP.out.m1.log hok.out)
        rw [hla'.out] at hC1
        obtain ⟨SI, hSI⟩ : ∃ SI, saysI L la = SI := ⟨_, rfl⟩
        obtain ⟨SC, hSC⟩ : ∃ SC, saysC L la = SC := ⟨_, rfl⟩
        rw [hSI, hSC] at hC1
        go_wp2_with fail
        refine hC1.out.mono ?_
        clear hC1
        rintro y w6 ⟨v1, rfl, hcf1, hb, -⟩
        obtain ⟨p1, d1, rfl, -⟩ := hcf1.n.parts
        replace hP := Lib.hid (hP.out.then hb)
        clear hb
        have hmx : (if SI < ax then ax else SI) = max SI ax := by split <;> omega
        have hC2 := Lib.hid (Conf_calls hP.out.m2.log hP.out.m2.ok)
        rw [comp_last hok.out hsz.out hT.out, hla'.out, comp_saysI hok.out hsz.out hT.out hax0.out.2, comp_saysC hok.out hsz.out hT.out hax0.out.2, hSI, hSC] at hC2
        generalize max SI ax = MX at *
        replace hcf1 := Lib.hid hcf1
        replace hSI := Lib.hid hSI
        replace hSC := Lib.hid hSC
        go_wp2_with fail
        refine hC2.out.mono ?_
        clear hC2
        rintro y w7 ⟨v2, rfl, hcf2, hb, -⟩
        have hSm := Lib.hid (rSame_calls _ v2 SC SC w7 (hcf1.out.n.below hb) hcf2.n)
        rw [decide_eq_true rfl] at hSm
        obtain ⟨p2, d2, rfl, -⟩ := hcf2.n.parts
        replace hP := Lib.hid (hP.out.then hb)
        clear hb hcf1 hcf2
        go_wp2_with fail
        refine hSm.out.mono ?_
        clear hSm
        rintro y w8 ⟨rfl, hb⟩
        replace hP := Lib.hid (hP.out.then hb)
        clear hb
        have e1 : (MX != MX) = false := bne_self_eq_false _
        have e2 : (MX != if SI < ax then ax else SI) = false := by rw [hmx]; exact e1
        go_wp2_with fail
        clear e1 e2 hmx c1 c1' c2 c2' W1 hd hlt
        have hax1 := hax0.out
        have hlz1 := hlz.out
        go_loopg [20] 5000 (fun k v20 A => ∃ x : Int, v20 = .int .u64 x ∧ ax ≤ x ∧ x ≤ la + 2 ∧ la + 2 < x + k ∧ Below w8.heap.size w8 A)
        case atStart => exact ⟨ax, rfl, by omega, by omega, by omega, Below.refl _ _⟩
        case round => as_aux_lemma =>
          obtain ⟨x, rfl, hx1, hx2, hx3, hb⟩ := hrel
          cases gk with
          | zero => omega
          | succ k2 =>
            have W2 : IntKind.u64.wrap (la + 1) = la + 1 := by rw [IntKind.wrap_u64]; omega
            by_cases hxl : x ≤ la + 1
            case neg => as_aux_lemma =>
              have hd : decide (x ≤ la + 1) = false := decide_eq_false hxl
              replace hP := Lib.hid (hP.out.then hb)
              clear hx1 hx2 hx3 hb
              have V1 : IntKind.u64.wrap (ax + 1) = ax + 1 := by rw [IntKind.wrap_u64]; omega
              obtain ⟨s1, s2, s3, s4⟩ := comp_slice hok.out hsz.out hT.out
              have hS1 := Lib.hid (Slice_calls hP.out.m1.log hok.out (ax + 1) 4096 (by omega))
              have hS2 := Lib.hid (fun A (hb : Below wr.heap.size wr A) => Slice_calls (hP.out.m2.log.below hb) hP.out.m2.ok (ax + 1) 4096 (by omega))
              rw [s2, s4] at hS1
              rw [s1, s3] at hS2
              clear s1 s2 s3 s4
              generalize L.l.drop (ax - L.i).toNat = D at *
              obtain ⟨dn, hdn⟩ : ∃ dn, D.length = dn := ⟨_, rfl⟩
              replace hdn := Lib.hid hdn
              have hBP := Lib.hid hP.out.m1.below
              clear hP
              go_wp2_with fail
              refine hS1.out.mono ?_
              clear hS1
              rintro y w9 ⟨u1, rfl, hr1, hb9⟩
              have hE1 := Lib.hid hr1.ents
              obtain ⟨p3, d3, hu, -⟩ := hr1.ents
              rw [hdn.out] at hu
              subst hu
              clear hr1
              go_wp2_with fail
              refine (hS2.out _ hb9).mono ?_
              clear hS2
              rintro y w10 ⟨u2, rfl, hr2, hb10⟩
              have hSm := Lib.hid (SameEntries_calls w.heap.size w.heap.size D _ u2 w10 (hE1.out.below hb10) hr2.ents)
              obtain ⟨p4, d4, hu, -⟩ := hr2.ents
              rw [hdn.out] at hu
              subst hu
              replace hb9 := Lx.bstep hb9 (Nat.le_refl _) hb10
              clear hr2 hE1 hb10
              go_wp2_with fail
              refine hSm.out.mono ?_
              clear hSm
              rintro y w11 ⟨rfl, hb10⟩
              replace hb9 := Lx.bstep hb9 (Nat.le_refl _) hb10
              clear hb10
              go_wp2_with fail
              refine (works26_calls _).mono ?_
              rintro y w12 ⟨rfl, hb10⟩
              replace hb9 := Lib.hid (Lx.bstep hBP.out (Nat.le_refl _) (Lx.bstep hb9 (Nat.le_refl _) hb10))
              clear hb10
              go_wp2_with fail
              go_ret
              exact ⟨rfl, hb9.out⟩
            case pos => as_aux_lemma =>
            have hd : decide (x ≤ la + 1) = true := decide_eq_true hxl
            have W3 : IntKind.u64.wrap (x + 1) = x + 1 := by rw [IntKind.wrap_u64]; omega
            replace hP := Lib.hid (hP.out.then hb)
            have hx0 : 0 ≤ x := by omega
            obtain ⟨TT, hTT⟩ : ∃ TT, termAt L x = TT := ⟨_, rfl⟩
            obtain ⟨CC, hCC⟩ : ∃ CC, confAt L x = CC := ⟨_, rfl⟩
            obtain ⟨fb, hfb⟩ : ∃ fb, fitsB (compactL L ax) ax TT.1 = fb := ⟨_, rfl⟩
            have hfx : x = ax → fb = true := fun e => by
              subst e
              have h1 := comp_fits hok.out hsz.out hT.out
              rw [hTT] at h1
              exact hfb.symm.trans h1
            have hT1 := Lib.hid (Term_calls hP.out.m1.log hok.out x hx0)
            have hT2 := Lib.hid (fun A (hb : Below wr.heap.size wr A) => Term_calls (hP.out.m2.log.below hb) hP.out.m2.ok x hx0)
            have hD1 := Lib.hid (fun A (hb : Below wr.heap.size wr A) => ConfAt_calls (hP.out.m1.log.below hb) hok.out x hx0)
            have hD2 := Lib.hid (fun A (hb : Below wr.heap.size wr A) => ConfAt_calls (hP.out.m2.log.below hb) hP.out.m2.ok x hx0)
            have hF := Lib.hid (fun A (hb : Below wr.heap.size wr A) => Fits_calls (hP.out.m2.log.below hb) hP.out.m2.ok ax TT.1 hax0.out.1)
            rw [comp_term hok.out hsz.out hT.out hx1] at hT2 hD2
            rw [comp_confAt hok.out hsz.out hT.out hx1] at hD2
            rw [hTT] at hT1 hT2 hD1 hD2
            rw [hCC] at hD1 hD2
            rw [hfb] at hF
            obtain ⟨tt, te⟩ := TT
            dsimp only at hT1 hT2 hD1 hD2 hF
            have ht1 : (tt != tt) = false := bne_self_eq_false _
            have ht2 : (te != te) = false := bne_self_eq_false _
            replace hb := Lib.hid hb
            replace hTT := Lib.hid hTT
            replace hCC := Lib.hid hCC
            replace hfb := Lib.hid hfb
            replace hfx := Lib.hid hfx
            replace hx0 := Lib.hid hx0
            replace hx1 := Lib.hid hx1
            clear hP
            go_wp2_with fail
            refine hT1.out.mono ?_
            clear hT1
            rintro y w9 ⟨rfl, hb9⟩
            go_wp2_with fail
            refine (hT2.out _ hb9).mono ?_
            clear hT2
            rintro y w10 ⟨rfl, hb10⟩
            replace hb9 := Lx.bstep hb9 (Nat.le_refl _) hb10
            clear hb10
            go_wp2_with fail
            refine (hD1.out _ hb9).mono ?_
            clear hD1
            rintro y w11 ⟨u1, rfl, hc1, hb10⟩
            obtain ⟨p3, d3, rfl, -⟩ := hc1.n.parts
            replace hb9 := Lx.bstep hb9 (Nat.le_refl _) hb10
            clear hb10
            go_wp2_with fail
            refine (hD2.out _ hb9).mono ?_
            clear hD2
            rintro y w12 ⟨u2, rfl, hc2, hb10⟩
            have hSm := Lib.hid (rSame_calls _ u2 CC CC w12 (hc1.n.below hb10) hc2.n)
            rw [decide_eq_true rfl] at hSm
            obtain ⟨p4, d4, rfl, -⟩ := hc2.n.parts
            replace hb9 := Lx.bstep hb9 (Nat.le_refl _) hb10
            clear hb10 hc1 hc2
            go_wp2_with fail
            refine hSm.out.mono ?_
            clear hSm
            rintro y w13 ⟨rfl, hb10⟩
            replace hb9 := Lx.bstep hb9 (Nat.le_refl _) hb10
            clear hb10
            go_wp2_with fail
            refine (hF.out _ hb9).mono ?_
            clear hF
            rintro y w14 ⟨rfl, hb10⟩
            replace hb9 := Lib.hid (Lx.bstep hb.out (Nat.le_refl _) (Lx.bstep hb9 (Nat.le_refl _) hb10))
            clear hb10
            by_cases hxa : x = ax
            case' pos => (have hf1 := hfx.out hxa; have hf2 : (x == ax) = true := beq_iff_eq.2 hxa)
            case' neg => (have hf1 : fb = fb := rfl; have hf2 : (x == ax) = false := beq_eq_false_iff_ne.2 hxa)
            all_goals
              clear hxa
              cases fb
              all_goals
                first
                | (cases hf1; done)
                | (go_wp2_with fail
                   go_roundg k2
                   case measure => have := hx1.out; omega
                   case rel => exact ⟨x + 1, rfl, by have := hx1.out; omega, by omega, by omega, hb9.out⟩)
      case pos => as_aux_lemma =>
      have hlt1 : (i : Int) < (n : Int) := by omega
      have h0 : (0 : Int) ≤ (i : Int) := by omega
      obtain ⟨cv1, lv1, cv2, lv2, L, hP, hL0⟩ := hT
      obtain ⟨a, c', d, ii, t, esv, m, es', e0, -, -, g0, g1, g2, g3, g4, hin, wii, wtt⟩ := step_get hs'.out i hlt
      injection e0 with e1 e2 e3
      subst e1 e3
      replace g0 := (cell_below hP.m1.below g0).trans g0
      replace g1 := (cell_below hP.m1.below g1).trans g1
      replace g2 := (cell_below hP.m1.below g2).trans g2
      replace g3 := (cell_below hP.m1.below g3).trans g3
      replace g4 := (cell_below hP.m1.below g4).trans g4
      obtain ⟨p', c2, hesv, hc2, hc2m, -⟩ := id hin.1
      have hin' := Lib.hid hin
      obtain ⟨m', hm'⟩ : ∃ m', es'.length = m' := ⟨_, rfl⟩
      rw [hm'] at hesv hc2
      rw [hesv] at g3 hin'
      clear hesv hin
      have hm1 := made1 wr #[.int .i64 d, .int .u64 ii, .int .u64 t, .slice p' m' c2, .int .i64 m] 45
      dsimp only at hm1
      obtain ⟨A1, hb1, -⟩ := hm1
      obtain ⟨a0, a1, a2, a3, a4, -⟩ := A1.c5
      have hP1 := Lib.hid (hP.then hb1)
      have hB1 := Lib.hid hP1.out.m1.below
      replace hb1 := Lib.hid hb1
      replace A1 := Lib.hid A1
      have hbx : Hid (b1 < wr.heap.size) := Lib.hid hP.m1.log.lt
      have hby : Hid (b2 < wr.heap.size) := Lib.hid hP.m2.log.lt
      have hr1 := Lib.hid hP.m1.log.row.lt
      have hr2 := Lib.hid hP.m2.log.row.lt
      have hix2 : 0 ≤ ii := by
        unfold Lit.wf at wii
        rw [Bool.and_eq_true, decide_eq_true_eq, decide_eq_true_eq] at wii
        have h1 : IntKind.u64.min = 0 := rfl
        omega
      clear e2 hP wii wtt
      have hmn : Hid (m' ≤ c2) := Lib.hid hc2
      replace hm' := Lib.hid hm'
      replace hc2m := Lib.hid hc2m
      replace hix2 := Lib.hid hix2
      replace hL0 := Lib.hid hL0
      by_cases d0 : d = 0
      · as_aux_lemma =>
        subst d0
        by_cases hm0 : m' = 0
        · subst hm0
          go_wp2_with fail
          go_roundg k
          case measure => omega
          case rel => exact ⟨i + 1, by first | rfl | (rw [IntWalk.wrap64_in _ (by omega)]; rfl), by omega, by omega, _, _, _, _, _, hP1.out, hL0.out⟩
        · as_aux_lemma =>
          have hm2 : decide ((0 : Int) < (m' : Int)) = true := by simp; omega
          have hm3 : 0 < m' := by omega
          have hm4 : (1 : Int) ≤ (c2 : Int) := by omega
          have htl : (es'.take 1).length = 1 := by rw [List.length_take]; have := hm'.out; omega
          have hcp := Lib.hid (fun A (hb : Below (wr.alloc (.cells #[.int .i64 0, .int .u64 ii, .int .u64 t, .slice p' m' c2, .int .i64 m] 45)).heap.size (wr.alloc (.cells #[.int .i64 0, .int .u64 ii, .int .u64 t, .slice p' m' c2, .int .i64 m] 45)) A) => copied_calls w.heap.size (es'.take 1) (.slice p' 1 c2) A ((hin'.out.below (Lx.bstep hB1.out (Nat.le_refl _) hb)).upto2 1 (by have := hm'.out; omega)) (Nat.le_trans hB1.out.size hb.size) (by rw [htl]; decide) (fun j hj => by rw [List.getElem_take]; exact (hin'.out.2.2 j (by have := hm'.out; rw [htl] at hj; omega)).1))
          replace htl := Lib.hid htl
          go_wp2_with fail
          generalize wr.alloc (.cells #[.int .i64 0, .int .u64 ii, .int .u64 t, .slice p' m' c2, .int .i64 m] 45) = W5 at *
          have k3 := fun x : Ext W5 => (cell_below x.below a3).trans a3
          refine Lx.wp_region_chain_lit (fun w' => ∃ x : Lx.Ext W5, w' = x.wo) (fun b => W5.heap.size ≤ b) [3, 7] [] (fun _ => True) (by kernel_rfl) (by kernel_rfl) (by kernel_rfl) (by kernel_rfl) Lx.ext_drew trivial ?_
          repeat (refine Lx.wpCh_one (by rfl) (by rfl) ?_; go_big_quiet_step (fail); refine wpQuiet_nil ?_)
          refine Lx.wpCh_relp (fun v A => ∃ q d, v = .slice q 1 d ∧ Row w.heap.size W5.heap.size A (.slice q 1 d) (es'.take 1)) (by rfl) (by rfl) (fun h => by cases h) (fun w' hx hS R hR => ?_) (fun v hv => ?_)
          · obtain ⟨x, rfl⟩ := hx
            have hC := hcp.out x.wo x.below
            go_simp
            refine hC.mono ?_
            rintro e w' ⟨u, rfl, hrow, hb⟩
            obtain ⟨q, l, hu, -⟩ := hrow.ents
            rw [htl.out] at hu
            subst hu
            exact ⟨_, rfl, hR _ _ ⟨⟨_, Lx.bstep x.below (Nat.le_refl _) hb⟩, rfl⟩ ⟨_, _, rfl, hrow.mono x.below.size⟩ (fun h => by cases h)⟩
          obtain ⟨_, -, q1, d1, rfl, -⟩ := hv
          go_big_quiet_step (fail)
          refine wpQuiet_nil ?_
          repeat (refine Lx.wpCh_one (by rfl) (by rfl) ?_; go_big_quiet_step (fail); refine wpQuiet_nil ?_)
          refine Lx.wpCh_relp (fun v A => ∃ q d, v = .slice q 1 d ∧ Row w.heap.size W5.heap.size A (.slice q 1 d) (es'.take 1) ∧ Row w.heap.size W5.heap.size A (.slice q1 1 d1) (es'.take 1)) (by rfl) (by rfl) (fun h => by cases h) (fun w' hx hS R hR => ?_) (fun v hv => ?_)
          · obtain ⟨x, rfl⟩ := hx
            obtain ⟨_, _, e1, hrow1⟩ := hS
            cases e1
            have hC := hcp.out x.wo x.below
            go_simp
            refine hC.mono ?_
            rintro e w' ⟨u, rfl, hrow, hb⟩
            obtain ⟨q, l, hu, -⟩ := hrow.ents
            rw [htl.out] at hu
            subst hu
            exact ⟨_, rfl, hR _ _ ⟨⟨_, Lx.bstep x.below (Nat.le_refl _) hb⟩, rfl⟩ ⟨_, _, rfl, hrow.mono x.below.size, hrow1.below hb⟩ (fun h => by cases h)⟩
          obtain ⟨_, -, q2, d2, rfl, -⟩ := hv
          go_big_quiet_step (fail)
          refine wpQuiet_nil ?_
          repeat (refine Lx.wpCh_one (by rfl) (by rfl) ?_; go_big_quiet_step (fail); refine wpQuiet_nil ?_)
          refine Lx.wpCh_nil ?_
          intro w6 hx hS
          obtain ⟨x, rfl⟩ := hx
          obtain ⟨_, _, e1, hrow2, hrow1⟩ := hS
          cases e1
          have hb6 := x.below
          generalize x.wo = w6 at *
          clear x k3 hcp
          have hP6 := Lib.hid (hP1.out.then hb6)
          have hsz5 := Lib.hid hb1.out.size
          have hB6 := Lib.hid (Lx.bstep hB1.out (Nat.le_refl _) hb6)
          obtain ⟨ax, cx, cvx, evx, k0, k1, k2, k3, k4, hcx⟩ := hrow1.ents.get 0 (by rw [htl.out]; omega)
          obtain ⟨ay, cy, cvy, evy, y0, y1, y2, y3, y4, hcy⟩ := hrow2.ents.get 0 (by rw [htl.out]; omega)
          rw [htl.out] at evx evy
          injection evx with e1 e2 e3
          subst e1 e3
          injection evy with e4 e5 e6
          subst e4 e6
          have hax := (hrow1.block (k := ax.block) rfl).1
          have hay := (hrow2.block (k := ay.block) rfl).1
          generalize (es'.take 1)[0]'(by rw [htl.out]; omega) = en at *
          obtain ⟨ei, et, ek, s, ec⟩ := en
          obtain ⟨pw, cc, rfl, -⟩ := hcx.n.parts
          obtain ⟨pz, cz, rfl, -⟩ := hcy.n.parts
          have z0 : ax.add (0 * 5) = ax := rfl
          have z1 : ay.add (0 * 5) = ay := rfl
          rw [z0] at k0 k1 k2 k3 k4
          rw [z1] at y0 y1 y2 y3 y4
          dsimp only at k0 k1 k2 k3 y0 y1 y2 y3 hcx hcy
          have nO : ∀ g, W5.heap.size ≤ g → ¬ ((g = b1 ∨ lv1.ownBlock = some g) ∨ (g = b2 ∨ lv2.ownBlock = some g)) := fun g hg => by
            have h5 := hsz5.out
            have h6 := hbx.out
            have h7 := hby.out
            rintro ((rfl | e) | (rfl | e))
            · omega
            · have := hr1.out _ e; omega
            · omega
            · have := hr2.out _ e; omega
          have nx := nO _ hax
          have ny := nO _ hay
          have f0 := fun x : Cls (OnlyTwo b1 lv1 b2 lv2 w6) => stays_cell x.is k0 nx
          have f1 := fun x : Cls (OnlyTwo b1 lv1 b2 lv2 w6) => stays_cell x.is k1 nx
          have f2 := fun x : Cls (OnlyTwo b1 lv1 b2 lv2 w6) => stays_cell x.is k2 nx
          have f3 := fun x : Cls (OnlyTwo b1 lv1 b2 lv2 w6) => stays_cell x.is k3 nx
          have f4 := fun x : Cls (OnlyTwo b1 lv1 b2 lv2 w6) => stays_cell x.is k4 nx
          have t0 := fun x : Cls (OnlyTwo b1 lv1 b2 lv2 w6) => stays_cell x.is y0 ny
          have t1 := fun x : Cls (OnlyTwo b1 lv1 b2 lv2 w6) => stays_cell x.is y1 ny
          have t2 := fun x : Cls (OnlyTwo b1 lv1 b2 lv2 w6) => stays_cell x.is y2 ny
          have t3 := fun x : Cls (OnlyTwo b1 lv1 b2 lv2 w6) => stays_cell x.is y3 ny
          have t4 := fun x : Cls (OnlyTwo b1 lv1 b2 lv2 w6) => stays_cell x.is y4 ny
          have hnon : Nonempty (Cls (OnlyTwo b1 lv1 b2 lv2 w6)) := ⟨⟨_, Stays.of_below (Below.refl _ _)⟩⟩
          obtain ⟨AE, hAE⟩ : ∃ AE, appendE L ⟨ei, et, ek, s, ec⟩ = AE := ⟨_, rfl⟩
          have hA1 := Lib.hid (fun A (hP : Pair w A b1 cv1 lv1 L b2 cv2 lv2 L) (hc : Calms w.heap.size w6 A) => Append_pair hP ⟨ei, et, ek, s, ec⟩ (.slice pw ec.length cc) (hcx.keep hc).n)
          have hA2 := Lib.hid (fun A lv1' L' (hP : Pair w A b1 cv1 lv1' L' b2 cv2 lv2 L) (hc : Calms w.heap.size w6 A) => Append_pair hP.swap ⟨ei, et, ek, s, ec⟩ (.slice pz ec.length cz) (hcy.keep hc).n)
          rw [hAE] at hA1 hA2
          unfold entV at hA1 hA2
          dsimp only at hA1 hA2
          replace hAE := Lib.hid hAE
          clear hrow1 hrow2 hb6 hcx hcy z0 z1 e2 e5 nO nx ny hax hay a0 a1 a2 a3 a4
          go_wp2_with fail
          refine Lx.wp_region_chain_lit (fun w' => ∃ x : Cls (OnlyTwo b1 lv1 b2 lv2 w6), w' = x.wo) (fun _ => False) [4, 9] [] (fun A => Pair w A b1 cv1 lv1 L b2 cv2 lv2 L ∧ Calms w.heap.size w6 A) (by kernel_rfl) (by kernel_rfl) (by kernel_rfl) (by kernel_rfl) (cls_of (Stays.of_below ((Below.refl _ _).drew))) ⟨hP6.out.then ((Below.refl _ _).drew), Calms.below ((Below.refl _ _).drew)⟩ ?_
          repeat (refine Lx.wpCh_one (by rfl) (by rfl) ?_; go_big_quiet_step (fail); refine wpQuiet_nil ?_)
          clear k0 k1 k2 k3 k4 y0 y1 y2 y3 y4
          refine Lx.wpCh_relp (fun v A => v = .int .i64 AE ∧ Calms w.heap.size w6 A ∧ ∃ lv1', Pair w A b1 cv1 lv1' (appendL L ⟨ei, et, ek, s, ec⟩) b2 cv2 lv2 L) (by rfl) (by rfl) (fun h => by cases h) (fun w' hx hS R hR => ?_) (fun v hv => ?_)
          · obtain ⟨x, rfl⟩ := hx
            have hC := hA1.out x.wo hS.1 hS.2
            have hc := Lib.hid hS.2
            clear hS hA1 hA2
            go_simp
            refine hC.mono ?_
            rintro e w' ⟨rfl, lv1', h1, h2, h3, -⟩
            exact ⟨_, rfl, hR _ _ (cls_of (x.is.trans h2 (fun _ _ h => .inl h))) ⟨rfl, hc.out.trans h3, lv1', h1⟩ (fun h => by cases h)⟩
          obtain ⟨_, -, rfl, -⟩ := hv
          go_big_quiet_step (fail)
          refine wpQuiet_nil ?_
          repeat (refine Lx.wpCh_one (by rfl) (by rfl) ?_; go_big_quiet_step (fail); refine wpQuiet_nil ?_)
          refine Lx.wpCh_relp (fun v A => v = .int .i64 AE ∧ Twins w A b1 b2) (by rfl) (by rfl) (fun h => by cases h) (fun w' hx hS R hR => ?_) (fun v hv => ?_)
          · obtain ⟨x, rfl⟩ := hx
            obtain ⟨-, hc, lv1', h0⟩ := hS
            have hC := hA2.out x.wo lv1' _ h0 hc
            replace hc := Lib.hid hc
            clear h0 hA1 hA2
            go_simp
            refine hC.mono ?_
            rintro e w' ⟨rfl, lv2', h1, h2, h3, -⟩
            exact ⟨_, rfl, hR _ _ (cls_of (x.is.trans h2 (fun _ _ h => .inr h))) ⟨rfl, _, _, _, _, _, h1.swap, by rw [appendL_i]; exact hL0.out⟩ (fun h => by cases h)⟩
          obtain ⟨_, -, rfl, -⟩ := hv
          go_big_quiet_step (fail)
          refine wpQuiet_nil ?_
          repeat (refine Lx.wpCh_one (by rfl) (by rfl) ?_; go_big_quiet_step (fail); refine wpQuiet_nil ?_)
          refine Lx.wpCh_nil ?_
          intro w7 hx hS
          replace hS := Lib.hid hS.2
          have hAA : (AE != AE) = false := bne_self_eq_false AE
          clear hx hnon f0 f1 f2 f3 f4 t0 t1 t2 t3 t4 hA1 hA2
          go_wp2_with fail
          go_roundg k
          case measure => omega
          case rel => exact ⟨i + 1, by first | rfl | (rw [IntWalk.wrap64_in _ (by omega)]; rfl), by omega, by omega, hS.out⟩
      · as_aux_lemma =>
        have d0b : (d == 0) = false := by simpa using d0
        by_cases d1 : d = 1
        · as_aux_lemma =>
          subst d1
          clear d0
          have hE1 := Lib.hid (fun A (hb : Below (wr.alloc (.cells #[.int .i64 1, .int .u64 ii, .int .u64 t, .slice p' m' c2, .int .i64 m] 45)).heap.size (wr.alloc (.cells #[.int .i64 1, .int .u64 ii, .int .u64 t, .slice p' m' c2, .int .i64 m] 45)) A) => copied_calls w.heap.size es' (.slice p' m' c2) A (hin'.out.below (Lx.bstep hB1.out (Nat.le_refl _) hb)) (Nat.le_trans hB1.out.size hb.size) hin'.out.2.1 (fun j hj => (hin'.out.2.2 j hj).1))
          go_wp2_with fail
          generalize wr.alloc (.cells #[.int .i64 1, .int .u64 ii, .int .u64 t, .slice p' m' c2, .int .i64 m] 45) = W5 at *
          have hlt5 := Lib.hid hP1.out.m1.log.lt
          have hlt6 := Lib.hid hP1.out.m2.log.lt
          have hbxn1 : wr.heap.size ≠ b1 := by have := hbx.out; omega
          have k1 := fun x : Cls (OnlyB b1 W5) => stays_cell (a := ⟨wr.heap.size, 1, none⟩) x.is a1 hbxn1
          have k2 := fun x : Cls (OnlyB b1 W5) => stays_cell (a := ⟨wr.heap.size, 2, none⟩) x.is a2 hbxn1
          have k3 := fun x : Cls (OnlyB b1 W5) => stays_cell (a := ⟨wr.heap.size, 3, none⟩) x.is a3 hbxn1
          have hnon : Nonempty (Cls (OnlyB b1 W5)) := ⟨⟨_, Stays.of_below (Below.refl _ _)⟩⟩
          refine Lx.wp_region_chain_lit (fun w' => ∃ x : Cls (OnlyB b1 W5), w' = x.wo) (fun _ => False) [7, 8] [] (fun A => Below W5.heap.size W5 A) (by kernel_rfl) (by kernel_rfl) (by kernel_rfl) (by kernel_rfl) (cls_of (Stays.of_below ((Below.refl _ _).drew))) ((Below.refl _ _).drew) ?_
          repeat (refine Lx.wpCh_one (by rfl) (by rfl) ?_; go_big_quiet_step (fail); refine wpQuiet_nil ?_)
          clear k1 k2 k3
          refine Lx.wpCh_relp (fun v A => ∃ q l d, v = .slice q l d ∧ Row w.heap.size W5.heap.size A (.slice q l d) es' ∧ Below W5.heap.size W5 A) (by rfl) (by rfl) (fun h => by cases h) (fun w' hx hS R hR => ?_) (fun v hv => ?_)
          · obtain ⟨x, rfl⟩ := hx
            have hC := hE1.out x.wo hS
            clear hE1
            replace hS := Lib.hid hS
            go_simp
            refine hC.mono ?_
            rintro e w' ⟨u, rfl, hrow, hb⟩
            obtain ⟨q, l, hu, -⟩ := hrow.ents
            subst hu
            exact ⟨_, rfl, hR _ _ (cls_of (stays_step x.is hb)) ⟨_, _, _, rfl, hrow.mono hS.out.size, Lx.bstep hS.out (Nat.le_refl _) hb⟩ (fun h => by cases h)⟩
          obtain ⟨_, -, q, l, dd, rfl, -, -⟩ := hv
          go_big_quiet_step (fail)
          refine wpQuiet_nil ?_
          repeat (refine Lx.wpCh_one (by rfl) (by rfl) ?_; go_big_quiet_step (fail); refine wpQuiet_nil ?_)
          refine Lx.wpCh_relp (fun _ A => ∃ lv1', Pair w A b1 cv1 lv1' (storeL L ii t es') b2 cv2 lv2 L) (by rfl) (by rfl) (fun h => by cases h) (fun w' hx hS R hR => ?_) (fun v hv => ?_)
          · obtain ⟨x, rfl⟩ := hx
            obtain ⟨_, _, _, e1, hrow, hb⟩ := hS
            cases e1
            have hC := Store_pair (hP1.out.then hb) ii t hix2.out (.slice q l dd) es' hrow.ents (fun k hk => ⟨(hrow.block hk).2, by have := (hrow.block hk).1; have := hlt5.out; omega⟩)
            generalize storeAt L ii t es' = SA at *
            generalize storeE L ii t es' = SE at *
            go_simp
            refine hC.mono ?_
            rintro e w' ⟨pv, lv', rfl, hM, hst⟩
            exact ⟨_, rfl, hR _ _ (cls_of (x.is.trans hst (fun _ _ h => h))) ⟨_, hM⟩ (fun h => by cases h)⟩
          clear hv hE1
          go_big_quiet_step (fail)
          refine wpQuiet_nil ?_
          repeat (refine Lx.wpCh_one (by rfl) (by rfl) ?_; go_big_quiet_step (fail); refine wpQuiet_nil ?_)
          refine Lx.wpCh_nil ?_
          intro w6 hx hS
          obtain ⟨x, rfl⟩ := hx
          obtain ⟨lv1', hP6⟩ := hS
          replace hP6 := Lib.hid hP6
          have hx6 := x.is
          generalize x.wo = w6 at *
          have hsz6 := Lib.hid hx6.size
          replace a1 := stays_cell (a := ⟨wr.heap.size, 1, none⟩) hx6 a1 hbxn1
          replace a2 := stays_cell (a := ⟨wr.heap.size, 2, none⟩) hx6 a2 hbxn1
          replace a3 := stays_cell (a := ⟨wr.heap.size, 3, none⟩) hx6 a3 hbxn1
          have hE2 := Lib.hid (fun A (hb : Below w6.heap.size w6 A) => copied_calls w.heap.size es' (.slice p' m' c2) A (hin'.out.below (Lx.bstep hP6.out.m1.below (Nat.le_refl _) hb)) (Nat.le_trans hP6.out.m1.below.size hb.size) hin'.out.2.1 (fun j hj => (hin'.out.2.2 j hj).1))
          clear x hx6 hnon a0 a4 hbxn1
          go_wp2_with fail
          have hbxn2 : wr.heap.size ≠ b2 := by have := hby.out; omega
          have k1 := fun x : Cls (OnlyB b2 w6) => stays_cell (a := ⟨wr.heap.size, 1, none⟩) x.is a1 hbxn2
          have k2 := fun x : Cls (OnlyB b2 w6) => stays_cell (a := ⟨wr.heap.size, 2, none⟩) x.is a2 hbxn2
          have k3 := fun x : Cls (OnlyB b2 w6) => stays_cell (a := ⟨wr.heap.size, 3, none⟩) x.is a3 hbxn2
          have hnon : Nonempty (Cls (OnlyB b2 w6)) := ⟨⟨_, Stays.of_below (Below.refl _ _)⟩⟩
          refine Lx.wp_region_chain_lit (fun w' => ∃ x : Cls (OnlyB b2 w6), w' = x.wo) (fun _ => False) [7, 8] [] (fun A => Below w6.heap.size w6 A) (by kernel_rfl) (by kernel_rfl) (by kernel_rfl) (by kernel_rfl) (cls_of (Stays.of_below ((Below.refl _ _).drew))) ((Below.refl _ _).drew) ?_
          repeat (refine Lx.wpCh_one (by rfl) (by rfl) ?_; go_big_quiet_step (fail); refine wpQuiet_nil ?_)
          clear k1 k2 k3
          refine Lx.wpCh_relp (fun v A => ∃ q l d, v = .slice q l d ∧ Row w.heap.size w6.heap.size A (.slice q l d) es' ∧ Below w6.heap.size w6 A) (by rfl) (by rfl) (fun h => by cases h) (fun w' hx hS R hR => ?_) (fun v hv => ?_)
          · obtain ⟨x, rfl⟩ := hx
            have hC := hE2.out x.wo hS
            clear hE2
            replace hS := Lib.hid hS
            go_simp
            refine hC.mono ?_
            rintro e w' ⟨u, rfl, hrow, hb⟩
            obtain ⟨q, l, hu, -⟩ := hrow.ents
            subst hu
            exact ⟨_, rfl, hR _ _ (cls_of (stays_step x.is hb)) ⟨_, _, _, rfl, hrow.mono hS.out.size, Lx.bstep hS.out (Nat.le_refl _) hb⟩ (fun h => by cases h)⟩
          obtain ⟨_, -, q, l, dd, rfl, -, -⟩ := hv
          go_big_quiet_step (fail)
          refine wpQuiet_nil ?_
          repeat (refine Lx.wpCh_one (by rfl) (by rfl) ?_; go_big_quiet_step (fail); refine wpQuiet_nil ?_)
          refine Lx.wpCh_relp (fun _ A => Twins w A b1 b2) (by rfl) (by rfl) (fun h => by cases h) (fun w' hx hS R hR => ?_) (fun v hv => ?_)
          · obtain ⟨x, rfl⟩ := hx
            obtain ⟨_, _, _, e1, hrow, hb⟩ := hS
            cases e1
            have hC := Store_pair (hP6.out.swap.then hb) ii t hix2.out (.slice q l dd) es' hrow.ents (fun k hk => ⟨(hrow.block hk).2, by have := (hrow.block hk).1; have := hlt6.out; have := hsz6.out; omega⟩)
            generalize storeAt L ii t es' = SA at *
            generalize storeE L ii t es' = SE at *
            go_simp
            refine hC.mono ?_
            rintro e w' ⟨pv, lv', rfl, hM, hst⟩
            exact ⟨_, rfl, hR _ _ (cls_of (x.is.trans hst (fun _ _ h => h))) ⟨_, _, _, _, _, hM.swap, by rw [storeL_i]; exact hL0.out⟩ (fun h => by cases h)⟩
          clear hv hE2
          go_big_quiet_step (fail)
          refine wpQuiet_nil ?_
          repeat (refine Lx.wpCh_one (by rfl) (by rfl) ?_; go_big_quiet_step (fail); refine wpQuiet_nil ?_)
          refine Lx.wpCh_nil ?_
          intro w7 hx hS
          replace hS := Lib.hid hS
          clear hx hnon a1 a2 a3 hbxn2
          go_wp2_with fail
          go_roundg k
          case measure => omega
          case rel => exact ⟨i + 1, by first | rfl | (rw [IntWalk.wrap64_in _ (by omega)]; rfl), by omega, by omega, hS.out⟩
        · have d1b : (d == 1) = false := by simpa using d1
          clear d0 d1
          go_wp2_with fail
          go_roundg k
          case measure => omega
          case rel => exact ⟨i + 1, by first | rfl | (rw [IntWalk.wrap64_in _ (by omega)]; rfl), by omega, by omega, _, _, _, _, _, hP1.out, hL0.out⟩
end Go.Proofs.Ytkjfplkbgooflaa
