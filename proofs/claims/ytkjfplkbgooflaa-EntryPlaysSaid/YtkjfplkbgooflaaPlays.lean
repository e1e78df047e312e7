/-
  EntryPlays.
-/
import Derived.Test.YtkjfplkbgooflaaDuo
import Derived.Test.YtkjfplkbgooflaaAlike
import Derived.Test.YtkjfplkbgooflaaCopied
namespace Go.Proofs.Ytkjfplkbgooflaa
open Go Go.RowKit Go.Lst Go.Lx

/-- Two logs alike: one of the program's, one of the reference's. -/
def Both (w0 w : World) (b1 b2 : Nat) : Prop := ∃ cv1 lv1 cv2 lv2 L, Duo w0 w b1 cv1 lv1 L b2 cv2 lv2 L
theorem stays_at {O : Nat → Prop} {W w' : World} (h : Stays O W w') {a : Addr} {v : Value} (hc : W.cell? a = some v) (hn : ¬ O a.block) : w'.cell? a = some v := by
  rw [cell_same (h.block a.block (cell_lt hc) hn), hc]
theorem stays_on {O : Nat → Prop} {W w1 w2 : World} (h : Stays O W w1) (hb : Below w1.heap.size w1 w2) : Stays O W w2 := h.trans (Stays.of_below (O := fun _ => False) hb) (fun i _ hf => hf.elim)
/-- Nothing but two logs was written. -/
def TwoLogs (b1 : Nat) (lv1 : Value) (b2 : Nat) (lv2 : Value) (W w' : World) : Prop := Stays (fun k => (k = b1 ∨ lv1.ownBlock = some k) ∨ (k = b2 ∨ lv2.ownBlock = some k)) W w'
def OneLog (b : Nat) (W w' : World) : Prop := Stays (fun k => k = b) W w'
theorem u64_wf {x : Int} (h : (Lit.int .u64 x).wf = true) : 0 ≤ x ∧ x < 18446744073709551616 := by
  unfold Lit.wf at h
  rw [Bool.and_eq_true, decide_eq_true_eq, decide_eq_true_eq] at h
  have h1 : IntKind.u64.min = 0 := rfl
  have h2 : IntKind.u64.max = 18446744073709551615 := rfl
  omega
theorem Cf.below {B : Nat} {w w' : World} {v : Value} {xs : List Int} (h : Cf B w v xs) (hb : Below w.heap.size w w') : Cf B w' v xs := h.keep (Calms.below hb)
set_option maxRecDepth 100000 in
set_option maxHeartbeats 8000000 in
theorem EntryPlays_walk (ix tm : Int) (cv : Value) (conf : List Int) (sv : Value) (n : Nat) (w : World) (wi : (Lit.int .u64 ix).wf = true) (wt : (Lit.int .u64 tm).wf = true) (hc : Nums .i64 w cv conf) (hs : Recs 5 QStep w sv n) :
    Calls Try.prog 5 #[.int .u64 ix, .int .u64 tm, cv, sv] w fun e w' => e = .returned (.bool true) ∧ Below w.heap.size w w' := by
  have hix := u64_wf wi
  have htm := u64_wf wt
  clear wi wt
  have hs' := Lib.hid hs
  obtain ⟨ps, cs, hsv, hsc, hsm, -⟩ := hs
  rw [hsv] at hs' ⊢
  clear hsv
  obtain ⟨cp, cc, hcv, hcc, hcm, -⟩ := hc.parts
  subst hcv
  have hH := Lib.hid (heavy_calls (.slice ps n cs) n w hs'.out)
  have hnn : (n : Int) ≤ 9223372036854775807 := by unfold maxLen at hsm; omega
  have hCf := Lib.hid (Cf.given hc)
  have hC := Lib.hid hc
  clear hc
  replace hsc := Lib.hid hsc
  replace hsm := Lib.hid hsm
  replace hix := Lib.hid hix
  replace htm := Lib.hid htm
  replace hcc := Lib.hid hcc
  replace hcm := Lib.hid hcm
  go_enter Try.func5, Try.ntmps5
  go_wp2_with fail
  refine hH.out.mono ?_
  rintro y w1 ⟨⟨hv, rfl⟩, hb1⟩
  clear hH
  cases hv with
  | true =>
    go_wp2_with fail
    refine (works26_calls _).mono ?_
    rintro y w2 ⟨rfl, hb2⟩
    have hB := Lib.hid (Lx.bstep hb1 (Nat.le_refl _) hb2)
    clear hb1 hb2
    go_wp2_with fail
    go_ret
    exact ⟨rfl, hB.out⟩
  | false =>
  have hB := Lib.hid hb1
  replace hC := Lib.hid (hC.out.below hb1)
  replace hCf := Lib.hid (hCf.out.keep (Calms.below hb1))
  clear hb1
  by_cases hl : (100 : Int) < (conf.length : Int)
  · go_wp2_with fail
    refine (works26_calls _).mono ?_
    rintro y w2 ⟨rfl, hb2⟩
    replace hB := Lib.hid (Lx.bstep hB.out (Nat.le_refl _) hb2)
    clear hb2
    go_wp2_with fail
    go_ret
    exact ⟨rfl, hB.out⟩
  have l1 : conf.length ≤ 100 := by omega
  have hlb : decide ((100 : Int) < (conf.length : Int)) = false := decide_eq_false hl
  replace l1 := Lib.hid l1
  clear hl
  go_wp2_with (at_builtin; refine wpList_copied rfl (.const (.slice none 0 0)) (.tmp 37) 28 rfl 3 .i64 8 Try.underlying28 infoInt rfl (.slice cp conf.length cc) conf rfl hC.out (by have := l1.out; omega) ?_; intro x2 w2 h2 hb; replace h2 := Lib.hid (Nums.own h2 hC.out.2); replace hb := Lib.hid hb)
  replace hb := hb.out
  replace hb : Below w1.heap.size w1 w2 := Lx.bstep (by repeat (first | exact Below.refl _ _ | exact Lx.Ext.below _ | refine Below.drew ?_ | refine below_drewN ?_ _ | (refine Below.alloc ?_ (by first | exact Nat.le_refl _ | (simp; done) | (simp; omega)) _) | (refine Below.setCell ?_ (by first | exact Nat.le_refl _ | (simp; done) | (simp; omega)) _))) (Nat.le_refl _) hb
  replace hC := Lib.hid (hC.out.below hb)
  replace hCf := Lib.hid (hCf.out.below hb)
  replace hB := Lib.hid (Lx.bstep hB.out (Nat.le_refl _) hb)
  clear hb
  have hRN := Lib.hid (fun A (hb : Below w2.heap.size w2 A) => rNew_calls w.heap.size ix tm _ conf A (hCf.out.below hb) hix.out.1 htm.out.1 (Nat.le_trans hB.out.size hb.size))
  obtain ⟨m, hm⟩ : ∃ m, mayNew ix tm conf = m := ⟨_, rfl⟩
  cases m with
  | false =>
    have hN := Lib.hid (New_bad ix tm x2 conf w2 h2.out hm)
    rw [hm] at hRN
    clear hm
    refine hN.out.mono ?_
    clear hN
    rintro y w3 ⟨rfl, hb⟩
    have hR := hRN.out _ hb
    replace hB := Lib.hid (Lx.bstep hB.out (Nat.le_refl _) hb)
    clear hb hRN
    go_wp2_with fail
    refine hR.mono ?_
    clear hR
    rintro y w4 ⟨h1, -, hb⟩
    have hy := h1 (by first | rfl | trivial)
    subst hy
    replace hB := Lib.hid (Lx.bstep hB.out (Nat.le_refl _) hb)
    clear hb h1
    go_wp2_with fail
    refine (works26_calls _).mono ?_
    rintro y w5 ⟨rfl, hb⟩
    replace hB := Lib.hid (Lx.bstep hB.out (Nat.le_refl _) hb)
    clear hb
    go_wp2_with fail
    go_ret
    exact ⟨rfl, hB.out⟩
  | true =>
  have hN := Lib.hid (New_mine3 w w2 ix tm x2 conf h2.out hix.out.1 htm.out.1 hm hB.out)
  rw [hm] at hRN
  clear hm
  refine hN.out.mono ?_
  clear hN
  rintro y w3 ⟨b1, cv1, rfl, hM, hb⟩
  have hR := hRN.out _ hb
  replace hM := Lib.hid hM
  clear hb hRN
  go_wp2_with fail
  refine hR.mono ?_
  clear hR
  rintro y w4 ⟨-, h1, hb⟩
  obtain ⟨b2, rfl, hlo, hRA⟩ := h1 (by first | rfl | trivial)
  have hS0 : Hid (Both w w4 b1 b2) := Lib.hid ⟨_, _, _, _, _, Duo.start hM.out hb hRA hlo⟩
  clear hM hb h1 hlo hRA h2 hC hCf hB
  go_wp2_with fail
  go_loopg [12] (n + 2) (fun k v12 wr => ∃ i : Nat, v12 = .int .i64 (i : Int) ∧ i ≤ n ∧ n < i + k ∧ Both w wr b1 b2)
  case atStart => exact ⟨0, rfl, by omega, by omega, hS0.out⟩
  case round => as_aux_lemma =>
    clear hS0
    obtain ⟨i, rfl, hi1, hi2, hT⟩ := hrel
    cases gk with
    | zero => omega
    | succ k =>
      have hd : decide ((i : Int) ≤ (n : Int)) = true := by simp; omega
      obtain ⟨cv1, lv1, cv2, lv2, L, hP⟩ := hT
      have hA := Lib.hid (alike_calls hP.m1.log hP.m2 hP.m1.ok)
      replace hP := Lib.hid hP
      go_wp2_with fail
      refine hA.out.mono ?_
      clear hA
      rintro y w5 ⟨rfl, hb⟩
      replace hP := Lib.hid (hP.out.then hb)
      clear hb
      by_cases hlt : i < n
      case neg => as_aux_lemma =>
        have e1 : i = n := by omega
        subst e1
        have hbe : ((i : Int) == (i : Int)) = true := beq_self_eq_true _
        have hB := Lib.hid hP.out.m1.below
        clear hP
        go_wp2_with fail
        refine (works26_calls _).mono ?_
        rintro y w2 ⟨rfl, hb2⟩
        replace hB := Lib.hid (Lx.bstep hB.out (Nat.le_refl _) hb2)
        clear hb2
        go_wp2_with fail
        go_ret
        exact ⟨rfl, hB.out⟩
      case pos => as_aux_lemma =>
      have hbe : ((i : Int) == (n : Int)) = false := by simp; omega
      have hlt1 : (i : Int) < (n : Int) := by omega
      have h0 : (0 : Int) ≤ (i : Int) := by omega
      obtain ⟨a, c', d, ii, t, esv, m, es', e0, -, -, g0, g1, g2, g3, g4, hin, wii, -⟩ := step_get hs'.out i hlt
      injection e0 with e1 e2 e3
      subst e1 e3
      have hbw := hP.out.m1.below
      replace g0 := (cell_below hbw g0).trans g0
      replace g1 := (cell_below hbw g1).trans g1
      replace g2 := (cell_below hbw g2).trans g2
      replace g3 := (cell_below hbw g3).trans g3
      replace g4 := (cell_below hbw g4).trans g4
      obtain ⟨p', c2, hesv, hc2, hc2m, -⟩ := id hin.1
      have hin' := Lib.hid hin
      obtain ⟨m', hm'⟩ : ∃ m', es'.length = m' := ⟨_, rfl⟩
      rw [hm'] at hesv hc2
      rw [hesv] at g3 hin'
      clear hesv hin hbw
      have hm1 := made1 w5 #[.int .i64 d, .int .u64 ii, .int .u64 t, .slice p' m' c2, .int .i64 m] 45
      dsimp only at hm1
      obtain ⟨A1, hb1, -⟩ := hm1
      obtain ⟨a0, a1, a2, a3, a4, -⟩ := A1.c5
      have hP1 := Lib.hid (hP.out.then hb1)
      have hB1 := Lib.hid hP1.out.m1.below
      replace hb1 := Lib.hid hb1
      have hbx : Hid (b1 < w5.heap.size) := Lib.hid hP.out.m1.log.lt
      have hby : Hid (b2 < w5.heap.size) := Lib.hid hP.out.m2.lt
      have hr1 := Lib.hid hP.out.m1.log.row.lt
      have hr2 := Lib.hid (fun k hk => (hP.out.m2.row.block (k := k) hk).2)
      have hq1 := Lib.hid hP.out.m1.own
      have hq2 := Lib.hid (fun k hk => (hP.out.m2.row.block (k := k) hk).1)
      have hbo := Lib.hid hP.out.m1.lo
      have hbp := Lib.hid hP.out.m2.lo.2
      have hix2 := u64_wf wii
      clear e2 hP wii A1
      have hmn : Hid (m' ≤ c2) := Lib.hid hc2
      replace hm' := Lib.hid hm'
      replace hc2m := Lib.hid hc2m
      replace hix2 := Lib.hid hix2
      by_cases d0 : d = 0
      · as_aux_lemma =>
        subst d0
        by_cases hm0 : m' = 0
        · subst hm0
          go_wp2_with fail
          go_roundg k
          case measure => omega
          case rel => exact ⟨i + 1, by first | rfl | (rw [IntWalk.wrap64_in _ (by omega)]; rfl), by omega, by omega, _, _, _, _, _, hP1.out⟩
        · as_aux_lemma =>
          have hm2 : decide ((0 : Int) < (m' : Int)) = true := by simp; omega
          have hm3 : 0 < m' := by omega
          have hm4 : (1 : Int) ≤ (c2 : Int) := by omega
          have htl : (es'.take 1).length = 1 := by rw [List.length_take]; have := hm'.out; omega
          have hcp := Lib.hid (copied_calls w.heap.size (es'.take 1) (.slice p' 1 c2) (w5.alloc (.cells #[.int .i64 0, .int .u64 ii, .int .u64 t, .slice p' m' c2, .int .i64 m] 45)) ((hin'.out.below hB1.out).pre 1 (by have := hm'.out; omega)) hB1.out.size (by rw [htl]; decide) (fun j hj => by rw [List.getElem_take]; exact (hin'.out.2.2 j (by have := hm'.out; rw [htl] at hj; omega)).1))
          replace htl := Lib.hid htl
          go_wp2_with fail
          generalize w5.alloc (.cells #[.int .i64 0, .int .u64 ii, .int .u64 t, .slice p' m' c2, .int .i64 m] 45) = W5 at *
          refine hcp.out.mono ?_
          clear hcp
          rintro y w6 ⟨u6, rfl, hrow1, hb6⟩
          obtain ⟨q1, d1, hu6, -⟩ := hrow1.ents.parts
          rw [htl.out] at hu6
          subst hu6
          replace a3 := (cell_below hb6 a3).trans a3
          have hP6 := Lib.hid (hP1.out.then hb6)
          have hsz5 := Lib.hid hb1.out.size
          have hsz6 := Lib.hid hb6.size
          have hB6 := Lib.hid (Lx.bstep hB1.out (Nat.le_refl _) hb6)
          obtain ⟨ax, cx, cvx, evx, k0, k1, k2, k3, k4, hcx⟩ := hrow1.ents.get 0 (by rw [htl.out]; omega)
          obtain ⟨ay, cy, cvy, evy, y0, y1, y2, y3, y4, hcy⟩ := hin'.out.1.get 0 (by have := hm'.out; omega)
          rw [htl.out] at evx
          rw [hm'.out] at evy
          injection evx with e1 e2 e3
          subst e1 e3
          injection evy with e4 e5 e6
          subst e4 e6
          have hax := (hrow1.block (k := ax.block) rfl).1
          have hay : ay.block < w.heap.size := cell_lt y0
          have hen : (es'.take 1)[0]'(by rw [htl.out]; omega) = es'[0]'(by have := hm'.out; omega) := List.getElem_take
          rw [hen] at k0 k1 k2 k3 hcx
          generalize es'[0]'(by have := hm'.out; omega) = en at *
          obtain ⟨ei, et, ek, s, ec⟩ := en
          obtain ⟨pw, cc9, rfl, -⟩ := hcx.n.parts
          obtain ⟨pz, cz, rfl, -⟩ := hcy.n.parts
          have z0 : ax.add (0 * 5) = ax := rfl
          have z1 : ay.add (0 * 5) = ay := rfl
          rw [z0] at k0 k1 k2 k3 k4
          rw [z1] at y0 y1 y2 y3 y4
          dsimp only at k0 k1 k2 k3 y0 y1 y2 y3 hcx hcy
          replace y0 := (cell_below hB6.out y0).trans y0
          replace y1 := (cell_below hB6.out y1).trans y1
          replace y2 := (cell_below hB6.out y2).trans y2
          replace y3 := (cell_below hB6.out y3).trans y3
          replace y4 := (cell_below hB6.out y4).trans y4
          have hcy6 := hcy.keep (Calms.below hB6.out)
          have nO : ∀ g, w5.heap.size ≤ g → ¬ ((g = b1 ∨ lv1.ownBlock = some g) ∨ (g = b2 ∨ lv2.ownBlock = some g)) := fun g hg => by
            have h6 := hbx.out
            have h7 := hby.out
            rintro ((rfl | e) | (rfl | e))
            · omega
            · have := hr1.out _ e; omega
            · omega
            · have := hr2.out _ e; omega
          have nL : ∀ g, g < w.heap.size → ¬ ((g = b1 ∨ lv1.ownBlock = some g) ∨ (g = b2 ∨ lv2.ownBlock = some g)) := fun g hg => by
            have h6 := hbo.out
            have h7 := hbp.out
            rintro ((rfl | e) | (rfl | e))
            · omega
            · have := hq1.out _ e; omega
            · omega
            · have := hq2.out _ e; omega
          have nx := nO _ (Nat.le_trans hsz5.out hax)
          have ny := nL _ hay
          have nz := nO _ (Nat.le_refl w5.heap.size)
          have g3 := fun x : Cls (TwoLogs b1 lv1 b2 lv2 w6) => stays_at (a := ⟨w5.heap.size, 3, none⟩) x.is a3 nz
          have f0 := fun x : Cls (TwoLogs b1 lv1 b2 lv2 w6) => stays_at x.is k0 nx
          have f1 := fun x : Cls (TwoLogs b1 lv1 b2 lv2 w6) => stays_at x.is k1 nx
          have f2 := fun x : Cls (TwoLogs b1 lv1 b2 lv2 w6) => stays_at x.is k2 nx
          have f3 := fun x : Cls (TwoLogs b1 lv1 b2 lv2 w6) => stays_at x.is k3 nx
          have f4 := fun x : Cls (TwoLogs b1 lv1 b2 lv2 w6) => stays_at x.is k4 nx
          have t0 := fun x : Cls (TwoLogs b1 lv1 b2 lv2 w6) => stays_at x.is y0 ny
          have t1 := fun x : Cls (TwoLogs b1 lv1 b2 lv2 w6) => stays_at x.is y1 ny
          have t2 := fun x : Cls (TwoLogs b1 lv1 b2 lv2 w6) => stays_at x.is y2 ny
          have t3 := fun x : Cls (TwoLogs b1 lv1 b2 lv2 w6) => stays_at x.is y3 ny
          have t4 := fun x : Cls (TwoLogs b1 lv1 b2 lv2 w6) => stays_at x.is y4 ny
          have hnon : Nonempty (Cls (TwoLogs b1 lv1 b2 lv2 w6)) := ⟨⟨_, Stays.of_below (Below.refl _ _)⟩⟩
          obtain ⟨AE, hAE⟩ : ∃ AE, appendE L ⟨ei, et, ek, s, ec⟩ = AE := ⟨_, rfl⟩
          have hA1 := Lib.hid (fun A (hP : Duo w A b1 cv1 lv1 L b2 cv2 lv2 L) (hc : Calms w.heap.size w6 A) => Append_duo hP ⟨ei, et, ek, s, ec⟩ (.slice pw ec.length cc9) (hcx.keep hc).n)
          have hA2 := Lib.hid (fun A lv1' L' (hP : Duo w A b1 cv1 lv1' L' b2 cv2 lv2 L) (hc : Calms w.heap.size w6 A) => rAppend_duo hP ⟨ei, et, ek, s, ec⟩ (.slice pz ec.length cz) (hcy6.keep hc))
          rw [hAE] at hA1 hA2
          unfold entV at hA1 hA2
          dsimp only at hA1 hA2
          replace hAE := Lib.hid hAE
          have hm5 : (0 : Int) < (m' : Int) := by omega
          clear hrow1 hb6 hcx hcy hcy6 z0 z1 e2 e5 nO nL nx ny nz hax hay a0 a1 a2 a4 hen
          go_wp2_with fail
          refine Lx.wp_region_chain_lit (fun w' => ∃ x : Cls (TwoLogs b1 lv1 b2 lv2 w6), w' = x.wo) (fun _ => False) [4, 10] [] (fun A => Duo w A b1 cv1 lv1 L b2 cv2 lv2 L ∧ Calms w.heap.size w6 A) (by kernel_rfl) (by kernel_rfl) (by kernel_rfl) (by kernel_rfl) (cls_of (Stays.of_below ((Below.refl _ _).drew))) ⟨hP6.out.then ((Below.refl _ _).drew), Calms.below ((Below.refl _ _).drew)⟩ ?_
          repeat (refine Lx.wpCh_one (by rfl) (by rfl) ?_; go_big_quiet_step (fail); refine wpQuiet_nil ?_)
          clear k0 k1 k2 k3 k4 y0 y1 y2 y3 y4 a3
          refine Lx.wpCh_relp (fun v A => v = .int .i64 AE ∧ Calms w.heap.size w6 A ∧ ∃ lv1', Duo w A b1 cv1 lv1' (appendL L ⟨ei, et, ek, s, ec⟩) b2 cv2 lv2 L) (by rfl) (by rfl) (fun h => by cases h) (fun w' hx hS R hR => ?_) (fun v hv => ?_)
          · obtain ⟨x, rfl⟩ := hx
            have hC := hA1.out x.wo hS.1 hS.2
            have hc := Lib.hid hS.2
            clear hS hA1 hA2
            go_simp
            refine hC.mono ?_
            rintro e w' ⟨rfl, lv1', h1, h2, h3⟩
            exact ⟨_, rfl, hR _ _ (cls_of (x.is.trans h2 (fun _ _ h => .inl h))) ⟨rfl, hc.out.trans h3, lv1', h1⟩ (fun h => by cases h)⟩
          obtain ⟨_, -, rfl, -⟩ := hv
          go_big_quiet_step (fail)
          refine wpQuiet_nil ?_
          repeat (refine Lx.wpCh_one (by rfl) (by rfl) ?_; go_big_quiet_step (fail); refine wpQuiet_nil ?_)
          refine Lx.wpCh_relp (fun v A => v = .int .i64 AE ∧ Both w A b1 b2) (by rfl) (by rfl) (fun h => by cases h) (fun w' hx hS R hR => ?_) (fun v hv => ?_)
          · obtain ⟨x, rfl⟩ := hx
            obtain ⟨-, hc, lv1', h0⟩ := hS
            have hC := hA2.out x.wo lv1' _ h0 hc
            clear h0 hc hA1 hA2
            go_simp
            refine hC.mono ?_
            rintro e w' ⟨rfl, lv2', h1, h2⟩
            exact ⟨_, rfl, hR _ _ (cls_of (x.is.trans h2 (fun _ _ h => .inr h))) ⟨rfl, _, _, _, _, _, h1⟩ (fun h => by cases h)⟩
          obtain ⟨_, -, rfl, -⟩ := hv
          go_big_quiet_step (fail)
          refine wpQuiet_nil ?_
          repeat (refine Lx.wpCh_one (by rfl) (by rfl) ?_; go_big_quiet_step (fail); refine wpQuiet_nil ?_)
          refine Lx.wpCh_nil ?_
          intro w7 hx hS
          replace hS := Lib.hid hS.2
          clear hx hnon f0 f1 f2 f3 f4 t0 t1 t2 t3 t4 g3 hA1 hA2
          go_wp2_with fail
          go_roundg k
          case measure => omega
          case rel => exact ⟨i + 1, by first | rfl | (rw [IntWalk.wrap64_in _ (by omega)]; rfl), by omega, by omega, hS.out⟩
      · as_aux_lemma =>
        have d0b : (d == 0) = false := by simpa using d0
        by_cases d1 : d = 1
        · as_aux_lemma =>
          subst d1
          clear d0
          have hE1 := Lib.hid (fun A (hb : Below (w5.alloc (.cells #[.int .i64 1, .int .u64 ii, .int .u64 t, .slice p' m' c2, .int .i64 m] 45)).heap.size (w5.alloc (.cells #[.int .i64 1, .int .u64 ii, .int .u64 t, .slice p' m' c2, .int .i64 m] 45)) A) => copied_calls w.heap.size es' (.slice p' m' c2) A (hin'.out.below (Lx.bstep hB1.out (Nat.le_refl _) hb)) (Nat.le_trans hB1.out.size hb.size) hin'.out.2.1 (fun j hj => (hin'.out.2.2 j hj).1))
          go_wp2_with fail
          generalize w5.alloc (.cells #[.int .i64 1, .int .u64 ii, .int .u64 t, .slice p' m' c2, .int .i64 m] 45) = W5 at *
          have hlt5 := Lib.hid hP1.out.m1.log.lt
          have hlt6 := Lib.hid hP1.out.m2.lt
          have hbxn1 : w5.heap.size ≠ b1 := by have := hbx.out; omega
          have k1 := fun x : Cls (OneLog b1 W5) => stays_at (a := ⟨w5.heap.size, 1, none⟩) x.is a1 hbxn1
          have k2 := fun x : Cls (OneLog b1 W5) => stays_at (a := ⟨w5.heap.size, 2, none⟩) x.is a2 hbxn1
          have k3 := fun x : Cls (OneLog b1 W5) => stays_at (a := ⟨w5.heap.size, 3, none⟩) x.is a3 hbxn1
          have hnon : Nonempty (Cls (OneLog b1 W5)) := ⟨⟨_, Stays.of_below (Below.refl _ _)⟩⟩
          obtain ⟨SA, hSA⟩ : ∃ SA, storeAt L ii t es' = SA := ⟨_, rfl⟩
          obtain ⟨SE, hSE⟩ : ∃ SE, storeE L ii t es' = SE := ⟨_, rfl⟩
          obtain ⟨ln, hln⟩ : ∃ ln, (storePut L ii t es').length = ln := ⟨_, rfl⟩
          replace hSA := Lib.hid hSA
          replace hSE := Lib.hid hSE
          replace hln := Lib.hid hln
          refine Lx.wp_region_chain_lit (fun w' => ∃ x : Cls (OneLog b1 W5), w' = x.wo) (fun _ => False) [7, 8] [] (fun A => Below W5.heap.size W5 A) (by kernel_rfl) (by kernel_rfl) (by kernel_rfl) (by kernel_rfl) (cls_of (Stays.of_below ((Below.refl _ _).drew))) ((Below.refl _ _).drew) ?_
          repeat (refine Lx.wpCh_one (by rfl) (by rfl) ?_; go_big_quiet_step (fail); refine wpQuiet_nil ?_)
          clear k1 k2 k3
          refine Lx.wpCh_relp (fun v A => ∃ q l d, v = .slice q l d ∧ Row w.heap.size W5.heap.size A (.slice q l d) es' ∧ Below W5.heap.size W5 A) (by rfl) (by rfl) (fun h => by cases h) (fun w' hx hS R hR => ?_) (fun v hv => ?_)
          · obtain ⟨x, rfl⟩ := hx
            have hC := hE1.out x.wo hS
            clear hE1
            replace hS := Lib.hid hS
            go_simp
            refine hC.mono ?_
            rintro e w' ⟨u, rfl, hrow, hb⟩
            obtain ⟨q, l, hu, -⟩ := hrow.ents
            subst hu
            exact ⟨_, rfl, hR _ _ (cls_of (stays_on x.is hb)) ⟨_, _, _, rfl, hrow.mono hS.out.size, Lx.bstep hS.out (Nat.le_refl _) hb⟩ (fun h => by cases h)⟩
          obtain ⟨_, -, q, l, dd, rfl, -, -⟩ := hv
          go_big_quiet_step (fail)
          refine wpQuiet_nil ?_
          repeat (refine Lx.wpCh_one (by rfl) (by rfl) ?_; go_big_quiet_step (fail); refine wpQuiet_nil ?_)
          refine Lx.wpCh_relp (fun v A => ∃ q d, v = .tuple #[.int .u64 SA, .slice q ln d, .int .i64 SE] ∧ Row w.heap.size W5.heap.size A (.slice q ln d) (storePut L ii t es') ∧ ∃ lv1', Duo w A b1 cv1 lv1' (storeL L ii t es') b2 cv2 lv2 L) (by rfl) (by rfl) (fun h => by cases h) (fun w' hx hS R hR => ?_) (fun v hv => ?_)
          · obtain ⟨x, rfl⟩ := hx
            obtain ⟨_, _, _, e1, hrow, hb⟩ := hS
            cases e1
            have hC := Store_duo (hP1.out.then hb) ii t hix2.out.1 (.slice q l dd) es' hrow.ents (fun k hk => ⟨(hrow.block hk).2, by have := (hrow.block hk).1; have := hlt5.out; omega⟩)
            rw [hSA.out, hSE.out] at hC
            replace hb := Lib.hid hb
            go_simp
            refine hC.mono ?_
            rintro e w' ⟨pv, lv', rfl, hR9, hM, hst⟩
            obtain ⟨q9, d9, hv9, -⟩ := hR9.ents
            rw [hln.out] at hv9
            subst hv9
            exact ⟨_, rfl, hR _ _ (cls_of (x.is.trans hst (fun _ _ h => h))) ⟨_, _, rfl, hR9.mono hb.out.size, _, hM⟩ (fun h => by cases h)⟩
          obtain ⟨_, -, qx, dx, rfl, -, -⟩ := hv
          clear hE1
          go_big_quiet_step (fail)
          refine wpQuiet_nil ?_
          repeat (refine Lx.wpCh_one (by rfl) (by rfl) ?_; go_big_quiet_step (fail); refine wpQuiet_nil ?_)
          refine Lx.wpCh_nil ?_
          intro w6 hx hS
          obtain ⟨x, rfl⟩ := hx
          obtain ⟨qx', dx', ex', hRx, lv1', hP6⟩ := hS
          cases ex'
          have hx6 := x.is
          generalize x.wo = w6 at *
          have hsz6 := Lib.hid hx6.size
          replace a1 := stays_at (a := ⟨w5.heap.size, 1, none⟩) hx6 a1 hbxn1
          replace a2 := stays_at (a := ⟨w5.heap.size, 2, none⟩) hx6 a2 hbxn1
          replace a3 := stays_at (a := ⟨w5.heap.size, 3, none⟩) hx6 a3 hbxn1
          have hR2 := rStore_duo hP6 ii t hix2.out.1 (.slice p' m' c2) es' (hin'.out.below hP6.m1.below) (fun h0 k hk => hin'.out.1.block_lt h0 hk) (by have := hin'.out.2.1; unfold cap47 at this; exact this)
          rw [hSA.out, hSE.out] at hR2
          replace hR2 := Lib.hid hR2
          have hP6' := Lib.hid hP6
          have hb2x := Lib.hid (show b2 < W5.heap.size from hlt6.out)
          replace hRx := Lib.hid hRx
          clear x hx6 hnon a0 a4 hbxn1 hP6
          go_wp2_with fail
          refine hR2.out.mono ?_
          clear hR2
          rintro y w7 ⟨pv, lv2', rfl, hE2, hP7, hst⟩
          have hEx := hRx.out.ents.keep (hP6'.out.calms2 hst) (fun g hg => hst.block g (hRx.out.block hg).2 (by have := (hRx.out.block hg).1; have := hb2x.out; omega))
          have hSm := SameEntries_calls w.heap.size w.heap.size (storePut L ii t es') _ pv w7 hEx hE2
          obtain ⟨qy, dy, hpv, -⟩ := hE2.parts
          rw [hln.out] at hpv
          subst hpv
          replace hSm := Lib.hid hSm
          replace hP7 := Lib.hid hP7
          clear hEx hE2 hst hRx hP6'
          go_wp2_with fail
          refine hSm.out.mono ?_
          clear hSm
          rintro y w8 ⟨rfl, hb8⟩
          replace hP7 := Lib.hid (hP7.out.then hb8)
          clear hb8
          go_wp2_with fail
          go_roundg k
          case measure => omega
          case rel => exact ⟨i + 1, by first | rfl | (rw [IntWalk.wrap64_in _ (by omega)]; rfl), by omega, by omega, _, _, _, _, _, hP7.out⟩
        · as_aux_lemma =>
          have d1b : (d == 1) = false := by simpa using d1
          by_cases d2 : d = 2
          · as_aux_lemma =>
            subst d2
            clear d0 d1
            go_wp2_with fail
            generalize w5.alloc (.cells #[.int .i64 2, .int .u64 ii, .int .u64 t, .slice p' m' c2, .int .i64 m] 45) = W5 at *
            have nz : ¬ ((w5.heap.size = b1 ∨ lv1.ownBlock = some w5.heap.size) ∨ (w5.heap.size = b2 ∨ lv2.ownBlock = some w5.heap.size)) := by
              have h6 := hbx.out
              have h7 := hby.out
              rintro ((e | e) | (e | e))
              · omega
              · have := hr1.out _ e; omega
              · omega
              · have := hr2.out _ e; omega
            have g1 := fun x : Cls (TwoLogs b1 lv1 b2 lv2 W5) => stays_at (a := ⟨w5.heap.size, 1, none⟩) x.is a1 nz
            have hnon : Nonempty (Cls (TwoLogs b1 lv1 b2 lv2 W5)) := ⟨⟨_, Stays.of_below (Below.refl _ _)⟩⟩
            obtain ⟨TE, hTE⟩ : ∃ TE, (termAt L ii).2 = TE := ⟨_, rfl⟩
            have hA1 := Lib.hid (fun A (hP : Duo w A b1 cv1 lv1 L b2 cv2 lv2 L) => Compact_duo hP ii hix2.out.1)
            have hA2 := Lib.hid (fun A cv1' lv1' L' (hP : Duo w A b1 cv1' lv1' L' b2 cv2 lv2 L) => rCompact_duo hP ii hix2.out.1)
            rw [hTE] at hA1 hA2
            replace hTE := Lib.hid hTE
            clear nz a0 a2 a3 a4
            refine Lx.wp_region_chain_lit (fun w' => ∃ x : Cls (TwoLogs b1 lv1 b2 lv2 W5), w' = x.wo) (fun _ => False) [3, 7] [] (fun A => Duo w A b1 cv1 lv1 L b2 cv2 lv2 L) (by kernel_rfl) (by kernel_rfl) (by kernel_rfl) (by kernel_rfl) (cls_of (Stays.of_below ((Below.refl _ _).drew))) (hP1.out.then ((Below.refl _ _).drew)) ?_
            repeat (refine Lx.wpCh_one (by rfl) (by rfl) ?_; go_big_quiet_step (fail); refine wpQuiet_nil ?_)
            clear a1
            refine Lx.wpCh_relp (fun v A => v = .int .i64 TE ∧ ∃ cv1' lv1', Duo w A b1 cv1' lv1' (compactL L ii) b2 cv2 lv2 L) (by rfl) (by rfl) (fun h => by cases h) (fun w' hx hS R hR => ?_) (fun v hv => ?_)
            · obtain ⟨x, rfl⟩ := hx
              have hC := hA1.out x.wo hS
              clear hS hA1 hA2
              go_simp
              refine hC.mono ?_
              rintro e w' ⟨rfl, cv1', lv1', h1, h2⟩
              exact ⟨_, rfl, hR _ _ (cls_of (x.is.trans h2 (fun _ _ h => .inl (.inl h)))) ⟨rfl, cv1', lv1', h1⟩ (fun h => by cases h)⟩
            obtain ⟨_, -, rfl, -⟩ := hv
            go_big_quiet_step (fail)
            refine wpQuiet_nil ?_
            repeat (refine Lx.wpCh_one (by rfl) (by rfl) ?_; go_big_quiet_step (fail); refine wpQuiet_nil ?_)
            refine Lx.wpCh_relp (fun v A => v = .int .i64 TE ∧ Both w A b1 b2) (by rfl) (by rfl) (fun h => by cases h) (fun w' hx hS R hR => ?_) (fun v hv => ?_)
            · obtain ⟨x, rfl⟩ := hx
              obtain ⟨-, cv1', lv1', h0⟩ := hS
              have hC := hA2.out x.wo cv1' lv1' _ h0
              clear h0 hA1 hA2
              go_simp
              refine hC.mono ?_
              rintro e w' ⟨rfl, cv2', lv2', h1, h2⟩
              exact ⟨_, rfl, hR _ _ (cls_of (x.is.trans h2 (fun _ _ h => .inr (.inl h)))) ⟨rfl, _, _, _, _, _, h1⟩ (fun h => by cases h)⟩
            obtain ⟨_, -, rfl, -⟩ := hv
            go_big_quiet_step (fail)
            refine wpQuiet_nil ?_
            repeat (refine Lx.wpCh_one (by rfl) (by rfl) ?_; go_big_quiet_step (fail); refine wpQuiet_nil ?_)
            refine Lx.wpCh_nil ?_
            intro w7 hx hS
            replace hS := Lib.hid hS.2
            clear hx hnon g1 hA1 hA2
            go_wp2_with fail
            go_roundg k
            case measure => omega
            case rel => exact ⟨i + 1, by first | rfl | (rw [IntWalk.wrap64_in _ (by omega)]; rfl), by omega, by omega, hS.out⟩
          · as_aux_lemma =>
            have d2b : (d == 2) = false := by simpa using d2
            by_cases d3 : d = 3
            · as_aux_lemma =>
              subst d3
              clear d0 d1 d2
              obtain ⟨ln, hln⟩ : ∃ ln, (sliceL L ii m).length = ln := ⟨_, rfl⟩
              obtain ⟨SE, hSE⟩ : ∃ SE, sliceE L ii m = SE := ⟨_, rfl⟩
              have hS1 := Slice_calls hP1.out.m1.log hP1.out.m1.ok ii m hix2.out
              have hS2 := Lib.hid (fun A (hb : Below (w5.alloc (.cells #[.int .i64 3, .int .u64 ii, .int .u64 t, .slice p' m' c2, .int .i64 m] 45)).heap.size (w5.alloc (.cells #[.int .i64 3, .int .u64 ii, .int .u64 t, .slice p' m' c2, .int .i64 m] 45)) A) => rSlice_calls (hP1.out.m2.below hb) hP1.out.ok2 ii m hix2.out.1)
              rw [hSE] at hS1 hS2
              replace hS1 := Lib.hid hS1
              replace hln := Lib.hid hln
              replace hSE := Lib.hid hSE
              go_wp2_with fail
              generalize w5.alloc (.cells #[.int .i64 3, .int .u64 ii, .int .u64 t, .slice p' m' c2, .int .i64 m] 45) = W5 at *
              refine hS1.out.mono ?_
              clear hS1
              rintro y w6 ⟨u1, rfl, hrow1, hb6⟩
              have hC2 := hS2.out _ hb6
              replace a1 := (cell_below hb6 a1).trans a1
              replace a4 := (cell_below hb6 a4).trans a4
              have hE1 := Lib.hid hrow1.ents
              obtain ⟨q1, e1, hu, -⟩ := hrow1.ents
              rw [hln.out] at hu
              subst hu
              have hP6 := Lib.hid (hP1.out.then hb6)
              clear hrow1 hb6 hS2 hP1 a0 a2 a3 hB1 hb1
              go_wp2_with fail
              refine hC2.mono ?_
              clear hC2
              rintro y w7 ⟨u2, rfl, hrow2, hb7⟩
              have hSm := SameEntries_calls w.heap.size w.heap.size (sliceL L ii m) _ u2 w7 (hE1.out.below hb7) hrow2.ents
              obtain ⟨q2, e2, hu, -⟩ := hrow2.ents
              rw [hln.out] at hu
              subst hu
              replace hSm := Lib.hid hSm
              replace hP6 := Lib.hid (hP6.out.then hb7)
              clear hrow2 hb7 hE1 a1 a4
              go_wp2_with fail
              refine hSm.out.mono ?_
              clear hSm
              rintro y w8 ⟨rfl, hb8⟩
              replace hP6 := Lib.hid (hP6.out.then hb8)
              clear hb8
              go_wp2_with fail
              go_roundg k
              case measure => omega
              case rel => exact ⟨i + 1, by first | rfl | (rw [IntWalk.wrap64_in _ (by omega)]; rfl), by omega, by omega, _, _, _, _, _, hP6.out⟩
            · have d3b : (d == 3) = false := by simpa using d3
              clear d0 d1 d2 d3
              go_wp2_with fail
              go_roundg k
              case measure => omega
              case rel => exact ⟨i + 1, by first | rfl | (rw [IntWalk.wrap64_in _ (by omega)]; rfl), by omega, by omega, _, _, _, _, _, hP1.out⟩
end Go.Proofs.Ytkjfplkbgooflaa
