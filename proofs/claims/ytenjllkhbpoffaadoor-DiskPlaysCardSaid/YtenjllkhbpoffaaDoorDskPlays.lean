/-
  DiskPlays: the law's walk.
-/
import Derived.Test.YtenjllkhbpoffaaDoorHead
import Derived.Test.YtenjllkhbpoffaaDoorDrPlay2
import Derived.Test.YtenjllkhbpoffaaDoorDrFiles
namespace Go.Proofs.YtenjllkhbpoffaaDoor
open Go Go.Maps Go.WideMaps Go.Dsk Go.Lx Go.Lst Go.RowKit

theorem play_calls {w0 A : World} {d r : Nat} {M : DM} (h : Pl w0 A (fun _ => False) d r M M) (dd : Int) (a b : ByteArray) (n m : Int) (ha : a.size ≤ maxLen) (hb : b.size ≤ maxLen) (hn : -9223372036854775808 ≤ n ∧ n ≤ 9223372036854775807) (hm : -9223372036854775808 ≤ m ∧ m ≤ 9223372036854775807) (hl : M.loose.length < 1000000) :
    Calls Tryd.prog 23 #[.pointer (some ⟨d, 0, none⟩), .pointer (some ⟨r, 0, none⟩), .agg #[.int .i64 dd, .string a, .string b, .int .i64 n, .int .i64 m]] A fun e w' => e = .returned (.bool true) ∧ ∃ M', Pl w0 w' (fun _ => False) d r M' M' ∧ M'.loose.length ≤ M.loose.length + 1 := by
  by_cases h8 : dd < 0 ∨ 7 < dd
  · exact play_else h dd h8 a b n m ha hb hn hm hl
  obtain ⟨k, rfl⟩ : ∃ k : Nat, dd = (k : Int) := ⟨dd.toNat, by omega⟩
  match k, (show k < 8 by omega) with
  | 0, _ => exact play_app h a b n m ha hb hn hm hl
  | 1, _ => exact play_cut h a b n m ha hb hn hm hl
  | 2, _ => exact play_ren h a b n m ha hb hn hm hl
  | 3, _ => exact play_rem h a b n m ha hb hn hm hl
  | 4, _ => exact play_sync h a b n m ha hb hn hm hl
  | 5, _ => exact play_fuse h a b n m ha hb hn hm hl
  | 6, _ => exact play_crash h a b n m ha hb hn hm hl
  | 7, _ => exact play_alter h a b n m ha hb hn hm hl
theorem Pl.made {w w1 w2 w3 : World} {d r : Nat} {M : DM} (hb1 : Below w.heap.size w w1) (h2 : Dk w2 (Gr (fun _ => False) w1 w2) d M) (hb2 : Below w1.heap.size w1 w2) (h3 : Rf w3 (Gr (fun _ => False) w2 w3) r M) (hb3 : Below w2.heap.size w2 w3) : Pl w w3 (fun _ => False) d r M M := by
  have a1 := hb1.size
  have a2 := hb2.size
  refine ⟨_, _, h2.below hb3, h3, fun k hk ho => ?_, fun k hk => ⟨?_, id⟩, fun _ h => h.elim, Lx.bstep (Lx.bstep hb1 (Nat.le_refl _) hb2) (Nat.le_refl _) hb3⟩
  · rcases hk with hk | hk
    · exact hk
    · exact ho.elim id (fun e => by omega)
  · rcases hk with (hk | hk) | (hk | hk)
    · exact hk.elim
    · omega
    · exact hk.elim
    · omega
set_option maxRecDepth 100000 in
set_option maxHeartbeats 8000000 in
theorem DiskPlays_walk (room : Int) (v : Value) (n : Nat) (w : World) (hroom : (Lit.int .i64 room).wf = true) (hs : Recs 5 QStep w v n) :
    Calls Tryd.prog 6 #[.int .i64 room, v] w fun e w' => e = .returned (.bool true) ∧ Below w.heap.size w w' := by
  have hW := Lib.hid works_calls
  obtain ⟨p, c, hve, hc1, hc2, -⟩ := id hs
  have hh := Lib.hid hs
  have hHv := Lib.hid (Heavy_calls v n w hs)
  rw [hve] at hh hHv ⊢
  clear hs hve hroom
  have hNb := Lib.hid (fun (A : World) (h : room < 0 ∨ 16777216 < room) => New_bad A room h)
  have hNg := Lib.hid (fun (A : World) (h : 0 ≤ room ∧ room ≤ 16777216) => New_good A room h)
  have hRb := Lib.hid (fun (A : World) (h : room < 0 ∨ 16777216 < room) => rNew_bad A room h)
  have hRg := Lib.hid (fun (A : World) (h : 0 ≤ room ∧ room ≤ 16777216) => rNew_good A room h)
  replace hc1 := Lib.hid hc1
  replace hc2 := Lib.hid hc2
  go_enter Tryd.func6, Tryd.ntmps6
  go_wp2_with fail
  refine hHv.out.mono ?_
  rintro e w1 ⟨⟨hv, rfl, hnn⟩, hB1⟩
  cases hv with
  | true =>
    as_aux_lemma =>
    clear hnn hNb hNg hRb hRg
    go_wp2_with fail
    refine (hW.out _).mono ?_
    rintro e w2 ⟨rfl, hB2⟩
    go_wp2_with fail
    go_ret
    exact ⟨rfl, Lx.bstep hB1 (Nat.le_refl _) hB2⟩
  | false =>
  have hn100 := hnn rfl
  clear hnn hHv
  replace hB1 := Lib.hid hB1
  by_cases hr : room < 0 ∨ 16777216 < room
  · as_aux_lemma =>
    have hA := Lib.hid (hNb.out w1 hr)
    have hA2 := Lib.hid (fun A => hRb.out A hr)
    clear hNb hNg hRb hRg hr
    go_wp2_with fail
    refine hA.out.mono ?_
    rintro e w2 ⟨rfl, hB2⟩
    have hB2' := Lib.hid (Lx.bstep hB1.out (Nat.le_refl _) hB2)
    clear hB2 hA
    go_wp2_with fail
    refine (hA2.out _).mono ?_
    rintro e w3 ⟨rfl, hB3⟩
    have hB3' := Lib.hid (Lx.bstep hB2'.out (Nat.le_refl _) hB3)
    clear hB3 hA2
    go_wp2_with fail
    refine (hW.out _).mono ?_
    rintro e w4 ⟨rfl, hB4⟩
    go_wp2_with fail
    go_ret
    exact ⟨rfl, Lx.bstep hB3'.out (Nat.le_refl _) hB4⟩
  have hA := Lib.hid (hNg.out w1 (by omega))
  have hA2 := Lib.hid (fun A => hRg.out A (by omega))
  clear hNb hNg hRb hRg hr
  go_wp2_with fail
  refine hA.out.mono ?_
  rintro e w2 ⟨d, rfl, hD, hB2⟩
  replace hD := Lib.hid hD
  replace hB2 := Lib.hid hB2
  clear hA
  go_wp2_with fail
  refine (hA2.out _).mono ?_
  rintro e w3 ⟨r, rfl, hR, hB3⟩
  have hP := Lib.hid (Pl.made hB1.out hD.out hB2.out hR hB3)
  have hl0 : Hid ((newM room).loose.length = 0) := Lib.hid rfl
  generalize newM room = M0 at *
  clear hD hB2 hR hB3 hA2 hB1
  go_wp2_with fail
  go_loopg [8] (n + 1) (fun g v8 A => ∃ (i : Nat) (M : DM), i ≤ n ∧ n < i + g ∧ v8 = .int .i64 (i : Int) ∧ Pl w A (fun _ => False) d r M M ∧ M.loose.length ≤ i)
  case atStart => exact ⟨0, M0, by omega, by omega, rfl, hP.out, by rw [hl0.out]; omega⟩
  case round =>
    clear hP hl0
    obtain ⟨i, M, hi, hg, rfl, hP, hll⟩ := hrel
    cases gk with
    | zero => omega
    | succ g =>
    by_cases hlt : i < n
    case neg =>
      as_aux_lemma =>
      have hd : decide (i < n) = false := decide_eq_false hlt
      replace hP := Lib.hid hP
      clear hlt hi hg hll
      go_wp2_with fail
      refine (hW.out _).mono ?_
      rintro e w7 ⟨rfl, hB7⟩
      go_wp2_with fail
      go_ret
      exact ⟨rfl, Lx.bstep hP.out.below (Nat.le_refl _) hB7⟩
    case pos =>
      as_aux_lemma =>
      have hd : decide (i < n) = true := decide_eq_true hlt
      have hlt2 : (i : Int) < (n : Int) := by omega
      have hi0 : (0 : Int) ≤ (i : Int) := by omega
      have hl6 : M.loose.length < 1000000 := by omega
      obtain ⟨a, c', dd, s, t, ii, m, e0, g0, g1, g2, g3, g4, zs, zt, wi, wm⟩ := step_get hh.out i hlt
      injection e0 with e1 e2 e3
      subst e1 e3
      have hzs : s.size ≤ maxLen ∧ t.size ≤ maxLen := ⟨by unfold cap47 at zs; unfold maxLen; omega, by unfold cap47 at zt; unfold maxLen; omega⟩
      have hii : -9223372036854775808 ≤ ii ∧ ii ≤ 9223372036854775807 := by simp [Lit.wf, IntKind.min, IntKind.max, IntKind.signed, IntKind.bits] at wi; omega
      have hmm : -9223372036854775808 ≤ m ∧ m ≤ 9223372036854775807 := by simp [Lit.wf, IntKind.min, IntKind.max, IntKind.signed, IntKind.bits] at wm; omega
      have hPC := Lib.hid (fun (A : World) (h : Pl w A (fun _ => False) d r M M) => play_calls h dd s t ii m hzs.1 hzs.2 hii hmm hl6)
      have hNm := Lib.hid (fun A : World => Name_calls A s hzs.1)
      have hNr := Lib.hid (fun A : World => RName_calls A s hzs.1)
      clear e2 zs zt wi wm hii hmm hzs hl6
      have y0 := fun x : Cls (fun w' => Below w.heap.size w w') => below_cell x.is g0
      have y1 := fun x : Cls (fun w' => Below w.heap.size w w') => below_cell x.is g1
      have y2 := fun x : Cls (fun w' => Below w.heap.size w w') => below_cell x.is g2
      have y3 := fun x : Cls (fun w' => Below w.heap.size w w') => below_cell x.is g3
      have y4 := fun x : Cls (fun w' => Below w.heap.size w w') => below_cell x.is g4
      have hBw := Lib.hid hP.below
      replace hP := Lib.hid hP
      replace hll := Lib.hid hll
      have hnon : Nonempty (Cls (fun w' => Below w.heap.size w w')) := ⟨⟨_, hBw.out⟩⟩
      go_wp2_with fail
      refine Lx.wp_region_head (fun w' => ∃ x : Cls (fun w' => Below w.heap.size w w'), w' = x.wo) (fun _ => False) [6] [] 9 (fun w' => Pl w w' (fun _ => False) d r M M) (by kernel_rfl) (by kernel_rfl) (by kernel_rfl) (by kernel_rfl) (by kernel_rfl) (by kernel_rfl) (cls_of hBw.out.drew) (hP.out.then ((Below.refl _ _).drew)) ?_
      simp only [List.take_succ_cons, List.take_zero, List.drop_succ_cons, List.drop_zero]
      repeat (refine Lx.wpCh_one (by rfl) (by rfl) ?_; go_big_quiet_step (fail); refine wpQuiet_nil ?_)
      refine Lx.wpCh_cls (.bool true) (fun w' => ∃ M', Pl w w' (fun _ => False) d r M' M' ∧ M'.loose.length ≤ i + 1) (by rfl) (by rfl) (fun h => by cases h) ⟨_, hBw.out⟩ (fun x hS R hR => ?_) ?_
      · have hbl := Lib.hid x.is
        replace hS := Lib.hid hS
        go_simp
        refine (hPC.out _ hS.out).mono ?_
        rintro e w'' ⟨rfl, M', hP', hl'⟩
        exact ⟨_, rfl, hR _ hP'.below ⟨M', hP', by have := hll.out; omega⟩ (fun h => by cases h)⟩
      go_big_quiet_step (fail)
      refine wpQuiet_nil ?_
      repeat (refine Lx.wpCh_one (by rfl) (by rfl) ?_; go_big_quiet_step (fail); refine wpQuiet_nil ?_)
      refine Lx.wpCh_nil ?_
      intro w4 hx hS
      clear hx hPC y0 y1 y2 y3 y4 hnon hBw hP
      obtain ⟨M', hP', hl'⟩ := hS
      obtain ⟨Od, Or, h1, h2, -⟩ := id hP'
      obtain ⟨hok, sv, lv, hA⟩ := id h2
      obtain ⟨lp, lc, hlv, -, -⟩ := hA.loose.parts
      subst hlv
      obtain ⟨-, -, q2, -⟩ := hA.c4
      have hF := Lib.hid (fun x : Ext w4 => files_calls (hP'.then x.below))
      have hL1 := Lib.hid (fun x : Ext w4 => Left_calls (h1.below x.below))
      have hL2 := Lib.hid (fun x : Ext w4 => rleft_calls (h2.below x.below))
      have hLo := Lib.hid (fun x : Ext w4 => Lx.same_below (Loose_calls (h1.below x.below)))
      have hbw := hP'.below
      have y1 := fun x : Ext w4 => below_cell (Lx.bstep hbw (Nat.le_refl _) x.below) g1
      obtain ⟨lf, hlf⟩ : ∃ lf, M'.room - tot M'.now = lf := ⟨_, rfl⟩
      obtain ⟨ls, hls⟩ : ∃ ls, M'.loose.length = ls := ⟨_, rfl⟩
      obtain ⟨nb, hnb⟩ : ∃ nb, nameB s = nb := ⟨_, rfl⟩
      rw [hlf] at hL1 hL2
      rw [hls] at hLo q2
      rw [hnb] at hNm hNr
      have z2 := fun x : Ext w4 => below_cell x.below q2
      have hnon : Nonempty (Ext w4) := ⟨⟨w4, Below.refl _ _⟩⟩
      replace hP' := Lib.hid hP'
      replace hl' := Lib.hid hl'
      replace hlf := Lib.hid hlf
      replace hls := Lib.hid hls
      replace hnb := Lib.hid hnb
      clear h1 h2 hok hA q2 hbw g0 g1 g2 g3 g4
      unfold Lx.Then
      refine ⟨fun w' => ∃ y : Ext w4, w' = y.wo, fun _ => False, [11, 16, 18, 23, 37, 43], [], fun _ => True, by kernel_rfl, by kernel_rfl, ⟨⟨w4, Below.refl _ _⟩, rfl⟩, trivial, ?_⟩
      repeat (refine Lx.wpCh_one (by rfl) (by rfl) ?_; go_big_quiet_step (fail); refine wpQuiet_nil ?_)
      refine Lx.wpCh_extp (.bool true) (by rfl) (by rfl) (fun x R hR => ?_) ?_
      · go_simp
        refine (hF.out x).mono ?_
        rintro e w'' ⟨rfl, hb⟩
        exact ⟨_, rfl, hR _ hb⟩
      go_big_quiet_step (fail)
      refine wpQuiet_nil ?_
      repeat (refine Lx.wpCh_one (by rfl) (by rfl) ?_; go_big_quiet_step (fail); refine wpQuiet_nil ?_)
      refine Lx.wpCh_extp (.int .i64 lf) (by rfl) (by rfl) (fun x R hR => ?_) ?_
      · go_simp
        refine (hL1.out x).mono ?_
        rintro e w'' ⟨rfl, hb⟩
        exact ⟨_, rfl, hR _ hb⟩
      go_big_quiet_step (fail)
      refine wpQuiet_nil ?_
      repeat (refine Lx.wpCh_one (by rfl) (by rfl) ?_; go_big_quiet_step (fail); refine wpQuiet_nil ?_)
      refine Lx.wpCh_extp (.int .i64 lf) (by rfl) (by rfl) (fun x R hR => ?_) ?_
      · go_simp
        refine (hL2.out x).mono ?_
        rintro e w'' ⟨rfl, hb⟩
        exact ⟨_, rfl, hR _ hb⟩
      go_big_quiet_step (fail)
      refine wpQuiet_nil ?_
      repeat (refine Lx.wpCh_one (by rfl) (by rfl) ?_; go_big_quiet_step (fail); refine wpQuiet_nil ?_)
      refine Lx.wpCh_extp (.int .i64 (ls : Int)) (by rfl) (by rfl) (fun x R hR => ?_) ?_
      · go_simp
        refine (hLo.out x).mono ?_
        rintro e w'' ⟨rfl, hb⟩
        exact ⟨_, rfl, hR _ hb⟩
      go_big_quiet_step (fail)
      refine wpQuiet_nil ?_
      repeat (refine Lx.wpCh_one (by rfl) (by rfl) ?_; go_big_quiet_step (fail); refine wpQuiet_nil ?_)
      refine Lx.wpCh_extp (.bool nb) (by rfl) (by rfl) (fun x R hR => ?_) ?_
      · go_simp
        refine (hNm.out _).mono ?_
        rintro e w'' ⟨rfl, hb⟩
        exact ⟨_, rfl, hR _ hb⟩
      go_big_quiet_step (fail)
      refine wpQuiet_nil ?_
      repeat (refine Lx.wpCh_one (by rfl) (by rfl) ?_; go_big_quiet_step (fail); refine wpQuiet_nil ?_)
      refine Lx.wpCh_extp (.bool nb) (by rfl) (by rfl) (fun x R hR => ?_) ?_
      · go_simp
        refine (Lx.same_below (hNr.out _)).mono ?_
        rintro e w'' ⟨rfl, hb⟩
        exact ⟨_, rfl, hR _ hb⟩
      go_big_quiet_step (fail)
      refine wpQuiet_nil ?_
      repeat (refine Lx.wpCh_one (by rfl) (by rfl) ?_; go_big_quiet_step (fail); refine wpQuiet_nil ?_)
      refine Lx.wpCh_nil ?_
      intro w5 hx _
      obtain ⟨x, rfl⟩ := hx
      have hP5 := Lib.hid (hP'.out.then x.below)
      generalize x.wo = w5 at *
      clear x y1 z2 hnon hF hL1 hL2 hLo hNm hNr
      go_wp2_with fail
      go_roundg g
      case measure => omega
      case rel => exact ⟨i + 1, M', by omega, by omega, by go_num, hP5.out, hl'.out⟩
end Go.Proofs.YtenjllkhbpoffaaDoor
