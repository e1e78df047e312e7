/-
  DiskFuse.
-/
import Derived.Test.YtenjllkhbpoffaaDoorDskScript
namespace Go.Proofs.YtenjllkhbpoffaaDoor
open Go Go.Maps Go.WideMaps Go.Dsk Go.Lx Go.Lst Go.RowKit

/-- What a call does to the fuse. -/
def StepOk (M : DM) (E : Int) (M' : DM) : Prop := (E = 60 ↔ M.fuse = 0) ∧ (M.fuse = 0 → M' = M) ∧ (M.fuse ≠ 0 → M'.fuse = M.fuse - 1) ∧ M'.loose.length ≤ M.loose.length + 1
theorem burn0 {M : DM} (h : M.fuse = 0) : burnM M = M := by
  unfold burnM
  rw [if_neg (by omega)]
theorem burn1 {M : DM} (h0 : 0 ≤ M.fuse) (h : M.fuse ≠ 0) : (burnM M).fuse = M.fuse - 1 := by
  unfold burnM
  rw [if_pos (by omega)]
theorem step_gen {M : DM} (h0 : 0 ≤ M.fuse) (E : Int) (c : Lc) (h : E = 60 ↔ M.fuse = 0) : StepOk M E (if E = 0 then doesM (burnM M) c else burnM M) := by
  refine ⟨h, fun hf => ?_, fun hf => ?_, ?_⟩
  · rw [if_neg (by have := h.2 hf; omega), burn0 hf]
  · split
    · exact burn1 h0 hf
    · exact burn1 h0 hf
  · have := (burn_now M).2.2.1
    split
    · simp [doesM, this]
    · rw [this]; omega
theorem step_app {M : DM} (h0 : 0 ≤ M.fuse) (k s : ByteArray) : StepOk M (appE M k s) (appM M k s) := by
  refine step_gen h0 _ _ ?_
  unfold appE
  split
  · simp_all
  · repeat' split
    all_goals simp_all
theorem step_cut {M : DM} (h0 : 0 ≤ M.fuse) (k : ByteArray) (n : Int) : StepOk M (cutE M k n) (cutM M k n) := by
  refine step_gen h0 _ _ ?_
  unfold cutE
  split
  · simp_all
  · repeat' split
    all_goals simp_all
theorem step_ren {M : DM} (h0 : 0 ≤ M.fuse) (k t : ByteArray) : StepOk M (renE M k t) (renM M k t) := by
  refine step_gen h0 _ _ ?_
  unfold renE
  split
  · simp_all
  · repeat' split
    all_goals simp_all
theorem step_rem {M : DM} (h0 : 0 ≤ M.fuse) (k : ByteArray) : StepOk M (remE M k) (remM M k) := by
  refine step_gen h0 _ _ ?_
  unfold remE
  split
  · simp_all
  · repeat' split
    all_goals simp_all
theorem step_sync {M : DM} (h0 : 0 ≤ M.fuse) : StepOk M (burnE M) (syncD M) := by
  rcases burn_cases M with ⟨hf, hE⟩ | ⟨hf, hE⟩
  · unfold syncD
    rw [hE, if_neg (by decide)]
    exact ⟨by simp [hf], fun _ => rfl, fun h => absurd hf h, by omega⟩
  · unfold syncD
    rw [hE, if_pos rfl]
    refine ⟨⟨fun h => absurd h (by decide), fun h => absurd h hf⟩, fun h => absurd h hf, fun _ => burn1 h0 hf, ?_⟩
    show ([] : List Lc).length ≤ _
    simp
set_option maxRecDepth 100000 in
set_option maxHeartbeats 8000000 in
theorem DiskFuse_walk (v : Value) (n : Nat) (f : Int) (w : World) (hs : Recs 5 QStep w v n) (hf : (Lit.int .u8 f).wf = true) :
    Calls Tryd.prog 5 #[v, .int .u8 f] w fun e w' => e = .returned (.bool true) ∧ Below w.heap.size w w' := by
  have hW := Lib.hid works_calls
  obtain ⟨p, c, hve, hc1, hc2, -⟩ := id hs
  have hh := Lib.hid hs
  have hHv := Lib.hid (Heavy_calls v n w hs)
  rw [hve] at hh hHv ⊢
  clear hs hve
  have hN := Lib.hid (fun A (hB : Below w.heap.size w A) => New_run' w A hB 65536 (by decide))
  obtain ⟨hf0, hf1⟩ : 0 ≤ f ∧ f < 256 := by
    simp [Lit.wf, IntKind.min, IntKind.max, IntKind.signed, IntKind.bits] at hf
    omega
  clear hf
  replace hc1 := Lib.hid hc1
  replace hc2 := Lib.hid hc2
  go_enter Tryd.func5, Tryd.ntmps5
  go_wp2_with fail
  refine hHv.out.mono ?_
  rintro e w1 ⟨⟨hv, rfl, hnn⟩, hB1⟩
  cases hv with
  | true =>
    clear hnn
    go_wp2_with fail
    refine (hW.out _).mono ?_
    rintro e w2 ⟨rfl, hB2⟩
    go_wp2_with fail
    go_ret
    exact ⟨rfl, Lx.bstep hB1 (Nat.le_refl _) hB2⟩
  | false =>
  have hn100 := hnn rfl
  have hhv := Lib.hid hHv
  clear hnn hHv
  have hC := Lib.hid (hN.out _ hB1)
  replace hB1 := Lib.hid hB1
  go_wp2_with fail
  refine hC.out.mono ?_
  rintro e w2 ⟨b, rfl, hR⟩
  have hC2 := Lib.hid (Fuse_run hR f (by omega))
  clear hR hC hN
  go_wp2_with fail
  refine hC2.out.mono ?_
  rintro e w3 ⟨rfl, hR⟩
  have hfm : Hid ((fuseM (newM 65536) f).fuse = f ∧ (fuseM (newM 65536) f).loose.length = 0) := Lib.hid ⟨by show max f (-1) = f; omega, rfl⟩
  replace hR := Lib.hid hR
  clear hC2
  go_wp2_with fail
  go_loopg [7, 8] (n + 1) (fun g v7 v8 A => ∃ (i : Nat) (M : DM), i ≤ n ∧ n < i + g ∧ v8 = .int .i64 (i : Int) ∧ v7 = .int .i64 M.fuse ∧ 0 ≤ M.fuse ∧ M.fuse ≤ 255 ∧ Run w A b M ∧ M.loose.length ≤ i)
  case atStart => exact ⟨0, _, by omega, by omega, rfl, by rw [hfm.out.1], by rw [hfm.out.1]; omega, by rw [hfm.out.1]; omega, hR.out, by rw [hfm.out.2]; omega⟩
  case round =>
    clear hR hfm
    obtain ⟨i, M, hi, hg, rfl, rfl, hm0, hm1, hR, hll⟩ := hrel
    cases gk with
    | zero => omega
    | succ g =>
    obtain ⟨fu, hfu⟩ : ∃ fu, M.fuse = fu := ⟨_, rfl⟩
    rw [hfu] at hm0 hm1 ⊢
    have hl6 : M.loose.length < 1000000 := by omega
    by_cases hlt : i < n
    case neg =>
      have hd : decide (i < n) = false := decide_eq_false hlt
      have hC3 := Lib.hid (Read_run hR ⟨#[110, 111, 110, 101]⟩ (by decide))
      have hC4 := Lib.hid (Crash_run hR 1000 0 hl6)
      have hrE : readE M ⟨#[110, 111, 110, 101]⟩ = if fu = 0 then 60 else if hasF M.now ⟨#[110, 111, 110, 101]⟩ = true then 0 else 5 := by unfold readE; rw [hfu]
      obtain ⟨E, hE⟩ : ∃ E, readE M ⟨#[110, 111, 110, 101]⟩ = E := ⟨_, rfl⟩
      rw [hE] at hC3 hrE
      have hE60 : (fu = 0 ∧ E = 60) ∨ (fu ≠ 0 ∧ (E == 60) = false ∧ (fu == 0) = false) := by
        by_cases h0 : fu = 0
        · rw [if_pos h0] at hrE; exact .inl ⟨h0, hrE⟩
        · rw [if_neg h0] at hrE
          refine .inr ⟨h0, ?_, by simpa using h0⟩
          rw [hrE]; split <;> decide
      replace hR := Lib.hid hR
      clear hlt hi hg hrE hE hll hl6 hfu
      rcases hE60 with ⟨rfl, rfl⟩ | ⟨-, h1, h2⟩
      all_goals
        go_wp2_with fail
        refine hC3.out.mono ?_
        rintro e w4 ⟨rfl, rfl⟩
        go_wp2_with fail
        refine hC4.out.mono ?_
        rintro e w5 ⟨rfl, hR5⟩
        have hC5 := Append_run hR5 bA ⟨#[]⟩ (by decide) (by decide) (show (0 : Nat) < 1000000 by decide)
        have hne : (appE (crashM M 1000 0) bA ⟨#[]⟩ == 60) = false := by
          unfold appE
          rw [if_neg (show ¬ (crashM M 1000 0).fuse = 0 by show ¬ (-1 : Int) = 0; decide)]
          repeat' split
          all_goals decide
        generalize appE (crashM M 1000 0) bA ⟨#[]⟩ = E2 at *
        generalize appM (crashM M 1000 0) bA ⟨#[]⟩ = M2 at *
        replace hC5 := Lib.hid hC5
        clear hC3 hC4 hR5
        go_wp2_with fail
        refine hC5.out.mono ?_
        rintro e w6 ⟨rfl, hR6⟩
        replace hR6 := Lib.hid hR6
        have hne2 : (E2 != 60) = true := by simp only [bne, hne]; rfl
        go_wp2_with fail
        refine (hW.out _).mono ?_
        rintro e w7 ⟨rfl, hB7⟩
        go_wp2_with fail
        go_ret
        exact ⟨rfl, (hR6.out.below hB7).2⟩
    case pos =>
      have hd : decide (i < n) = true := decide_eq_true hlt
      have hlt2 : (i : Int) < (n : Int) := by omega
      have hi0 : (0 : Int) ≤ (i : Int) := by omega
      obtain ⟨a, c', d, s, t, ii, m, e0, g0, g1, g2, g3, g4, zs, zt, wi, wm⟩ := step_get (recs_to hh.out hR.2) i hlt
      injection e0 with e1 e2 e3
      subst e1 e3
      have hm1' := made1 wr #[.int .i64 d, .string s, .string t, .int .i64 ii, .int .i64 m] 31
      dsimp only at hm1'
      obtain ⟨A1, hb1, hz1⟩ := hm1'
      have hR1 := hR.below hb1
      obtain ⟨ls, hls⟩ : ∃ ls : Nat, M.loose.length = ls := ⟨_, rfl⟩
      have hC3 := Lib.hid (Loose_run hR1)
      rw [hls] at hC3
      replace hls := Lib.hid hls
      obtain ⟨lf, hlf⟩ : ∃ lf, M.room - tot M.now = lf := ⟨_, rfl⟩
      have hC4 := Lib.hid (Left_calls hR1.1)
      rw [hlf] at hC4
      replace hlf := Lib.hid hlf
      have hRw := Lib.hid hR1
      have A1' := Lib.hid A1
      replace hfu := Lib.hid hfu
      have hzs : Hid (s.size ≤ maxLen ∧ t.size ≤ maxLen) := Lib.hid ⟨by unfold cap47 at zs; unfold maxLen; omega, by unfold cap47 at zt; unfold maxLen; omega⟩
      have hii : Hid (ii ≤ 9223372036854775807) := Lib.hid (by simp [Lit.wf, IntKind.min, IntKind.max, IntKind.signed, IntKind.bits] at wi; omega)
      clear e2 hb1 hz1 A1 hR hR1 zs zt wi wm
      replace hll := Lib.hid hll
      replace hl6 := Lib.hid hl6
      have hsb : Hid (wr.heap.size < (wr.alloc (.cells #[.int .i64 d, .string s, .string t, .int .i64 ii, .int .i64 m] 31)).heap.size) := Lib.hid (by simp)
      go_wp2_with fail
      refine hC3.out.mono ?_
      rintro e w4 ⟨rfl, rfl⟩
      go_wp2_with fail
      refine hC4.out.mono ?_
      rintro e w4 ⟨rfl, hb4⟩
      have hR4 := Lib.hid (hRw.out.below hb4)
      obtain ⟨k0, k1, k2, k3, k4, -⟩ := (A1'.out.below hb4).c5
      have hm9 : 0 ≤ M.fuse := by rw [hfu.out]; exact hm0
      clear g0 g1 g2 g3 g4 hb4 hC3 hC4 hRw A1'
      by_cases d0 : d = 0
      · as_aux_lemma =>
        subst d0
        have hst := step_app hm9 s t
        have hC5 := Append_run hR4.out s t hzs.out.1 hzs.out.2 hl6.out
        generalize appE M s t = E at *
        generalize appM M s t = M' at *
        obtain ⟨t1, t2, t3, t4⟩ := hst
        by_cases hz : fu = 0
        · obtain rfl : E = 60 := t1.2 (by rw [hfu.out]; exact hz)
          obtain rfl : M' = M := t2 (by rw [hfu.out]; exact hz)
          subst hz
          replace hC5 := Lib.hid hC5
          clear t1 t2 t3 t4 hm9
          go_wp2_with fail
          refine hC5.out.mono ?_
          rintro e w5 ⟨rfl, hR5⟩
          have hC6 := Lib.hid (Loose_run hR5)
          have hC7 := Lib.hid (Left_run hR5)
          rw [hls.out] at hC6
          rw [hlf.out] at hC7
          clear hC5 hR5 k0 k1 k2 k3 k4
          go_wp2_with fail
          refine hC6.out.mono ?_
          rintro e w6 ⟨rfl, rfl⟩
          go_wp2_with fail
          refine hC7.out.mono ?_
          rintro e w6 ⟨rfl, hR6⟩
          replace hR6 := Lib.hid hR6
          clear hC6 hC7
          go_wp2_with fail
          go_roundg g
          case measure => omega
          case rel => exact ⟨i + 1, M', by omega, by omega, by go_num, by rw [hfu.out]; first | rfl | exact congrArg _ (by omega), by rw [hfu.out]; omega, by rw [hfu.out]; omega, hR6.out, by have := hll.out; omega⟩
        · have hz1 : (E == 60) = false := by
            rw [beq_eq_false_iff_ne]; intro e; have := t1.1 e; rw [hfu.out] at this; exact hz this
          have hz2 : (fu == 0) = false := by simpa using hz
          have hF : Hid (M'.fuse = fu - 1) := Lib.hid (by rw [t3 (by rw [hfu.out]; exact hz), hfu.out])
          replace t4 := Lib.hid t4
          replace hz := Lib.hid hz
          replace hC5 := Lib.hid hC5
          clear t1 t2 t3 hm9
          go_wp2_with fail
          refine hC5.out.mono ?_
          rintro e w5 ⟨rfl, hR5⟩
          replace hR5 := Lib.hid hR5
          clear hC5 k0 k1 k2 k3 k4
          go_wp2_with fail
          go_roundg g
          case measure => omega
          case rel => exact ⟨i + 1, M', by omega, by omega, by go_num, by rw [hF.out]; exact congrArg _ (by have := hz.out; omega), by rw [hF.out]; have := hz.out; omega, by rw [hF.out]; omega, hR5.out, by have := hll.out; have := t4.out; omega⟩
      by_cases d1 : d = 1
      · as_aux_lemma =>
        subst d1
        have hst := step_cut hm9 s ii
        have hC5 := Cut_run hR4.out s ii hzs.out.1 hl6.out
        generalize cutE M s ii = E at *
        generalize cutM M s ii = M' at *
        obtain ⟨t1, t2, t3, t4⟩ := hst
        by_cases hz : fu = 0
        · obtain rfl : E = 60 := t1.2 (by rw [hfu.out]; exact hz)
          obtain rfl : M' = M := t2 (by rw [hfu.out]; exact hz)
          subst hz
          replace hC5 := Lib.hid hC5
          clear t1 t2 t3 t4 hm9
          go_wp2_with fail
          refine hC5.out.mono ?_
          rintro e w5 ⟨rfl, hR5⟩
          have hC6 := Lib.hid (Loose_run hR5)
          have hC7 := Lib.hid (Left_run hR5)
          rw [hls.out] at hC6
          rw [hlf.out] at hC7
          clear hC5 hR5 k0 k1 k2 k3 k4
          go_wp2_with fail
          refine hC6.out.mono ?_
          rintro e w6 ⟨rfl, rfl⟩
          go_wp2_with fail
          refine hC7.out.mono ?_
          rintro e w6 ⟨rfl, hR6⟩
          replace hR6 := Lib.hid hR6
          clear hC6 hC7
          go_wp2_with fail
          go_roundg g
          case measure => omega
          case rel => exact ⟨i + 1, M', by omega, by omega, by go_num, by rw [hfu.out]; first | rfl | exact congrArg _ (by omega), by rw [hfu.out]; omega, by rw [hfu.out]; omega, hR6.out, by have := hll.out; omega⟩
        · have hz1 : (E == 60) = false := by
            rw [beq_eq_false_iff_ne]; intro e; have := t1.1 e; rw [hfu.out] at this; exact hz this
          have hz2 : (fu == 0) = false := by simpa using hz
          have hF : Hid (M'.fuse = fu - 1) := Lib.hid (by rw [t3 (by rw [hfu.out]; exact hz), hfu.out])
          replace t4 := Lib.hid t4
          replace hz := Lib.hid hz
          replace hC5 := Lib.hid hC5
          clear t1 t2 t3 hm9
          go_wp2_with fail
          refine hC5.out.mono ?_
          rintro e w5 ⟨rfl, hR5⟩
          replace hR5 := Lib.hid hR5
          clear hC5 k0 k1 k2 k3 k4
          go_wp2_with fail
          go_roundg g
          case measure => omega
          case rel => exact ⟨i + 1, M', by omega, by omega, by go_num, by rw [hF.out]; exact congrArg _ (by have := hz.out; omega), by rw [hF.out]; have := hz.out; omega, by rw [hF.out]; omega, hR5.out, by have := hll.out; have := t4.out; omega⟩
      by_cases d2 : d = 2
      · as_aux_lemma =>
        subst d2
        have hst := step_ren hm9 s t
        have hC5 := Rename_run hR4.out s t hzs.out.1 hzs.out.2 hl6.out
        generalize renE M s t = E at *
        generalize renM M s t = M' at *
        obtain ⟨t1, t2, t3, t4⟩ := hst
        by_cases hz : fu = 0
        · obtain rfl : E = 60 := t1.2 (by rw [hfu.out]; exact hz)
          obtain rfl : M' = M := t2 (by rw [hfu.out]; exact hz)
          subst hz
          replace hC5 := Lib.hid hC5
          clear t1 t2 t3 t4 hm9
          go_wp2_with fail
          refine hC5.out.mono ?_
          rintro e w5 ⟨rfl, hR5⟩
          have hC6 := Lib.hid (Loose_run hR5)
          have hC7 := Lib.hid (Left_run hR5)
          rw [hls.out] at hC6
          rw [hlf.out] at hC7
          clear hC5 hR5 k0 k1 k2 k3 k4
          go_wp2_with fail
          refine hC6.out.mono ?_
          rintro e w6 ⟨rfl, rfl⟩
          go_wp2_with fail
          refine hC7.out.mono ?_
          rintro e w6 ⟨rfl, hR6⟩
          replace hR6 := Lib.hid hR6
          clear hC6 hC7
          go_wp2_with fail
          go_roundg g
          case measure => omega
          case rel => exact ⟨i + 1, M', by omega, by omega, by go_num, by rw [hfu.out]; first | rfl | exact congrArg _ (by omega), by rw [hfu.out]; omega, by rw [hfu.out]; omega, hR6.out, by have := hll.out; omega⟩
        · have hz1 : (E == 60) = false := by
            rw [beq_eq_false_iff_ne]; intro e; have := t1.1 e; rw [hfu.out] at this; exact hz this
          have hz2 : (fu == 0) = false := by simpa using hz
          have hF : Hid (M'.fuse = fu - 1) := Lib.hid (by rw [t3 (by rw [hfu.out]; exact hz), hfu.out])
          replace t4 := Lib.hid t4
          replace hz := Lib.hid hz
          replace hC5 := Lib.hid hC5
          clear t1 t2 t3 hm9
          go_wp2_with fail
          refine hC5.out.mono ?_
          rintro e w5 ⟨rfl, hR5⟩
          replace hR5 := Lib.hid hR5
          clear hC5 k0 k1 k2 k3 k4
          go_wp2_with fail
          go_roundg g
          case measure => omega
          case rel => exact ⟨i + 1, M', by omega, by omega, by go_num, by rw [hF.out]; exact congrArg _ (by have := hz.out; omega), by rw [hF.out]; have := hz.out; omega, by rw [hF.out]; omega, hR5.out, by have := hll.out; have := t4.out; omega⟩
      by_cases d3 : d = 3
      · as_aux_lemma =>
        subst d3
        have hst := step_rem hm9 s
        have hC5 := Remove_run hR4.out s hzs.out.1 hl6.out
        generalize remE M s = E at *
        generalize remM M s = M' at *
        obtain ⟨t1, t2, t3, t4⟩ := hst
        by_cases hz : fu = 0
        · obtain rfl : E = 60 := t1.2 (by rw [hfu.out]; exact hz)
          obtain rfl : M' = M := t2 (by rw [hfu.out]; exact hz)
          subst hz
          replace hC5 := Lib.hid hC5
          clear t1 t2 t3 t4 hm9
          go_wp2_with fail
          refine hC5.out.mono ?_
          rintro e w5 ⟨rfl, hR5⟩
          have hC6 := Lib.hid (Loose_run hR5)
          have hC7 := Lib.hid (Left_run hR5)
          rw [hls.out] at hC6
          rw [hlf.out] at hC7
          clear hC5 hR5 k0 k1 k2 k3 k4
          go_wp2_with fail
          refine hC6.out.mono ?_
          rintro e w6 ⟨rfl, rfl⟩
          go_wp2_with fail
          refine hC7.out.mono ?_
          rintro e w6 ⟨rfl, hR6⟩
          replace hR6 := Lib.hid hR6
          clear hC6 hC7
          go_wp2_with fail
          go_roundg g
          case measure => omega
          case rel => exact ⟨i + 1, M', by omega, by omega, by go_num, by rw [hfu.out]; first | rfl | exact congrArg _ (by omega), by rw [hfu.out]; omega, by rw [hfu.out]; omega, hR6.out, by have := hll.out; omega⟩
        · have hz1 : (E == 60) = false := by
            rw [beq_eq_false_iff_ne]; intro e; have := t1.1 e; rw [hfu.out] at this; exact hz this
          have hz2 : (fu == 0) = false := by simpa using hz
          have hF : Hid (M'.fuse = fu - 1) := Lib.hid (by rw [t3 (by rw [hfu.out]; exact hz), hfu.out])
          replace t4 := Lib.hid t4
          replace hz := Lib.hid hz
          replace hC5 := Lib.hid hC5
          clear t1 t2 t3 hm9
          go_wp2_with fail
          refine hC5.out.mono ?_
          rintro e w5 ⟨rfl, hR5⟩
          replace hR5 := Lib.hid hR5
          clear hC5 k0 k1 k2 k3 k4
          go_wp2_with fail
          go_roundg g
          case measure => omega
          case rel => exact ⟨i + 1, M', by omega, by omega, by go_num, by rw [hF.out]; exact congrArg _ (by have := hz.out; omega), by rw [hF.out]; have := hz.out; omega, by rw [hF.out]; omega, hR5.out, by have := hll.out; have := t4.out; omega⟩
      by_cases d4 : d = 4
      · as_aux_lemma =>
        subst d4
        have hst := step_sync hm9
        have hC5 := Sync_run hR4.out
        generalize burnE M = E at *
        generalize syncD M = M' at *
        obtain ⟨t1, t2, t3, t4⟩ := hst
        by_cases hz : fu = 0
        · obtain rfl : E = 60 := t1.2 (by rw [hfu.out]; exact hz)
          obtain rfl : M' = M := t2 (by rw [hfu.out]; exact hz)
          subst hz
          replace hC5 := Lib.hid hC5
          clear t1 t2 t3 t4 hm9
          go_wp2_with fail
          refine hC5.out.mono ?_
          rintro e w5 ⟨rfl, hR5⟩
          have hC6 := Lib.hid (Loose_run hR5)
          have hC7 := Lib.hid (Left_run hR5)
          rw [hls.out] at hC6
          rw [hlf.out] at hC7
          clear hC5 hR5 k0 k1 k2 k3 k4
          go_wp2_with fail
          refine hC6.out.mono ?_
          rintro e w6 ⟨rfl, rfl⟩
          go_wp2_with fail
          refine hC7.out.mono ?_
          rintro e w6 ⟨rfl, hR6⟩
          replace hR6 := Lib.hid hR6
          clear hC6 hC7
          go_wp2_with fail
          go_roundg g
          case measure => omega
          case rel => exact ⟨i + 1, M', by omega, by omega, by go_num, by rw [hfu.out]; first | rfl | exact congrArg _ (by omega), by rw [hfu.out]; omega, by rw [hfu.out]; omega, hR6.out, by have := hll.out; omega⟩
        · have hz1 : (E == 60) = false := by
            rw [beq_eq_false_iff_ne]; intro e; have := t1.1 e; rw [hfu.out] at this; exact hz this
          have hz2 : (fu == 0) = false := by simpa using hz
          have hF : Hid (M'.fuse = fu - 1) := Lib.hid (by rw [t3 (by rw [hfu.out]; exact hz), hfu.out])
          replace t4 := Lib.hid t4
          replace hz := Lib.hid hz
          replace hC5 := Lib.hid hC5
          clear t1 t2 t3 hm9
          go_wp2_with fail
          refine hC5.out.mono ?_
          rintro e w5 ⟨rfl, hR5⟩
          replace hR5 := Lib.hid hR5
          clear hC5 k0 k1 k2 k3 k4
          go_wp2_with fail
          go_roundg g
          case measure => omega
          case rel => exact ⟨i + 1, M', by omega, by omega, by go_num, by rw [hF.out]; exact congrArg _ (by have := hz.out; omega), by rw [hF.out]; have := hz.out; omega, by rw [hF.out]; omega, hR5.out, by have := hll.out; have := t4.out; omega⟩
      have e0 : (d == 0) = false := by simpa using d0
      have e1 : (d == 1) = false := by simpa using d1
      have e2 : (d == 2) = false := by simpa using d2
      have e3 : (d == 3) = false := by simpa using d3
      have e4 : (d == 4) = false := by simpa using d4
      clear d0 d1 d2 d3 d4 hm9
      go_wp2_with fail
      go_roundg g
      case measure => omega
      case rel => exact ⟨i + 1, M, by omega, by omega, by go_num, by rw [hfu.out], by rw [hfu.out]; omega, by rw [hfu.out]; omega, hR4.out, by have := hll.out; omega⟩
end Go.Proofs.YtenjllkhbpoffaaDoor
