/-
  The reference's disk: Append, Cut, Rename, Remove.
-/
import Derived.Test.YtenjllkhbpoffaaDoorDrEnd
namespace Go.Proofs.YtenjllkhbpoffaaDoor
open Go Go.Maps Go.WideMaps Go.Dsk Go.Lx Go.Lst Go.RowKit

set_option maxRecDepth 100000 in
set_option maxHeartbeats 4000000 in
theorem rRemove_calls {w : World} {O : Nat → Prop} {r : Nat} {M : DM} (h : Rf w O r M) (k : ByteArray) (hk : k.size ≤ maxLen)  (hl : M.loose.length < 1000000) :
    Calls Tryd.prog 42 #[.pointer (some ⟨r, 0, none⟩), .string k] w fun y w' => y = .returned (.int .i64 (remE M k)) ∧ Rf w' (Gr O w w') r (remM M k) ∧ Stays O w w' := by
  have hlo := Lib.hid h.lo
  have hok := Lib.hid h.1
  have hB := Lib.hid (rburn_calls h)
  have hbn := Lib.hid (burn_now M)
  have hrise : Hid (Rise M.now) := Lib.hid (by rw [h.1.now]; exact rise_all h.1.rise _)
  have htn := Lib.hid (tot_now h.1)
  obtain ⟨E, hE⟩ : ∃ E, remE M k = E := ⟨_, rfl⟩
  obtain ⟨M', hM'⟩ : ∃ M', remM M k = M' := ⟨_, rfl⟩
  rw [hE, hM']
  unfold remM at hM'
  rw [hE] at hM'
  unfold remE at hE
  clear h
  replace hl := Lib.hid hl
  by_cases hf : M.fuse = 0
  · as_aux_lemma =>
    rw [if_pos hf] at hE
    subst hE
    rw [if_neg (by decide)] at hM'
    subst hM'
    rw [show decide (M.fuse ≠ 0) = false by simp [hf]] at hB
    clear hf
    go_enter Tryd.func42, Tryd.ntmps42
    go_wp2_with fail
    refine hB.out.mono ?_
    rintro e w1 ⟨rfl, hR1, hs1⟩
    replace hR1 := Lib.hid hR1
    replace hs1 := Lib.hid hs1
    go_wp2_with fail
    go_ret
    exact ⟨rfl, rop_err hlo.out hR1.out hs1.out (Below.refl _ _)⟩
  rw [if_neg hf] at hE
  rw [show decide (M.fuse ≠ 0) = true by simp [hf]] at hB
  clear hf
  have hN := Lib.hid (fun (w' : World) (h' : Rf w' O r (burnM M)) => rnow_calls h')
  have hF := Lib.hid (fun (A : World) (v : Value) (hv : FRow 0 A v M.now) => Find_calls hv k (by have := htn.out.2; omega))
  have hP : Hid (∀ i, FindIs M.now k i → (hasF M.now k = false ∧ i = -1 ∧ atF M.now k = ⟨#[]⟩) ∨ (hasF M.now k = true ∧ ∃ (j : Nat) (hj : j < M.now.length), i = (j : Int) ∧ M.now[j].2 = atF M.now k)) := Lib.hid (fun i hi => hi.some hrise.out)
  rw [hbn.out.1] at hN
  replace hk := Lib.hid hk
  go_enter Tryd.func42, Tryd.ntmps42
  go_wp2_with fail
  refine hB.out.mono ?_
  rintro e w1 ⟨rfl, hR1, hs1⟩
  replace hR1 := Lib.hid hR1
  replace hs1 := Lib.hid hs1
  clear hB

  go_wp2_with fail
  refine (hN.out _ hR1.out).mono ?_
  rintro e w2 ⟨v2, rfl, hr2, hb2, -⟩
  have hF2 := Lib.hid (hF.out _ _ hr2)
  clear hN hF hr2
  have hb4 := Lib.hid hb2
  clear hb2
  go_wp2_with fail
  refine hF2.out.mono ?_
  rintro e w4 ⟨i, rfl, hi, rfl⟩
  have hp2 := hP.out i hi
  clear hF2 hi hP
  generalize w2 = w4 at *
  rcases hp2 with ⟨hq, rfl, -⟩ | ⟨hq, j, hj, rfl, -⟩
  case inl =>
    rw [if_pos hq] at hE
    subst hE
    rw [if_neg (by decide)] at hM'
    subst hM'
    clear hq
    go_wp2_with fail
    go_ret
    exact ⟨rfl, rop_err hlo.out hR1.out hs1.out hb4.out⟩
  case inr =>
    rw [if_neg (by rw [hq]; decide)] at hE
    subst hE
    rw [if_pos rfl] at hM'
    subst hM'
    have hj0 : ¬ (j : Int) < 0 := by omega
    have hfit : Hid (Fit M.now (.rem k) ∧ _) := Lib.hid ⟨hk.out, rem_fits hok.out hrise.out k⟩
    clear hq hj
    have hR4 := hR1.out.below hb4.out
    obtain ⟨hok4, sv, lv, hA⟩ := hR4
    obtain ⟨n1, n2, n3, n4⟩ := hbn.out
    have hst4 : Stays O w w4 := hs1.out.trans (Stays.of_below (O := O) hb4.out) (fun _ _ h => h)
    obtain ⟨q, d, w5, hrun, hbk, hfin, hsf⟩ := rop_add hlo.out hA hok4 hst4 (.rem k) (by rw [n1]; exact hfit.out.1) (by rw [n1, n2]; exact hfit.out.2) (by rw [n3]; exact hl.out) 49
    rw [n3] at hrun hfin hsf
    obtain ⟨-, -, x2, -⟩ := hA.c4
    have fz := hbk.frz 2
    have fc := hbk.cell 2 rfl
    obtain ⟨lp, lc, hlv, -, -⟩ := hA.loose.parts
    rw [n3] at hlv
    subst hlv
    simp only [cC, List.toArray] at hrun
    replace hrun := Lib.hid hrun
    replace hfin := Lib.hid hfin
    replace hsf := Lib.hid hsf
    generalize M.loose.length = ln at *
    clear hA hok4 hst4 hbk n1 n2 n3 n4
    go_wp2_with (at_builtin; (refine wpList_append_run (sv := .slice lp ln lc) (xv := .slice (some ⟨w4.heap.size, 0, none⟩) 1 1) rfl (.tmp 17) (.tmp 20) rfl rfl rfl hrun.out ?_))
    go_ret
    exact ⟨rfl, hfin.out, hsf.out⟩

set_option maxRecDepth 100000 in
set_option maxHeartbeats 4000000 in
theorem rRename_calls {w : World} {O : Nat → Prop} {r : Nat} {M : DM} (h : Rf w O r M) (k t : ByteArray) (hk : k.size ≤ maxLen) (ht : t.size ≤ maxLen)  (hl : M.loose.length < 1000000) :
    Calls Tryd.prog 41 #[.pointer (some ⟨r, 0, none⟩), .string k, .string t] w fun y w' => y = .returned (.int .i64 (renE M k t)) ∧ Rf w' (Gr O w w') r (renM M k t) ∧ Stays O w w' := by
  have hlo := Lib.hid h.lo
  have hok := Lib.hid h.1
  have hB := Lib.hid (rburn_calls h)
  have hbn := Lib.hid (burn_now M)
  have hrise : Hid (Rise M.now) := Lib.hid (by rw [h.1.now]; exact rise_all h.1.rise _)
  have htn := Lib.hid (tot_now h.1)
  obtain ⟨E, hE⟩ : ∃ E, renE M k t = E := ⟨_, rfl⟩
  obtain ⟨M', hM'⟩ : ∃ M', renM M k t = M' := ⟨_, rfl⟩
  rw [hE, hM']
  unfold renM at hM'
  rw [hE] at hM'
  unfold renE at hE
  clear h
  replace hl := Lib.hid hl
  by_cases hf : M.fuse = 0
  · as_aux_lemma =>
    rw [if_pos hf] at hE
    subst hE
    rw [if_neg (by decide)] at hM'
    subst hM'
    rw [show decide (M.fuse ≠ 0) = false by simp [hf]] at hB
    clear hf
    go_enter Tryd.func41, Tryd.ntmps41
    go_wp2_with fail
    refine hB.out.mono ?_
    rintro e w1 ⟨rfl, hR1, hs1⟩
    replace hR1 := Lib.hid hR1
    replace hs1 := Lib.hid hs1
    go_wp2_with fail
    go_ret
    exact ⟨rfl, rop_err hlo.out hR1.out hs1.out (Below.refl _ _)⟩
  rw [if_neg hf] at hE
  rw [show decide (M.fuse ≠ 0) = true by simp [hf]] at hB
  clear hf
  have hN := Lib.hid (fun (w' : World) (h' : Rf w' O r (burnM M)) => rnow_calls h')
  have hF := Lib.hid (fun (A : World) (v : Value) (hv : FRow 0 A v M.now) => Find_calls hv k (by have := htn.out.2; omega))
  have hP : Hid (∀ i, FindIs M.now k i → (hasF M.now k = false ∧ i = -1 ∧ atF M.now k = ⟨#[]⟩) ∨ (hasF M.now k = true ∧ ∃ (j : Nat) (hj : j < M.now.length), i = (j : Int) ∧ M.now[j].2 = atF M.now k)) := Lib.hid (fun i hi => hi.some hrise.out)
  rw [hbn.out.1] at hN

  have hT := Lib.hid (fun A : World => RName_calls A t ht)
  replace hk := Lib.hid hk
  replace ht := Lib.hid ht
  go_enter Tryd.func41, Tryd.ntmps41
  go_wp2_with fail
  refine hB.out.mono ?_
  rintro e w1 ⟨rfl, hR1, hs1⟩
  replace hR1 := Lib.hid hR1
  replace hs1 := Lib.hid hs1
  clear hB

  go_wp2_with fail
  refine (hN.out _ hR1.out).mono ?_
  rintro e w2 ⟨v2, rfl, hr2, hb2, -⟩
  have hF2 := Lib.hid (hF.out _ _ hr2)
  clear hN hF hr2
  have hb4 := Lib.hid hb2
  clear hb2
  go_wp2_with fail
  refine hF2.out.mono ?_
  rintro e w4 ⟨i, rfl, hi, rfl⟩
  have hp2 := hP.out i hi
  clear hF2 hi hP
  generalize w2 = w4 at *
  rcases hp2 with ⟨hq, rfl, -⟩ | ⟨hq, j, hj, rfl, -⟩
  case inl =>
    rw [if_pos hq] at hE
    subst hE
    rw [if_neg (by decide)] at hM'
    subst hM'
    clear hq
    go_wp2_with fail
    go_ret
    exact ⟨rfl, rop_err hlo.out hR1.out hs1.out hb4.out⟩
  case inr =>
    rw [if_neg (by rw [hq]; decide)] at hE
    have hj0 : ¬ (j : Int) < 0 := by omega
    have hfit : Hid (Fit M.now (.ren k t) ∧ _) := Lib.hid ⟨⟨hk.out, ht.out, hq⟩, ren_fits hok.out hrise.out k t hq⟩
    clear hq hj
    go_wp2_with fail
    refine (hT.out _).mono ?_
    rintro e w5 ⟨rfl, rfl⟩
    generalize w4 = w6 at *
    have hb4' := hb4
    clear hb4 hT
    by_cases hn : nameB t = false
    · as_aux_lemma =>
      rw [if_pos hn] at hE
      subst hE
      rw [if_neg (by decide)] at hM'
      subst hM'
      rw [hn]
      clear hn
      go_wp2_with fail
      go_ret
      exact ⟨rfl, rop_err hlo.out hR1.out hs1.out hb4'.out⟩
    · as_aux_lemma =>
      rw [if_neg hn] at hE
      subst hE
      rw [if_pos rfl] at hM'
      subst hM'
      rw [show nameB t = true by simpa using hn]
      clear hn
      generalize w6 = w4 at *
      have hb4 := hb4'
      clear hb4'
      have hR4 := hR1.out.below hb4.out
      obtain ⟨hok4, sv, lv, hA⟩ := hR4
      obtain ⟨n1, n2, n3, n4⟩ := hbn.out
      have hst4 : Stays O w w4 := hs1.out.trans (Stays.of_below (O := O) hb4.out) (fun _ _ h => h)
      obtain ⟨q, d, w5, hrun, hbk, hfin, hsf⟩ := rop_add hlo.out hA hok4 hst4 (.ren k t) (by rw [n1]; exact hfit.out.1) (by rw [n1, n2]; exact hfit.out.2) (by rw [n3]; exact hl.out) 49
      rw [n3] at hrun hfin hsf
      obtain ⟨-, -, x2, -⟩ := hA.c4
      have fz := hbk.frz 2
      have fc := hbk.cell 2 rfl
      obtain ⟨lp, lc, hlv, -, -⟩ := hA.loose.parts
      rw [n3] at hlv
      subst hlv
      simp only [cC, List.toArray] at hrun
      replace hrun := Lib.hid hrun
      replace hfin := Lib.hid hfin
      replace hsf := Lib.hid hsf
      generalize M.loose.length = ln at *
      clear hA hok4 hst4 hbk n1 n2 n3 n4
      go_wp2_with (at_builtin; (refine wpList_append_run (sv := .slice lp ln lc) (xv := .slice (some ⟨w4.heap.size, 0, none⟩) 1 1) rfl (.tmp 22) (.tmp 26) rfl rfl rfl hrun.out ?_))
      go_ret
      exact ⟨rfl, hfin.out, hsf.out⟩

set_option maxRecDepth 100000 in
set_option maxHeartbeats 4000000 in
theorem rCut_calls {w : World} {O : Nat → Prop} {r : Nat} {M : DM} (h : Rf w O r M) (k : ByteArray) (n : Int) (hk : k.size ≤ maxLen)  (hl : M.loose.length < 1000000) :
    Calls Tryd.prog 40 #[.pointer (some ⟨r, 0, none⟩), .string k, .int .i64 n] w fun y w' => y = .returned (.int .i64 (cutE M k n)) ∧ Rf w' (Gr O w w') r (cutM M k n) ∧ Stays O w w' := by
  have hlo := Lib.hid h.lo
  have hok := Lib.hid h.1
  have hB := Lib.hid (rburn_calls h)
  have hbn := Lib.hid (burn_now M)
  have hrise : Hid (Rise M.now) := Lib.hid (by rw [h.1.now]; exact rise_all h.1.rise _)
  have htn := Lib.hid (tot_now h.1)
  obtain ⟨E, hE⟩ : ∃ E, cutE M k n = E := ⟨_, rfl⟩
  obtain ⟨M', hM'⟩ : ∃ M', cutM M k n = M' := ⟨_, rfl⟩
  rw [hE, hM']
  unfold cutM at hM'
  rw [hE] at hM'
  unfold cutE at hE
  clear h
  replace hl := Lib.hid hl
  by_cases hf : M.fuse = 0
  · as_aux_lemma =>
    rw [if_pos hf] at hE
    subst hE
    rw [if_neg (by decide)] at hM'
    subst hM'
    rw [show decide (M.fuse ≠ 0) = false by simp [hf]] at hB
    clear hf
    go_enter Tryd.func40, Tryd.ntmps40
    go_wp2_with fail
    refine hB.out.mono ?_
    rintro e w1 ⟨rfl, hR1, hs1⟩
    replace hR1 := Lib.hid hR1
    replace hs1 := Lib.hid hs1
    go_wp2_with fail
    go_ret
    exact ⟨rfl, rop_err hlo.out hR1.out hs1.out (Below.refl _ _)⟩
  rw [if_neg hf] at hE
  rw [show decide (M.fuse ≠ 0) = true by simp [hf]] at hB
  clear hf
  have hN := Lib.hid (fun (w' : World) (h' : Rf w' O r (burnM M)) => rnow_calls h')
  have hF := Lib.hid (fun (A : World) (v : Value) (hv : FRow 0 A v M.now) => Find_calls hv k (by have := htn.out.2; omega))
  have hP : Hid (∀ i, FindIs M.now k i → (hasF M.now k = false ∧ i = -1 ∧ atF M.now k = ⟨#[]⟩) ∨ (hasF M.now k = true ∧ ∃ (j : Nat) (hj : j < M.now.length), i = (j : Int) ∧ M.now[j].2 = atF M.now k)) := Lib.hid (fun i hi => hi.some hrise.out)
  rw [hbn.out.1] at hN

  replace hk := Lib.hid hk
  go_enter Tryd.func40, Tryd.ntmps40
  go_wp2_with fail
  refine hB.out.mono ?_
  rintro e w1 ⟨rfl, hR1, hs1⟩
  replace hR1 := Lib.hid hR1
  replace hs1 := Lib.hid hs1
  clear hB

  go_wp2_with fail
  refine (hN.out _ hR1.out).mono ?_
  rintro e w2 ⟨v2, rfl, hr2, hb2, -⟩
  have hF2 := Lib.hid (hF.out _ _ hr2)
  obtain ⟨p, c, hv, hc1, hc2⟩ := hr2.parts
  subst hv
  have hr2' := Lib.hid hr2
  clear hN hF hr2
  have hb4 := Lib.hid hb2
  clear hb2
  go_wp2_with fail
  refine hF2.out.mono ?_
  rintro e w4 ⟨i, rfl, hi, rfl⟩
  have hp2 := hP.out i hi
  clear hF2 hi hP
  generalize w2 = w4 at *
  rcases hp2 with ⟨hq, rfl, -⟩ | ⟨hq, j, hj, rfl, hD⟩
  case inl =>
    as_aux_lemma =>
    rw [if_pos hq] at hE
    subst hE
    rw [if_neg (by decide)] at hM'
    subst hM'
    clear hq
    go_wp2_with fail
    go_ret
    exact ⟨rfl, rop_err hlo.out hR1.out hs1.out hb4.out⟩
  case inr =>
    as_aux_lemma =>
    rw [if_neg (by rw [hq]; decide)] at hE
    have hj1 : (j : Int) < (M.now.length : Int) := by omega
    have hj0 : (0 : Int) ≤ (j : Int) := by omega
    obtain ⟨g1, c', e, z1, z2⟩ := hr2'.out.get j hj
    obtain rfl : p = some ⟨g1, 0, none⟩ := by injection e
    clear e z1
    rw [hD] at z2
    clear hD hj hr2'
    have hts := htn.out.2
    generalize hnl : M.now.length = nl at *
    replace hnl := Lib.hid hnl
    obtain ⟨D, hDD⟩ : ∃ D, atF M.now k = D := ⟨_, rfl⟩
    rw [hDD] at z2 hE
    replace hDD := Lib.hid hDD
    by_cases h1 : n < 0
    · as_aux_lemma =>
      rw [if_pos h1] at hE
      subst hE
      rw [if_neg (by decide)] at hM'
      subst hM'
      have h1b : decide (n < 0) = true := decide_eq_true h1
      clear h1 hq
      go_wp2_with fail
      go_ret
      exact ⟨rfl, rop_err hlo.out hR1.out hs1.out hb4.out⟩
    rw [if_neg h1] at hE
    have h1b : decide (n < 0) = false := decide_eq_false h1
    by_cases h2 : (D.size : Int) < n
    · as_aux_lemma =>
      rw [if_pos h2] at hE
      subst hE
      rw [if_neg (by decide)] at hM'
      subst hM'
      have h2b : decide ((D.size : Int) < n) = true := decide_eq_true h2
      clear h1 h2 hq
      go_wp2_with fail
      go_ret
      exact ⟨rfl, rop_err hlo.out hR1.out hs1.out hb4.out⟩
    · as_aux_lemma =>
      rw [if_neg h2] at hE
      obtain ⟨m, rfl⟩ : ∃ m : Nat, n = (m : Int) := ⟨n.toNat, by omega⟩
      rw [Int.toNat_natCast] at hM'
      subst hE
      rw [if_pos rfl] at hM'
      subst hM'
      have h2b : decide ((D.size : Int) < (m : Int)) = false := decide_eq_false h2
      have h2c : decide (D.size < m) = false := decide_eq_false (by omega)
      have hm : m ≤ (atF M.now k).size := by rw [hDD.out]; omega
      have hfit : Hid (Fit M.now (.cut k m) ∧ _) := Lib.hid ⟨⟨hk.out, hm, hq⟩, cut_fits hok.out hrise.out k m hm hq⟩
      clear hq hm h1 h2
      have hR4 := hR1.out.below hb4.out
      obtain ⟨hok4, sv, lv, hA⟩ := hR4
      obtain ⟨n1, n2, n3, n4⟩ := hbn.out
      have hst4 : Stays O w w4 := hs1.out.trans (Stays.of_below (O := O) hb4.out) (fun _ _ h => h)
      obtain ⟨q, d, w5, hrun, hbk, hfin, hsf⟩ := rop_add hlo.out hA hok4 hst4 (.cut k m) (by rw [n1]; exact hfit.out.1) (by rw [n1, n2]; exact hfit.out.2) (by rw [n3]; exact hl.out) 49
      rw [n3] at hrun hfin hsf
      obtain ⟨-, -, x2, -⟩ := hA.c4
      have fz := hbk.frz 2
      have fc := hbk.cell 2 rfl
      obtain ⟨lp, lc, hlv, -, -⟩ := hA.loose.parts
      rw [n3] at hlv
      subst hlv
      simp only [cC, List.toArray] at hrun
      replace hrun := Lib.hid hrun
      replace hfin := Lib.hid hfin
      replace hsf := Lib.hid hsf
      generalize M.loose.length = ln at *
      clear hA hok4 hst4 hbk n1 n2 n3 n4
      go_wp2_with (at_builtin; (refine wpList_append_run (sv := .slice lp ln lc) (xv := .slice (some ⟨w4.heap.size, 0, none⟩) 1 1) rfl (.tmp 35) (.tmp 39) rfl rfl rfl hrun.out ?_))
      go_ret
      exact ⟨rfl, hfin.out, hsf.out⟩

set_option maxRecDepth 100000 in
set_option maxHeartbeats 4000000 in
theorem rAppend_calls {w : World} {O : Nat → Prop} {r : Nat} {M : DM} (h : Rf w O r M) (k s : ByteArray) (hk : k.size ≤ maxLen) (hs : s.size ≤ maxLen)  (hl : M.loose.length < 1000000) :
    Calls Tryd.prog 39 #[.pointer (some ⟨r, 0, none⟩), .string k, .string s] w fun y w' => y = .returned (.int .i64 (appE M k s)) ∧ Rf w' (Gr O w w') r (appM M k s) ∧ Stays O w w' := by
  have hlo := Lib.hid h.lo
  have hok := Lib.hid h.1
  have hB := Lib.hid (rburn_calls h)
  have hbn := Lib.hid (burn_now M)
  have hrise : Hid (Rise M.now) := Lib.hid (by rw [h.1.now]; exact rise_all h.1.rise _)
  have htn := Lib.hid (tot_now h.1)
  obtain ⟨E, hE⟩ : ∃ E, appE M k s = E := ⟨_, rfl⟩
  obtain ⟨M', hM'⟩ : ∃ M', appM M k s = M' := ⟨_, rfl⟩
  rw [hE, hM']
  unfold appM at hM'
  rw [hE] at hM'
  unfold appE at hE
  clear h
  replace hl := Lib.hid hl
  by_cases hf : M.fuse = 0
  · as_aux_lemma =>
    rw [if_pos hf] at hE
    subst hE
    rw [if_neg (by decide)] at hM'
    subst hM'
    rw [show decide (M.fuse ≠ 0) = false by simp [hf]] at hB
    clear hf
    go_enter Tryd.func39, Tryd.ntmps39
    go_wp2_with fail
    refine hB.out.mono ?_
    rintro e w1 ⟨rfl, hR1, hs1⟩
    replace hR1 := Lib.hid hR1
    replace hs1 := Lib.hid hs1
    go_wp2_with fail
    go_ret
    exact ⟨rfl, rop_err hlo.out hR1.out hs1.out (Below.refl _ _)⟩
  rw [if_neg hf] at hE
  rw [show decide (M.fuse ≠ 0) = true by simp [hf]] at hB
  clear hf
  have hN := Lib.hid (fun (w' : World) (h' : Rf w' O r (burnM M)) => rnow_calls h')
  have hF := Lib.hid (fun (A : World) (v : Value) (hv : FRow 0 A v M.now) => Find_calls hv k (by have := htn.out.2; omega))
  have hP : Hid (∀ i, FindIs M.now k i → (hasF M.now k = false ∧ i = -1 ∧ atF M.now k = ⟨#[]⟩) ∨ (hasF M.now k = true ∧ ∃ (j : Nat) (hj : j < M.now.length), i = (j : Int) ∧ M.now[j].2 = atF M.now k)) := Lib.hid (fun i hi => hi.some hrise.out)
  rw [hbn.out.1] at hN

  have hT := Lib.hid (fun A : World => RName_calls A k hk)
  have hL := Lib.hid (fun (w' : World) (h' : Rf w' O r (burnM M)) => rleft_calls h')
  rw [hbn.out.1, hbn.out.2.1] at hL
  obtain ⟨lf, hlf⟩ : ∃ lf, M.room - tot M.now = lf := ⟨_, rfl⟩
  rw [hlf] at hL hE
  replace hlf := Lib.hid hlf
  replace hk := Lib.hid hk
  replace hs := Lib.hid hs
  go_enter Tryd.func39, Tryd.ntmps39
  go_wp2_with fail
  refine hB.out.mono ?_
  rintro e w1 ⟨rfl, hR1, hs1⟩
  replace hR1 := Lib.hid hR1
  replace hs1 := Lib.hid hs1
  clear hB

  go_wp2_with fail
  refine (hT.out _).mono ?_
  rintro e w1' ⟨rfl, rfl⟩
  clear hT
  by_cases hn : nameB k = false
  · as_aux_lemma =>
    rw [if_pos hn] at hE
    subst hE
    rw [if_neg (by decide)] at hM'
    subst hM'
    rw [hn]
    clear hn
    go_wp2_with fail
    go_ret
    exact ⟨rfl, rop_err hlo.out hR1.out hs1.out (Below.refl _ _)⟩
  rw [if_neg hn] at hE
  rw [show nameB k = true by simpa using hn]
  clear hn
  go_wp2_with fail
  refine (hN.out _ hR1.out).mono ?_
  rintro e w2 ⟨v2, rfl, hr2, hb2, -⟩
  replace hr2 := Lib.hid hr2
  have hL2 := Lib.hid (hL.out w2 (hR1.out.below hb2))
  replace hb2 := Lib.hid hb2
  obtain ⟨p, c, hv, hc1, hc2⟩ := hr2.out.parts
  subst hv
  clear hN hL
  go_wp2_with fail
  refine hL2.out.mono ?_
  rintro e w3 ⟨rfl, hb3⟩
  have hb4 := Lib.hid (Lx.bstep hb2.out (Nat.le_refl _) hb3)
  have hF2 := Lib.hid (hF.out _ _ (RRow.below hr2.out hb3))
  clear hb2 hb3 hr2 hL2 hF
  by_cases h1 : lf < (s.size : Int)
  · as_aux_lemma =>
    rw [if_pos h1] at hE
    subst hE
    rw [if_neg (by decide)] at hM'
    subst hM'
    have h1b : decide (lf < (s.size : Int)) = true := decide_eq_true h1
    clear h1
    go_wp2_with fail
    go_ret
    exact ⟨rfl, rop_err hlo.out hR1.out hs1.out hb4.out⟩
  rw [if_neg h1] at hE
  have h1b : decide (lf < (s.size : Int)) = false := decide_eq_false h1
  replace h1 := Lib.hid h1
  go_wp2_with fail
  refine hF2.out.mono ?_
  rintro e w4 ⟨i, rfl, hi, rfl⟩
  have hp2 := hP.out i hi
  clear hF2 hi hP
  generalize w3 = w4 at *
  rcases hp2 with ⟨hq, rfl, -⟩ | ⟨hq, j, hj, rfl, -⟩
  case inl =>
    by_cases h2 : 64 ≤ M.now.length
    · as_aux_lemma =>
      rw [if_pos ⟨hq, h2⟩] at hE
      subst hE
      rw [if_neg (by decide)] at hM'
      subst hM'
      have h2b : decide ((64 : Int) ≤ (M.now.length : Int)) = true := decide_eq_true (by omega)
      clear h2 hq
      go_wp2_with fail
      go_ret
      exact ⟨rfl, rop_err hlo.out hR1.out hs1.out hb4.out⟩
    · as_aux_lemma =>
      rw [if_neg (fun h => h2 h.2)] at hE
      subst hE
      rw [if_pos rfl] at hM'
      subst hM'
      have h2b : decide ((64 : Int) ≤ (M.now.length : Int)) = false := decide_eq_false (by omega)
      have hfit : Hid (Fit M.now (.app k s) ∧ _) := Lib.hid ⟨hk.out, app_fits hok.out hrise.out k s (by rw [hlf.out]; have := h1.out; omega) (fun h => h2 h.2)⟩
      clear h2 hq
      have hR4 := hR1.out.below hb4.out
      obtain ⟨hok4, sv, lv, hA⟩ := hR4
      obtain ⟨n1, n2, n3, n4⟩ := hbn.out
      have hst4 : Stays O w w4 := hs1.out.trans (Stays.of_below (O := O) hb4.out) (fun _ _ h => h)
      obtain ⟨q, d, w5, hrun, hbk, hfin, hsf⟩ := rop_add hlo.out hA hok4 hst4 (.app k s) (by rw [n1]; exact hfit.out.1) (by rw [n1, n2]; exact hfit.out.2) (by rw [n3]; exact hl.out) 49
      rw [n3] at hrun hfin hsf
      obtain ⟨-, -, x2, -⟩ := hA.c4
      have fz := hbk.frz 2
      have fc := hbk.cell 2 rfl
      obtain ⟨lp, lc, hlv, -, -⟩ := hA.loose.parts
      rw [n3] at hlv
      subst hlv
      simp only [cC, List.toArray] at hrun
      replace hrun := Lib.hid hrun
      replace hfin := Lib.hid hfin
      replace hsf := Lib.hid hsf
      generalize M.loose.length = ln at *
      clear hA hok4 hst4 hbk n1 n2 n3 n4
      go_wp2_with (at_builtin; (refine wpList_append_run (sv := .slice lp ln lc) (xv := .slice (some ⟨w4.heap.size, 0, none⟩) 1 1) rfl (.tmp 36) (.tmp 40) rfl rfl rfl hrun.out ?_))
      go_ret
      exact ⟨rfl, hfin.out, hsf.out⟩
  case inr =>
    as_aux_lemma =>
    have hj0 : ¬ (j : Int) < 0 := by omega
    rw [if_neg (fun h => by rw [hq] at h; exact absurd h.1 (by decide))] at hE
    subst hE
    rw [if_pos rfl] at hM'
    subst hM'
    have hfit : Hid (Fit M.now (.app k s) ∧ _) := Lib.hid ⟨hk.out, app_fits hok.out hrise.out k s (by rw [hlf.out]; have := h1.out; omega) (fun h => by rw [hq] at h; exact absurd h.1 (by decide))⟩
    clear hq hj
    have hR4 := hR1.out.below hb4.out
    obtain ⟨hok4, sv, lv, hA⟩ := hR4
    obtain ⟨n1, n2, n3, n4⟩ := hbn.out
    have hst4 : Stays O w w4 := hs1.out.trans (Stays.of_below (O := O) hb4.out) (fun _ _ h => h)
    obtain ⟨q, d, w5, hrun, hbk, hfin, hsf⟩ := rop_add hlo.out hA hok4 hst4 (.app k s) (by rw [n1]; exact hfit.out.1) (by rw [n1, n2]; exact hfit.out.2) (by rw [n3]; exact hl.out) 49
    rw [n3] at hrun hfin hsf
    obtain ⟨-, -, x2, -⟩ := hA.c4
    have fz := hbk.frz 2
    have fc := hbk.cell 2 rfl
    obtain ⟨lp, lc, hlv, -, -⟩ := hA.loose.parts
    rw [n3] at hlv
    subst hlv
    simp only [cC, List.toArray] at hrun
    replace hrun := Lib.hid hrun
    replace hfin := Lib.hid hfin
    replace hsf := Lib.hid hsf
    generalize M.loose.length = ln at *
    clear hA hok4 hst4 hbk n1 n2 n3 n4
    go_wp2_with (at_builtin; (refine wpList_append_run (sv := .slice lp ln lc) (xv := .slice (some ⟨w4.heap.size, 0, none⟩) 1 1) rfl (.tmp 36) (.tmp 40) rfl rfl rfl hrun.out ?_))
    go_ret
    exact ⟨rfl, hfin.out, hsf.out⟩

end Go.Proofs.YtenjllkhbpoffaaDoor
