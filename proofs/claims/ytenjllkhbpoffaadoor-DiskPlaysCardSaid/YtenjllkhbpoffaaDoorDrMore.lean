/-
  The reference's disk: Sync, Read, Alter.
-/
import Derived.Test.YtenjllkhbpoffaaDoorDrEnd
namespace Go.Proofs.YtenjllkhbpoffaaDoor
open Go Go.Maps Go.WideMaps Go.Dsk Go.Lx Go.Lst Go.RowKit

theorem rset_all {w w1 : World} {O : Nat → Prop} {r : Nat} {M : DM} {sv lv v : Value} (hlo : ∀ k, O k → k < w.heap.size) (h : RfAt w1 O r sv lv M.room M.sure M.loose M.fuse) (hok : DOk M) (hr : Rise M.now) (hs : Stays O w w1) (hv : FRow 0 w1 v M.now) (ho : ∀ k, v.ownBlock = some k → O k ∨ w.heap.size ≤ k) :
    Rf ((w1.setCell ⟨r, 1, none⟩ v).setCell ⟨r, 2, none⟩ (.slice none 0 0)) (Gr O w ((w1.setCell ⟨r, 1, none⟩ v).setCell ⟨r, 2, none⟩ (.slice none 0 0))) r (syncM M) ∧ Stays O w ((w1.setCell ⟨r, 1, none⟩ v).setCell ⟨r, 2, none⟩ (.slice none 0 0)) := by
  have hor : O r := h.own r (.inl rfl)
  have hst : Stays O w ((w1.setCell ⟨r, 1, none⟩ v).setCell ⟨r, 2, none⟩ (.slice none 0 0)) := (hs.setCell (p := ⟨r, 1, none⟩) (fun _ => hor) _).setCell (p := ⟨r, 2, none⟩) (fun _ => hor) _
  have hg : RfAt w1 (Gr O w w1) r sv lv M.room M.sure M.loose M.fuse := h.grow (fun _ hk => .inl hk) (Gr.lo hlo hs.size)
  have h1 := (hg.putS hv (fun k hk => (ho k hk).imp_right (fun h' => ⟨h', (hv.block hk).2⟩))).putL (RRow.nil _ _ _) (fun k hk => by cases hk)
  exact ⟨⟨syncM_ok hok hr, _, _, h1.grow (fun k hk => hk.imp_right (fun h' => ⟨h'.1, by simpa using h'.2⟩)) (Gr.lo hlo hst.size)⟩, hst⟩
set_option maxRecDepth 100000 in
set_option maxHeartbeats 4000000 in
theorem rSync_calls {w : World} {O : Nat → Prop} {r : Nat} {M : DM} (h : Rf w O r M) :
    Calls Tryd.prog 43 #[.pointer (some ⟨r, 0, none⟩)] w fun y w' => y = .returned (.int .i64 (burnE M)) ∧ Rf w' (Gr O w w') r (syncD M) ∧ Stays O w w' := by
  have hlo := Lib.hid h.lo
  have hB := Lib.hid (rburn_calls h)
  have hrise : Hid (Rise (burnM M).now) := Lib.hid (by rw [(burn_now M).1, h.1.now]; exact rise_all h.1.rise _)
  clear h
  rcases burn_cases M with ⟨hf, hE0⟩ | ⟨hf, hE0⟩
  · rw [hE0, show syncD M = burnM M by rw [burnM_ne (by rw [hE0]; decide)]; unfold syncD; rw [if_neg (by rw [hE0]; decide)]]
    rw [show decide (M.fuse ≠ 0) = false by simp [hf]] at hB
    clear hf hE0
    go_enter Tryd.func43, Tryd.ntmps43
    go_wp2_with fail
    refine hB.out.mono ?_
    rintro e w1 ⟨rfl, hR1, hs1⟩
    replace hR1 := Lib.hid hR1
    replace hs1 := Lib.hid hs1
    go_wp2_with fail
    go_ret
    exact ⟨rfl, rop_err hlo.out hR1.out hs1.out (Below.refl _ _)⟩
  rw [hE0, show syncD M = syncM (burnM M) by unfold syncD; rw [if_pos hE0]]
  rw [show decide (M.fuse ≠ 0) = true by simp [hf]] at hB
  clear hf hE0
  have hN := Lib.hid (fun (w' : World) (h' : Rf w' O r (burnM M)) => rnow_calls h')
  generalize burnM M = M1 at *
  go_enter Tryd.func43, Tryd.ntmps43
  go_wp2_with fail
  refine hB.out.mono ?_
  rintro e w1 ⟨rfl, hR1, hs1⟩
  replace hR1 := Lib.hid hR1
  replace hs1 := Lib.hid hs1
  clear hB

  go_wp2_with fail
  refine (hN.out _ hR1.out).mono ?_
  rintro e w4 ⟨v2, rfl, hr2, hb2, ho2⟩
  obtain ⟨p, c, hv, -, -⟩ := hr2.parts
  subst hv
  have hR4 := hR1.out.below hb2
  obtain ⟨hok4, sv, lv, hA⟩ := hR4
  have hst4 : Stays O w w4 := hs1.out.trans (Stays.of_below (O := O) hb2) (fun _ _ h => h)
  have hfin := Lib.hid (rset_all hlo.out hA hok4 hrise.out hst4 hr2 (fun k hk => (ho2 k hk).imp_right (fun h => Nat.le_trans hs1.out.size h)))
  have fz := hA.isBlk.frz 1
  have fc := hA.isBlk.cell 1 rfl
  have fz2 := (hA.isBlk.put 1 (.slice p M1.now.length c)).frz 2
  have fc2 := (hA.isBlk.put 1 (.slice p M1.now.length c)).cell 2 rfl
  clear hA hok4 hst4 hr2 ho2 hb2 hN
  go_wp2_with fail
  go_ret
  exact ⟨rfl, hfin.out⟩
set_option maxRecDepth 100000 in
set_option maxHeartbeats 4000000 in
theorem rRead_calls {w : World} {O : Nat → Prop} {r : Nat} {M : DM} (h : Rf w O r M) (k : ByteArray) :
    Calls Tryd.prog 47 #[.pointer (some ⟨r, 0, none⟩), .string k] w fun y w' => y = .returned (.tuple #[.string (readS M k), .int .i64 (readE M k)]) ∧ Below w.heap.size w w' := by
  have hN := Lib.hid (rnow_calls h)
  have hrise : Rise M.now := by rw [h.1.now]; exact rise_all h.1.rise _
  have htn := (tot_now h.1).2
  have hF := Lib.hid (fun (A : World) (v : Value) (hv : FRow 0 A v M.now) => Find_calls hv k (by omega))
  have hP : Hid (∀ i, FindIs M.now k i → (hasF M.now k = false ∧ i = -1 ∧ atF M.now k = ⟨#[]⟩) ∨ (hasF M.now k = true ∧ ∃ (j : Nat) (hj : j < M.now.length), i = (j : Int) ∧ M.now[j].2 = atF M.now k)) := Lib.hid (fun i hi => hi.some hrise)
  obtain ⟨hok, sv, lv, hA⟩ := h
  obtain ⟨-, -, -, q3⟩ := hA.c4
  clear hA hok
  obtain ⟨E, hE⟩ : ∃ E, readE M k = E := ⟨_, rfl⟩
  obtain ⟨Z, hZ⟩ : ∃ Z, readS M k = Z := ⟨_, rfl⟩
  rw [hE, hZ]
  unfold readE at hE
  unfold readS at hZ
  generalize M.fuse = fu at *
  by_cases hf : fu = 0
  · as_aux_lemma =>
    subst hf
    rw [if_pos rfl] at hE hZ
    subst hE hZ
    clear htn hrise
    go_enter Tryd.func47, Tryd.ntmps47
    go_wp2_with fail
    go_ret2
    exact ⟨rfl, Below.refl _ _⟩
  rw [if_neg hf] at hE hZ
  have hfb : decide (fu = 0) = false := decide_eq_false hf
  subst hZ
  obtain ⟨D, hDD⟩ : ∃ D, atF M.now k = D := ⟨_, rfl⟩
  rw [hDD] at hP ⊢
  clear hDD
  clear hrise
  go_enter Tryd.func47, Tryd.ntmps47
  go_wp2_with fail
  refine hN.out.mono ?_
  rintro e w2 ⟨v2, rfl, hr2, hb2, -⟩
  have hF2 := Lib.hid (hF.out _ _ hr2)
  obtain ⟨p, c, hv, hc1, hc2⟩ := hr2.parts
  subst hv
  have hr2' := Lib.hid hr2
  have hb4 := Lib.hid hb2
  clear hr2 hN hF hb2 q3
  go_wp2_with fail
  refine hF2.out.mono ?_
  rintro e w4 ⟨i, rfl, hi, rfl⟩
  have hp2 := hP.out i hi
  clear hF2 hi hP
  generalize w2 = w4 at *
  rcases hp2 with ⟨hq, rfl, hD⟩ | ⟨hq, j, hj, rfl, hD⟩
  case inl =>
    as_aux_lemma =>
    rw [if_neg (by rw [hq]; decide)] at hE
    subst hE
    subst hD
    clear hq
    go_wp2_with fail
    go_ret2
    exact ⟨rfl, hb4.out⟩
  case inr =>
    as_aux_lemma =>
    rw [if_pos hq] at hE
    subst hE
    obtain ⟨g1, c', e, z1, z2⟩ := hr2'.out.get j hj
    obtain rfl : p = some ⟨g1, 0, none⟩ := by injection e
    clear e z1
    rw [hD] at z2
    have hj1 : (j : Int) < (M.now.length : Int) := by omega
    have hj0 : (0 : Int) ≤ (j : Int) := by omega
    clear hD hj hr2'
    generalize M.now.length = nl at *
    clear hq
    go_wp2_with fail
    go_ret2
    exact ⟨rfl, hb4.out⟩
theorem rset_sure {w w1 : World} {O : Nat → Prop} {r : Nat} {sv lv v : Value} {room fuse : Int} {S S' : Files} {l : List Lc} (hlo : ∀ k, O k → k < w.heap.size) (h : RfAt w1 O r sv lv room S l fuse) (hs : Stays O w w1) (hv : FRow w.heap.size w1 v S') :
    RfAt (w1.setCell ⟨r, 1, none⟩ v) (Gr O w (w1.setCell ⟨r, 1, none⟩ v)) r v lv room S' l fuse ∧ Stays O w (w1.setCell ⟨r, 1, none⟩ v) := by
  have hor : O r := h.own r (.inl rfl)
  have hst : Stays O w (w1.setCell ⟨r, 1, none⟩ v) := hs.setCell (p := ⟨r, 1, none⟩) (fun _ => hor) _
  have hg : RfAt w1 (Gr O w w1) r sv lv room S l fuse := h.grow (fun _ hk => .inl hk) (Gr.lo hlo hs.size)
  have h1 := hg.putS (RRow.mono hv (Nat.zero_le _)) (fun k hk => .inr (hv.block hk))
  exact ⟨h1.grow (fun k hk => hk.imp_right (fun h' => ⟨h'.1, by simpa using h'.2⟩)) (Gr.lo hlo hst.size), hst⟩
set_option maxRecDepth 100000 in
set_option maxHeartbeats 4000000 in
theorem rAlter_calls {w : World} {O : Nat → Prop} {r : Nat} {M : DM} (h : Rf w O r M) (k : ByteArray) (i y : Int) (hi : i ≤ 9223372036854775807) (hy : 0 ≤ y ∧ y < 256) :
    Calls Tryd.prog 45 #[.pointer (some ⟨r, 0, none⟩), .string k, .int .i64 i, .int .u8 y] w fun e w' => e = .returned (.int .i64 (alterE M k i)) ∧ Rf w' (Gr O w w') r (alterM M k i y) ∧ Stays O w w' := by
  have hlo := Lib.hid h.lo
  have hN := Lib.hid (rnow_calls h)
  have hrise : Hid (Rise M.now) := Lib.hid (by rw [h.1.now]; exact rise_all h.1.rise _)
  have htn := Lib.hid (tot_now h.1).2
  have hF := Lib.hid (fun (A : World) (v : Value) (hv : FRow 0 A v M.now) => Find_calls hv k (by have := htn.out; omega))
  have hW := Lib.hid (fun (A : World) (v : Value) (hv : FRow 0 A v M.now) (s : ByteArray) => with_calls hv hrise.out k s (by have := htn.out; omega))
  have hP : Hid (∀ i, FindIs M.now k i → (hasF M.now k = false ∧ i = -1 ∧ atF M.now k = ⟨#[]⟩) ∨ (hasF M.now k = true ∧ ∃ (j : Nat) (hj : j < M.now.length), i = (j : Int) ∧ M.now[j].2 = atF M.now k)) := Lib.hid (fun i hi => hi.some hrise.out)
  have hsize : Hid ((atF M.now k).size ≤ 16777216) := Lib.hid (by have h1 := tot_at hrise.out k; have h2 := tot_now h.1; have h3 := h.1.room; omega)
  have hH := Lib.hid h
  obtain ⟨E, hE⟩ : ∃ E, alterE M k i = E := ⟨_, rfl⟩
  obtain ⟨M', hM'⟩ : ∃ M', alterM M k i y = M' := ⟨_, rfl⟩
  rw [hE, hM']
  unfold alterM at hM'
  rw [hE] at hM'
  unfold alterE at hE
  obtain ⟨D, hDD⟩ : ∃ D, atF M.now k = D := ⟨_, rfl⟩
  rw [hDD] at hP hE hsize
  replace hDD := Lib.hid hDD
  clear h
  go_enter Tryd.func45, Tryd.ntmps45
  go_wp2_with fail
  refine hN.out.mono ?_
  rintro e w2 ⟨v2, rfl, hr2, hb2, -⟩
  have hF2 := Lib.hid (hF.out _ _ hr2)
  obtain ⟨p, c, hv, hc1, hc2⟩ := hr2.parts
  subst hv
  have hr2' := Lib.hid hr2
  have hb4 := Lib.hid hb2
  clear hr2 hN hF hb2
  go_wp2_with fail
  refine hF2.out.mono ?_
  rintro e w4 ⟨ix, rfl, hix, rfl⟩
  have hp2 := hP.out ix hix
  clear hF2 hix hP
  generalize w2 = w4 at *
  rcases hp2 with ⟨hq, rfl, hD⟩ | ⟨hq, a, ha, rfl, hD⟩
  case inl =>
    as_aux_lemma =>
    rw [if_pos hq] at hE
    subst hE
    rw [if_neg (by decide)] at hM'
    subst hM'
    subst hD
    clear hq
    go_wp2_with fail
    go_ret
    exact ⟨rfl, rop_err hlo.out hH.out (Stays.of_below (Below.refl _ _)) hb4.out⟩
  case inr =>
    as_aux_lemma =>
    rw [if_neg (by rw [hq]; decide)] at hE
    obtain ⟨g1, c', e, z1, z2⟩ := hr2'.out.get a ha
    obtain rfl : p = some ⟨g1, 0, none⟩ := by injection e
    clear e z1
    rw [hD] at z2
    have ha1 : (a : Int) < (M.now.length : Int) := by omega
    have ha0 : (0 : Int) ≤ (a : Int) := by omega
    clear hD ha
    generalize hnl : M.now.length = nl at *
    replace hnl := Lib.hid hnl
    by_cases h1 : i < 0
    · as_aux_lemma =>
      rw [if_pos h1] at hE
      subst hE
      rw [if_neg (by decide)] at hM'
      subst hM'
      have h1b : decide (i < 0) = true := decide_eq_true h1
      clear h1 hq
      go_wp2_with fail
      go_ret
      exact ⟨rfl, rop_err hlo.out hH.out (Stays.of_below (Below.refl _ _)) hb4.out⟩
    rw [if_neg h1] at hE
    have h1b : decide (i < 0) = false := decide_eq_false h1
    obtain ⟨j, rfl⟩ : ∃ j : Nat, i = (j : Int) := ⟨i.toNat, by omega⟩
    by_cases h2 : (D.size : Int) ≤ (j : Int)
    · as_aux_lemma =>
      rw [if_pos h2] at hE
      subst hE
      rw [if_neg (by decide)] at hM'
      subst hM'
      have h2b : decide (D.size ≤ j) = true := decide_eq_true (by omega)
      clear h1 h2 hq
      go_wp2_with fail
      go_ret
      exact ⟨rfl, rop_err hlo.out hH.out (Stays.of_below (Below.refl _ _)) hb4.out⟩
    rw [if_neg h2] at hE
    have h2b : decide (D.size ≤ j) = false := decide_eq_false (by omega)
    have hR4 := hH.out.below hb4.out
    obtain ⟨hok4, sv, lv, hA⟩ := hR4
    obtain ⟨lp, lc, hlv, -, -⟩ := hA.loose.parts
    subst hlv
    obtain ⟨-, -, q2, -⟩ := hA.c4
    replace hA := Lib.hid hA
    replace hok4 := Lib.hid hok4
    by_cases h3 : 0 < M.loose.length
    · as_aux_lemma =>
      rw [if_pos h3] at hE
      subst hE
      rw [if_neg (by decide)] at hM'
      subst hM'
      have h3b : decide (0 < M.loose.length) = true := decide_eq_true h3
      clear h1 h2 h3 hq
      go_wp2_with fail
      go_ret
      exact ⟨rfl, rop_err hlo.out hH.out (Stays.of_below (Below.refl _ _)) hb4.out⟩
    rw [if_neg h3] at hE
    subst hE
    rw [if_pos rfl] at hM'
    subst hM'
    have hl0 : M.loose.length = 0 := by omega
    have hjs : j < D.size := by omega
    have hj0 : (0 : Int) ≤ (j : Int) := by omega
    have hj1 : (j : Int) < (D.size : Int) := by omega
    have hcv := Lib.run_convert_string_bytes (P := Tryd.prog) w4 9 76 5 D Tryd.underlying9 Tryd.underlying76 Tryd.underlying5
    obtain ⟨cap, hcap⟩ : ∃ cap, grownCap w4 D.size 0 5 = cap := ⟨_, rfl⟩
    rw [hcap] at hcv
    clear hcap
    have hB1 : Below w4.heap.size w4 (Lib.bytesWorld w4 5 D) := ⟨rfl, rfl, rfl, by rw [Lib.bytesWorld_size]; omega, fun k hk => Lib.bytesWorld_at_old w4 _ D k hk⟩
    have hcl : Hid (∀ i, i < D.size → (Lib.bytesWorld w4 5 D).cell? ⟨w4.heap.size, i, none⟩ = some (.int .u8 ((D.data.toList.getD i 0).toNat : Int))) := Lib.hid fun i hi => Lib.bytesWorld_cell w4 _ D i hi
    have hfr : (Lib.bytesWorld w4 5 D).frozen? ⟨w4.heap.size, j, none⟩ = false := by
      have hsz : D.size ≤ (Lib.bytesCells w4 5 D).size := by simp [Lib.bytesCells]
      simp [World.frozen?, Lib.bytesWorld_at_new]; omega
    have hcj := hcl.out j hjs
    generalize Lib.bytesWorld w4 5 D = W1 at *
    obtain ⟨cc, hc⟩ : ∃ cc, D.data.toList.getD j 0 = cc := ⟨_, rfl⟩
    rw [hc] at hcj
    have hc0 : (cc.toNat : Int) < 256 := by have := cc.toNat_lt; omega
    obtain ⟨xv, hxv⟩ : ∃ xv, Go.bits .xor .u8 (cc.toNat : Int) y = xv := ⟨_, rfl⟩
    obtain ⟨hy0, hy1⟩ := hy
    have hB2 : Below w4.heap.size w4 (W1.setCell ⟨w4.heap.size, j, none⟩ (.int .u8 xv)) := hB1.setCell (p := ⟨w4.heap.size, j, none⟩) (Nat.le_refl _) _
    have hcx := conv_of (W := W1.setCell ⟨w4.heap.size, j, none⟩ (.int .u8 xv)) w4.heap.size (alt D j y) cap (fun i hq => by
      rw [alt_size] at hq
      rw [alt_at D j hjs y ⟨hy0, hy1⟩ i hq]
      by_cases e : i = j
      · subst e
        rw [World.cell?_setCell_same' _ _ _ (by rw [hcl.out _ hq]; rfl), if_pos rfl, hc, hxv]
      · rw [World.cell?_setCell_other _ _ _ _ (by intro h'; cases h'; exact e rfl), hcl.out i hq, if_neg e])
    rw [alt_size] at hcx
    have hWC := Lib.hid (hW.out _ _ (RRow.below hr2'.out hB2) (alt D j y))
    replace hB2 := Lib.hid hB2
    have hq' := Lib.hid hq
    have hl0' := Lib.hid hl0
    rw [hl0] at q2
    have h3b : decide ((0 : Int) < ((0 : Nat) : Int)) = false := by decide
    clear hq hl0 h1 h2 h3 hc hcl hB1 hr2' hW hjs
    go_wp2_with fail
    refine hWC.out.mono ?_
    rintro e w6 ⟨v6, rfl, hr6, hb6⟩
    have hb46 := Lx.bstep hB2.out (Nat.le_refl _) hb6
    have hst6 : Stays O w w6 := (Stays.of_below (O := O) hb4.out).trans (Stays.of_below (O := O) hb46) (fun _ _ h => h)
    have hA6 := hA.out.below hb46
    obtain ⟨p6, c6, hv6, -, -⟩ := hr6.parts
    subst hv6
    have hfin := rset_sure hlo.out hA6 hst6 (RRow.mono hr6 (Nat.le_trans hb4.out.size hB2.out.size))
    have hok := alter_ok hok4.out hrise.out k (j : Int) y hq'.out
    unfold alterF at hok
    rw [hDD.out, show ((j : Int)).toNat = j by omega] at hok
    have hF9 : Hid (Rf (w6.setCell ⟨r, 1, none⟩ (.slice p6 (putF M.now k (alt D j y)).length c6)) (Gr O w (w6.setCell ⟨r, 1, none⟩ (.slice p6 (putF M.now k (alt D j y)).length c6))) r { M with sure := putF M.now k (alt D j y), now := putF M.now k (alt D j y), loose := [] }) := Lib.hid (by
      have h9 := hfin.1
      rw [List.eq_nil_of_length_eq_zero hl0'.out] at h9
      exact ⟨hok, _, _, h9⟩)
    have hS9 := Lib.hid hfin.2
    have fz := hA6.isBlk.frz 1
    have fc := hA6.isBlk.cell 1 rfl
    clear hWC hr6 hb6 hb46 hst6 hA6 hfin hok
    go_wp2_with fail
    go_ret
    refine ⟨rfl, ?_, hS9.out⟩
    have h9 := hF9.out
    unfold alterF
    rw [hDD.out]
    rw [show ((j : Int)).toNat = j by omega]
    exact h9
end Go.Proofs.YtenjllkhbpoffaaDoor
