/-
  EntryFull.
-/
import Derived.Test.YtkjfplkbgooflaaFullMath
namespace Go.Proofs.Ytkjfplkbgooflaa
open Go Go.RowKit Go.Lst Go.Lx

set_option maxRecDepth 100000 in
set_option maxHeartbeats 4000000 in
theorem EntryFull_walk (at' n : Int) (w : World) (wa : (Lit.int .u16 at').wf = true) (wb : (Lit.int .u8 n).wf = true) :
    Calls Try.prog 3 #[.int .u16 at', .int .u8 n] w fun e w' => e = .returned (.bool true) ∧ Below w.heap.size w w' := by
  have hm := made1 w #[.int .i64 1, .int .i64 2, .int .i64 3] 3
  have ha : 0 ≤ at' ∧ at' < 65536 := by
    unfold Lit.wf at wa
    rw [Bool.and_eq_true, decide_eq_true_eq, decide_eq_true_eq] at wa
    have h1 : IntKind.u16.min = 0 := rfl
    have h2 : IntKind.u16.max = 65535 := rfl
    omega
  have hn : 0 ≤ n ∧ n < 256 := by
    unfold Lit.wf at wb
    rw [Bool.and_eq_true, decide_eq_true_eq, decide_eq_true_eq] at wb
    have h1 : IntKind.u8.min = 0 := rfl
    have h2 : IntKind.u8.max = 255 := rfl
    omega
  clear wa wb
  obtain ⟨M, hM1, hM2⟩ : ∃ M : Nat, n.tmod 50 = (M : Int) ∧ M < 50 := ⟨(n.tmod 50).toNat, by rw [Int.tmod_eq_emod_of_nonneg hn.1]; omega, by rw [Int.tmod_eq_emod_of_nonneg hn.1]; omega⟩
  obtain ⟨K, hK1, hK2⟩ : ∃ K : Nat, at'.tmod 4096 = (K : Int) ∧ K < 4096 := ⟨(at'.tmod 4096).toNat, by rw [Int.tmod_eq_emod_of_nonneg ha.1]; omega, by rw [Int.tmod_eq_emod_of_nonneg ha.1]; omega⟩
  replace hM2 := Lib.hid hM2
  replace hK2 := Lib.hid hK2
  go_enter Try.func3, Try.ntmps3
  go_wp2_with fail
  generalize w.alloc (.cells #[.int .i64 1, .int .i64 2, .int .i64 3] 3) = W at *
  refine (New_mine w W _ hm.1 hm.2.1).mono ?_
  rintro y w1 ⟨b, cv, rfl, hL, -⟩
  replace hL : Hid (Mine w w1 b cv (.slice none 0 0) (fullL 0)) := Lib.hid hL
  clear hm
  go_wp2_with fail
  go_loopg [7] 4097 (fun k v7 wr => ∃ (i : Nat) (lv : Value), v7 = .int .u64 ((i : Int) + 1) ∧ i ≤ 4096 ∧ 4096 < i + k ∧ Mine w wr b cv lv (fullL i))
  case atStart => exact ⟨0, _, rfl, by omega, by omega, hL.out⟩
  case round =>
    clear hL
    obtain ⟨i, lv, rfl, hi1, hi2, hL⟩ := hrel
    replace hL := Lib.hid hL
    cases gk with
    | zero => omega
    | succ k =>
      by_cases hlt : i < 4096
      · have h1 : decide ((i : Int) + 1 ≤ 4096) = true := by simp; omega
        go_wp2_with fail
        refine (noop_calls' _ 1 _).mono ?_
        rintro y w2 ⟨rfl, hb⟩
        replace hL := Lib.hid (hL.out.then hb)
        clear hb
        go_wp2_with fail
        obtain ⟨f1, f2⟩ := full_app i hL.out.ok hlt
        refine (Append_mine hL.out _ 1).mono ?_
        rw [f1, f2]
        clear hL f1 f2
        rintro y w3 ⟨rfl, lv1, hL, -⟩
        replace hL := Lib.hid hL
        go_wp2_with fail
        go_roundg k
        case measure => omega
        case rel => exact ⟨i + 1, lv1, by first | rfl | (rw [IntKind.wrap_u64]; congr 1; omega), by omega, by omega, hL.out⟩
      · have hi : i = 4096 := by omega
        subst hi
        clear hi1 hi2 hlt
        have h1 : decide (((4096 : Nat) : Int) + 1 ≤ 4096) = false := by simp
        go_wp2_with fail
        obtain ⟨N0, hN0⟩ : ∃ N0, wr.heap.size = N0 := ⟨_, rfl⟩
        have hbN : b < N0 := by rw [← hN0]; exact hL.out.log.lt
        have hlv : ∀ g, lv.ownBlock = some g → g < N0 := by rw [← hN0]; exact hL.out.log.row.lt
        have hwN : w.heap.size ≤ N0 := by rw [← hN0]; exact hL.out.below.size
        replace hbN := Lib.hid hbN
        replace hlv := Lib.hid hlv
        replace hwN := Lib.hid hwN
        go_loopg [8, 9] (M + 2) (fun k v8 v9 wr => ∃ (j : Nat), v9 = .int .i64 (j : Int) ∧ j ≤ M + 1 ∧ M + 1 < j + k ∧ Mine w wr b cv lv (fullL 4096) ∧ Row w.heap.size N0 wr v8 (esL j) ∧ N0 ≤ wr.heap.size)
        case atStart => exact ⟨0, rfl, by omega, by omega, hL.out, Row.nil _ _ _, by omega⟩
        case round =>
          clear hL hN0
          obtain ⟨j, rfl, hj1, hj2, hL, hrow, hsz⟩ := hrel
          replace hL := Lib.hid hL
          replace hrow := Lib.hid hrow
          replace hsz := Lib.hid hsz
          cases gk with
          | zero => omega
          | succ k =>
            by_cases hlt : j ≤ M
            · have h2 : decide ((j : Int) ≤ (M : Int)) = true := by simp; omega
              have h3 : j ≤ M := hlt
              have W1 : IntKind.u64.wrap (j : Int) = (j : Int) := by rw [IntKind.wrap_u64]; have := hM2.out; omega
              have W2 : IntKind.u64.wrap (4096 + (j : Int)) = 4096 + (j : Int) := by rw [IntKind.wrap_u64]; have := hM2.out; omega
              have W3 : IntKind.u64.wrap (4096 + (j : Int) + 1) = 4096 + (j : Int) + 1 := by rw [IntKind.wrap_u64]; have := hM2.out; omega
              go_wp2_with fail
              refine (noop_calls' _ 1 _).mono ?_
              rintro y w2 ⟨rfl, hb⟩
              have hb3 : Below w2.heap.size w2 (w2.alloc (.cells #[.int .u64 (4096 + (j : Int) + 1), .int .u64 1, .int .u8 1, .string ⟨#[]⟩, .slice none 0 0] 31)) := (by repeat (first | exact Below.refl _ _ | exact Lx.Ext.below _ | refine Below.drew ?_ | refine below_drewN ?_ _ | (refine Below.alloc ?_ (by first | exact Nat.le_refl _ | (simp; done) | (simp; omega)) _) | (refine Below.setCell ?_ (by first | exact Nat.le_refl _ | (simp; done) | (simp; omega)) _)))
              replace hb3 := Lx.bstep hb (Nat.le_refl _) hb3
              have hE7 := Lib.hid (ents_of_noop w.heap.size w2 (4096 + (j : Int) + 1) 1)
              have hL7 := Lib.hid (hL.out.then hb3)
              have hrow7 := Lib.hid (hrow.out.below hb3)
              have hsz7 := Lib.hid (Nat.le_trans hsz.out hb3.size)
              have hel := Lib.hid (esL_len j)
              clear hb hb3
              go_wp2_with (at_builtin; refine wpList_append_rw rfl (.tmp 43) (.tmp 49) rfl rfl (.inl hrow7.out) hwN.out hsz7.out ⟨w2.heap.size, 0, none⟩ 1 [nE (4096 + (j : Int) + 1) 1] rfl hE7.out (by simp) (by rw [hel.out]; simp only [List.length_cons, List.length_nil]; have := hM2.out; omega) ?_; intro v8 w8 hRow hg hcm hvo hbb; replace hRow := Lib.hid hRow; replace hg := Lib.hid hg; replace hcm := Lib.hid hcm; replace hbb := Lib.hid hbb; clear hvo hE7)
              go_roundg k
              case measure => omega
              case rel =>
                have hgb : ∀ k, u8.ownBlock = some k → N0 ≤ k := fun k hk => (hrow7.out.block hk).1
                have hL8 : Mine w w8 b cv lv (fullL 4096) := by
                  refine ⟨hL7.out.log.keep (hbb.out.block _ hbN.out) hcm.out (fun g hg => hbb.out.block _ (hlv.out g hg)), hL7.out.ok, hL7.out.lo, hL7.out.own, hL7.out.below.trans (hbb.out.mono hwN.out)⟩
                refine ⟨j + 1, by first | rfl | (rw [IntWalk.wrap64_in _ (by have := hM2.out; omega)]; rfl), by omega, by omega, hL8, ?_, Nat.le_trans hsz7.out hbb.out.size⟩
                have e : esL (j + 1) = esL j ++ [nE (4096 + (j : Int) + 1) 1] := by unfold esL; rw [List.range_succ, List.map_append]; rfl
                rw [e]
                exact hRow.out
            · have hj : j = M + 1 := by omega
              subst hj
              have h2 : decide (((M + 1 : Nat) : Int) ≤ (M : Int)) = false := by simp; omega
              clear hj1 hj2 hlt
              go_wp2_with fail
              obtain ⟨p8, c8, he8, -⟩ := hrow.out.ents
              rw [esL_len] at he8
              subst he8
              have hb8 : ∀ k, (Value.slice p8 (M + 1) c8).ownBlock = some k → k < wr.heap.size ∧ k ≠ b := fun k hk => ⟨(hrow.out.block hk).2, by have := (hrow.out.block hk).1; have := hbN.out; omega⟩
              have hfi : (fullL 4096).i = 0 := rfl
              obtain ⟨s1, s2, -⟩ := esL_store hL.out.ok (by rw [fullL_len]; rfl) (full_term 4096 hL.out.ok 4096 (by omega)) (M + 1) (by have := hM2.out; omega)
              rw [hfi] at s1 s2
              rw [if_pos (by omega)] at s1
              obtain ⟨s3, s4, s5⟩ := s2 (by omega)
              refine (Store_mine hL.out 4096 1 (by decide) _ (esL (M + 1)) hrow.out.ents hb8).mono ?_
              rw [s1, s3, s4, s5]
              clear s1 s2 s3 s4 s5 hfi hb8
              rintro y w2 ⟨pv, lv2, rfl, hpv, hL2, -, -, hb2⟩
              obtain ⟨pp, cp, hpe, -⟩ := hpv.ents
              simp only [List.length_nil] at hpe
              subst hpe
              replace hb2 := hb2 rfl
              replace hL := Lib.hid hL2
              replace hrow := Lib.hid (hrow.out.below hb2)
              clear hL2 hpv
              replace hsz := Lib.hid (Nat.le_trans hsz.out hb2.size)
              clear hb2
              go_wp2_with fail
              refine (noop_calls' 4097 1 _).mono ?_
              rintro y w3 ⟨rfl, hb⟩
              replace hL := Lib.hid (hL.out.then hb)
              replace hrow := Lib.hid (hrow.out.below hb)
              replace hsz := Lib.hid (Nat.le_trans hsz.out hb.size)
              clear hb
              go_wp2_with fail
              have hov := full_over hL.out.ok
              have hov2 : appendL (fullL 4096) (nE 4097 1) = fullL 4096 := by unfold appendL; rw [hov, if_neg (by decide)]
              refine (Append_mine hL.out 4097 1).mono ?_
              rw [hov, hov2]
              clear hov hov2
              rintro y w4 ⟨rfl, lv4, hL4, -, hb⟩
              replace hb := hb (by decide)
              replace hL := Lib.hid hL4
              replace hrow := Lib.hid (hrow.out.below hb)
              replace hsz := Lib.hid (Nat.le_trans hsz.out hb.size)
              clear hb hL4
              have V1 : IntKind.u64.wrap at' = at' := by rw [IntKind.wrap_u64]; omega
              have V2 : IntKind.u64.wrap (K : Int) = (K : Int) := by rw [IntKind.wrap_u64]; have := hK2.out; omega
              have V3 : IntKind.u64.wrap ((K : Int) + 1) = (K : Int) + 1 := by rw [IntKind.wrap_u64]; have := hK2.out; omega
              go_wp2_with fail
              have hft := full_term 4096 hL.out.ok ((K : Int) + 1) (by have := hK2.out; omega)
              have hfc := full_compact hL.out.ok (K + 1) (by have := hK2.out; omega)
              rw [show (((K + 1 : Nat) : Int)) = (K : Int) + 1 by omega] at hfc
              refine (Compact_mine hL.out ((K : Int) + 1) (by omega)).mono ?_
              rw [hft]
              clear hft
              generalize compactL (fullL 4096) ((K : Int) + 1) = L2 at *
              rintro y w5 ⟨rfl, cv2, lv5, hL5, hst, -⟩
              have hne5 : ∀ g, (Value.slice p8 (M + 1) c8).ownBlock = some g → ¬ g = b := fun g hg => by have := (hrow.out.block hg).1; have := hbN.out; omega
              replace hrow := Lib.hid (hrow.out.keep (hL.out.calms hst) (fun g hg => hst.block g (hrow.out.block hg).2 (hne5 g hg)))
              replace hL := Lib.hid hL5
              replace hsz := Lib.hid (Nat.le_trans hsz.out hst.size)
              clear hL5 hst
              obtain ⟨l1, l2, l3⟩ := hfc
              replace l1 := Lib.hid l1
              replace l2 := Lib.hid l2
              replace l3 := Lib.hid l3
              go_wp2_with fail
              have hb8 : ∀ k, (Value.slice p8 (M + 1) c8).ownBlock = some k → k < w5.heap.size ∧ k ≠ b := fun k hk => ⟨(hrow.out.block hk).2, hne5 k hk⟩
              obtain ⟨s1, s2, s3⟩ := esL_store hL.out.ok l2.out l3.out (M + 1) (by have := hM2.out; omega)
              rw [l1.out] at s1 s2 s3
              have V4 : IntKind.u64.wrap ((M : Int) + 1) = (M : Int) + 1 := by rw [IntKind.wrap_u64]; have := hM2.out; omega
              have V5 : IntKind.u64.wrap (4096 + ((M : Int) + 1)) = 4096 + ((M : Int) + 1) := by rw [IntKind.wrap_u64]; have := hM2.out; omega
              by_cases hKM : K < M
              · rw [if_pos (by omega)] at s1
                obtain ⟨s4, s5, s6⟩ := s2 (by omega)
                refine (Store_mine hL.out 4096 1 (by decide) _ (esL (M + 1)) hrow.out.ents hb8).mono ?_
                rw [s1, s4, s5, s6]
                clear s1 s2 s3 s4 s5 s6 hb8 hne5
                rintro y w6 ⟨pv, lv6, rfl, hpv, hL6, -, -, -⟩
                obtain ⟨pp, cp, hpe, -⟩ := hpv.ents
                simp only [List.length_nil] at hpe
                subst hpe
                replace hL := Lib.hid hL6
                clear hL6 hpv
                have d1 : decide ((K : Int) + 1 < (M : Int) + 1) = true := by simp; omega
                have d2 : (K : Int) < (M : Int) := by omega
                go_wp2_with fail
                refine (works26_calls _).mono ?_
                rintro y w7 ⟨rfl, hb⟩
                replace hL := Lib.hid (hL.out.then hb)
                clear hb
                go_wp2_with fail
                go_ret
                exact ⟨rfl, hL.out.below⟩
              · rw [if_neg (by omega)] at s1
                obtain ⟨s4, s5, s6⟩ := s3 (by omega)
                refine (Store_mine hL.out 4096 1 (by decide) _ (esL (M + 1)) hrow.out.ents hb8).mono ?_
                rw [s1, s4, s5]
                clear s1 s2 s3 s4 s5 hb8 hne5
                rintro y w6 ⟨pv, lv6, rfl, hpv, hL6, -, -, -⟩
                obtain ⟨pp, cp, hpe, -⟩ := hpv.ents
                rw [esL_len] at hpe
                subst hpe
                replace hL := Lib.hid hL6
                clear hL6 hpv
                have d1 : decide ((K : Int) + 1 < (M : Int) + 1) = false := by simp; omega
                have d2 : ¬ (K : Int) < (M : Int) := by omega
                go_wp2_with fail
                refine (Last_calls hL.out.log).mono ?_
                rw [s6]
                generalize (lastOf (storeL L2 4096 1 (esL (M + 1)))).2 = lt2
                rintro y w7 ⟨rfl, hb⟩
                replace hL := Lib.hid (hL.out.then hb)
                clear hb s6
                go_wp2_with fail
                refine (works26_calls _).mono ?_
                rintro y w8 ⟨rfl, hb⟩
                replace hL := Lib.hid (hL.out.then hb)
                clear hb
                go_wp2_with fail
                go_ret
                exact ⟨rfl, hL.out.below⟩
end Go.Proofs.Ytkjfplkbgooflaa
