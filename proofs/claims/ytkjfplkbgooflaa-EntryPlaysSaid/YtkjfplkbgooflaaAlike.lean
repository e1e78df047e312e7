/-
  codicillaw26.alike: a log, and the reference's.
-/
import Derived.Test.YtkjfplkbgooflaaRefComp
import Derived.Test.YtkjfplkbgooflaaRefH
import Derived.Test.YtkjfplkbgooflaaRefS
import Derived.Test.YtkjfplkbgooflaaHint
import Derived.Test.YtkjfplkbgooflaaSame
namespace Go.Proofs.Ytkjfplkbgooflaa
open Go Go.RowKit Go.Lst Go.Lx

theorem slice_whole {L : LogS} (hl : L.l.length ≤ 4096) : sliceE L (L.i + 1) 4096 = 0 ∧ sliceL L (L.i + 1) 4096 = L.l := by
  have h0 : sliceE L (L.i + 1) 4096 = 0 := by
    unfold sliceE
    rw [if_neg (by omega), if_neg (by omega)]
  refine ⟨h0, ?_⟩
  unfold sliceL
  rw [if_pos h0, show (L.i + 1 - L.i - 1).toNat = 0 by omega, List.drop_zero]
  exact List.take_of_length_le (by simpa using hl)
set_option maxRecDepth 100000 in
set_option maxHeartbeats 4000000 in
theorem alike_calls {B B0 B1 : Nat} {w : World} {b b' : Nat} {cv lv cv' lv' : Value} {L : LogS} (h : LogAt B B0 w b cv lv L) (h' : RefAt B B1 w b' cv' lv' L) (ok : LogOk L) :
    Calls Try.prog 23 #[.pointer (some ⟨b, 0, none⟩), .pointer (some ⟨b', 0, none⟩)] w fun e w' => e = .returned (.bool true) ∧ Below w.heap.size w w' := by
  have C1 := Lib.hid (fun A hb => Base_calls (h.below (w' := A) hb))
  have C2 := Lib.hid (fun A hb => Last_calls (h.below (w' := A) hb))
  have C3 := Lib.hid (fun A hb => rLast_calls (h'.below (w' := A) hb))
  have C4 := Lib.hid (fun A hb => Conf_calls (h.below (w' := A) hb) ok)
  have C5 := Lib.hid (fun A hb x => rConfAt_calls (h'.below (w' := A) hb) ok x)
  have C6 := Lib.hid (fun A hb x hx => Term_calls (h.below (w' := A) hb) ok x hx)
  have C7 := Lib.hid (fun A hb x hx => rTermAt_calls (h'.below (w' := A) hb) ok x hx)
  have C8 := Lib.hid (fun A hb x hx => ConfAt_calls (h.below (w' := A) hb) ok x hx)
  have C9 := Lib.hid (fun A hb x hx => Hint_calls (h.below (w' := A) hb) ok x hx)
  have D9 := Lib.hid (fun A hb x hx => rHint_calls (h'.below (w' := A) hb) ok x hx)
  have CA := Lib.hid (fun A hb x t hx => Fits_calls (h.below (w' := A) hb) ok x t hx)
  have DA := Lib.hid (fun A hb x t hx => rFits_calls (h'.below (w' := A) hb) ok x t hx)
  have CB := Lib.hid (fun A hb x hx => Slice_calls (h.below (w' := A) hb) ok x 4096 hx)
  have SM := Lib.hid (fun v u xs ys A hv hu => rSame_calls v u xs ys A hv hu)
  have SE := Lib.hid (fun B' es v u A hv hu => SameEntries_calls B B' es v u A hv hu)
  have hH := Lib.hid h'
  have hok := Lib.hid ok
  have hi0 := ok.i0
  obtain ⟨LA, hLA⟩ : ∃ LA, lastOf L = LA := ⟨_, rfl⟩
  rw [hLA] at C2 C3 C4
  obtain ⟨x, y⟩ := LA
  dsimp only at C2 C3 C4
  obtain ⟨s1, s2⟩ := slice_whole h'.sz
  have hsz := h'.sz
  obtain ⟨SI, hSI⟩ : ∃ SI, saysI L x = SI := ⟨_, rfl⟩
  obtain ⟨Li, hLi⟩ : ∃ Li, L.i = Li := ⟨_, rfl⟩
  obtain ⟨Lt, hLt⟩ : ∃ Lt, L.t = Lt := ⟨_, rfl⟩
  obtain ⟨ln, hln⟩ : ∃ ln, L.l.length = ln := ⟨_, rfl⟩
  rw [hLi, hLt] at C1
  rw [hSI] at C4
  have C5a := Lib.hid (fun A hb => C5.out A hb x)
  rw [hSI] at C5a
  rw [hLi] at hi0 s1 s2
  rw [hln] at hsz
  have hc4 := Lib.hid (fun A (hb : Below w.heap.size w A) => (hH.out.below hb).isBlk)
  obtain ⟨p9, c9, hlv, hlc, hcm, -⟩ := h'.row.ents
  rw [hln] at hlv hlc
  rw [hLi, hLt, hlv] at hc4
  have hb := Lib.hid (Below.refl w.heap.size w)
  clear h h' ok
  replace hLA := Lib.hid hLA
  replace hSI := Lib.hid hSI
  replace hLi := Lib.hid hLi
  replace hLt := Lib.hid hLt
  replace hln := Lib.hid hln
  replace s1 := Lib.hid s1
  replace s2 := Lib.hid s2
  replace hlv := Lib.hid hlv
  replace hlc := Lib.hid hlc
  replace hcm := Lib.hid hcm
  go_enter Try.func23, Try.ntmps23
  go_wp2_with fail
  refine (C1.out _ hb.out).mono ?_
  rintro e w1 ⟨rfl, hb1⟩
  replace hb := Lib.hid (Lx.bstep hb.out (Nat.le_refl _) hb1)
  clear hb1
  go_wp2_with fail
  refine (C2.out _ hb.out).mono ?_
  rintro e w2 ⟨rfl, hb1⟩
  replace hb := Lib.hid (Lx.bstep hb.out (Nat.le_refl _) hb1)
  clear hb1
  go_wp2_with fail
  refine (C3.out _ hb.out).mono ?_
  rintro e w3 ⟨rfl, hb1⟩
  replace hb := Lib.hid (Lx.bstep hb.out (Nat.le_refl _) hb1)
  clear hb1
  go_wp2_with fail
  refine (C4.out _ hb.out).mono ?_
  rintro e w4 ⟨pv, rfl, hcp, hb1, a4, n4, d4, rfl⟩
  replace hb := Lib.hid (Lx.bstep hb.out (Nat.le_refl _) hb1)
  replace hcp := Lib.hid hcp
  clear hb1
  go_wp2_with fail
  refine (C5a.out _ hb.out).mono ?_
  rintro e w5 ⟨sv, rfl, hcs, hb1⟩
  replace hcp := Lib.hid (hcp.out.keep (Calms.below hb1))
  replace hb := Lib.hid (Lx.bstep hb.out (Nat.le_refl _) hb1)
  obtain ⟨a5, d5, rfl, -⟩ := hcs.n.parts
  have hS := SM.out _ _ _ _ w5 hcp.out.n hcs.n
  rw [decide_eq_true (rfl : saysC L x = saysC L x)] at hS
  replace hS := Lib.hid hS
  clear hb1 hcp hcs
  obtain ⟨q0, q1, -⟩ := (hc4.out _ hb.out).c4
  go_wp2_with fail
  refine hS.out.mono ?_
  rintro e w6 ⟨rfl, hb1⟩
  replace hb := Lib.hid (Lx.bstep hb.out (Nat.le_refl _) hb1)
  clear hb1 q0 q1 hS
  go_wp2_with fail
  go_loopg [15] (ln + 4) (fun k v15 A => ∃ (j : Nat), v15 = .int .u64 (j : Int) ∧ j ≤ ln + 3 ∧ ln + 3 < j + k ∧ Below w.heap.size w A)
  case atStart => exact ⟨0, rfl, by omega, by omega, hb.out⟩
  case round =>
    clear hb
    obtain ⟨j, rfl, hj, hk, hb⟩ := hrel
    replace hb := Lib.hid hb
    cases gk with
    | zero => omega
    | succ k =>
      obtain ⟨q0, q1, q2, q3, -⟩ := (hc4.out _ hb.out).c4
      by_cases hjl : j ≤ ln + 2
      case neg =>
        have hd : decide ((j : Int) ≤ (ln : Int) + 2) = false := by simp; omega
        have W1 : IntKind.u64.wrap ((ln : Int) + 2) = (ln : Int) + 2 := by rw [IntKind.wrap_u64]; omega
        have W2 : IntKind.u64.wrap (ln : Int) = (ln : Int) := by rw [IntKind.wrap_u64]; omega
        clear hj hk hjl
        go_wp2_with fail
        refine (CB.out _ hb.out (Li + 1) (by omega)).mono ?_
        rintro e w7 ⟨v7, rfl, hRow, hb1⟩
        rw [s2.out] at hRow
        rw [s1.out]
        replace hb := Lib.hid (Lx.bstep hb.out (Nat.le_refl _) hb1)
        clear q0 q1 q2 q3 hb1
        obtain ⟨a7, d7, hv7, -⟩ := hRow.ents
        have hRR := (hH.out.below hb.out).row.ents
        have hS := SE.out _ _ _ _ w7 hRow.ents hRR
        rw [hlv.out] at hS
        rw [hln.out] at hv7
        subst hv7
        replace hS := Lib.hid hS
        obtain ⟨q0, q1, q2, q3, -⟩ := (hc4.out _ hb.out).c4
        clear hRow hRR
        go_wp2_with fail
        refine hS.out.mono ?_
        rintro e w8 ⟨rfl, hb1⟩
        replace hb := Lib.hid (Lx.bstep hb.out (Nat.le_refl _) hb1)
        clear hb1 q0 q1 q2 q3 hS
        go_wp2_with fail
        go_ret
        exact ⟨rfl, hb.out⟩
      case pos =>
        have hd : decide ((j : Int) ≤ (ln : Int) + 2) = true := by simp; omega
        have W1 : IntKind.u64.wrap ((ln : Int) + 2) = (ln : Int) + 2 := by rw [IntKind.wrap_u64]; omega
        have W2 : IntKind.u64.wrap (ln : Int) = (ln : Int) := by rw [IntKind.wrap_u64]; omega
        have W3 : IntKind.u64.wrap (Li + (j : Int)) = Li + (j : Int) := by rw [IntKind.wrap_u64]; omega
        have W4 : IntKind.u64.wrap ((j : Int) + 1) = (j : Int) + 1 := by rw [IntKind.wrap_u64]; omega
        by_cases hz : Li = 0 ∧ j = 0
        · obtain ⟨rfl, rfl⟩ := hz
          have W5 : IntKind.u64.wrap (-1) = 18446744073709551615 := by rw [IntKind.wrap_u64]; rfl
          go_wp2_with fail
          go_roundg k
          case measure => omega
          case rel => exact ⟨1, by first | rfl | (rw [W4]; rfl), by omega, by omega, hb.out⟩
        · have hz1 : (Li == 0) = false ∨ (Li == 0) = true ∧ ((j : Int) == 0) = false := by
            by_cases h : Li = 0
            · refine .inr ⟨by simpa using h, ?_⟩
              have : j ≠ 0 := fun h2 => hz ⟨h, h2⟩
              simp; omega
            · exact .inl (by simpa using h)
          obtain ⟨a, hat⟩ : ∃ a, Li + (j : Int) - 1 = a := ⟨_, rfl⟩
          have W5 : IntKind.u64.wrap (Li + (j : Int) - 1) = a := by rw [IntKind.wrap_u64]; omega
          have ha0 : 0 ≤ a := by omega
          have hE := term_errs L a
          have E8 := Lib.hid (fun A hb => C8.out A hb a ha0)
          have E6 := Lib.hid (fun A hb => C6.out A hb a ha0)
          have E7 := Lib.hid (fun A hb => C7.out A hb a ha0)
          have E9 := Lib.hid (fun A hb => C9.out A hb a ha0)
          have F9 := Lib.hid (fun A hb => D9.out A hb a ha0)
          have E5 := Lib.hid (fun A hb => C5.out A hb a)
          have EA := Lib.hid (fun A hb t => CA.out A hb a t ha0)
          have FA := Lib.hid (fun A hb t => DA.out A hb a t ha0)
          have hcA : (termAt L a).2 ≠ 0 → confAt L a = [] := fun h => by unfold confAt; rw [if_neg h]
          have hcB : (termAt L a).2 = 0 → confAt L a = saysC L a := fun h => by unfold confAt; rw [if_pos h]
          obtain ⟨⟨T, E⟩, hT⟩ : ∃ T, termAt L a = T := ⟨_, rfl⟩
          rw [hT] at E6 E7 E8 hE hcA hcB
          dsimp only at E6 E7 E8 hE hcA hcB
          obtain ⟨H, hH9⟩ : ∃ H, hint L a = H := ⟨_, rfl⟩
          rw [hH9] at E9 F9
          obtain ⟨f1, hf1⟩ : ∃ f, fitsB L a Lt = f := ⟨_, rfl⟩
          obtain ⟨f2, hf2⟩ : ∃ f, fitsB L a T = f := ⟨_, rfl⟩
          have EA1 := Lib.hid (fun A hb => EA.out A hb Lt)
          have FA1 := Lib.hid (fun A hb => FA.out A hb Lt)
          have EA2 := Lib.hid (fun A hb => EA.out A hb T)
          have FA2 := Lib.hid (fun A hb => FA.out A hb T)
          rw [hf1] at EA1 FA1
          rw [hf2] at EA2 FA2
          obtain ⟨CM, hCM⟩ : ∃ c, confAt L a = c := ⟨_, rfl⟩
          rw [hCM] at E8 hcA hcB
          clear hT hH9 hf1 hf2 hCM EA FA hz
          replace hcA := Lib.hid hcA
          replace hcB := Lib.hid hcB
          replace hE := Lib.hid hE
          replace hat := Lib.hid hat
          replace ha0 := Lib.hid ha0
          rcases hz1 with hz1 | ⟨hz1, hz2⟩
          all_goals
            go_wp2_with fail
            clear q0 q1 q2 q3 hcm
            refine (E6.out _ hb.out).mono ?_
            rintro e w7 ⟨rfl, hb1⟩
            replace hb := Lib.hid (Lx.bstep hb.out (Nat.le_refl _) hb1)
            clear hb1
            go_wp2_with fail
            refine (E7.out _ hb.out).mono ?_
            rintro e w8 ⟨rfl, hb1⟩
            replace hb := Lib.hid (Lx.bstep hb.out (Nat.le_refl _) hb1)
            clear hb1
            go_wp2_with fail
            refine (E8.out _ hb.out).mono ?_
            rintro e w9 ⟨mv, rfl, hcm, hb1⟩
            replace hb := Lib.hid (Lx.bstep hb.out (Nat.le_refl _) hb1)
            obtain ⟨am, dm, rfl, -⟩ := hcm.n.parts
            replace hcm := Lib.hid hcm
            clear hb1
            go_wp2_with fail
            refine (E9.out _ hb.out).mono ?_
            rintro e wa ⟨rfl, hb1⟩
            replace hcm := Lib.hid (hcm.out.keep (Calms.below hb1))
            replace hb := Lib.hid (Lx.bstep hb.out (Nat.le_refl _) hb1)
            clear hb1
            go_wp2_with fail
            refine (F9.out _ hb.out).mono ?_
            rintro e wb ⟨rfl, hb1⟩
            replace hcm := Lib.hid (hcm.out.keep (Calms.below hb1))
            replace hb := Lib.hid (Lx.bstep hb.out (Nat.le_refl _) hb1)
            clear hb1
            go_wp2_with fail
            refine (EA1.out _ hb.out).mono ?_
            rintro e wc ⟨rfl, hb1⟩
            replace hcm := Lib.hid (hcm.out.keep (Calms.below hb1))
            replace hb := Lib.hid (Lx.bstep hb.out (Nat.le_refl _) hb1)
            clear hb1
            go_wp2_with fail
            refine (FA1.out _ hb.out).mono ?_
            rintro e wd ⟨rfl, hb1⟩
            replace hcm := Lib.hid (hcm.out.keep (Calms.below hb1))
            replace hb := Lib.hid (Lx.bstep hb.out (Nat.le_refl _) hb1)
            clear hb1
            go_wp2_with fail
            refine (EA2.out _ hb.out).mono ?_
            rintro e we ⟨rfl, hb1⟩
            replace hcm := Lib.hid (hcm.out.keep (Calms.below hb1))
            replace hb := Lib.hid (Lx.bstep hb.out (Nat.le_refl _) hb1)
            clear hb1
            go_wp2_with fail
            refine (FA2.out _ hb.out).mono ?_
            rintro e wf ⟨rfl, hb1⟩
            replace hcm := Lib.hid (hcm.out.keep (Calms.below hb1))
            replace hb := Lib.hid (Lx.bstep hb.out (Nat.le_refl _) hb1)
            clear hb1
            rcases hE.out with h0 | ⟨h0, -, -⟩
            · have hcc := hcB.out h0
              subst h0 hcc
              go_wp2_with fail
              refine (E5.out _ hb.out).mono ?_
              rintro e w5 ⟨nv, rfl, hcn, hb1⟩
              replace hcm := Lib.hid (hcm.out.keep (Calms.below hb1))
              replace hb := Lib.hid (Lx.bstep hb.out (Nat.le_refl _) hb1)
              obtain ⟨an, dn, rfl, -⟩ := hcn.n.parts
              have hS := SM.out _ _ _ _ w5 hcm.out.n hcn.n
              rw [decide_eq_true (rfl : saysC L a = saysC L a)] at hS
              replace hS := Lib.hid hS
              clear hb1 hcm hcn
              go_wp2_with fail
              refine hS.out.mono ?_
              rintro e w6 ⟨rfl, hb1⟩
              replace hb := Lib.hid (Lx.bstep hb.out (Nat.le_refl _) hb1)
              clear hb1 hS
              go_wp2_with fail
              go_roundg k
              case measure => omega
              case rel => exact ⟨j + 1, by first | rfl | (rw [W4]; rfl), by omega, by omega, hb.out⟩
            · have hcc := hcA.out h0
              have h0b : (E == 0) = false := by simpa using h0
              subst hcc
              go_wp2_with fail
              go_roundg k
              case measure => omega
              case rel => exact ⟨j + 1, by first | rfl | (rw [W4]; rfl), by omega, by omega, hb.out⟩
end Go.Proofs.Ytkjfplkbgooflaa
