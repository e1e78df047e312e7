/-
  (*Log).Slice.
-/
import Derived.Test.YtkjfplkbgooflaaConf26
namespace Go.Proofs.Ytkjfplkbgooflaa
open Go Go.RowKit Go.Lst Go.Lx

theorem Ents.sub {B : Nat} {w : World} {a : Addr} {len c : Nat} {es : List Ent} (h : Ents B w (.slice (some a) len c) es) (n k : Nat) (hk : n + k ≤ es.length) : Ents B w (.slice (some (a.add (n * 5))) k (c - n)) ((es.drop n).take k) := by
  obtain ⟨p', c', e', h1, h2, h3⟩ := h
  injection e' with e1 e2 e3
  subst e2 e3
  have hl : ((es.drop n).take k).length = k := by rw [List.length_take, List.length_drop]; omega
  refine ⟨some (a.add (n * 5)), c - n, by rw [hl], by rw [hl]; omega, by omega, fun j hj => ?_⟩
  obtain ⟨a', cv, ha, h4, h5⟩ := h3 (n + j) (by omega)
  rw [← e1] at ha
  cases ha
  have hen : ((es.drop n).take k)[j] = es[n + j]'(by omega) := by rw [List.getElem_take, List.getElem_drop]
  refine ⟨_, cv, rfl, fun m hm => ?_, by rw [hen]; exact h5⟩
  rw [hen, Lst.add_add, show n * 5 + (j * 5 + m) = (n + j) * 5 + m by omega]
  exact h4 m hm
set_option maxRecDepth 100000 in
set_option maxHeartbeats 4000000 in
theorem Slice_calls {B B0 : Nat} {w : World} {b : Nat} {cv lv : Value} {L : LogS} (h : LogAt B B0 w b cv lv L) (ok : LogOk L) (x most : Int) (hx : 0 ≤ x ∧ x < 18446744073709551616) :
    Calls Try.prog 19 #[.pointer (some ⟨b, 0, none⟩), .int .u64 x, .int .i64 most] w fun e w' => ∃ v, e = .returned (.tuple #[v, .int .i64 (sliceE L x most)]) ∧ Row B w.heap.size w' v (sliceL L x most) ∧ Below w.heap.size w w' := by
  have C1 := Lib.hid (made_calls h)
  have C4 := Lib.hid (fun e cv' w' hn hl => own_calls B e cv' w' hn hl)
  unfold entV at C4
  obtain ⟨pl, cl, hlv, hll, hlm, hcell⟩ := h.row.ents
  have hsz := h.sz
  have hi0 := ok.i0
  have hmy := Lib.hid (fun j hj => (ok.at' j hj).2)
  have hBw := Lib.hid (show B ≤ w.heap.size by have h1 := h.lo; have h2 := h.lt; omega)
  have hlt := Lib.hid h.row.lt
  have hents := Lib.hid h.row.ents
  obtain ⟨q0, q1, q2, q3, -⟩ := h.isBlk.c4
  obtain ⟨SE, hSE⟩ : ∃ E, sliceE L x most = E := ⟨_, rfl⟩
  obtain ⟨SL, hSL⟩ : ∃ S, sliceL L x most = S := ⟨_, rfl⟩
  unfold sliceL at hSL
  rw [hSE] at hSL ⊢
  have hSL' : sliceL L x most = SL := by unfold sliceL; rw [hSE]; exact hSL
  rw [hSL']
  clear hSL'
  unfold sliceE at hSE
  obtain ⟨ln, hln⟩ : ∃ n, L.l.length = n := ⟨_, rfl⟩
  rw [hlv, hln] at q3
  clear q1 q2
  by_cases c1 : most < 1
  · rw [if_pos (.inl c1)] at hSE
    subst hSE
    rw [if_neg (by decide)] at hSL
    subst hSL
    clear h ok hcell hlv hll hlm
    go_enter Try.func19, Try.ntmps19
    go_wp2_with fail
    refine C1.out.mono ?_
    rintro y w2 ⟨rfl, rfl⟩
    go_wp2_with fail
    go_ret2
    exact ⟨_, rfl, Row.nil _ _ _, Below.refl _ _⟩
  by_cases c2 : 4096 < most
  · rw [if_pos (.inr c2)] at hSE
    subst hSE
    rw [if_neg (by decide)] at hSL
    subst hSL
    clear h ok hcell hlv hll hlm
    go_enter Try.func19, Try.ntmps19
    go_wp2_with fail
    refine C1.out.mono ?_
    rintro y w2 ⟨rfl, rfl⟩
    go_wp2_with fail
    go_ret2
    exact ⟨_, rfl, Row.nil _ _ _, Below.refl _ _⟩
  rw [if_neg (by omega)] at hSE
  by_cases c3 : x ≤ L.i
  · rw [if_pos c3] at hSE
    subst hSE
    rw [if_neg (by decide)] at hSL
    subst hSL
    clear h ok hcell hlv hll hlm
    go_enter Try.func19, Try.ntmps19
    go_wp2_with fail
    refine C1.out.mono ?_
    rintro y w2 ⟨rfl, rfl⟩
    go_wp2_with fail
    go_ret2
    exact ⟨_, rfl, Row.nil _ _ _, Below.refl _ _⟩
  rw [if_neg c3] at hSE
  subst hSE
  rw [if_pos rfl] at hSL
  obtain ⟨N, hN⟩ : ∃ N : Nat, x = L.i + N + 1 := ⟨(x - L.i - 1).toNat, by omega⟩
  rw [show (x - L.i - 1).toNat = N by omega] at hSL
  have W1 : IntKind.u64.wrap (x - L.i) = (N : Int) + 1 := by rw [IntKind.wrap_u64]; omega
  have W2 : IntKind.u64.wrap ((N : Int) + 1 - 1) = (N : Int) := by rw [IntKind.wrap_u64]; omega
  have W3 : IntKind.u64.wrap (N : Int) = (N : Int) := by rw [IntKind.wrap_u64]; omega
  have W4 : IntKind.u64.wrap (ln : Int) = (ln : Int) := by rw [IntKind.wrap_u64]; omega
  have c1b : decide (most < 1) = false := by simp; omega
  have c2b : decide (4096 < most) = false := by simp; omega
  have c3b : decide (x ≤ L.i) = false := by simp; omega
  by_cases c4 : N < ln
  case neg =>
    have c4b : decide ((N : Int) < (ln : Int)) = false := by simp; omega
    have c4c : decide (N < ln) = false := by simp; omega
    have c4d : ¬ N < ln := c4
    have hSL0 : SL = [] := by rw [← hSL, List.drop_eq_nil_of_le (by omega)]; exact List.take_nil
    subst hSL0
    clear h ok hcell hlv hll hlm hSL c1 c2 c3 c4
    replace hN := Lib.hid hN
    replace hi0 := Lib.hid hi0
    replace hx := Lib.hid hx
    replace hsz := Lib.hid hsz
    replace hln := Lib.hid hln
    go_enter Try.func19, Try.ntmps19
    go_wp2_with fail
    refine C1.out.mono ?_
    rintro y w2 ⟨rfl, rfl⟩
    go_wp2_with fail
    go_ret2
    exact ⟨_, rfl, Row.nil _ _ _, Below.refl _ _⟩
  case pos =>
    have c4b : decide ((N : Int) < (ln : Int)) = true := by simp; omega
    have c4d : N < ln := c4
    obtain ⟨M, hM⟩ : ∃ M : Nat, most = (M : Int) := ⟨most.toNat, by omega⟩
    subst hM
    have W5 : IntKind.u64.wrap (M : Int) = (M : Int) := by rw [IntKind.wrap_u64]; omega
    have W6 : IntKind.u64.wrap ((N : Int) + (M : Int)) = (N : Int) + (M : Int) := by rw [IntKind.wrap_u64]; omega
    obtain ⟨K, hK⟩ : ∃ K, min (N + M) ln = N + K := ⟨min (N + M) ln - N, by omega⟩
    have W7 : min ((N : Int) + (M : Int)) (ln : Int) = ((N + K : Nat) : Int) := by omega
    have hSLl : SL = (L.l.drop N).take K := by
      rw [← hSL, show ((M : Int)).toNat = M by omega]
      apply List.ext_getElem?
      intro j
      rw [List.getElem?_take, List.getElem?_take]
      by_cases h1 : j < M
      · by_cases h2 : j < K
        · rw [if_pos h1, if_pos h2]
        · rw [if_pos h1, if_neg h2, List.getElem?_eq_none]
          rw [List.length_drop]; omega
      · rw [if_neg h1, if_neg (by omega)]
    obtain ⟨a, ha⟩ : ∃ a, pl = some a := by obtain ⟨a, _, ha, _⟩ := hcell N (by omega); exact ⟨a, ha⟩
    subst ha
    have hR := Lib.hid ((show Ents B w (.slice (some a) ln cl) L.l by have := hents.out; rw [hlv, hln] at this; exact this).sub N K (by omega))
    have hR1 := Lib.hid (show ∀ j (hj : j < ((L.l.drop N).take K).length), mayE ((L.l.drop N).take K)[j] = true from fun j hj => by
      rw [List.getElem_take, List.getElem_drop]
      exact hmy.out _ _)
    have hRl := Lib.hid (show ((L.l.drop N).take K).length = K by rw [List.length_take, List.length_drop]; omega)
    have hKx := Lib.hid (show K ≤ 4096 by omega)
    have hlta := Lib.hid (show a.block < w.heap.size from hlt.out _ (by rw [hlv]; rfl))
    have n1 : (N : Int) ≤ (N : Int) + (M : Int) := by omega
    have n3 : (0 : Int) ≤ (N : Int) := by omega
    have n4 : (0 : Int) ≤ (N : Int) + (M : Int) := by omega
    have n5 : ¬ (cl - N = 0) := by omega
    have n7 : ¬ (cl ≤ N) := by omega
    have n8 : (N : Int) ≤ (ln : Int) := by omega
    have n9 : (ln : Int) ≤ (cl : Int) := by omega
    have hmn : ((N : Int) + (M : Int) ≤ (ln : Int) ∧ (N : Int) + (M : Int) ≤ (cl : Int) ∧ ((N : Int) + (M : Int)).toNat = N + M ∧ K = M ∧ N + M ≤ ln) ∨ (¬ ((N : Int) + (M : Int) ≤ (ln : Int)) ∧ ln - N = K ∧ ¬ (N + M ≤ ln)) := by omega
    rw [hSLl]
    generalize (L.l.drop N).take K = R at *
    clear h ok hcell hlv hll hlm hSL c1 c2 c3 c4 hSLl hlt
    replace hN := Lib.hid hN
    replace hi0 := Lib.hid hi0
    replace hx := Lib.hid hx
    replace hsz := Lib.hid hsz
    replace hln := Lib.hid hln
    replace hK := Lib.hid hK
    go_enter Try.func19, Try.ntmps19
    go_wp2_with fail
    refine C1.out.mono ?_
    rintro y w2 ⟨rfl, rfl⟩
    rcases hmn with ⟨m1, m2, m3, m4, m5⟩ | ⟨m1, m2, m3⟩
    case' inl => subst m4
    all_goals
      go_wp2_with fail
      refine wp_region_quiet_lit (by kernel_rfl) (by kernel_rfl) ?_
      repeat (first | go_big_quiet_step (fail) | quiet_step (fail))
      refine wpQuiet_nil ?_
      intro _ hw'
      obtain ⟨nq, hw''⟩ := hw'
      subst hw''
      go_wp2_with fail
    all_goals
      rename_i nq
      replace hR := Lib.hid (hR.out.keep (Calms.below ((by repeat (first | exact Below.refl _ _ | exact Lx.Ext.below _ | refine Below.drew ?_ | refine below_drewN ?_ _ | (refine Below.alloc ?_ (by first | exact Nat.le_refl _ | (simp; done) | (simp; omega)) _) | (refine Below.setCell ?_ (by first | exact Nat.le_refl _ | (simp; done) | (simp; omega)) _))) : Below w.heap.size w (w.drewN nq))) (fun _ _ => rfl))
      have hb0 := Lib.hid (below_drewN (Below.refl w.heap.size w) nq)
      generalize w.drewN nq = w3 at *
      go_loopg [8, 61] (K + 1) (fun k v8 v61 wr => ∃ j : Nat, v61 = .int .i64 (j : Int) ∧ j ≤ K ∧ K < j + k ∧ Row B w.heap.size wr v8 (R.take j) ∧ Ents B wr (.slice (some (a.add (N * 5))) K (cl - N)) R ∧ Below w.heap.size w wr)
      case atStart => exact ⟨0, rfl, by omega, by omega, Row.nil _ _ _, hR.out, hb0.out⟩
      case round =>
        obtain ⟨j, rfl, hj1, hj2, hrow, hE, hB⟩ := hrel
        cases gk with
        | zero => omega
        | succ k =>
          by_cases hlt : j < K
          · have hlt1 : (j : Int) < (K : Int) := by omega
            have hj0 : (0 : Int) ≤ (j : Int) := by omega
            have hRl' := hRl.out
            have hjl : j < R.length := by omega
            have hml := mayE_len (hR1.out j hjl)
            obtain ⟨a', c', cw, ev, g0, g1, g2, g3, g4, hcf⟩ := hE.get j hjl
            injection ev with e1 e2 e3
            injection e1 with e1
            subst e1
            obtain ⟨en, hen⟩ : ∃ en, R[j] = en := ⟨_, rfl⟩
            rw [hen] at g0 g1 g2 g3 hcf hml
            obtain ⟨ei, et, ek, s, ec⟩ := en
            obtain ⟨pw, cc, rfl, -⟩ := hcf.n.parts
            dsimp only at g0 g1 g2 g3 hcf hml
            have hm1 := Lib.hid (made1 wr #[.int .u64 ei, .int .u64 et, .int .u8 ek, .string s, .slice pw ec.length cc] 31)
            dsimp only at hm1
            replace hen := Lib.hid hen
            replace hcf := Lib.hid hcf
            replace hml := Lib.hid hml
            replace hjl := Lib.hid hjl
            replace hrow := Lib.hid hrow
            replace hE := Lib.hid hE
            replace hB := Lib.hid hB
            clear e2 e3 hRl'
            go_wp2_with fail
            have hW := hm1.out
            clear hm1 g0 g1 g2 g3 g4
            generalize wr.alloc (.cells #[.int .u64 ei, .int .u64 et, .int .u8 ek, .string s, .slice pw ec.length cc] 31) = W at *
            obtain ⟨-, hb1, -⟩ := hW
            have hC5 := C4.out ⟨ei, et, ek, s, ec⟩ (.slice pw ec.length cc) W (hcf.out.n.below hb1) (show ec.length ≤ 100000 by have := hml.out; omega)
            dsimp only at hC5
            refine hC5.mono ?_
            rintro y w6 ⟨cv', rfl, hcf6, hb6⟩
            obtain ⟨q6, d6, rfl, -⟩ := hcf6.n.parts
            have hbl : Below w6.heap.size w6 (w6.alloc (.cells #[.int .u64 ei, .int .u64 et, .int .u8 ek, .string s, .slice q6 ec.length d6] 31)) := (Below.refl _ _).alloc (Nat.le_refl _) _
            have hb7 : Below wr.heap.size wr (w6.alloc (.cells #[.int .u64 ei, .int .u64 et, .int .u8 ek, .string s, .slice q6 ec.length d6] 31)) := Lx.bstep (Lx.bstep hb1 (Nat.le_refl _) hb6) (Nat.le_refl _) hbl
            have hE7 := Lib.hid (ents_one (B := B) (w := w6.alloc (.cells #[.int .u64 ei, .int .u64 et, .int .u8 ek, .string s, .slice q6 ec.length d6] 31)) ⟨w6.heap.size, 0, none⟩ 1 ⟨ei, et, ek, s, ec⟩ (.slice q6 ec.length d6) (Nat.le_refl _) (by unfold maxLen; omega) (blk_cells (Blk.new _ _ _)) (hcf6.keep (Calms.below hbl)))
            have hpl := Lib.hid (show (List.take j R).length ≤ 4096 by rw [List.length_take]; have := hKx.out; omega)
            have hrow7 := Lib.hid (hrow.out.below hb7)
            have hlw : a.block < wr.heap.size := Nat.lt_of_lt_of_le hlta.out hB.out.size
            have hblk : (a.add (N * 5)).block = a.block := by unfold Addr.add; split <;> rfl
            have hE8 := Lib.hid (hE.out.keep (Calms.below hb7) (fun g hg => hb7.block g (by cases hg; rw [hblk]; exact hlw)))
            have hB7 := Lib.hid (Lx.bstep hB.out (Nat.le_refl _) hb7)
            clear hC5 hb6 hcf6 hbl hb1 hb7
            go_wp2_with (at_builtin; refine wpList_append_rw rfl (.tmp 65) (.tmp 68) rfl rfl (.inl hrow7.out) hBw.out hB7.out.size ⟨w6.heap.size, 0, none⟩ 1 [⟨ei, et, ek, s, ec⟩] rfl hE7.out (by simp) (Nat.le_trans (Nat.mul_le_mul_right 64 (Nat.add_le_add_right hpl.out 1)) (by omega)) ?_; intro v8 w8 hRow hg hcm hvo hbb; replace hRow := Lib.hid hRow; replace hE8 := Lib.hid (hE8.out.keep hcm (fun g hg => hbb.block g (by cases hg; rw [hblk]; exact hlta.out))); replace hB7 := Lib.hid (hB7.out.trans hbb); clear hg hcm hvo hbb hE7 hrow7)
            go_roundg k
            case measure => omega
            case rel =>
              refine ⟨j + 1, by rw [IntWalk.wrap64_in _ (by have := hKx.out; omega)]; rfl, by omega, by omega, ?_, hE8.out, hB7.out⟩
              rw [List.take_succ_eq_append_getElem hjl.out, hen.out]
              exact hRow.out
          · have hjk : j = K := by omega
            have ht : R.take j = R := List.take_of_length_le (by have := hRl.out; omega)
            have hd : decide ((j : Int) < (K : Int)) = false := by simp; omega
            rw [ht] at hrow
            replace hrow := Lib.hid hrow
            replace hB := Lib.hid hB
            clear hE hj1 hj2 hlt
            subst hjk
            go_wp2_with fail
            go_ret2
            exact ⟨_, rfl, hrow.out, hB.out⟩
end Go.Proofs.Ytkjfplkbgooflaa
