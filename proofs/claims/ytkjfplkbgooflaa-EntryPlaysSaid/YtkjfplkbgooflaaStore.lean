/-
  (*Log).Store.
-/
import Derived.Test.YtkjfplkbgooflaaPut
namespace Go.Proofs.Ytkjfplkbgooflaa
open Go Go.RowKit Go.Lst Go.Lx

set_option maxRecDepth 100000 in
set_option maxHeartbeats 4000000 in
theorem Store_calls {B B0 : Nat} {w : World} {b : Nat} {cv lv : Value} {L : LogS} (h : LogAt B B0 w b cv lv L) (ok : LogOk L) (i t : Int) (hi : 0 ≤ i) (v : Value) (es : List Ent) (he : Ents B w v es) (hvb : ∀ k, v.ownBlock = some k → k < w.heap.size ∧ k ≠ b) :
    Calls Try.prog 11 #[.pointer (some ⟨b, 0, none⟩), .int .u64 i, .int .u64 t, v] w fun y w' => ∃ pv lv', y = .returned (.tuple #[.int .u64 (storeAt L i t es), pv, .int .i64 (storeE L i t es)]) ∧ Row B w.heap.size w' pv (storePut L i t es) ∧ LogAt B B0 w' b cv lv' (storeL L i t es) ∧ Stays (fun k => k = b) w w' ∧ (∀ k, lv'.ownBlock = some k → lv.ownBlock = some k ∨ w.heap.size ≤ k) ∧ (storePut L i t es = [] → Below w.heap.size w w') := by
  have C1 := Lib.hid (Term_calls h ok i hi)
  have C2 := Lib.hid (fun w' hb => may_calls B i t v es w' (he.keep (w' := w') (Calms.below hb) (fun g hg => hb.block g (hvb g hg).1)))
  have C3 := Lib.hid (fun w' hb x t' hx => Fits_calls (h.below (w' := w') hb) ok x t' hx)
  have C4 := Lib.hid (fun e cv' w' hn hl => own_calls B e cv' w' hn hl)
  unfold entV at C4
  have hH := Lib.hid h
  have he0 := Lib.hid he
  have hok := Lib.hid ok
  have hsz := Lib.hid h.sz
  obtain ⟨n, hn⟩ : ∃ n, es.length = n := ⟨_, rfl⟩
  obtain ⟨q0, c0, hv, hlc, hcm, -⟩ := id he
  rw [hn] at hv hlc
  have noth : ∀ (w' : World), Below w.heap.size w w' → storePut L i t es = [] → ∃ lv', Row B w.heap.size w' (.slice none 0 0) (storePut L i t es) ∧ LogAt B B0 w' b cv lv' (storeL L i t es) ∧ Stays (fun k => k = b) w w' ∧ (∀ k, lv'.ownBlock = some k → lv.ownBlock = some k ∨ w.heap.size ≤ k) ∧ (storePut L i t es = [] → Below w.heap.size w w') := fun w' hb h0 => by
    refine ⟨lv, by rw [h0]; exact Row.nil _ _ _, ?_, Stays.of_below hb, fun k hk => .inl hk, fun _ => hb⟩
    unfold storeL
    rw [h0]
    exact h.below hb
  have noth' : ∀ (w' : World) (E : Int), Below w.heap.size w w' → storeE L i t es = E → (E = 0 → skipE L es = []) → ∃ pv lv', Ending.returned (.tuple #[.int .u64 0, .slice none 0 0, .int .i64 E]) = Ending.returned (.tuple #[.int .u64 (storeAt L i t es), pv, .int .i64 (storeE L i t es)]) ∧ Row B w.heap.size w' pv (storePut L i t es) ∧ LogAt B B0 w' b cv lv' (storeL L i t es) ∧ Stays (fun k => k = b) w w' ∧ (∀ k, lv'.ownBlock = some k → lv.ownBlock = some k ∨ w.heap.size ≤ k) ∧ (storePut L i t es = [] → Below w.heap.size w w') := fun w' E hb h0 h1 => by
    have hp : storePut L i t es = [] := by
      unfold storePut
      by_cases hE : storeE L i t es = 0
      · rw [if_pos hE]; exact h1 (by rw [← h0]; exact hE)
      · rw [if_neg hE]
    obtain ⟨lv', g1, g2⟩ := noth w' hb hp
    refine ⟨_, lv', ?_, g1, g2⟩
    unfold storeAt
    rw [hp, h0]
  replace noth' := Lib.hid noth'
  clear noth
  have hrf : ∃ SE, storeE L i t es = SE := ⟨_, rfl⟩
  obtain ⟨SE, hSE⟩ := hrf
  have hSE' := hSE
  unfold storeE at hSE
  unfold clashB at hSE
  obtain ⟨⟨T1, T2⟩, hT⟩ : ∃ T, termAt L i = T := ⟨_, rfl⟩
  have hT1 : (T2 == 1) = false := by
    have e : T2 = (termAt L i).2 := by rw [hT]
    rw [e]
    unfold termAt
    split
    · rfl
    · split
      · rfl
      · split <;> rfl
  rw [hT] at hSE C1
  dsimp only at hSE C1
  obtain ⟨mE, hmE⟩ : ∃ m, mayEs i t es = m := ⟨_, rfl⟩
  rw [hmE] at hSE C2
  have hcm' := Lib.hid (show n ≤ maxLen from Nat.le_trans hlc hcm)
  replace hvb := Lib.hid hvb
  replace hSE' := Lib.hid hSE'
  replace hmE := Lib.hid hmE
  have hv' := Lib.hid hv
  rw [hv] at C2 ⊢
  have hT' := Lib.hid hT
  have hi' := Lib.hid hi
  clear h ok he hlc hcm hT hi hv
  replace hn := Lib.hid hn
  go_enter Try.func11, Try.ntmps11
  go_wp2_with fail
  ((with_reducible refine C1.out.mono ?_); rintro y w1 ⟨rfl, hb1⟩)
  go_wp2_with fail
  ((with_reducible refine (C2.out _ hb1).mono ?_); rintro y w2 ⟨rfl, hb2⟩)
  have hB := Lib.hid (Lx.bstep hb1 (Nat.le_refl _) hb2)
  clear hb1 hb2 C1 C2
  cases mE with
  | false =>
    have hE := Lib.hid (show SE = 2 by rw [← hSE]; rfl)
    clear hSE
    go_wp2_with fail
    go_ret3
    exact noth'.out _ _ hB.out (hSE'.out.trans hE.out) (fun h => by cases h)
  | true =>
  rw [if_neg (by decide)] at hSE
  cases h5 : (T2 == 5) with
  | true =>
    have hE := Lib.hid (show SE = 261 by rw [← hSE, h5]; rfl)
    clear hSE
    go_wp2_with fail
    go_ret3
    exact noth'.out _ _ hB.out (hSE'.out.trans hE.out) (fun h => by cases h)
  | false =>
  rw [h5, Bool.false_or] at hSE
  cases h00 : (T2 == 0) && (T1 != t) with
  | true =>
    rw [h00, if_pos rfl] at hSE
    rw [Bool.and_eq_true] at h00
    obtain ⟨h01, h02⟩ := h00
    have hE := Lib.hid hSE.symm
    clear hSE
    go_wp2_with fail
    go_ret3
    exact noth'.out _ _ hB.out (hSE'.out.trans hE.out) (fun h => by cases h)
  | false =>
  rw [h00, if_neg (by decide)] at hSE
  have hcl := Lib.hid (show clashB L i t = false by unfold clashB; rw [hT'.out]; dsimp only; rw [h5, h00]; rfl)
  replace hSE := Lib.hid hSE
  have hq : (T2 == 0) = false ∨ (T2 == 0) = true ∧ (T1 != t) = false := by
    cases h01 : (T2 == 0)
    · exact .inl rfl
    · rw [h01, Bool.true_and] at h00; exact .inr ⟨rfl, h00⟩
  clear h00
  rcases hq with hq1 | ⟨hq1, hq2⟩
  case' inl => go_wp2_with fail
  case' inr => go_wp2_with fail
  all_goals
    go_loopg [3] (n + 1) (fun k v3 wr => ∃ j : Nat, j ≤ n ∧ n < j + k ∧ Ents B wr v3 (es.drop j) ∧ skipE L (es.drop j) = skipE L es ∧ (∀ k, v3.ownBlock = some k → k < w.heap.size ∧ k ≠ b) ∧ Below w.heap.size w wr)
    case atStart => exact ⟨0, by omega, by omega, by rw [← hv'.out]; exact he0.out.keep (Calms.below hB.out) (fun g hg => hB.out.block g (hvb.out g hg).1), rfl, by rw [← hv'.out]; exact hvb.out, hB.out⟩
    case round =>
      obtain ⟨j, hj1, hj2, hE, hsk, hvw, hB⟩ := hrel
      cases gk with
      | zero => omega
      | succ k =>
        obtain ⟨R, hR⟩ : ∃ R, es.drop j = R := ⟨_, rfl⟩
        rw [hR] at hE hsk
        obtain ⟨p3, c3, rfl, hl3, hm3, -⟩ := id hE
        obtain ⟨m, hm⟩ : ∃ m, R.length = m := ⟨_, rfl⟩
        rw [hm] at hE hl3 hvw ⊢
        cases R with
        | nil =>
          cases hm
          have hsk' := Lib.hid (show skipE L es = [] by rw [← hsk]; rfl)
          have hE0 := Lib.hid (show SE = 0 by rw [← hSE.out, hsk'.out])
          clear hE hsk hl3 hm3 hR
          go_wp2_with fail
          go_quiet (fail)
          go_wp2_with fail
          go_ret3
          exact noth'.out _ _ (below_drewN hB _) (hSE'.out.trans hE0.out) (fun _ => hsk'.out)
        | cons e r =>
          have hm1 : r.length + 1 = m := by simpa using hm
          obtain ⟨a, c', cw, ev, g0, g1, g2, g3, g4, hcf⟩ := hE.get 0 (by simp)
          injection ev with e1 e2 e3
          subst e1 e3
          have hB0 := hB
          have hlog := Lib.hid (hH.out.below hB)
          obtain ⟨l0, l1, l2, l3, -⟩ := hlog.out.isBlk.c4
          have a0 : a.add (0 * 5) = a := rfl
          rw [a0] at g0 g1
          simp only [List.getElem_cons_zero] at g0 g1
          clear e2 g2 g3 g4 hcf hv' a0
          have m0 : decide ((0 : Int) < (m : Int)) = true := by simp; omega
          have m1 : decide (0 < m) = true := by simp; omega
          have m2 : 0 < m := by omega
          have hdr : es.drop (j + 1) = r := by rw [← List.drop_drop, hR]; rfl
          have hcc : 1 ≤ c3 := by omega
          have hjn : j < n := by have h1 := congrArg List.length hR; rw [List.length_drop, hn.out] at h1; simp only [List.length_cons] at h1; omega
          by_cases d1 : e.i ≤ L.i
          · have hsk' := Lib.hid (show skipE L r = skipE L es by rw [← hsk]; exact (if_pos (.inl d1)).symm)
            replace hB := Lib.hid hB
            replace hdr := Lib.hid hdr
            replace hE := Lib.hid hE
            replace hm3 := Lib.hid hm3
            replace hl3 := Lib.hid hl3
            replace hsk := Lib.hid hsk
            replace hR := Lib.hid hR
            replace hvw := Lib.hid hvw
            replace hm := Lib.hid hm
            replace hm1 := Lib.hid hm1
            clear hB0
            go_wp2_with fail
            go_quiet (fail)
            go_wp2_with fail
            all_goals
              go_roundg k
              case measure => omega
              case rel =>
                have hm1' := hm1.out
                have hl3' := hl3.out
                refine ⟨j + 1, by omega, by omega, ?_, by rw [hdr.out]; exact hsk'.out, hvw.out, below_drewN hB.out _⟩
                rw [hdr.out]
                first
                  | exact Ents.rest (hE.out.keep (Calms.below ((by repeat (first | exact Below.refl _ _ | exact Lx.Ext.below _ | refine Below.drew ?_ | refine below_drewN ?_ _ | (refine Below.alloc ?_ (by first | exact Nat.le_refl _ | (simp; done) | (simp; omega)) _) | (refine Below.setCell ?_ (by first | exact Nat.le_refl _ | (simp; done) | (simp; omega)) _))))) (fun g hg => rfl)) (by omega)
                  | (have : r = [] := List.eq_nil_of_length_eq_zero (by omega)
                     subst this
                     rw [show m - 1 = 0 by omega]
                     exact Ents.none _ _ (by unfold maxLen; omega))
          · have hd1 : decide (e.i ≤ L.i) = false := by simp; omega
            have hei : 0 ≤ e.i := by have := hok.out.i0; omega
            have hF := Lib.hid (fun x : Ext wr => C3.out x.wo (Lx.bstep hB0 (Nat.le_refl _) x.below) e.i e.t hei)
            have y0 := fun x : Ext wr => (cell_below x.below g0).trans g0
            have y1 := fun x : Ext wr => (cell_below x.below g1).trans g1
            have y2 := fun x : Ext wr => (cell_below x.below l0).trans l0
            obtain ⟨F, hFe⟩ : ∃ F, fitsB L e.i e.t = F := ⟨_, rfl⟩
            rw [hFe] at hF
            replace hFe := Lib.hid hFe
            replace hB := Lib.hid hB
            replace hdr := Lib.hid hdr
            replace hE := Lib.hid hE
            replace hm3 := Lib.hid hm3
            replace hl3 := Lib.hid hl3
            replace hsk := Lib.hid hsk
            replace hR := Lib.hid hR
            replace hvw := Lib.hid hvw
            replace hm := Lib.hid hm
            replace hm1 := Lib.hid hm1
            replace hei := Lib.hid hei
            replace d1 := Lib.hid d1
            clear hB0
            go_wp2_with fail
            refine Lx.wp_region_chain_lit (fun w' => ∃ x : Lx.Ext wr, w' = x.wo) (fun b => wr.heap.size ≤ b) [23] [] (fun _ => True) (by kernel_rfl) (by kernel_rfl) (by kernel_rfl) (by kernel_rfl) Lx.ext_drew trivial ?_
            repeat (refine Lx.wpCh_one (by rfl) (by rfl) ?_; go_big_quiet_step (fail); refine wpQuiet_nil ?_)
            refine Lx.wpCh_extp (.bool F) (by rfl) (by rfl) (fun x R hR => ?_) ?_
            · go_simp
              refine (hF.out x).mono ?_
              rintro e w'' ⟨rfl, hb⟩
              exact ⟨_, rfl, hR _ hb⟩
            go_big_quiet_step (fail)
            refine wpQuiet_nil ?_
            repeat (refine Lx.wpCh_one (by rfl) (by rfl) ?_; go_big_quiet_step (fail); refine wpQuiet_nil ?_)
            refine Lx.wpCh_nil ?_
            intro w4 hx hS
            obtain ⟨x, rfl⟩ := hx
            have hb4 := Lib.hid x.below
            generalize x.wo = w4 at *
            clear x hS y0 y1 y2 hF
            cases F with
            | true =>
              have hsk' := Lib.hid (show skipE L r = skipE L es by rw [← hsk.out]; exact (if_pos (.inr hFe.out)).symm)
              go_wp2_with fail
              all_goals
                go_roundg k
                case measure => omega
                case rel =>
                  have hm1' := hm1.out
                  have hl3' := hl3.out
                  refine ⟨j + 1, by omega, by omega, ?_, by rw [hdr.out]; exact hsk'.out, hvw.out, Lx.bstep hB.out (Nat.le_refl _) hb4.out⟩
                  rw [hdr.out]
                  first
                    | exact Ents.rest (hE.out.keep (Calms.below hb4.out) (fun g hg => hb4.out.block g (Nat.lt_of_lt_of_le (hvw.out g hg).1 hB.out.size))) (by omega)
                    | (have : r = [] := List.eq_nil_of_length_eq_zero (by omega)
                       subst this
                       rw [show m - 1 = 0 by omega]
                       exact Ents.none _ _ (by unfold maxLen; omega))
            | false =>
              have hsk' := Lib.hid (show skipE L es = e :: r by rw [← hsk.out]; exact if_neg (by rw [hFe.out]; intro h1; rcases h1 with h1 | h1; (have := d1.out; omega); cases h1))
              obtain ⟨g1, g2, i', t', g3, g4, g5⟩ := skipE_spec hok.out hsz.out es i t hi'.out (clashB_le hok.out hcl.out) hmE.out e r hsk'.out
              obtain ⟨N, hN⟩ : ∃ N : Nat, e.i = L.i + N + 1 := ⟨(e.i - L.i - 1).toNat, by omega⟩
              have hSE2 := hSE.out
              rw [hsk'.out] at hSE2
              dsimp only at hSE2
              rw [show e.i - L.i - 1 + ((r.length : Int) + 1) = (N : Int) + (m : Int) by have := hm1.out; omega] at hSE2
              have hmx : (m : Int) ≤ 9223372036854775807 := by have := hl3.out; have := hm3.out; unfold maxLen at *; omega
              have hNl : N ≤ L.l.length := by omega
              have hNx : (N : Int) ≤ 4096 := by have := hsz.out; omega
              have W1 : IntKind.u64.wrap (e.i - L.i) = (N : Int) + 1 := by rw [IntKind.wrap_u64]; omega
              have W2 : IntKind.u64.wrap ((N : Int) + 1 - 1) = (N : Int) := by rw [IntKind.wrap_u64]; omega
              have W3 : IntKind.u64.wrap ((N : Int) + (m : Int)) = (N : Int) + (m : Int) := by rw [IntKind.wrap_u64]; omega
              have W5 : IntKind.u64.wrap (N : Int) = (N : Int) := by rw [IntKind.wrap_u64]; omega
              have W4 : IntKind.u64.wrap (m : Int) = (m : Int) := by rw [IntKind.wrap_u64]; omega
              replace g0 := (cell_below hb4.out g0).trans g0
              replace l0 := (cell_below hb4.out l0).trans l0
              replace l3 := (cell_below hb4.out l3).trans l3
              replace hlog := Lib.hid (hlog.out.below hb4.out)
              replace hE := Lib.hid (hE.out.keep (Calms.below hb4.out) (fun g hg => hb4.out.block g (Nat.lt_of_lt_of_le (hvw.out g hg).1 hB.out.size)))
              replace hB := Lib.hid (Lx.bstep hB.out (Nat.le_refl _) hb4.out)
              obtain ⟨pl, cl, hlv, hll, hlm, -⟩ := hlog.out.row.ents
              rw [hlv] at l3
              have f3 := hlog.out.isBlk.frz 3
              have hNc : (N : Int) ≤ (cl : Int) := by omega
              have hN0 : (0 : Int) ≤ (N : Int) := by omega
              clear l1 l2 g1
              replace hlv := Lib.hid hlv
              replace hll := Lib.hid hll
              replace hlm := Lib.hid hlm
              replace g2 := Lib.hid g2
              replace g3 := Lib.hid g3
              replace g4 := Lib.hid g4
              replace g5 := Lib.hid g5
              replace hN := Lib.hid hN
              replace hNl := Lib.hid hNl
              replace hNx := Lib.hid hNx
              replace hmx := Lib.hid hmx
              by_cases hfull : (4096 : Int) < (N : Int) + (m : Int)
              · have hE0 := Lib.hid (show SE = 6 by rw [← hSE2, if_pos hfull])
                clear hSE2
                go_wp2_with fail
                go_quiet (fail)
                go_wp2_with fail
                go_ret3
                exact noth'.out _ _ (below_drewN hB.out _) (hSE'.out.trans hE0.out) (fun h => by have := hE0.out; omega)
              · have hE0 := Lib.hid (show SE = 0 by rw [← hSE2, if_neg hfull])
                have hfd : decide ((4096 : Int) < (N : Int) + (m : Int)) = false := by simp; omega
                clear hSE2
                go_wp2_with fail
                go_quiet (fail)
                go_wp2_with fail
                have hP := Put.start (w := w) (v3 := .slice (some a) m c3) (R := e :: r) (hlog.out.below ((by repeat (first | exact Below.refl _ _ | exact Lx.Ext.below _ | refine Below.drew ?_ | refine below_drewN ?_ _ | (refine Below.alloc ?_ (by first | exact Nat.le_refl _ | (simp; done) | (simp; omega)) _) | (refine Below.setCell ?_ (by first | exact Nat.le_refl _ | (simp; done) | (simp; omega)) _))) : Below w4.heap.size w4 (w4.drewN nq))) hlv.out N hNl.out (below_drewN hB.out nq) (by have := hH.out.lt; exact this) (hE.out.keep (Calms.below ((by repeat (first | exact Below.refl _ _ | exact Lx.Ext.below _ | refine Below.drew ?_ | refine below_drewN ?_ _ | (refine Below.alloc ?_ (by first | exact Nat.le_refl _ | (simp; done) | (simp; omega)) _) | (refine Below.setCell ?_ (by first | exact Nat.le_refl _ | (simp; done) | (simp; omega)) _))) : Below w4.heap.size w4 (w4.drewN nq))) (fun _ _ => rfl)) hvw.out
                generalize (w4.drewN nq).setCell ⟨b, 3, none⟩ (.slice pl N N) = w5 at *
                have hNm : N + (e :: r).length ≤ 4096 := by have := hm.out; omega
                generalize hRe : e :: r = R at *
                replace hP := Lib.hid hP
                replace hNm := Lib.hid hNm
                replace hRe := Lib.hid hRe
                clear g0 l0 l3 f3
                go_loopg [14, 102] (m + 1) (fun k v14 v102 wr => ∃ (q : Nat) (lvj : Value), v102 = .int .i64 (q : Int) ∧ q ≤ m ∧ m < q + k ∧ Put B B0 w wr b cv lv lvj v14 (.slice (some a) m c3) L N R q q)
                case atStart => exact ⟨0, _, rfl, by omega, by omega, hP.out⟩
                case round =>
                  clear hP
                  obtain ⟨q, lvj, rfl, hq1, hq2, hP⟩ := hrel
                  cases gk with
                  | zero => omega
                  | succ k =>
                    have hRl : R.length = m := hm.out
                    have hm5 : ∀ q (h : q < R.length), mayE R[q] = true := fun q h => (mayEs_at R i' t' g3.out (by have := g4.out; have := hok.out.i0; have := hsz.out; have := hNm.out; omega) g5.out q h).2
                    by_cases hlt : q < m
                    · have hlt1 : (q : Int) < (m : Int) := by omega
                      have hq0 : (0 : Int) ≤ (q : Int) := by omega
                      have hql : q < R.length := by omega
                      have hml := mayE_len (hm5 q hql)
                      obtain ⟨a', c', cw, ev, g0, g1, g2', g3', g4', hcf⟩ := hP.src.get q hql
                      injection ev with e1 e2 e3
                      injection e1 with e1
                      subst e1 e3
                      obtain ⟨en, hen⟩ : ∃ en, R[q] = en := ⟨_, rfl⟩
                      rw [hen] at g0 g1 g2' g3' hcf hml
                      obtain ⟨ei, et, ek, s, ec⟩ := en
                      obtain ⟨pw, cc, rfl, -⟩ := hcf.n.parts
                      dsimp only at g0 g1 g2' g3' g4' hcf hml
                      have hm1 := Lib.hid (made1 wr #[.int .u64 ei, .int .u64 et, .int .u8 ek, .string s, .slice pw ec.length cc] 31)
                      dsimp only at hm1
                      replace hP := Lib.hid hP
                      replace hen := Lib.hid hen
                      replace hcf := Lib.hid hcf
                      replace hml := Lib.hid hml
                      replace hql := Lib.hid hql
                      clear hm5 e2
                      go_wp2_with fail
                      have hW := hm1.out
                      clear hm1 g0 g1 g2' g3' g4'
                      generalize wr.alloc (.cells #[.int .u64 ei, .int .u64 et, .int .u8 ek, .string s, .slice pw ec.length cc] 31) = W at *
                      obtain ⟨hBx, hb1, -⟩ := hW
                      obtain ⟨a0, a1, a2, a3, a4, -⟩ := hBx.c5
                      have hPW := hP.out.below hb1
                      obtain ⟨pj, cj, hlvj, -⟩ := hPW.row.ents
                      obtain ⟨lj, hlj⟩ : ∃ lj, (List.take N L.l ++ List.take q R).length = lj := ⟨_, rfl⟩
                      rw [hlj] at hlvj
                      obtain ⟨q0', q1', q2', q3', -⟩ := hPW.log.isBlk.c4
                      rw [hlvj] at q3'
                      have hlE : lvj.ownBlock ≠ some wr.heap.size := fun e => by have := hP.out.row.lt _ e; omega
                      have k3 := fun x : Cls (OnlyRow lvj W) => x.is.cell q3' hPW.log.nb
                      have k0 := fun x : Cls (OnlyRow lvj W) => x.is.cell a0 hlE
                      have k1 := fun x : Cls (OnlyRow lvj W) => x.is.cell a1 hlE
                      have k2 := fun x : Cls (OnlyRow lvj W) => x.is.cell a2 hlE
                      have k4 := fun x : Cls (OnlyRow lvj W) => x.is.cell a3 hlE
                      have k5 := fun x : Cls (OnlyRow lvj W) => x.is.cell a4 hlE
                      have hnon2 : Nonempty (Cls (OnlyRow lvj W)) := ⟨⟨_, OnlyRow.refl _ _⟩⟩
                      replace hcf := Lib.hid (hcf.out.keep (Calms.below hb1))
                      replace hPW := Lib.hid hPW
                      replace hlvj := Lib.hid hlvj
                      replace hlE := Lib.hid hlE
                      replace hBx := Lib.hid hBx
                      replace hb1 := Lib.hid hb1
                      replace hlj := Lib.hid hlj
                      refine Lx.wp_region_chain_tail (fun w' => ∃ x : Cls (OnlyRow lvj W), w' = x.wo) (fun _ => False) [6, 7, 8] [] 11 (fun w' => Below W.heap.size W w') (by kernel_rfl) (by kernel_rfl) (by kernel_rfl) (by kernel_rfl) (cls_of (OnlyRow.drew _ _)) ((Below.refl _ _).drew) ?_
                      simp only [List.take_succ_cons, List.take_zero, List.drop_succ_cons, List.drop_zero]
                      repeat (refine Lx.wpCh_one (by rfl) (by rfl) ?_; go_big_quiet_step (fail); refine wpQuiet_nil ?_)
                      clear k0 k1 k2 k3 k4 k5
                      have hne : ∃ w', ∃ x : Cls (OnlyRow lvj W), w' = x.wo := ⟨_, cls_of (OnlyRow.refl _ _)⟩
                      have hrw := Lib.hid (show Rw B w.heap.size W (.slice pj lj cj) (List.take N L.l ++ List.take q R) by rw [← hlvj.out]; exact hPW.out.row)
                      have hBw := Lib.hid (show B ≤ w.heap.size by have h1 := hPW.out.log.lo; have h2 := hPW.out.bl; omega)
                      have hll2 := Lib.hid (show (List.take N L.l ++ List.take q R).length ≤ 4096 by have := hPW.out.log.sz; exact this)
                      refine Lx.wpCh_relp (fun v w' => ∃ q d, v = .agg #[.int .u64 ei, .int .u64 et, .int .u8 ek, .string s, .slice q ec.length d] ∧ Cf B w' (.slice q ec.length d) ec ∧ Below W.heap.size W w') (by rfl) (by rfl) (fun h => by cases h) (fun w' hx hS R hR => ?_) (fun v hv => ?_)
                      · obtain ⟨x, rfl⟩ := hx
                        have hC := C4.out ⟨ei, et, ek, s, ec⟩ (.slice pw ec.length cc) x.wo (hcf.out.n.below hS) (show ec.length ≤ 100000 by have := hml.out; omega)
                        dsimp only at hC
                        clear C4
                        go_simp
                        refine hC.mono ?_
                        rintro y w'' ⟨cv', rfl, hcf, hb⟩
                        obtain ⟨q, d, rfl, -⟩ := hcf.n.parts
                        exact ⟨_, rfl, hR _ _ (cls_of (x.is.step hb)) ⟨q, d, rfl, hcf, Lx.bstep hS (Nat.le_refl _) hb⟩ (fun h => by cases h)⟩
                      obtain ⟨_, -, qq, d, rfl, -, -⟩ := hv
                      go_big_quiet_step (fail)
                      refine wpQuiet_nil ?_
                      repeat (refine Lx.wpCh_one (by rfl) (by rfl) ?_; go_big_quiet_step (fail); refine wpQuiet_nil ?_)
                      refine Lx.wpCh_relp (fun v w' => ∃ ad, v = .slice (some ad) 1 1 ∧ Ents B w' (.slice (some ad) 1 1) [⟨ei, et, ek, s, ec⟩] ∧ Below W.heap.size W w') (by rfl) (by rfl) (fun h => by cases h) (fun w' hx hS R hR => ?_) (fun v hv => ?_)
                      · obtain ⟨x, rfl⟩ := hx
                        obtain ⟨q', d', e1, hcf, hb⟩ := hS
                        cases e1
                        replace hcf := Lib.hid hcf
                        replace hb := Lib.hid hb
                        go_simp
                        have hbl : Below x.wo.heap.size x.wo (x.wo.alloc (.cells #[.int .u64 ei, .int .u64 et, .int .u8 ek, .string s, .slice qq ec.length d] 31)) := (Below.refl _ _).alloc (Nat.le_refl _) _
                        exact hR _ _ (cls_of (x.is.step hbl)) ⟨_, rfl, ents_one _ _ _ _ (Nat.le_refl _) (by unfold maxLen; omega) (blk_cells (Blk.new _ _ _)) (hcf.out.keep (Calms.below hbl)), Lx.bstep hb.out (Nat.le_refl _) hbl⟩ (fun h => by cases h)
                      obtain ⟨_, -, ad, rfl, -, -⟩ := hv
                      go_big_quiet_step (fail)
                      refine wpQuiet_nil ?_
                      repeat (refine Lx.wpCh_one (by rfl) (by rfl) ?_; go_big_quiet_step (fail); refine wpQuiet_nil ?_)
                      refine Lx.wpCh_relp (fun v w' => Row B w.heap.size w' v ((List.take N L.l ++ List.take q R) ++ [⟨ei, et, ek, s, ec⟩]) ∧ Calms B W w' ∧ Below w.heap.size W w' ∧ ∀ k, v.ownBlock = some k → lvj.ownBlock = some k ∨ W.heap.size ≤ k) (by rfl) (by rfl) (fun h => by cases h) (fun w' hx hS R hR => ?_) (fun v hv => ?_)
                      · obtain ⟨x, rfl⟩ := hx
                        obtain ⟨ad', e1, hE1, hb⟩ := hS
                        cases e1
                        obtain ⟨v', w'', hr, hRow, hg, hcm, hvo, hbb⟩ := rw_append (hrw.out.below hb) hBw.out (by have := hPW.out.size; have := hb.size; omega) 33 ad 1 [⟨ei, et, ek, s, ec⟩] hE1 (by simp) (Nat.le_trans (Nat.mul_le_mul_right 64 (Nat.add_le_add_right hll2.out 1)) (by omega))
                        rw [run_append_op (s := .tmp 110) (x := .tmp 113) (t := 33) rfl rfl rfl hr]
                        refine hR _ _ (cls_of (x.is.trans (Stays.of_grown (O := fun k => lvj.ownBlock = some k) hg (fun k hk _ => by rw [hlvj.out]; exact hk)) (fun _ _ h => h))) ⟨hRow, (Calms.below hb).trans hcm, ?_, fun k hk => ?_⟩ (fun h => by cases h)
                        · exact (hb.mono hPW.out.size).trans hbb
                        · rw [hlvj.out]
                          rcases hvo with h1 | h1
                          · exact .inl (h1 ▸ hk)
                          · rw [h1] at hk; cases hk; exact .inr hb.size
                      obtain ⟨_, -, hv9, -, -, -⟩ := hv
                      obtain ⟨p9, c9, rfl, -⟩ := hv9.ents
                      obtain ⟨l9, hl9⟩ : ∃ l9, ((List.take N L.l ++ List.take q R) ++ [(⟨ei, et, ek, s, ec⟩ : Ent)]).length = l9 := ⟨_, rfl⟩
                      rw [hl9]
                      clear hv9
                      go_big_quiet_step (fail)
                      refine wpQuiet_nil ?_
                      repeat (refine Lx.wpCh_one (by rfl) (by rfl) ?_; go_big_quiet_step (fail); refine wpQuiet_nil ?_)
                      refine Lx.wpCh_nil ?_
                      intro w4' hx hS
                      obtain ⟨x, rfl⟩ := hx
                      have hx := Lib.hid x.is
                      replace hS := Lib.hid hS
                      generalize x.wo = w4' at *
                      clear x
                      have hP5 := Lib.hid (hPW.out.log_step hql.out hNm.out hx.out hS.out.2.2.1 hS.out.2.1 (by rw [hen.out]; exact hS.out.1) hS.out.2.2.2)
                      have hbk := hx.out.block b hPW.out.log.lt hPW.out.log.nb
                      have hb4' : Blk w4' b [.int .u64 L.i, .int .u64 L.t, cv, lvj] := ⟨_, hbk.trans hPW.out.log.blk⟩
                      have f3 := hb4'.frz 3
                      have q3'' := hb4'.cell 3 rfl
                      have hcf5 := Lib.hid ((hcf.out.keep hS.out.2.1).keep (Calms.set (i := 3) (fun hc' => hPW.out.log.loud (hc'.keep hbk.symm)) (.slice p9 l9 c9)))
                      have hBx5 := Lib.hid (Blk.keep (b' := b) (o := 3) (z := .slice p9 l9 c9) (hBx.out.same (hx.out.block _ hBx.out.lt hlE.out)) (by have h1 := hP.out.size; have h2 := hP.out.bl; omega))
                      clear hb4' hbk hcf a0 a1 a2 a3 a4 q0' q1' q2' q3'
                      obtain ⟨a0, a1, a2, a3, a4, -⟩ := hBx5.out.c5
                      go_wp2_with fail
                      obtain ⟨w5', hw5'⟩ : ∃ w5', w4'.setCell ⟨b, 3, none⟩ (.slice p9 l9 c9) = w5' := ⟨_, rfl⟩
                      rw [hw5'] at hP5 hcf5 hBx5 ⊢
                      clear hw5' hx hS hPW hrw hBx f3 q3'' a0 a1 a2 a3 a4
                      have hC5 := C4.out ⟨ei, et, ek, s, ec⟩ (.slice pw ec.length cc) w5' hcf5.out.n (show ec.length ≤ 100000 by have := hml.out; omega)
                      dsimp only at hC5
                      refine hC5.mono ?_
                      rintro y w6 ⟨cv', rfl, hcf6, hb6⟩
                      obtain ⟨q6, d6, rfl, -⟩ := hcf6.n.parts
                      have hbl : Below w6.heap.size w6 (w6.alloc (.cells #[.int .u64 ei, .int .u64 et, .int .u8 ek, .string s, .slice q6 ec.length d6] 31)) := (Below.refl _ _).alloc (Nat.le_refl _) _
                      have hP7 := Lib.hid ((hP5.out.below hb6).below hbl)
                      have hE7 := Lib.hid (ents_one (B := B) (w := w6.alloc (.cells #[.int .u64 ei, .int .u64 et, .int .u8 ek, .string s, .slice q6 ec.length d6] 31)) ⟨w6.heap.size, 0, none⟩ 1 ⟨ei, et, ek, s, ec⟩ (.slice q6 ec.length d6) (Nat.le_refl _) (by unfold maxLen; omega) (blk_cells (Blk.new _ _ _)) (hcf6.keep (Calms.below hbl)))
                      have hpl := Lib.hid (show (List.take q R).length ≤ 4096 by rw [List.length_take]; have := hll2.out; simp only [List.length_append, List.length_take] at this; omega)
                      clear hC5 hP5 hcf5 hBx5 hb6 hcf6 hbl
                      go_wp2_with (at_builtin; refine wpList_append_rw rfl (.tmp 117) (.tmp 120) rfl rfl (.inl hP7.out.put) hBw.out hP7.out.size ⟨w6.heap.size, 0, none⟩ 1 [⟨ei, et, ek, s, ec⟩] rfl hE7.out (by simp) (Nat.le_trans (Nat.mul_le_mul_right 64 (Nat.add_le_add_right hpl.out 1)) (by omega)) ?_; intro v8 w8 hRow hg hcm hvo hbb; replace hP7 := Lib.hid (hP7.out.put_step hql.out hg hbb hcm (by rw [hen.out]; exact hRow) hvo); clear hRow hg hcm hvo hbb hE7)
                      go_roundg k
                      case measure => omega
                      case rel => exact ⟨q + 1, _, rfl, by omega, by omega, hP7.out⟩
                    · have hqm : q = m := by omega
                      subst hqm
                      have hd : decide ((q : Int) < (q : Int)) = false := by simp
                      obtain ⟨a', c', cw, ev, g0, -⟩ := hP.src.get 0 (by omega)
                      injection ev with e1 e2 e3
                      injection e1 with e1
                      subst e1
                      have hR0 : R[0]'(by omega) = e := by have := hRe.out; subst this; rfl
                      rw [hR0, show a.add (0 * 5) = a from rfl] at g0
                      have hput : storePut L i t es = R := by unfold storePut; rw [if_pos (hSE'.out.trans hE0.out)]; exact hsk'.out
                      have hat : storeAt L i t es = e.i := by unfold storeAt; rw [hput, ← hRe.out]
                      have hsl : storeL L i t es = { L with l := L.l.take N ++ R } := by unfold storeL; rw [hput, ← hRe.out]; dsimp only; rw [show (e.i - L.i - 1).toNat = N by have := hN.out; omega]
                      have hSE0 := hSE'.out.trans hE0.out
                      have hfin : ∀ w', w' = wr → ∃ pv lv', Ending.returned (.tuple #[.int .u64 e.i, u14, .int .i64 0]) = Ending.returned (.tuple #[.int .u64 (storeAt L i t es), pv, .int .i64 (storeE L i t es)]) ∧ Row B w.heap.size w' pv (storePut L i t es) ∧ LogAt B B0 w' b cv lv' (storeL L i t es) ∧ Stays (fun k => k = b) w w' ∧ (∀ k, lv'.ownBlock = some k → lv.ownBlock = some k ∨ w.heap.size ≤ k) ∧ (storePut L i t es = [] → Below w.heap.size w w') := fun w' e => by
                        subst e
                        have ht : R.take q = R := List.take_of_length_le (by omega)
                        refine ⟨u14, lvj, by rw [hat, hSE0], ?_, ?_, hP.stays, hP.own, fun h => by rw [hput] at h; rw [h] at hRl; exact absurd hRl (by simp; omega)⟩
                        · rw [hput]; have := hP.put; rw [ht] at this; exact this
                        · rw [hsl]; have := hP.log; rw [ht] at this; exact this
                      replace hfin := Lib.hid hfin
                      replace hput := Lib.hid hput
                      replace hat := Lib.hid hat
                      replace hsl := Lib.hid hsl
                      replace hSE0 := Lib.hid hSE0
                      replace hP := Lib.hid hP
                      replace hR0 := Lib.hid hR0
                      replace hRl := Lib.hid hRl
                      replace hm5 := Lib.hid hm5
                      clear e2 hlt hq2
                      go_wp2_with fail
                      go_ret3
                      exact hfin.out _ rfl
end Go.Proofs.Ytkjfplkbgooflaa
