/-
  EntryStores.
-/
import Derived.Test.YtkjfplkbgooflaaStoresMath
import Derived.Test.YtkjfplkbgooflaaWorks26
namespace Go.Proofs.Ytkjfplkbgooflaa
open Go Go.RowKit Go.Lst Go.Lx

theorem Ents.upto {B : Nat} {w : World} {p : Option Addr} {n c : Nat} {es : List Ent} (h : Ents B w (.slice p n c) es) (N : Nat) (hN : N ≤ es.length) : Ents B w (.slice p N c) (es.take N) := by
  obtain ⟨p', c', e, h1, h2, h3⟩ := h
  injection e with e1 e2 e3
  subst e1 e2 e3
  have hl : (es.take N).length = N := by rw [List.length_take]; omega
  refine ⟨p, c, by rw [hl], by rw [hl]; omega, h2, fun j hj => ?_⟩
  obtain ⟨a, cv, ha, h4, h5⟩ := h3 j (by omega)
  refine ⟨a, cv, ha, fun m hm => ?_, ?_⟩
  · rw [List.getElem_take]; exact h4 m hm
  · rw [List.getElem_take]; exact h5
/-- Append of whatever came in, onto a log of the call's own. -/
theorem AppendE_mine {w0 w : World} {b : Nat} {cv lv : Value} {L : LogS} (h : Mine w0 w b cv lv L) (e : Ent) (ev : Value) (he : Nums .i64 w ev e.c) :
    Calls Try.prog 9 #[.pointer (some ⟨b, 0, none⟩), entV e ev] w fun y w' => y = .returned (.int .i64 (appendE L e)) ∧ ∃ lv', Mine w0 w' b cv lv' (appendL L e) := by
  refine (Append_calls h.log h.ok e ev he).mono ?_
  rintro y w' ⟨rfl, lv', h1, h2, h3, -⟩
  exact ⟨rfl, lv', h.stays h1 (appendL_ok h.ok h.log.sz _).1 h2 h3⟩
/-- Some log of the call's own. -/
def Some1 (w0 w : World) (b : Nat) : Prop := ∃ cv lv L, Mine w0 w b cv lv L
theorem Some1.then {w0 w w' : World} {b : Nat} (h : Some1 w0 w b) (hb : Below w.heap.size w w') : Some1 w0 w' b := by
  obtain ⟨cv, lv, L, h⟩ := h
  exact ⟨cv, lv, L, h.then hb⟩
/-- A block that is kept where nothing but a log's head, or nothing at all, is written. -/
def OnlyHead (b : Nat) (W w' : World) : Prop := Stays (fun k => k = b) W w'
theorem OnlyHead.cell {b : Nat} {W w' : World} (h : OnlyHead b W w') {a : Addr} {v : Value} (hc : W.cell? a = some v) (hn : a.block ≠ b) : w'.cell? a = some v := by
  have hlt : a.block < W.heap.size := by
    rcases Nat.lt_or_ge a.block W.heap.size with h' | h'
    · exact h'
    · simp [World.cell?, Array.getElem?_eq_none h'] at hc
  rw [cell_same (h.block a.block hlt hn), hc]
theorem OnlyHead.step {b : Nat} {W w1 w2 : World} (h : OnlyHead b W w1) (hb : Below w1.heap.size w1 w2) : OnlyHead b W w2 := h.trans (Stays.of_below (O := fun _ => False) hb) (fun i _ hf => hf.elim)
theorem u_facts (ei Li : Int) (kx ma : Nat) (h : ei = Li + kx + 1) (hk : kx < ma) (hm : ma ≤ 4096) : IntKind.u64.wrap (ei - Li) = (kx : Int) + 1 ∧ IntKind.u64.wrap ((kx : Int) + 1 - 1) = (kx : Int) ∧ IntKind.u64.wrap (kx : Int) = (kx : Int) ∧ wrap64 (kx : Int) = (kx : Int) ∧ IntKind.i64.wrap (kx : Int) = (kx : Int) ∧ (0 : Int) ≤ (kx : Int) ∧ (kx : Int) < (ma : Int) ∧ decide ((ma : Int) ≤ (kx : Int)) = false ∧ ¬ ma ≤ kx ∧ decide ((kx : Int) < 0) = false :=
  ⟨by rw [IntKind.wrap_u64]; omega, by rw [IntKind.wrap_u64]; omega, by rw [IntKind.wrap_u64]; omega, IntWalk.wrap64_in _ (by omega), IntWalk.i64_in _ (by omega), by omega, by omega, by simp; omega, by omega, by simp⟩
theorem slice_all {L : LogS} (hl : L.l.length ≤ 4096) : sliceE L (L.i + 1) 4096 = 0 ∧ sliceL L (L.i + 1) 4096 = L.l := by
  have h : sliceE L (L.i + 1) 4096 = 0 := by
    unfold sliceE
    rw [if_neg (by omega), if_neg (by omega)]
  refine ⟨h, ?_⟩
  unfold sliceL
  rw [if_pos h, show (L.i + 1 - L.i - 1).toNat = 0 by omega]
  exact List.take_of_length_le (by simpa using hl)
set_option maxRecDepth 100000 in
set_option maxHeartbeats 8000000 in
theorem EntryStores_walk (sv : Value) (n : Nat) (ix tm : Int) (ev : Value) (es : List Ent) (w : World) (hs : Recs 5 QStep w sv n) (wi : (Lit.int .u64 ix).wf = true) (wt : (Lit.int .u64 tm).wf = true) (he : InEnts w ev es) :
    Calls Try.prog 4 #[sv, .int .u64 ix, .int .u64 tm, ev] w fun e w' => e = .returned (.bool true) ∧ Below w.heap.size w w' := by
  have hix : 0 ≤ ix := by
    unfold Lit.wf at wi
    rw [Bool.and_eq_true, decide_eq_true_eq, decide_eq_true_eq] at wi
    have h1 : IntKind.u64.min = 0 := rfl
    omega
  clear wi wt
  have hs' := Lib.hid hs
  have he' := Lib.hid he
  obtain ⟨ps, cs, hsv, hsc, hsm, -⟩ := hs
  obtain ⟨pe, ce, hev, hec, hem, -⟩ := he.1
  obtain ⟨ne, hne⟩ : ∃ ne, es.length = ne := ⟨_, rfl⟩
  rw [hne] at hev hec
  rw [hsv] at hs' ⊢
  rw [hev] at he' ⊢
  clear hsv hev he
  have hH := Lib.hid (heavy_calls (.slice ps n cs) n w hs'.out)
  have hZ := Lib.hid (fun w' (hb : Below w.heap.size w w') => size_calls w.heap.size es (.slice pe ne ce) w' (he'.out.below hb))
  have hnn : (n : Int) ≤ 9223372036854775807 := by unfold maxLen at hsm; omega
  replace hsc := Lib.hid hsc
  replace hsm := Lib.hid hsm
  replace hec := Lib.hid hec
  replace hem := Lib.hid hem
  replace hne := Lib.hid hne
  replace hix := Lib.hid hix
  go_enter Try.func4, Try.ntmps4
  go_wp2_with fail
  refine hH.out.mono ?_
  rintro y w1 ⟨⟨hv, rfl⟩, hb1⟩
  clear hH
  cases hv with
  | true =>
    go_wp2_with fail
    refine (works26_calls _).mono ?_
    rintro y w2 ⟨rfl, hb2⟩
    have hB := Lib.hid (Lx.bstep hb1 (Nat.le_refl _) hb2)
    clear hb1 hb2
    go_wp2_with fail
    go_ret
    exact ⟨rfl, hB.out⟩
  | false =>
  go_wp2_with fail
  refine (hZ.out _ hb1).mono ?_
  rintro y w2 ⟨⟨z, rfl⟩, hb2⟩
  have hB := Lib.hid (Lx.bstep hb1 (Nat.le_refl _) hb2)
  clear hb1 hb2 hZ
  by_cases hz : (4096 : Int) < z
  · go_wp2_with fail
    refine (works26_calls _).mono ?_
    rintro y w3 ⟨rfl, hb2⟩
    replace hB := Lib.hid (Lx.bstep hB.out (Nat.le_refl _) hb2)
    clear hb2
    go_wp2_with fail
    go_ret
    exact ⟨rfl, hB.out⟩
  have hzb : decide ((4096 : Int) < z) = false := by simp; omega
  clear hz
  have hm := made1 w2 #[.int .i64 1, .int .i64 2, .int .i64 3] 3
  replace hm := Lib.hid hm
  go_wp2_with fail
  generalize w2.alloc (.cells #[.int .i64 1, .int .i64 2, .int .i64 3] 3) = W at *
  refine (New_mine w W _ hm.out.1 (Lx.bstep hB.out (Nat.le_refl _) hm.out.2.1)).mono ?_
  rintro y w3 ⟨b, cv, rfl, hL, -⟩
  have hS0 := Lib.hid (show Some1 w w3 b from ⟨_, _, _, hL⟩)
  clear hm hL hB
  go_wp2_with fail
  go_loopg [11] (n + 1) (fun k v11 wr => ∃ i : Nat, v11 = .int .i64 (i : Int) ∧ i ≤ n ∧ n < i + k ∧ Some1 w wr b)
  case atStart => exact ⟨0, rfl, by omega, by omega, hS0.out⟩
  case round => as_aux_lemma =>
    clear hS0
    obtain ⟨i, rfl, hi1, hi2, cv, lv, L, hL⟩ := hrel
    cases gk with
    | zero => omega
    | succ k =>
      by_cases hlt : i < n
      case neg => as_aux_lemma =>
        have hd : decide ((i : Int) < (n : Int)) = false := by simp; omega
        replace hL := Lib.hid hL
        clear hi1 hi2
        go_wp2_with fail
        refine (Base_calls hL.out.log).mono ?_
        rintro y w4 ⟨rfl, hb⟩
        replace hL := Lib.hid (hL.out.then hb)
        clear hb
        have hi0 := Lib.hid hL.out.ok.i0
        have V1 : IntKind.u64.wrap (L.i + 1) = L.i + 1 := by rw [IntKind.wrap_u64]; have := hi0.out; omega
        obtain ⟨t1, t2⟩ := slice_all hL.out.log.sz
        have hlb := Lib.hid hL.out.log.lt
        go_wp2_with fail
        refine (Slice_calls hL.out.log hL.out.ok (L.i + 1) 4096 (by have := hi0.out; omega)).mono ?_
        rw [t1, t2]
        clear t1 t2
        rintro y w5 ⟨bv, rfl, hrb, hb⟩
        replace hL := Lib.hid (hL.out.then hb)
        have hEb := Lib.hid hrb.ents
        have hw54 := Lib.hid hb.size
        have hbb : Hid (∀ g, bv.ownBlock = some g → g ≠ b) := Lib.hid (fun g hg => by have h1 := (hrb.block hg).1; have := hlb.out; omega)
        obtain ⟨pb, cb, hbe, -⟩ := hrb.ents
        obtain ⟨ml, hml⟩ : ∃ ml, L.l.length = ml := ⟨_, rfl⟩
        rw [hml] at hbe
        subst hbe
        replace hml := Lib.hid hml
        clear hb hrb
        have hcpy := Lib.hid (fun A (hb : Below w.heap.size w A) => copied_calls w.heap.size es (.slice pe ne ce) A (he'.out.below hb) hb.size he'.out.2.1 (fun j hj => (he'.out.2.2 j hj).1))
        go_wp2_with fail
        refine (hcpy.out _ hL.out.below).mono ?_
        rintro y w6 ⟨u, rfl, hru, hb⟩
        replace hL := Lib.hid (hL.out.then hb)
        replace hEb := Lib.hid (hEb.out.below hb)
        have hub : ∀ k, u.ownBlock = some k → k < w6.heap.size ∧ k ≠ b := fun k hk => ⟨(hru.block hk).2, by have h1 := (hru.block hk).1; have := hlb.out; have := hw54.out; omega⟩
        have hSt := Lib.hid (Store_mine hL.out ix tm hix.out u es hru.ents hub)
        obtain ⟨pu, cu, hue, -⟩ := hru.ents
        rw [hne.out] at hue
        subst hue
        clear hb hru hub
        obtain ⟨SE, hSE⟩ : ∃ x, storeE L ix tm es = x := ⟨_, rfl⟩
        obtain ⟨SA, hSA⟩ : ∃ x, storeAt L ix tm es = x := ⟨_, rfl⟩
        rw [hSE, hSA] at hSt
        replace hSE := Lib.hid hSE
        replace hSA := Lib.hid hSA
        go_wp2_with fail
        refine hSt.out.mono ?_
        clear hSt
        rintro y w7 ⟨pv, lv7, rfl, hpr, hL7, hst, -, hput⟩
        rcases hR : storePut L ix tm es with _ | ⟨e, r⟩
        case nil => as_aux_lemma =>
          rw [hR] at hpr hput
          obtain ⟨n1, n2⟩ := store_none hR
          rw [n1] at hL7
          have hSA0 : SA = 0 := hSA.out.symm.trans n2
          subst hSA0
          replace hL := Lib.hid hL7
          replace hEb := Lib.hid (hEb.out.below (hput rfl))
          obtain ⟨pp, cp, hpe, -⟩ := hpr.ents
          simp only [List.length_nil] at hpe
          subst hpe
          clear hL7 hpr hput hst n1 n2 hSA hcpy hR
          obtain ⟨t1, t2⟩ := slice_all hL.out.log.sz
          have hSl := Lib.hid (Slice_calls hL.out.log hL.out.ok (L.i + 1) 4096 (by have := hi0.out; omega))
          rw [t1, t2] at hSl
          clear t1 t2
          go_wp2_with fail
          refine hSl.out.mono ?_
          clear hSl
          rintro y w8 ⟨av, rfl, hra, hb⟩
          replace hL := Lib.hid (hL.out.then hb)
          replace hEb := Lib.hid (hEb.out.below hb)
          have hEa := Lib.hid hra.ents
          obtain ⟨pa, ca, hae, -⟩ := hra.ents
          rw [hml.out] at hae
          subst hae
          have hSm := Lib.hid (SameEntries_calls w.heap.size w.heap.size L.l _ _ w8 hEb.out hEa.out)
          clear hb hra
          by_cases hS0 : SE = 0
          case' pos => (have q1 : (SE != 0) = false := by simp [hS0])
          case' neg => (have q1 : (SE != 0) = true := by simpa using hS0)
          all_goals
            clear hS0
            go_wp2_with fail
            refine hSm.out.mono ?_
            rintro y w9 ⟨rfl, hb⟩
            replace hL := Lib.hid (hL.out.then hb)
            clear hb hSm
            go_wp2_with fail
            refine (works26_calls _).mono ?_
            rintro y w10 ⟨rfl, hb⟩
            replace hL := Lib.hid (hL.out.then hb)
            clear hb
            go_wp2_with fail
            go_ret
            exact ⟨rfl, hL.out.below⟩
        case cons => as_aux_lemma =>
        rw [hR] at hpr
        obtain ⟨l1, l2, l3, ⟨N, hN, hNl, hsl⟩, two, ⟨hlp, hlast⟩, l8, l9⟩ := stores_law hL.out.ok hL.out.log.sz hix.out hR
        have hS0 : SE = 0 := hSE.out.symm.trans l1
        have hA0 : SA = e.i := hSA.out.symm.trans l2
        subst hS0 hA0
        obtain ⟨L2, hL2⟩ : ∃ L2, storeL L ix tm es = L2 := ⟨_, rfl⟩
        rw [hL2] at hL7 two hlast l8 l9 hsl
        have hL2i : L2.i = L.i := by rw [hsl]
        have hL2l : L2.l = L.l.take N ++ (e :: r) := by rw [hsl]
        replace hEb := Lib.hid (hEb.out.keepn (hL.out.calms hst) (fun h0 g hg => hst.block g (hEb.out.lt h0 g hg) (hbb.out g hg)))
        obtain ⟨ap, cp, cvp, hpe, k0, -⟩ := hpr.ents.get 0 (by simp)
        have z0 : ap.add (0 * 5) = ap := rfl
        rw [z0] at k0
        simp only [List.getElem_cons_zero, List.length_cons] at hpe k0
        subst hpe
        replace hL := Lib.hid hL7
        have hneq : ne = es.length := hne.out.symm
        have hne0 : 0 < ne := by omega
        obtain ⟨t1, t2⟩ := slice_all hL.out.log.sz
        have hSl := Lib.hid (Slice_calls hL.out.log hL.out.ok (L.i + 1) 4096 (by have := hi0.out; omega))
        rw [← hL2i] at hSl
        rw [t1, t2] at hSl
        rw [hL2i] at hSl
        have q1 : (e.i == 0) = false := by have := hi0.out; simp; omega
        have q2 : ((ne : Int) == 0) = false := by simp; omega
        have q3 : ((ne : Nat) == 0) = false := by simp; omega
        have q4 : ¬ e.i ≤ L.i := by omega
        have q5 : decide (e.i ≤ L.i) = false := by simp; omega
        have q6 : ((r.length : Int) + 1 == 0) = false := by simp; omega
        have hml2 : L2.l.length = N + (r.length + 1) := by rw [hL2l]; simp only [List.length_append, List.length_take, List.length_cons]; omega
        clear hL7 hpr hput hst hSE hSA t1 t2 z0 hR l1 l2 hsl
        replace l3 := Lib.hid l3
        replace hN := Lib.hid hN
        replace hNl := Lib.hid hNl
        replace two := Lib.hid two
        replace hlast := Lib.hid hlast
        replace l8 := Lib.hid l8
        replace l9 := Lib.hid l9
        replace hL2 := Lib.hid hL2
        replace hL2i := Lib.hid hL2i
        replace hL2l := Lib.hid hL2l
        replace hlp := Lib.hid hlp
        replace hml2 := Lib.hid hml2
        replace hneq := Lib.hid hneq
        go_wp2_with fail
        refine hSl.out.mono ?_
        clear hSl
        rintro y w8 ⟨av, rfl, hra, hb⟩
        replace hL := Lib.hid (hL.out.then hb)
        replace hEb := Lib.hid (hEb.out.below hb)
        replace k0 := (cell_below hb k0).trans k0
        have hEa := Lib.hid hra.ents
        obtain ⟨pa, ca, hae, -⟩ := hra.ents
        obtain ⟨ma, hma⟩ : ∃ ma, L2.l.length = ma := ⟨_, rfl⟩
        rw [hma] at hae
        subst hae
        replace hma := Lib.hid hma
        clear hb hra
        go_wp2_with fail
        go_loopg [21] (ma + 1) (fun k v21 wr2 => ∃ j : Nat, v21 = .int .i64 (j : Int) ∧ j ≤ ma ∧ ma < j + k ∧ Below w8.heap.size w8 wr2)
        case atStart => exact ⟨0, rfl, by omega, by omega, Below.refl _ _⟩
        case round => as_aux_lemma =>
          obtain ⟨j, rfl, hj1, hj2, hb⟩ := hrel
          cases gk with
          | zero => omega
          | succ k3 =>
            by_cases hja : j < ma
            case neg => as_aux_lemma =>
              have hd2 : decide ((j : Int) < (ma : Int)) = false := by simp; omega
              have hbA := Lib.hid hb
              clear hb hj1 hj2
              go_wp2_with fail
              go_loopg [22] (ne + 1) (fun k v22 wr => ∃ q : Nat, v22 = .int .i64 (q : Int) ∧ q ≤ ne ∧ ne < q + k ∧ Below w8.heap.size w8 wr)
              case atStart => exact ⟨0, rfl, by omega, by omega, hbA.out⟩
              case round => as_aux_lemma =>
                clear hbA hja hd2
                obtain ⟨q, rfl, hq1, hq2, hb⟩ := hrel
                cases gk with
                | zero => omega
                | succ k4 =>
                  by_cases hqa : q < ne
                  case neg => as_aux_lemma =>
                    have hd3 : decide ((q : Int) < (ne : Int)) = false := by simp; omega
                    replace hL := Lib.hid (hL.out.then hb)
                    clear hb hq1 hq2 hEa hEb k0
                    go_wp2_with fail
                    have hLst := Lib.hid (Last_calls hL.out.log)
                    rw [← hlast.out] at hLst
                    refine hLst.out.mono ?_
                    clear hLst
                    generalize (lastOf L2).2 = lt2
                    rintro y w9 ⟨rfl, hb⟩
                    replace hL := Lib.hid (hL.out.then hb)
                    clear hb
                    go_wp2_with fail
                    refine (hcpy.out _ hL.out.below).mono ?_
                    rintro y w10 ⟨u2, rfl, hru, hb⟩
                    have hlb9 := hL.out.log.lt
                    replace hL := Lib.hid (hL.out.then hb)
                    have hub : ∀ k, u2.ownBlock = some k → k < w10.heap.size ∧ k ≠ b := fun k hk => ⟨(hru.block hk).2, by have h1 := (hru.block hk).1; omega⟩
                    have hSt := Lib.hid (Store_mine hL.out ix tm hix.out u2 es hru.ents hub)
                    rw [l8.out, (store_none l9.out).2, l9.out] at hSt
                    obtain ⟨pu2, cu2, hue, -⟩ := hru.ents
                    rw [hne.out] at hue
                    subst hue
                    clear hb hru hub hlb9
                    go_wp2_with fail
                    refine hSt.out.mono ?_
                    clear hSt
                    rintro y w11 ⟨pv2, lv11, rfl, hpr2, hL11, -⟩
                    obtain ⟨pp2, cp2, hpe2, -⟩ := hpr2.ents
                    simp only [List.length_nil] at hpe2
                    subst hpe2
                    replace hL := Lib.hid hL11
                    clear hpr2 hL11
                    obtain ⟨kk, hkk⟩ : ∃ kk, ne = kk + 1 := ⟨ne - 1, by have := hlp.out; have := hneq.out; omega⟩
                    have hkl : kk < es.length := by have := hneq.out; omega
                    have hee : es[es.length - 1]'hlp.out = es[kk] := by
                      congr 1
                      have := hneq.out
                      omega
                    rw [hee]
                    have hEx := he'.out.below hL.out.below
                    obtain ⟨ax, cx, cvx, evx, g0, -⟩ := hEx.get kk hkl
                    injection evx with e1 e2 e3
                    subst e1 e3
                    have hne2 : (ne : Int) ≤ 9223372036854775807 := by have := hec.out; have := hem.out; unfold maxLen at *; omega
                    generalize es[kk].i = xi at *
                    subst hkk
                    have G1 : wrap64 (kk : Int) = (kk : Int) := IntWalk.wrap64_in _ (by omega)
                    have G2 : (0 : Int) ≤ (kk : Int) := by omega
                    have G3 : (kk : Int) < ((kk + 1 : Nat) : Int) := by omega
                    clear hee e2 hEx
                    replace hkl := Lib.hid hkl
                    go_wp2_with fail
                    refine (works26_calls _).mono ?_
                    rintro y w12 ⟨rfl, hb⟩
                    replace hL := Lib.hid (hL.out.then hb)
                    clear hb g0
                    go_wp2_with fail
                    go_ret
                    exact ⟨rfl, hL.out.below⟩
                  case pos => as_aux_lemma =>
                  have hqa1 : (q : Int) < (ne : Int) := by omega
                  have hq0 : (0 : Int) ≤ (q : Int) := by omega
                  have hql : q < es.length := by have := hneq.out; omega
                  have hEx := he'.out.below (Lx.bstep hL.out.below (Nat.le_refl _) hb)
                  obtain ⟨ax, cx, cvx, evx, g0, g1, g2, g3, g4, hcx⟩ := hEx.get q hql
                  injection evx with e1 e2 e3
                  subst e1 e3
                  have hne2 : (ne : Int) ≤ 9223372036854775807 := by have := hec.out; have := hem.out; unfold maxLen at *; omega
                  by_cases hxi : es[q].i ≤ L.i
                  · as_aux_lemma =>
                    generalize es[q] = en at *
                    obtain ⟨ei, et, ek, s, ec⟩ := en
                    dsimp only at g0 hxi
                    clear g1 g2 g3 g4 hcx hEx e2
                    replace hb := Lib.hid hb
                    go_wp2_with fail
                    go_roundg k4
                    case measure => omega
                    case rel => exact ⟨q + 1, by first | rfl | (rw [IntWalk.wrap64_in _ (by omega)]; rfl), by omega, by omega, hb.out⟩
                  · as_aux_lemma =>
                    obtain ⟨kx, hkx, x1, x2, x3⟩ := two.out q hql (by omega)
                    obtain ⟨ay, cy, cvy, evy, k0', k1', k2', k3', k4', hcy⟩ := hEa.out.get kx hkx
                    rw [hma.out] at evy
                    injection evy with e4 e5 e6
                    subst e4 e6
                    have hxb : decide (es[q].i ≤ L.i) = false := decide_eq_false hxi
                    obtain ⟨U1, U2, U3, U4, U4', U5, U6, U7, U8, U9⟩ := u_facts es[q].i L.i kx ma x1 (hma.out ▸ hkx) (hma.out ▸ hL.out.log.sz)
                    by_cases hge : e.i ≤ es[q].i
                    · as_aux_lemma =>
                      rw [x3 hge] at k0' k1' k2' k3' hcy
                      clear x3
                      generalize es[q] = en at *
                      obtain ⟨ei, et, ek, s, ec⟩ := en
                      obtain ⟨pw, cc, rfl, -⟩ := hcx.n.parts
                      obtain ⟨pz, cz, rfl, -⟩ := hcy.n.parts
                      dsimp only at g0 g1 g2 g3 k0' k1' k2' k3' hcx hcy hge hxb U1 x1 x2
                      have htt : (et != et) = false := bne_self_eq_false et
                      have hSE1 := Lib.hid (fun A (hbx : Below wr.heap.size wr A) => SameEntry_calls ⟨ei, et, ek, s, ec⟩ (.slice pz ec.length cz) (.slice pw ec.length cc) A (hcy.n.below (Lx.bstep hb (Nat.le_refl _) hbx)) (hcx.n.below hbx))
                      unfold entV at hSE1
                      dsimp only at hSE1
                      have y0 := fun y : Ext wr => (cell_below y.below g0).trans g0
                      have y1 := fun y : Ext wr => (cell_below y.below g1).trans g1
                      have y2 := fun y : Ext wr => (cell_below y.below g2).trans g2
                      have y3 := fun y : Ext wr => (cell_below y.below g3).trans g3
                      have y4 := fun y : Ext wr => (cell_below y.below g4).trans g4
                      have x0 := fun y : Ext wr => (cell_below (Lx.bstep hb (Nat.le_refl _) y.below) k0').trans k0'
                      have x1' := fun y : Ext wr => (cell_below (Lx.bstep hb (Nat.le_refl _) y.below) k1').trans k1'
                      have x2' := fun y : Ext wr => (cell_below (Lx.bstep hb (Nat.le_refl _) y.below) k2').trans k2'
                      have x3' := fun y : Ext wr => (cell_below (Lx.bstep hb (Nat.le_refl _) y.below) k3').trans k3'
                      have x4' := fun y : Ext wr => (cell_below (Lx.bstep hb (Nat.le_refl _) y.below) k4').trans k4'
                      replace hb := Lib.hid hb
                      clear g1 g2 g3 g4 k0' k1' k2' k3' k4' hcx hcy hEx e2 e5 x1 x2 hxi
                      go_wp2_with fail
                      refine Lx.wp_region_chain_lit (fun w' => ∃ x : Lx.Ext wr, w' = x.wo) (fun b => wr.heap.size ≤ b) [38] [] (fun _ => True) (by kernel_rfl) (by kernel_rfl) (by kernel_rfl) (by kernel_rfl) Lx.ext_drew trivial ?_
                      repeat (refine Lx.wpCh_one (by rfl) (by rfl) ?_; go_big_quiet_step (fail); refine wpQuiet_nil ?_)
                      refine Lx.wpCh_extp (.bool true) (by rfl) (by rfl) (fun x R hR => ?_) ?_
                      · go_simp
                        refine (hSE1.out x.wo x.below).mono ?_
                        rintro e w'' ⟨rfl, hb⟩
                        exact ⟨_, rfl, hR _ hb⟩
                      go_big_quiet_step (fail)
                      refine wpQuiet_nil ?_
                      repeat (refine Lx.wpCh_one (by rfl) (by rfl) ?_; go_big_quiet_step (fail); refine wpQuiet_nil ?_)
                      refine Lx.wpCh_nil ?_
                      intro w9 hx hSt
                      obtain ⟨x, rfl⟩ := hx
                      have hb9 := Lib.hid (Lx.bstep hb.out (Nat.le_refl _) x.below)
                      clear y0 y1 y2 y3 y4 x0 x1' x2' x3' x4' g0
                      generalize x.wo = w9 at *
                      clear x hSt
                      go_wp2_with fail
                      go_roundg k4
                      case measure => omega
                      case rel => exact ⟨q + 1, by first | rfl | (rw [IntWalk.wrap64_in _ (by omega)]; rfl), by omega, by omega, hb9.out⟩
                    · as_aux_lemma =>
                      rw [x2] at k1'
                      have hgeb : decide (e.i ≤ es[q].i) = false := by simp; omega
                      clear x3
                      generalize es[q] = en at *
                      obtain ⟨ei, et, ek, s, ec⟩ := en
                      dsimp only at g0 g1 k1' hgeb hge hxb U1
                      have htt : (et != et) = false := bne_self_eq_false et
                      replace k1' := (cell_below hb k1').trans k1'
                      replace hb := Lib.hid hb
                      clear g2 g3 g4 k0' k2' k3' k4' hcx hcy hEx e2 e5 x1 x2 hxi
                      go_wp2_with fail
                      go_quiet (fail)
                      go_wp2_with fail
                      go_roundg k4
                      case measure => omega
                      case rel => exact ⟨q + 1, by first | rfl | (rw [IntWalk.wrap64_in _ (by omega)]; rfl), by omega, by omega, below_drewN hb.out _⟩
            case pos => as_aux_lemma =>
            have hja1 : (j : Int) < (ma : Int) := by omega
            have hj0 : (0 : Int) ≤ (j : Int) := by omega
            have hjl : j < L2.l.length := by have := hma.out; omega
            obtain ⟨ax, cx, cvx, evx, g0, g1, g2, g3, g4, hcx⟩ := hEa.out.get j hjl
            rw [hma.out] at evx
            injection evx with e1 e2 e3
            subst e1 e3
            have hji := (hL.out.ok.at' j hjl).1
            rw [hL2i.out] at hji
            by_cases hjN : j < N
            · as_aux_lemma =>
              have hjb : j < L.l.length := by have := hNl.out; omega
              have hsame : L.l[j] = L2.l[j] := by
                simp only [hL2l.out]
                rw [List.getElem_append_left (by rw [List.length_take]; omega), List.getElem_take]
              obtain ⟨ay, cy, cvy, evy, k0', k1', k2', k3', k4', hcy⟩ := hEb.out.get j hjb
              rw [hml.out] at evy
              injection evy with e4 e5 e6
              subst e4 e6
              rw [hsame] at k0' k1' k2' k3' hcy
              have hlt9 : L2.l[j].i < e.i := by have := hN.out; omega
              have hjm : decide ((ml : Int) ≤ (j : Int)) = false := by have := hml.out; simp; omega
              have hjm2 : ¬ ml ≤ j := by have := hml.out; omega
              generalize L2.l[j] = en at *
              obtain ⟨ei, et, ek, s, ec⟩ := en
              obtain ⟨pw, cc, rfl, -⟩ := hcx.n.parts
              obtain ⟨pz, cz, rfl, -⟩ := hcy.n.parts
              dsimp only at g0 g1 g2 g3 k0' k1' k2' k3' hlt9 hcx hcy hji
              have hSE1 := Lib.hid (fun A (hb : Below w8.heap.size w8 A) => SameEntry_calls ⟨ei, et, ek, s, ec⟩ (.slice pw ec.length cc) (.slice pz ec.length cz) A (hcx.n.below hb) (hcy.n.below hb))
              unfold entV at hSE1
              dsimp only at hSE1
              have y0 := fun y : Ext wr => (cell_below (Lx.bstep hb (Nat.le_refl _) y.below) g0).trans g0
              have y1 := fun y : Ext wr => (cell_below (Lx.bstep hb (Nat.le_refl _) y.below) g1).trans g1
              have y2 := fun y : Ext wr => (cell_below (Lx.bstep hb (Nat.le_refl _) y.below) g2).trans g2
              have y3 := fun y : Ext wr => (cell_below (Lx.bstep hb (Nat.le_refl _) y.below) g3).trans g3
              have y4 := fun y : Ext wr => (cell_below (Lx.bstep hb (Nat.le_refl _) y.below) g4).trans g4
              have x0 := fun y : Ext wr => (cell_below (Lx.bstep hb (Nat.le_refl _) y.below) k0').trans k0'
              have x1 := fun y : Ext wr => (cell_below (Lx.bstep hb (Nat.le_refl _) y.below) k1').trans k1'
              have x2 := fun y : Ext wr => (cell_below (Lx.bstep hb (Nat.le_refl _) y.below) k2').trans k2'
              have x3 := fun y : Ext wr => (cell_below (Lx.bstep hb (Nat.le_refl _) y.below) k3').trans k3'
              have x4 := fun y : Ext wr => (cell_below (Lx.bstep hb (Nat.le_refl _) y.below) k4').trans k4'
              clear g0 g1 g2 g3 g4 k0' k1' k2' k3' k4' hcx hcy hji hsame e2 e5
              replace hb := Lib.hid hb
              go_wp2_with fail
              refine Lx.wp_region_chain_lit (fun w' => ∃ x : Lx.Ext wr, w' = x.wo) (fun b => wr.heap.size ≤ b) [21] [] (fun _ => True) (by kernel_rfl) (by kernel_rfl) (by kernel_rfl) (by kernel_rfl) Lx.ext_drew trivial ?_
              repeat (refine Lx.wpCh_one (by rfl) (by rfl) ?_; go_big_quiet_step (fail); refine wpQuiet_nil ?_)
              refine Lx.wpCh_extp (.bool true) (by rfl) (by rfl) (fun x R hR => ?_) ?_
              · go_simp
                refine (hSE1.out x.wo (Lx.bstep hb.out (Nat.le_refl _) x.below)).mono ?_
                rintro e w'' ⟨rfl, hb⟩
                exact ⟨_, rfl, hR _ hb⟩
              go_big_quiet_step (fail)
              refine wpQuiet_nil ?_
              repeat (refine Lx.wpCh_one (by rfl) (by rfl) ?_; go_big_quiet_step (fail); refine wpQuiet_nil ?_)
              refine Lx.wpCh_nil ?_
              intro w9 hx hSt
              obtain ⟨x, rfl⟩ := hx
              have hb9 := Lib.hid (Lx.bstep hb.out (Nat.le_refl _) x.below)
              clear y0 y1 y2 y3 y4 x0 x1 x2 x3 x4
              generalize x.wo = w9 at *
              clear x hSt
              go_wp2_with fail
              go_roundg k3
              case measure => omega
              case rel => exact ⟨j + 1, by first | rfl | (rw [IntWalk.wrap64_in _ (by have := hml2.out; have := hma.out; have := hL.out.log.sz; omega)]; rfl), by omega, by omega, hb9.out⟩
            · as_aux_lemma =>
              have hlt9 : decide (L2.l[j].i < e.i) = false := by have := hN.out; simp; omega
              have hlt10 : ¬ L2.l[j].i < e.i := by have := hN.out; omega
              generalize L2.l[j] = en at *
              obtain ⟨ei, et, ek, s, ec⟩ := en
              dsimp only at g0 hlt9 hlt10
              replace g0 := (cell_below hb g0).trans g0
              clear g1 g2 g3 g4 hcx hji e2
              replace hb := Lib.hid hb
              go_wp2_with fail
              go_quiet (fail)
              go_wp2_with fail
              go_roundg k3
              case measure => omega
              case rel => exact ⟨j + 1, by first | rfl | (rw [IntWalk.wrap64_in _ (by have := hml2.out; have := hma.out; have := hL.out.log.sz; omega)]; rfl), by omega, by omega, below_drewN hb.out _⟩
      case pos => as_aux_lemma =>
      have hlt1 : (i : Int) < (n : Int) := by omega
      have h0 : (0 : Int) ≤ (i : Int) := by omega
      obtain ⟨a, c', d, ii, t, esv, m, es', e0, -, -, g0, g1, g2, g3, g4, hin, wii, wtt⟩ := step_get hs'.out i hlt
      injection e0 with e1 e2 e3
      subst e1 e3
      replace g0 := (cell_below hL.below g0).trans g0
      replace g1 := (cell_below hL.below g1).trans g1
      replace g2 := (cell_below hL.below g2).trans g2
      replace g3 := (cell_below hL.below g3).trans g3
      replace g4 := (cell_below hL.below g4).trans g4
      obtain ⟨p', c2, hesv, hc2, hc2m, -⟩ := id hin.1
      have hin' := Lib.hid hin
      obtain ⟨m', hm'⟩ : ∃ m', es'.length = m' := ⟨_, rfl⟩
      rw [hm'] at hesv hc2
      rw [hesv] at g3 hin'
      clear hesv hin
      have hm1 := made1 wr #[.int .i64 d, .int .u64 ii, .int .u64 t, .slice p' m' c2, .int .i64 m] 45
      dsimp only at hm1
      obtain ⟨A1, hb1, -⟩ := hm1
      obtain ⟨a0, a1, a2, a3, a4, -⟩ := A1.c5
      have hL1 := Lib.hid (hL.then hb1)
      have hB1 := Lib.hid hL1.out.below
      replace hb1 := Lib.hid hb1
      replace A1 := Lib.hid A1
      have hbx : Hid (b < wr.heap.size) := Lib.hid hL.log.lt
      have hix2 : 0 ≤ ii := by
        unfold Lit.wf at wii
        rw [Bool.and_eq_true, decide_eq_true_eq, decide_eq_true_eq] at wii
        have h1 : IntKind.u64.min = 0 := rfl
        omega
      clear e2 hL wii wtt
      have hmn : Hid (m' ≤ c2) := Lib.hid hc2
      replace hm' := Lib.hid hm'
      replace hc2m := Lib.hid hc2m
      replace hix2 := Lib.hid hix2
      by_cases d0 : d = 0
      · as_aux_lemma =>
        subst d0
        by_cases hm0 : m' = 0
        · subst hm0
          go_wp2_with fail
          go_roundg k
          case measure => omega
          case rel => exact ⟨i + 1, by first | rfl | (rw [IntWalk.wrap64_in _ (by omega)]; rfl), by omega, by omega, _, _, _, hL1.out⟩
        · as_aux_lemma =>
          have hm2 : decide ((0 : Int) < (m' : Int)) = true := by simp; omega
          have hm3 : 0 < m' := by omega
          have hm4 : (1 : Int) ≤ (c2 : Int) := by omega
          have hE1 := hin'.out.below (Lx.bstep hB1.out (Nat.le_refl _) (Below.refl _ _))
          have hE2 := hE1.upto 1 (by have := hm'.out; omega)
          have htl : (es'.take 1).length = 1 := by rw [List.length_take]; have := hm'.out; omega
          have hcp := Lib.hid (copied_calls w.heap.size (es'.take 1) _ _ hE2 hB1.out.size (by rw [htl]; decide) (fun j hj => by rw [List.getElem_take]; exact (hin'.out.2.2 j (by have := hm'.out; rw [htl] at hj; omega)).1))
          replace htl := Lib.hid htl
          clear hE1 hE2
          go_wp2_with fail
          refine hcp.out.mono ?_
          rintro y w5 ⟨u, rfl, hrow, hb5⟩
          have hL5 := hL1.out.then hb5
          have hEr := hrow.ents
          obtain ⟨pu, cu, hu, -⟩ := id hEr
          obtain ⟨au, cu', cv0, ev0, k0, k1, k2, k3, k4, hcf0⟩ := hEr.get 0 (by rw [htl.out]; omega)
          rw [htl.out] at hu ev0
          rw [hu] at ev0
          injection ev0 with e1 e2 e3
          subst e1 e3
          subst hu
          generalize (es'.take 1)[0]'(by rw [htl.out]; omega) = en at *
          obtain ⟨ei, et, ek, s, ec⟩ := en
          obtain ⟨pw, cc, rfl, -⟩ := hcf0.n.parts
          have z0 : au.add (0 * 5) = au := rfl
          rw [z0] at k0 k1 k2 k3 k4
          dsimp only at k0 k1 k2 k3 hcf0
          have hA := AppendE_mine hL5 ⟨ei, et, ek, s, ec⟩ (.slice pw ec.length cc) hcf0.n
          unfold entV at hA
          dsimp only at hA
          generalize appendE L ⟨ei, et, ek, s, ec⟩ = AE at *
          replace hA := Lib.hid hA
          clear hcp hrow hb5 hL5 hEr hcf0 e2 z0 a0 a1 a2 a3 a4
          go_wp2_with fail
          refine hA.out.mono ?_
          rintro y w6 ⟨rfl, lv6, hL6⟩
          replace hL6 := Lib.hid hL6
          clear k0 k1 k2 k3 k4 hA
          go_wp2_with fail
          go_roundg k
          case measure => omega
          case rel => exact ⟨i + 1, by first | rfl | (rw [IntWalk.wrap64_in _ (by omega)]; rfl), by omega, by omega, _, _, _, hL6.out⟩
      · as_aux_lemma =>
        have d0b : (d == 0) = false := by simpa using d0
        by_cases d1 : d = 1
        · as_aux_lemma =>
          subst d1
          clear d0
          have hE1 := Lib.hid (fun A (hb : Below (wr.alloc (.cells #[.int .i64 1, .int .u64 ii, .int .u64 t, .slice p' m' c2, .int .i64 m] 45)).heap.size (wr.alloc (.cells #[.int .i64 1, .int .u64 ii, .int .u64 t, .slice p' m' c2, .int .i64 m] 45)) A) => copied_calls w.heap.size es' (.slice p' m' c2) A (hin'.out.below (Lx.bstep hB1.out (Nat.le_refl _) hb)) (Nat.le_trans hB1.out.size hb.size) hin'.out.2.1 (fun j hj => (hin'.out.2.2 j hj).1))
          go_wp2_with fail
          generalize wr.alloc (.cells #[.int .i64 1, .int .u64 ii, .int .u64 t, .slice p' m' c2, .int .i64 m] 45) = W5 at *
          have hlt5 := Lib.hid hL1.out.log.lt
          have hbxn : wr.heap.size ≠ b := by have := hbx.out; omega
          have k1 := fun x : Cls (OnlyHead b W5) => x.is.cell a1 hbxn
          have k2 := fun x : Cls (OnlyHead b W5) => x.is.cell a2 hbxn
          have k3 := fun x : Cls (OnlyHead b W5) => x.is.cell a3 hbxn
          have hnon : Nonempty (Cls (OnlyHead b W5)) := ⟨⟨_, Stays.of_below (Below.refl _ _)⟩⟩
          refine Lx.wp_region_chain_lit (fun w' => ∃ x : Cls (OnlyHead b W5), w' = x.wo) (fun _ => False) [7, 8] [] (fun A => Below W5.heap.size W5 A) (by kernel_rfl) (by kernel_rfl) (by kernel_rfl) (by kernel_rfl) (cls_of (Stays.of_below ((Below.refl _ _).drew))) ((Below.refl _ _).drew) ?_
          repeat (refine Lx.wpCh_one (by rfl) (by rfl) ?_; go_big_quiet_step (fail); refine wpQuiet_nil ?_)
          clear k1 k2 k3 a0 a1 a2 a3 a4
          refine Lx.wpCh_relp (fun v A => ∃ q l d, v = .slice q l d ∧ Row w.heap.size W5.heap.size A (.slice q l d) es' ∧ Below W5.heap.size W5 A) (by rfl) (by rfl) (fun h => by cases h) (fun w' hx hS R hR => ?_) (fun v hv => ?_)
          · obtain ⟨x, rfl⟩ := hx
            have hC := hE1.out x.wo hS
            clear hE1
            replace hS := Lib.hid hS
            go_simp
            refine hC.mono ?_
            rintro e w' ⟨u, rfl, hrow, hb⟩
            obtain ⟨q, l, hu, -⟩ := hrow.ents
            subst hu
            exact ⟨_, rfl, hR _ _ (cls_of (x.is.step hb)) ⟨_, _, _, rfl, hrow.mono hS.out.size, Lx.bstep hS.out (Nat.le_refl _) hb⟩ (fun h => by cases h)⟩
          obtain ⟨_, -, q, l, dd, rfl, -, -⟩ := hv
          go_big_quiet_step (fail)
          refine wpQuiet_nil ?_
          repeat (refine Lx.wpCh_one (by rfl) (by rfl) ?_; go_big_quiet_step (fail); refine wpQuiet_nil ?_)
          refine Lx.wpCh_relp (fun _ A => Some1 w A b) (by rfl) (by rfl) (fun h => by cases h) (fun w' hx hS R hR => ?_) (fun v hv => ?_)
          · obtain ⟨x, rfl⟩ := hx
            obtain ⟨_, _, _, e1, hrow, hb⟩ := hS
            cases e1
            have hC := Store_mine (hL1.out.then hb) ii t hix2.out (.slice q l dd) es' hrow.ents (fun k hk => ⟨(hrow.block hk).2, by have := (hrow.block hk).1; have := hlt5.out; omega⟩)
            generalize storeAt L ii t es' = SA at *
            generalize storeE L ii t es' = SE at *
            go_simp
            refine hC.mono ?_
            rintro e w' ⟨pv, lv', rfl, -, hM, hst, -, -⟩
            exact ⟨_, rfl, hR _ _ (cls_of (x.is.trans hst (fun _ _ h => h))) ⟨_, _, _, hM⟩ (fun h => by cases h)⟩
          clear hv hE1
          go_big_quiet_step (fail)
          refine wpQuiet_nil ?_
          repeat (refine Lx.wpCh_one (by rfl) (by rfl) ?_; go_big_quiet_step (fail); refine wpQuiet_nil ?_)
          refine Lx.wpCh_nil ?_
          intro w6 hx hS
          have hS6 := Lib.hid hS
          clear hx hS hnon
          go_wp2_with fail
          go_roundg k
          case measure => omega
          case rel => exact ⟨i + 1, by first | rfl | (rw [IntWalk.wrap64_in _ (by omega)]; rfl), by omega, by omega, hS6.out⟩
        · have d1b : (d == 1) = false := by simpa using d1
          by_cases d2 : d = 2
          · as_aux_lemma =>
            subst d2
            clear d0 d1
            have hC := Lib.hid (Compact_mine hL1.out ii hix2.out)
            generalize (termAt L ii).2 = TE at *
            go_wp2_with fail
            refine hC.out.mono ?_
            rintro y w5 ⟨rfl, cv5, lv5, hL5, -, -⟩
            replace hL5 := Lib.hid hL5
            clear hC
            go_wp2_with fail
            go_roundg k
            case measure => omega
            case rel => exact ⟨i + 1, by first | rfl | (rw [IntWalk.wrap64_in _ (by omega)]; rfl), by omega, by omega, _, _, _, hL5.out⟩
          · have d2b : (d == 2) = false := by simpa using d2
            clear d0 d1 d2
            go_wp2_with fail
            go_roundg k
            case measure => omega
            case rel => exact ⟨i + 1, by first | rfl | (rw [IntWalk.wrap64_in _ (by omega)]; rfl), by omega, by omega, _, _, _, hL1.out⟩
end Go.Proofs.Ytkjfplkbgooflaa
