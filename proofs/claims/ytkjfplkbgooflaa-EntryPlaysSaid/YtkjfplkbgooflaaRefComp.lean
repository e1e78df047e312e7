/-
  The reference's log: Compact, New.
-/
import Derived.Test.YtkjfplkbgooflaaRefApp
namespace Go.Proofs.Ytkjfplkbgooflaa
open Go Go.RowKit Go.Lst Go.Lx

theorem RefAt.putc {B B0 : Nat} {W : World} {b : Nat} {cv lv v : Value} {L : LogS} {c' : List Int} (h : RefAt B B0 W b cv lv L) (hc : Cf B W v c') : RefAt B B0 (W.setCell ⟨b, 2, none⟩ v) b v lv { L with c := c' } := by
  have hbk : W.heap[b]? = some (.cells [.int .u64 L.i, .int .u64 L.t, cv, lv].toArray 76 (0, 0)) := h.blk
  have hs := Calms.set (i := 2) h.loud v
  exact ⟨heap_put hbk 2 v, hc.keep hs, h.row.keep hs (fun g hg => Below.heap_setCell _ _ _ _ (fun e => h.nb (by rw [e] at hg; exact hg))), h.nb, h.lo, h.sz⟩
theorem RefAt.putit {B B0 : Nat} {W : World} {b : Nat} {cv lv : Value} {L : LogS} (h : RefAt B B0 W b cv lv L) (x t : Int) : RefAt B B0 ((W.setCell ⟨b, 0, none⟩ (.int .u64 x)).setCell ⟨b, 1, none⟩ (.int .u64 t)) b cv lv { L with i := x, t := t } := by
  have hbk : W.heap[b]? = some (.cells [.int .u64 L.i, .int .u64 L.t, cv, lv].toArray 76 (0, 0)) := h.blk
  have h1 := heap_put hbk 0 (.int .u64 x)
  have h2 := heap_put h1 1 (.int .u64 t)
  have hs1 := Calms.set (i := 0) h.loud (.int .u64 x)
  have hl2 : ¬ Calm B (W.setCell ⟨b, 0, none⟩ (.int .u64 x)) b := by
    rintro (hlt | ⟨cs, fr, e⟩)
    · have := h.lo; omega
    · rw [h1] at e
      injection e with e
      injection e with _ e2 _
      exact absurd e2 (by decide)
  have hs2 := Calms.set (i := 1) hl2 (.int .u64 t)
  have nb : ∀ g, lv.ownBlock = some g → g ≠ b := fun g hg e => h.nb (by rw [e] at hg; exact hg)
  exact ⟨h2, (h.cf.keep hs1).keep hs2, (h.row.keep hs1 (fun g hg => Below.heap_setCell _ _ _ _ (nb g hg))).keep hs2 (fun g hg => Below.heap_setCell _ _ _ _ (nb g hg)), h.nb, h.lo, h.sz⟩
set_option maxRecDepth 100000 in
set_option maxHeartbeats 4000000 in
theorem rCompact_calls {B B0 : Nat} {w : World} {b : Nat} {cv lv : Value} {L : LogS} (h : RefAt B B0 w b cv lv L) (ok : LogOk L) (x : Int) (hx : 0 ≤ x) :
    Calls Try.prog 26 #[.pointer (some ⟨b, 0, none⟩), .int .u64 x] w fun e w' => e = .returned (.int .i64 (termAt L x).2) ∧ ∃ cv' lv', RefAt B B0 w' b cv' lv' (compactL L x) ∧ Stays (fun k => k = b) w w' ∧ (∀ k, lv'.ownBlock = some k → lv.ownBlock = some k ∨ w.heap.size ≤ k) := by
  have C1 := Lib.hid (rTermAt_calls h ok x hx)
  have C3 := Lib.hid (fun w' hb => rConfAt_calls (h.below (w' := w') hb) ok x)
  have hH := Lib.hid h
  have hE := term_errs L x
  have hOK := Lib.hid (fun h0 => termAt_ok ok (x := x) h0)
  obtain ⟨L', hL'⟩ : ∃ L', compactL L x = L' := ⟨_, rfl⟩
  rw [hL']
  unfold compactL at hL'
  have hi0 := ok.i0
  obtain ⟨⟨T, E⟩, hT⟩ : ∃ T, termAt L x = T := ⟨_, rfl⟩
  rw [hT] at C1 hE hL' hOK ⊢
  dsimp only at C1 hE hL' hOK ⊢
  obtain ⟨SC, hSC⟩ : ∃ SC, saysC L x = SC := ⟨_, rfl⟩
  rw [hSC] at C3 hL'
  clear ok hT hSC
  rcases hE with h0 | ⟨h0, h1, -⟩
  case inr =>
    rw [if_neg h0] at hL'
    subst hL'
    clear h0 h hi0
    go_enter Try.func26, Try.ntmps26
    go_wp2_with fail
    refine C1.out.mono ?_
    rintro y w1 ⟨rfl, hb⟩
    go_wp2_with fail
    go_ret
    exact ⟨rfl, cv, lv, hH.out.below hb, Stays.of_below hb, fun k hk => .inl hk⟩
  case inl =>
    subst h0
    rw [if_pos rfl] at hL'
    subst hL'
    obtain ⟨g1, g2, g3, g4, g5⟩ := hOK.out rfl
    obtain ⟨N, hN⟩ : ∃ N : Nat, x = L.i + N := ⟨(x - L.i).toNat, by omega⟩
    have W1 : IntKind.u64.wrap (x - L.i) = (N : Int) := by rw [IntKind.wrap_u64]; omega
    rw [show (x - L.i).toNat = N by omega]
    have hNl := Lib.hid (show N ≤ L.l.length by omega)
    clear h
    replace hi0 := Lib.hid hi0
    replace g1 := Lib.hid g1
    replace g2 := Lib.hid g2
    replace g3 := Lib.hid g3
    replace g4 := Lib.hid g4
    replace g5 := Lib.hid g5
    replace hN := Lib.hid hN
    replace hx := Lib.hid hx
    go_enter Try.func26, Try.ntmps26
    go_wp2_with fail
    refine C1.out.mono ?_
    rintro y w1 ⟨rfl, hb1⟩
    go_wp2_with fail
    refine (C3.out _ hb1).mono ?_
    rintro y w2 ⟨cw, rfl, hcf, hb2⟩
    have hb := Lx.bstep hb1 (Nat.le_refl _) hb2
    have hlog := hH.out.below hb
    have f2 := hlog.isBlk.frz 2
    have q2 := hlog.isBlk.cell 2 rfl
    have hlog2 := Lib.hid (hlog.putc hcf)
    obtain ⟨ca, cc, rfl, -⟩ := hcf.n.parts
    have hst := Lib.hid ((Stays.of_below (O := fun k => k = b) hb).setCell (p := ⟨b, 2, none⟩) (fun _ => rfl) (.slice ca SC.length cc))
    clear hcf hlog hb1 hb2 C1 C3
    go_wp2_with fail
    obtain ⟨w5, hw5⟩ : ∃ w5, w2.setCell ⟨b, 2, none⟩ (.slice ca SC.length cc) = w5 := ⟨_, rfl⟩
    rw [hw5] at hlog2 hst ⊢
    clear hw5 f2 q2 hb
    obtain ⟨q0, -, -, q3, -⟩ := hlog2.out.isBlk.c4
    dsimp only at q0
    have hrow := hlog2.out.row
    dsimp only at hrow
    obtain ⟨ln, hln⟩ : ∃ n, L.l.length = n := ⟨_, rfl⟩
    rw [hln] at hNl
    have n3 : (0 : Int) ≤ (N : Int) := by omega
    have n2 : (N : Int) ≤ (ln : Int) := by have := hNl.out; omega
    have hnon : Nonempty (Ext w5) := ⟨⟨w5, Below.refl _ _⟩⟩
    have y0 := fun y : Ext w5 => (cell_below y.below q0).trans q0
    obtain ⟨p3, c3, hlv, hlc, hcm, -⟩ := hrow.ents
    rw [hln] at hlv hlc
    have n4 : (ln : Int) ≤ (c3 : Int) := by omega
    have hways : ∃ sv, RowO B B0 w5 sv (L.l.drop N) ∧ (∀ k, sv.ownBlock = some k → lv.ownBlock = some k) ∧ ((p3 = none ∧ N = 0 ∧ ln = 0 ∧ c3 = 0 ∧ sv = .slice none 0 0) ∨ (∃ a, p3 = some a ∧ c3 - N = 0 ∧ c3 = N ∧ ln - N = 0 ∧ sv = .slice (some a) 0 0) ∨ ∃ a, p3 = some a ∧ ¬ (c3 - N = 0) ∧ ¬ (c3 ≤ N) ∧ sv = .slice (some (a.add (N * 5))) (ln - N) (c3 - N)) := by
      rcases hrow.2 with ⟨e, h0⟩ | ⟨g, off, cap, cur, e, hB0, hh, hs⟩
      · rw [hlv] at e
        injection e with e1 e2 e3
        refine ⟨.slice none 0 0, ?_, fun k hk => (by cases hk), .inl ⟨e1, by have := hNl.out; omega, e2, e3, rfl⟩⟩
        rw [h0, List.drop_nil]
        exact RowO.nil _ _ _
      · have hrow' := hrow
        rw [e] at hrow'
        rw [hlv, hln] at e
        injection e with e1 e2 e3
        have hd := hrow'.drop N (by have := hNl.out; omega)
        have hown : lv.ownBlock = some g := by rw [hlv, e1]; rfl
        by_cases h1 : c3 - N = 0
        · have hdl : L.l.drop N = [] := List.drop_eq_nil_of_le (by omega)
          refine ⟨.slice (some ⟨g, off, none⟩) 0 0, ?_, fun k hk => (by cases hk; exact hown), .inr (.inl ⟨_, e1, h1, by have := hNl.out; omega, by omega, rfl⟩)⟩
          rw [hdl]
          exact ⟨Ents.none _ _ (by unfold maxLen; omega), .inr ⟨g, off, 0, cur, rfl, hB0, hh, by omega⟩⟩
        · refine ⟨_, hd, fun k hk => ?_, .inr (.inr ⟨_, e1, h1, by omega, by rw [hln, e3]⟩)⟩
          rw [Addr.add_lit] at hk
          cases hk
          exact hown
    obtain ⟨sv, hsv, hso, hways⟩ := hways
    rw [hlv] at q3
    have y3 := fun y : Ext w5 => (cell_below y.below q3).trans q3
    clear hrow
    replace hlv := Lib.hid hlv
    replace hlc := Lib.hid hlc
    replace hcm := Lib.hid hcm
    replace hln := Lib.hid hln
    replace hsv := Lib.hid hsv
    replace hso := Lib.hid hso
    rcases hways with ⟨rfl, rfl, rfl, rfl, rfl⟩ | ⟨a, rfl, h1, h2, h3, rfl⟩ | ⟨a, rfl, h1, h2, rfl⟩
    all_goals
      refine Lx.wp_region_chain_tail (fun w' => ∃ y : Ext w5, w' = y.wo) (fun _ => False) [] [] 14 (fun A => Below w5.heap.size w5 A) (by kernel_rfl) (by kernel_rfl) (by kernel_rfl) (by kernel_rfl) Lx.ext_drew ((Below.refl _ _).drew) ?_
      simp only [List.take_succ_cons, List.take_zero, List.drop_succ_cons, List.drop_zero]
      repeat (refine Lx.wpCh_one (by rfl) (by rfl) ?_; go_big_quiet_step (fail); refine wpQuiet_nil ?_)
      refine Lx.wpCh_nil ?_
      intro w4 hx hS
      obtain ⟨y, rfl⟩ := hx
      have hlogn := ((hlog2.out.put (Stays.of_below hS) (Calms.below hS) (hsv.out.below hS) (fun k hk => .inl (hso.out k hk)) (by rw [List.length_drop]; have := hlog2.out.sz; dsimp only at this; omega)).putit x T)
      have hstn := Lib.hid (fun u : Value => (((hst.out.trans (Stays.of_below (O := fun _ => False) hS) (fun i _ hf => hf.elim)).setCell (p := ⟨b, 3, none⟩) (fun _ => rfl) u).setCell (p := ⟨b, 0, none⟩) (fun _ => rfl) (.int .u64 x)).setCell (p := ⟨b, 1, none⟩) (fun _ => rfl) (.int .u64 T))
      have hbk : Blk y.wo b [.int .u64 L.i, .int .u64 L.t, .slice ca SC.length cc, lv] := ⟨_, (hS.block b hlog2.out.lt).trans hlog2.out.blk⟩
      obtain ⟨x0, x1, x2, x3, z0, z1, z2, z3⟩ := hbk.c4
      clear hbk hS y0 y3
      generalize y.wo = w4 at *
      clear y
      replace hlogn := Lib.hid hlogn
      clear q0 q3
      go_wp2_with fail
      go_ret
      exact ⟨rfl, _, _, hlogn.out, hstn.out _, fun k hk => .inl (hso.out k hk)⟩
set_option maxRecDepth 100000 in
theorem rNew_calls (B : Nat) (i t : Int) (v : Value) (c : List Int) (w : World) (h : Cf B w v c) (hi : 0 ≤ i) (ht : 0 ≤ t) (hB : B ≤ w.heap.size) :
    Calls Try.prog 22 #[.int .u64 i, .int .u64 t, v] w fun y w' => (mayNew i t c = false → y = .returned (.pointer none)) ∧ (mayNew i t c = true → ∃ b, y = .returned (.pointer (some ⟨b, 0, none⟩)) ∧ w.heap.size ≤ b ∧ RefAt B w.heap.size w' b v (.slice none 0 0) ⟨i, t, c, []⟩) ∧ Below w.heap.size w w' := by
  have C1 := Lib.hid (rMayConf_calls v c w h.n)
  obtain ⟨m, hm⟩ : ∃ m, mayNew i t c = m := ⟨_, rfl⟩
  rw [hm]
  unfold mayNew at hm
  obtain ⟨mc, hmc⟩ : ∃ mc, may c = mc := ⟨_, rfl⟩
  rw [hmc] at C1 hm
  obtain ⟨p, cc, rfl, -⟩ := h.n.parts
  replace h := Lib.hid h
  replace hB := Lib.hid hB
  by_cases d1 : 281474976710656 < i
  · have hm0 : m = false := by rw [← hm, decide_eq_false (fun h => by omega)]; rfl
    subst hm0
    clear hm hmc
    go_enter Try.func22, Try.ntmps22
    go_wp2_with fail
    go_ret
    exact ⟨by first | rfl | exact (fun _ => rfl), by first | exact Below.refl _ _ | exact ⟨fun h => (by cases h), Below.refl _ _⟩⟩
  have d1b : decide (281474976710656 < i) = false := decide_eq_false d1
  by_cases d2 : 281474976710656 < t
  · have hm0 : m = false := by rw [← hm, decide_eq_false (fun h => by omega)]; rfl
    subst hm0
    clear hm hmc
    go_enter Try.func22, Try.ntmps22
    go_wp2_with fail
    go_ret
    exact ⟨by first | rfl | exact (fun _ => rfl), by first | exact Below.refl _ _ | exact ⟨fun h => (by cases h), Below.refl _ _⟩⟩
  have d2b : decide (281474976710656 < t) = false := decide_eq_false d2
  by_cases d3 : i = 0 ↔ t = 0
  case neg =>
    have hm0 : m = false := by rw [← hm, decide_eq_false (fun h => d3 h.2.2)]; rfl
    subst hm0
    cases hz : (t == 0)
    case' true => (have hy : (i == 0) = false := by simp at hz ⊢; exact fun h => d3 ⟨fun _ => hz, fun _ => h⟩)
    case' false => (have hy : (i == 0) = true := by simp at hz ⊢; exact Classical.byContradiction fun h => d3 ⟨fun h1 => absurd h1 h, fun h1 => absurd h1 hz⟩)
    all_goals
      clear hm hmc d3
      go_enter Try.func22, Try.ntmps22
      go_wp2_with fail
      go_ret
      exact ⟨by first | rfl | exact (fun _ => rfl), by first | exact Below.refl _ _ | exact ⟨fun h => (by cases h), Below.refl _ _⟩⟩
  case pos =>
  have d3b : (i == 0) = (t == 0) := by rw [Bool.eq_iff_iff]; simp [d3]
  have hm0 : m = mc := by rw [← hm, decide_eq_true ⟨by omega, by omega, d3⟩]; rfl
  subst hm0
  clear hm d3 hmc
  cases hz : (t == 0)
  all_goals
    rw [hz] at d3b
    cases m with
    | false =>
      go_enter Try.func22, Try.ntmps22
      go_wp2_with fail
      refine C1.out.mono ?_
      rintro y w1 ⟨rfl, hb⟩
      go_wp2_with fail
      go_ret
      exact ⟨by first | rfl | exact (fun _ => rfl), by first | exact hb | exact ⟨fun h => (by cases h), hb⟩⟩
    | true =>
      go_enter Try.func22, Try.ntmps22
      go_wp2_with fail
      refine C1.out.mono ?_
      rintro y w1 ⟨rfl, hb⟩
      replace hb := Lib.hid hb
      go_wp2_with fail
      go_ret
      have hbl : Below w1.heap.size w1 (w1.alloc (.cells #[.int .u64 i, .int .u64 t, .slice p c.length cc, .slice none 0 0] 76)) := (Below.refl _ _).alloc (Nat.le_refl _) _
      exact ⟨fun h => (by cases h), fun _ => ⟨_, rfl, hb.out.size, heap_alloc_new _ _, (h.out.keep (Calms.below hb.out)).keep (Calms.below hbl), RowO.nil _ _ _, fun e => (by cases e), ⟨hB.out, hb.out.size⟩, by simp⟩, Lx.bstep hb.out (Nat.le_refl _) hbl⟩
end Go.Proofs.Ytkjfplkbgooflaa
