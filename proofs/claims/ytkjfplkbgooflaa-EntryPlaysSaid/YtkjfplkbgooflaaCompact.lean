/-
  (*Log).Compact.
-/
import Derived.Test.YtkjfplkbgooflaaSlice
namespace Go.Proofs.Ytkjfplkbgooflaa
open Go Go.RowKit Go.Lst Go.Lx

def compactL (L : LogS) (x : Int) : LogS := if (termAt L x).2 = 0 then ⟨x, (termAt L x).1, saysC L x, L.l.drop (x - L.i).toNat⟩ else L
theorem termAt_ok {L : LogS} (ok : LogOk L) {x : Int} (h : (termAt L x).2 = 0) : L.i ≤ x ∧ x ≤ L.i + L.l.length ∧ 0 ≤ (termAt L x).1 ∧ (termAt L x).1 ≤ 281474976710656 ∧ x ≤ 281474976710656 := by
  have hlast := ok.last
  have hi0 := ok.i0
  have ht0 := ok.t0
  unfold termAt at h ⊢
  by_cases c1 : x < L.i
  · rw [if_pos c1] at h; cases h
  rw [if_neg c1] at h ⊢
  by_cases c2 : (lastOf L).1 < x
  · rw [if_pos c2] at h; cases h
  rw [if_neg c2] at h ⊢
  by_cases c3 : x = L.i
  · rw [if_pos c3]; dsimp only; omega
  · rw [if_neg c3]
    have hj : (x - L.i - 1).toNat < L.l.length := by omega
    have hen : entAt L x = L.l[(x - L.i - 1).toNat] := by
      unfold entAt
      rw [List.getD_eq_getElem?_getD, List.getElem?_eq_getElem hj]; rfl
    obtain ⟨h1, h2⟩ := ok.at' _ hj
    have := mayE_bounds h2
    rw [hen]
    dsimp only
    omega
theorem saysC_may {L : LogS} (ok : LogOk L) (x : Int) : may (saysC L x) = true := by
  unfold saysC
  rcases h : saysE L x with _ | e
  · exact ok.cm
  · unfold saysE at h
    have h3 := List.find?_some h
    have hm := List.mem_of_find?_eq_some h
    rw [List.mem_reverse] at hm
    obtain ⟨j, hj, rfl⟩ := List.getElem_of_mem (List.mem_of_mem_take hm)
    have := (ok.at' j hj).2
    have h3' : L.l[j].k = 3 := by simpa using h3
    unfold mayE at this
    rw [Bool.and_eq_true, h3'] at this
    have h4 := this.2
    simp at h4
    exact h4.2
theorem compactL_ok {L : LogS} (ok : LogOk L) (hl : L.l.length ≤ 4096) (x : Int) : LogOk (compactL L x) ∧ (compactL L x).l.length ≤ 4096 := by
  unfold compactL
  split
  · rename_i h
    obtain ⟨h1, h2, h3, h4, h5⟩ := termAt_ok ok h
    have hi0 := ok.i0
    refine ⟨⟨⟨by dsimp only; omega, h5⟩, ⟨h3, h4⟩, saysC_may ok x, fun j hj => ?_⟩, by dsimp only; rw [List.length_drop]; omega⟩
    dsimp only at hj ⊢
    rw [List.length_drop] at hj
    obtain ⟨g1, g2⟩ := ok.at' ((x - L.i).toNat + j) (by omega)
    rw [List.getElem_drop]
    exact ⟨by rw [g1]; push_cast; omega, g2⟩
  · exact ⟨ok, hl⟩
theorem LogAt.putc {B B0 : Nat} {W : World} {b : Nat} {cv lv v : Value} {L : LogS} {c' : List Int} (h : LogAt B B0 W b cv lv L) (hc : Cf B W v c') (hn : ∃ a n c, v = .slice (some a) n c) : LogAt B B0 (W.setCell ⟨b, 2, none⟩ v) b v lv { L with c := c' } := by
  have hbk : W.heap[b]? = some (.cells [.int .u64 L.i, .int .u64 L.t, cv, lv].toArray 70 (0, 0)) := h.blk
  have hs := Calms.set (i := 2) h.loud v
  exact ⟨heap_put hbk 2 v, hc.keep hs, h.row.keep hs (fun g hg => Below.heap_setCell _ _ _ _ (fun e => h.nb (by rw [e] at hg; exact hg))), h.nb, h.lo, h.sz, hn⟩
theorem LogAt.putit {B B0 : Nat} {W : World} {b : Nat} {cv lv : Value} {L : LogS} (h : LogAt B B0 W b cv lv L) (x t : Int) : LogAt B B0 ((W.setCell ⟨b, 0, none⟩ (.int .u64 x)).setCell ⟨b, 1, none⟩ (.int .u64 t)) b cv lv { L with i := x, t := t } := by
  have hbk : W.heap[b]? = some (.cells [.int .u64 L.i, .int .u64 L.t, cv, lv].toArray 70 (0, 0)) := h.blk
  have h1 := heap_put hbk 0 (.int .u64 x)
  have h2 := heap_put h1 1 (.int .u64 t)
  have hs1 := Calms.set (i := 0) h.loud (.int .u64 x)
  have hl2 : ¬ Calm B (W.setCell ⟨b, 0, none⟩ (.int .u64 x)) b := by
    rintro (hlt | ⟨cs, fr, e⟩)
    · have := h.lo; omega
    · rw [h1] at e
      injection e with e
      injection e with _ e2 _
      exact absurd e2 (by decide)
  have hs2 := Calms.set (i := 1) hl2 (.int .u64 t)
  have nb : ∀ g, lv.ownBlock = some g → g ≠ b := fun g hg e => h.nb (by rw [e] at hg; exact hg)
  exact ⟨h2, (h.cf.keep hs1).keep hs2, (h.row.keep hs1 (fun g hg => Below.heap_setCell _ _ _ _ (nb g hg))).keep hs2 (fun g hg => Below.heap_setCell _ _ _ _ (nb g hg)), h.nb, h.lo, h.sz, h.nn⟩
set_option maxRecDepth 100000 in
set_option maxHeartbeats 4000000 in
theorem Compact_calls {B B0 : Nat} {w : World} {b : Nat} {cv lv : Value} {L : LogS} (h : LogAt B B0 w b cv lv L) (ok : LogOk L) (x : Int) (hx : 0 ≤ x) :
    Calls Try.prog 12 #[.pointer (some ⟨b, 0, none⟩), .int .u64 x] w fun e w' => e = .returned (.int .i64 (termAt L x).2) ∧ ∃ cv' lv', LogAt B B0 w' b cv' lv' (compactL L x) ∧ Stays (fun k => k = b) w w' ∧ (∀ k, lv'.ownBlock = some k → lv.ownBlock = some k ∨ w.heap.size ≤ k) := by
  have C1 := Lib.hid (Term_calls h ok x hx)
  have C3 := Lib.hid (fun w' hb => says_calls (h.below (w' := w') hb) ok x)
  have C5 := Lib.hid (fun v es w' he hl hB hv => CloneE_calls (B := B) v es w' he hl hB hv)
  have hH := Lib.hid h
  have hE := term_errs L x
  have hOK := Lib.hid (fun h0 => termAt_ok ok (x := x) h0)
  obtain ⟨L', hL'⟩ : ∃ L', compactL L x = L' := ⟨_, rfl⟩
  rw [hL']
  unfold compactL at hL'
  have hi0 := ok.i0
  obtain ⟨⟨T, E⟩, hT⟩ : ∃ T, termAt L x = T := ⟨_, rfl⟩
  rw [hT] at C1 hE hL' hOK ⊢
  dsimp only at C1 hE hL' hOK ⊢
  clear ok hT
  rcases hE with h0 | ⟨h0, h1, -⟩
  case inr =>
    rw [if_neg h0] at hL'
    subst hL'
    clear h0 h hi0
    go_enter Try.func12, Try.ntmps12
    go_wp2_with fail
    refine C1.out.mono ?_
    rintro y w1 ⟨rfl, hb⟩
    go_wp2_with fail
    go_ret
    exact ⟨rfl, cv, lv, hH.out.below hb, Stays.of_below hb, fun k hk => .inl hk⟩
  case inl =>
    subst h0
    rw [if_pos rfl] at hL'
    subst hL'
    obtain ⟨g1, g2, g3, g4, g5⟩ := hOK.out rfl
    obtain ⟨N, hN⟩ : ∃ N : Nat, x = L.i + N := ⟨(x - L.i).toNat, by omega⟩
    have W1 : IntKind.u64.wrap (x - L.i) = (N : Int) := by rw [IntKind.wrap_u64]; omega
    rw [show (x - L.i).toNat = N by omega]
    have hNl := Lib.hid (show N ≤ L.l.length by omega)
    clear h
    replace hi0 := Lib.hid hi0
    replace g1 := Lib.hid g1
    replace g2 := Lib.hid g2
    replace g3 := Lib.hid g3
    replace g4 := Lib.hid g4
    replace g5 := Lib.hid g5
    replace hN := Lib.hid hN
    replace hx := Lib.hid hx
    go_enter Try.func12, Try.ntmps12
    go_wp2_with fail
    refine C1.out.mono ?_
    rintro y w1 ⟨rfl, hb1⟩
    go_wp2_with fail
    refine (C3.out _ hb1).mono ?_
    rintro y w2 ⟨cw, rfl, hcf, hb2, cn⟩
    have hb := Lx.bstep hb1 (Nat.le_refl _) hb2
    have hlog := hH.out.below hb
    have f2 := hlog.isBlk.frz 2
    have q2 := hlog.isBlk.cell 2 rfl
    have hlog2 := Lib.hid (hlog.putc hcf cn)
    have hcn := Lib.hid cn
    obtain ⟨ca, cl, cc, rfl⟩ := cn
    have hst := Lib.hid ((Stays.of_below (O := fun k => k = b) hb).setCell (p := ⟨b, 2, none⟩) (fun _ => rfl) (.slice (some ca) cl cc))
    clear hcf hlog hb1 hb2 C1 C3
    go_wp2_with fail
    obtain ⟨w5, hw5⟩ : ∃ w5, w2.setCell ⟨b, 2, none⟩ (.slice (some ca) cl cc) = w5 := ⟨_, rfl⟩
    rw [hw5] at hlog2 hst ⊢
    clear hw5 f2 q2 hb
    obtain ⟨pl, c3, hlv, hll, hlm, hcell⟩ := hlog2.out.row.ents
    obtain ⟨ln, hln⟩ : ∃ n, L.l.length = n := ⟨_, rfl⟩
    dsimp only at hlv hll hcell
    rw [hln] at hlv hll hNl
    obtain ⟨q0, -, -, q3, -⟩ := hlog2.out.isBlk.c4
    rw [hlv] at q3
    dsimp only at q0
    have hlt := Lib.hid hlog2.out.row.lt
    have hents := hlog2.out.row.ents
    rw [hlv] at hents
    have n3 : (0 : Int) ≤ (N : Int) := by omega
    have n2 : (N : Int) ≤ (ln : Int) := by have := hNl.out; omega
    have n4 : (ln : Int) ≤ (c3 : Int) := by omega
    have hways : (pl = none ∧ N = 0 ∧ L.l = []) ∨ (∃ a, pl = some a ∧ c3 - N = 0 ∧ c3 = N ∧ ln - N = 0 ∧ L.l.drop N = []) ∨ ∃ a, pl = some a ∧ ¬ (c3 - N = 0) ∧ ¬ (c3 ≤ N) := by
      cases pl with
      | none =>
        have h0 : L.l = [] := by
          rcases hl : L.l with _ | ⟨y, ys⟩
          · rfl
          · obtain ⟨_, _, e, _⟩ := hcell 0 (by rw [hl]; simp)
            cases e
        have : L.l.length = 0 := by rw [h0]; rfl
        exact .inl ⟨rfl, by have := hNl.out; omega, h0⟩
      | some a =>
        by_cases h1 : c3 - N = 0
        · exact .inr (.inl ⟨a, rfl, h1, by have := hNl.out; omega, by omega, List.drop_eq_nil_of_le (by omega)⟩)
        · exact .inr (.inr ⟨a, rfl, h1, by omega⟩)
    obtain ⟨sv, hsv0, hsv⟩ : ∃ sv : Value, (pl = none → sv = .slice none (ln - N) (c3 - N)) ∧ ∀ a, pl = some a → (c3 - N = 0 → sv = .slice (some a) 0 0) ∧ (¬ (c3 - N = 0) → sv = .slice (some (a.add (N * 5))) (ln - N) (c3 - N)) := by
      cases pl with
      | none => exact ⟨_, (fun _ => rfl), (fun a h => (by cases h))⟩
      | some a =>
        by_cases h1 : c3 - N = 0
        · refine ⟨.slice (some a) 0 0, (fun h => (by cases h)), (fun b hb => ?_)⟩
          cases hb
          exact ⟨(fun _ => rfl), (fun h => absurd h1 h)⟩
        · refine ⟨.slice (some (a.add (N * 5))) (ln - N) (c3 - N), (fun h => (by cases h)), (fun b hb => ?_)⟩
          cases hb
          exact ⟨(fun h => absurd h h1), (fun _ => rfl)⟩
    have hsE : Ents B w5 sv (L.l.drop N) ∧ ∀ g, sv.ownBlock = some g → g < w5.heap.size := by
      rcases hways with ⟨rfl, hn0, h0⟩ | ⟨a, rfl, h1, h2, h3, h4⟩ | ⟨a, rfl, h1, h2⟩
      · have hl0 : ln = 0 := by rw [← hln, h0]; rfl
        rw [hsv0 rfl, hl0, h0, hn0]; exact ⟨Ents.none _ _ (by omega), fun g hg => by cases hg⟩
      · rw [(hsv a rfl).1 h1, h4]; exact ⟨Ents.none _ _ (by unfold maxLen; omega), fun g hg => by cases hg; exact hlt.out _ (by rw [hlv]; rfl)⟩
      · rw [(hsv a rfl).2 h1]
        refine ⟨?_, fun g hg => ?_⟩
        · have := hents.sub N (ln - N) (show N + (ln - N) ≤ L.l.length by have := hNl.out; omega)
          rwa [List.take_of_length_le (show (L.l.drop N).length ≤ ln - N by rw [List.length_drop]; omega)] at this
        · cases hg
          have hblk : (a.add (N * 5)).block = a.block := by unfold Addr.add; split <;> rfl
          rw [hblk]
          exact hlt.out _ (by rw [hlv]; rfl)
    have hsz := hlog2.out.sz
    dsimp only at hsz
    have hbw : B ≤ w5.heap.size := by have h1 := hlog2.out.lo; have h2 := hlog2.out.lt; omega
    have hCE := Lib.hid (fun A (hb : Below w5.heap.size w5 A) => C5.out sv (L.l.drop N) A (hsE.1.keep (Calms.below hb) (fun g hg => hb.block g (hsE.2 g hg))) (by rw [List.length_drop]; omega) (Nat.le_trans hbw hb.size) (fun g hg => Nat.lt_of_lt_of_le (hsE.2 g hg) hb.size))
    have hnon : Nonempty (Ext w5) := ⟨⟨w5, Below.refl _ _⟩⟩
    have y0 := fun y : Ext w5 => (cell_below y.below q0).trans q0
    have y3 := fun y : Ext w5 => (cell_below y.below q3).trans q3
    clear hents hsE hcell C5
    replace hlv := Lib.hid hlv
    replace hll := Lib.hid hll
    replace hlm := Lib.hid hlm
    replace hsz := Lib.hid hsz
    replace hbw := Lib.hid hbw
    replace hln := Lib.hid hln
    rcases hways with ⟨rfl, hn0, h0⟩ | ⟨a, rfl, h1, h2, h3, h4⟩ | ⟨a, rfl, h1, h2⟩
    case' inl => (have hs := hsv0 rfl; subst hs; clear hsv hsv0 h0 hn0)
    case' inr.inl => (have hs := (hsv a rfl).1 h1; subst hs; clear hsv hsv0 h4)
    case' inr.inr => (have hs := (hsv a rfl).2 h1; subst hs; clear hsv hsv0)
    all_goals
      refine Lx.wp_region_chain_tail (fun w' => ∃ y : Ext w5, w' = y.wo) (fun _ => False) [12] [] 15 (fun A => Below w5.heap.size w5 A) (by kernel_rfl) (by kernel_rfl) (by kernel_rfl) (by kernel_rfl) Lx.ext_drew ((Below.refl _ _).drew) ?_
      simp only [List.take_succ_cons, List.take_zero, List.drop_succ_cons, List.drop_zero]
      repeat (refine Lx.wpCh_one (by rfl) (by rfl) ?_; go_big_quiet_step (fail); refine wpQuiet_nil ?_)
    all_goals
      clear y0 y3
      refine Lx.wpCh_relp (fun v A => Row B w5.heap.size A v (L.l.drop N) ∧ Below w5.heap.size w5 A) (by rfl) (by rfl) (fun h => by cases h) (fun w' hx hS R hR => ?_) (fun v hv => ?_)
      · obtain ⟨y, rfl⟩ := hx
        have hC := hCE.out y.wo hS
        clear hCE
        replace hS := Lib.hid hS
        go_simp
        refine hC.mono ?_
        rintro e w' ⟨u, rfl, hrow, hb⟩
        exact ⟨_, rfl, hR _ _ ⟨⟨_, Lx.bstep y.below (Nat.le_refl _) hb⟩, rfl⟩ ⟨hrow.mono hS.out.size, Lx.bstep hS.out (Nat.le_refl _) hb⟩ (fun h => by cases h)⟩
      obtain ⟨_, -, hv9, -⟩ := hv
      obtain ⟨p9, c9, rfl, -⟩ := hv9.ents
      obtain ⟨l9, hl9⟩ : ∃ l9, (L.l.drop N).length = l9 := ⟨_, rfl⟩
      rw [hl9]
      clear hv9 hCE
      go_big_quiet_step (fail)
      refine wpQuiet_nil ?_
      repeat (refine Lx.wpCh_one (by rfl) (by rfl) ?_; go_big_quiet_step (fail); refine wpQuiet_nil ?_)
      refine Lx.wpCh_nil ?_
      intro w4 hx hS
      obtain ⟨y, rfl⟩ := hx
      have hlogn := ((hlog2.out.put (Stays.of_below hS.2) (Calms.below hS.2) (.inl (hS.1.mono (by have h1 := hlog2.out.lo; have h2 := hlog2.out.lt; omega))) (fun k hk => .inr (hS.1.block hk).1) (by rw [List.length_drop]; have := hsz.out; omega)).putit x T)
      have hstn := Lib.hid ((((hst.out.trans (Stays.of_below (O := fun _ => False) hS.2) (fun i _ hf => hf.elim)).setCell (p := ⟨b, 3, none⟩) (fun _ => rfl) (.slice p9 l9 c9)).setCell (p := ⟨b, 0, none⟩) (fun _ => rfl) (.int .u64 x)).setCell (p := ⟨b, 1, none⟩) (fun _ => rfl) (.int .u64 T))
      have howm : ∀ k, (Value.slice p9 l9 c9).ownBlock = some k → lv.ownBlock = some k ∨ w.heap.size ≤ k := fun k hk => .inr (Nat.le_trans hst.out.size (hS.1.block hk).1)
      have hbk : Blk y.wo b [.int .u64 L.i, .int .u64 L.t, .slice (some ca) cl cc, lv] := ⟨_, (hS.2.block b hlog2.out.lt).trans hlog2.out.blk⟩
      obtain ⟨x0, x1, x2, x3, z0, z1, z2, z3⟩ := hbk.c4
      clear hbk hS
      generalize y.wo = w4 at *
      clear y
      replace hlogn := Lib.hid hlogn
      replace howm := Lib.hid howm
      clear q0 q3
      go_wp2_with fail
      go_ret
      exact ⟨rfl, _, _, hlogn.out, hstn.out, howm.out⟩
end Go.Proofs.Ytkjfplkbgooflaa
