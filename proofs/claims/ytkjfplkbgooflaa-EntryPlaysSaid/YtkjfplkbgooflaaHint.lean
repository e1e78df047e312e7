/-
  (*Log).Hint.
-/
import Derived.Test.YtkjfplkbgooflaaSays
import Derived.Test.YtkjfplkbgooflaaRound
namespace Go.Proofs.Ytkjfplkbgooflaa
open Go Go.RowKit Go.Lst Go.Lx Go.Shelf
attribute [local go_sem] Oper.semAt_some

/-- Down while the term is the same. -/
def hintR (es : List Ent) (t : Int) : Nat → Int → Int
  | 0, at' => at'
  | m + 1, at' => if (es.getD m e0).t = t then hintR es t m (es.getD m e0).i else at'
def hint (L : LogS) (x : Int) : Int := if (lastOf L).1 < x then (lastOf L).1 + 1 else if x ≤ L.i then L.i + 1 else hintR L.l (L.l.getD (upTo L x - 1) e0).t (upTo L x) x
/-- The caller's variables. -/
structure HB (w : World) (b bA : Nat) (x : Int) (v : Value) (A : World) : Prop where
  below : Below w.heap.size w A
  c2 : Blk A w.heap.size [.pointer (some ⟨b, 0, none⟩)]
  c3 : Blk A (w.heap.size + 1) [.int .u64 x]
  ca : Blk A bA [v]
  cL : Blk A (bA + 1) [.pointer (some ⟨b, 0, none⟩)]
  cI : Blk A (bA + 2) [.int .u64 x]
  lt : w.heap.size + 2 ≤ bA
theorem HB.grow {w : World} {b bA : Nat} {x : Int} {v : Value} {A C : World} (h : HB w b bA x v A) (hb : Below A.heap.size A C) : HB w b bA x v C :=
  ⟨Lx.bstep h.below (Nat.le_refl _) hb, h.c2.below hb, h.c3.below hb, h.ca.below hb, h.cL.below hb, h.cI.below hb, h.lt⟩
theorem HB.put {w : World} {b bA : Nat} {x : Int} {v : Value} {A : World} (h : HB w b bA x v A) {L : Nat} {o : Obj} (o' : Obj) (hL : w.heap.size ≤ L) (ho : A.heap[L]? = some o) (hc : o.isCells = false) : HB w b bA x v (A.putObj L o') :=
  ⟨below_put h.below o' hL, blk_putObj h.c2 o' ho hc, blk_putObj h.c3 o' ho hc, blk_putObj h.ca o' ho hc, blk_putObj h.cL o' ho hc, blk_putObj h.cI o' ho hc, h.lt⟩
theorem HB.stored {w : World} {b bA : Nat} {x : Int} {v : Value} {A : World} (h : HB w b bA x v A) (u : Value) : HB w b bA x u (A.setCell ⟨bA, 0, none⟩ u) := by
  have := h.lt
  exact ⟨h.below.setCell (by show w.heap.size ≤ bA; omega) _, h.c2.keep (by omega), h.c3.keep (by omega), h.ca.put 0 u, h.cL.keep (by omega), h.cI.keep (by omega), h.lt⟩
set_option maxRecDepth 100000 in
set_option maxHeartbeats 4000000 in
theorem Hint_calls {B B0 : Nat} {w : World} {b : Nat} {cv lv : Value} {L : LogS} (h : LogAt B B0 w b cv lv L) (ok : LogOk L) (x : Int) (hx : 0 ≤ x) :
    Calls Try.prog 33 #[.pointer (some ⟨b, 0, none⟩), .int .u64 x] w fun e w' => e = .returned (.int .u64 (hint L x)) ∧ Below w.heap.size w w' := by
  have C1 := Lib.hid (fun w' hb => Last_calls (h.below (w' := w') hb))
  have C2 := Lib.hid (fun w' hb => made_calls (h.below (w' := w') hb))
  have hlast := ok.last
  have hi0 := ok.i0
  have hsz := h.sz
  obtain ⟨LA, hLA⟩ : ∃ LA, lastOf L = LA := ⟨_, rfl⟩
  obtain ⟨R, hR⟩ : ∃ R, hint L x = R := ⟨_, rfl⟩
  rw [hR]
  unfold hint at hR
  rw [hLA] at C1 hlast hR
  obtain ⟨q0, q1, q2, q3, -⟩ := h.isBlk.c4
  have W1 : IntKind.u64.wrap (LA.1 + 1) = LA.1 + 1 := by rw [IntKind.wrap_u64]; omega
  have W2 : IntKind.u64.wrap (L.i + 1) = L.i + 1 := by rw [IntKind.wrap_u64]; omega
  replace hlast := Lib.hid hlast
  obtain ⟨B2, B3, hB, hz⟩ := made2 w #[.pointer (some ⟨b, 0, none⟩)] #[.int .u64 x] 23 27
  refine (callsIn_wide (n := 7)).1 ?_
  refine callsIn_of_wp_marks Try.func33 rfl trivial ?_ rfl
  simp only [Try.ntmps33, List.size_toArray, List.length_cons, List.length_nil, Nat.reduceAdd, Nat.reduceSub, Array.replicate_succ, Array.replicate_zero, List.push_toArray, List.append_toArray, List.nil_append, List.cons_append]
  have a2 := B2.cell 0 rfl
  have a3 := B3.cell 0 rfl
  replace q0 := (cell_below hB q0).trans q0
  gi_wp2_with fail
  generalize (w.alloc (.cells #[.pointer (some ⟨b, 0, none⟩)] 23)).alloc (.cells #[.int .u64 x] 27) = W at *
  refine ⟨trivial, ?_⟩
  refine (callsIn_wide.2 (C1.out _ hB)).mono ?_
  rintro e w1 ⟨rfl, hb1⟩
  replace B2 := B2.below hb1
  replace B3 := B3.below hb1
  replace hB := Lx.bstep hB (Nat.le_refl _) hb1
  replace a2 := B2.cell 0 rfl
  replace a3 := B3.cell 0 rfl
  replace q0 := (cell_below hb1 q0).trans q0
  gi_wp2_with fail
  refine ⟨trivial, ?_⟩
  refine (callsIn_wide.2 (C2.out _ hB)).mono ?_
  rintro e w2 ⟨rfl, rfl⟩
  have hz1 := Lib.hid hb1.size
  clear hb1
  by_cases c1 : LA.1 < x
  · rw [if_pos c1] at hR
    subst hR
    gi_wp2_with fail
    exact ⟨_, results_tmp rfl _ _ _, rfl, hB⟩
  rw [if_neg c1] at hR
  have c1b : decide (LA.1 < x) = false := by simp; omega
  by_cases c2 : x ≤ L.i
  · rw [if_pos c2] at hR
    subst hR
    have q0' := fun nq => (cell_below (below_drewN (Below.refl w1.heap.size w1) nq) q0).trans q0
    gi_wp2_with fail
    refine wpIn_wide.2 ?_
    refine wp_region_quiet_lit (by kernel_rfl) (by kernel_rfl) ?_
    repeat (first | go_big_quiet_step (fail) | quiet_step (fail))
    refine wpQuiet_nil ?_
    intro _ hw'
    obtain ⟨nq, hw''⟩ := hw'
    subst hw''
    gi_wp2_with fail
    exact ⟨_, results_tmp rfl _ _ _, rfl, below_drewN hB _⟩
  rw [if_neg c2] at hR
  have c2b : decide (x ≤ L.i) = false := by simp; omega
  gi_wp2_with fail
  refine wpIn_wide.2 ?_
  refine wp_region_quiet_lit (by kernel_rfl) (by kernel_rfl) ?_
  repeat (first | go_big_quiet_step (fail) | quiet_step (fail))
  refine wpQuiet_nil ?_
  intro _ hw'
  obtain ⟨nq, hw''⟩ := hw'
  subst hw''
  replace hB := below_drewN hB nq
  replace B2 := B2.below (below_drewN (Below.refl w1.heap.size w1) nq)
  replace B3 := B3.below (below_drewN (Below.refl w1.heap.size w1) nq)
  have hz2 : w.heap.size + 2 ≤ (w1.drewN nq).heap.size := by have := hz1.out; have h2 := (below_drewN (Below.refl w1.heap.size w1) nq).size; omega
  generalize w1.drewN nq = W3 at *
  have a3w := B3.cell 0 rfl
  obtain ⟨BA, hbA, hzA⟩ := made1 W3 #[.int .u64 x] 27
  replace B2 := B2.below hbA
  replace B3 := B3.below hbA
  replace hB := Lx.bstep hB (Nat.le_refl _) hbA
  obtain ⟨bA, hbAe⟩ : ∃ bA, W3.heap.size = bA := ⟨_, rfl⟩
  rw [hbAe] at BA hzA hz2
  have a2 := B2.cell 0 rfl
  have a3 := B3.cell 0 rfl
  clear hbA
  gi_wp2_with fail
  generalize W3.alloc (.cells #[.int .u64 x] 27) = W4 at *
  refine ⟨trivial, ?_⟩
  refine (callsIn_wide.2 (back_calls b x _)).mono ?_
  rintro e w' ⟨rfl, rfl⟩
  gi_wp2_with fail
  obtain ⟨b1, b2, b3, b4⟩ := made2 W4 #[.pointer (some ⟨b, 0, none⟩)] #[.int .u64 x] 23 27
  rw [← hzA] at b1 b2 b4 ⊢
  have hS0 : HB w b bA x (.int .u64 x) ((W4.alloc (.cells #[.pointer (some ⟨b, 0, none⟩)] 23)).alloc (.cells #[.int .u64 x] 27)) := ⟨Lx.bstep hB (Nat.le_refl _) b3, B2.below b3, B3.below b3, BA.below b3, b1, b2, hz2⟩
  have hz5 : ((W4.alloc (.cells #[.pointer (some ⟨b, 0, none⟩)] 23)).alloc (.cells #[.int .u64 x] 27)).heap.size = bA + 3 := by omega
  clear b1 b2 b3 b4 BA B2 B3 hB hzA a2 a3 a3w q0 q1 q2 q3
  generalize (W4.alloc (.cells #[.pointer (some ⟨b, 0, none⟩)] 23)).alloc (.cells #[.int .u64 x] 27) = W5 at *
  simp only [Nat.add_assoc, Nat.reduceAdd]
  obtain ⟨cvs, hrow, hcfs⟩ := h.row.rowAt
  have hsl : ∀ cv' ∈ cvs, ∃ p n c, cv' = .slice p n c := cf_slices hrow.1 hcfs
  have hcl : w.cell? ⟨b, 3, none⟩ = some lv := h.isBlk.cell 3 rfl
  have hc0 : w.cell? ⟨b, 0, none⟩ = some (.int .u64 L.i) := h.isBlk.cell 0 rfl
  have hbt : ∀ A v, HB w b bA x v A → BackAt A b (bA + 1) (bA + 2) lv x L.l cvs := fun A v hA =>
    ⟨hA.cL.cell 0 rfl, hA.cI.cell 0 rfl, (cell_below hA.below hcl).trans hcl, hrow.same hA.below.size fun g hg => hA.below.block g (hrow.2.2 g hg)⟩
  have hup : upTo L x = (x - L.i).toNat := by unfold upTo; have := hlast.out; omega
  have hup1 : 0 < upTo L x := by omega
  have hupl : upTo L x ≤ L.l.length := by unfold upTo; omega
  generalize htt : (L.l.getD (upTo L x - 1) e0).t = tt at *
  refine Lx.rf_law2 (α := Nat) (w := W5) rfl (by decide) (gf := 51) (lb := #[.pointer (some ⟨bA + 1, 0, none⟩), .pointer (some ⟨bA + 2, 0, none⟩)]) rfl trivial (enters_of Try.func51 (by kernel_rfl) rfl)
    (fun x => #[encE L.l cvs x]) (fun _ => rfl) (fun pre j => j + pre.length + 1 = upTo L x) (fun pre A => ∃ v, HB w b bA x (.int .u64 v) A ∧ hintR L.l tt (upTo L x - pre.length) v = R)
    (fun c pre A => c = .exit 1 ∧ HB w b bA x (.int .u64 R) A) (fun xs => xs.length = upTo L x)
    (fun pre A l o o' hL ho hc ⟨v, h1, h2⟩ => ⟨v, h1.put o' (by omega) ho hc, h2⟩)
    (fun c pre A l o o' hL ho hc ⟨h1, h2⟩ => ⟨h1, h2.put o' (by omega) ho hc⟩)
    ?start (fun l J Jx Wx hbx hsz hJI hJs hXs hY h00 => back_in L.l cvs lv b (bA + 1) (bA + 2) x h.sz (upTo L x) (upTo_iff ok x) (by unfold upTo; omega) 6 l (by decide) J Jx Wx (fun pre A hA => (hJI _ _ hA).elim fun v hv => hbt A _ hv.1) hsl
      (fun pre A C hA hb => hJs _ _ _ hA (KeepsP.below hb) ((hJI _ _ hA).elim fun v hv => ⟨v, hv.1.grow hb, hv.2⟩)) (fun pre A l o o' hA hL ho hc => hJs _ _ _ hA (KeepsP.put _ (by omega)) ((hJI _ _ hA).elim fun v hv => ⟨v, hv.1.put o' (by omega) ho hc, hv.2⟩))
      (fun pre A C hA hb => hXs _ _ _ hA (KeepsP.below hb) fun c hx => ⟨hx.1, hx.2.grow hb⟩) (fun pre A l o o' hA hL ho hc => hXs _ _ _ hA (KeepsP.put _ (by omega)) fun c hx => ⟨hx.1, hx.2.put o' (by omega) ho hc⟩) hY h00)
    (fun pre A C ⟨v, h1, h2⟩ hb => ⟨v, h1.grow hb, h2⟩)
    (fun j W3 => { tmps := #[Value.pointer (some { block := b, off := 0 }), Value.int IntKind.u64 x,
          Value.pointer (some { block := w.heap.size, off := 0 }),
          Value.pointer (some { block := w.heap.size + 1, off := 0 }), Value.int IntKind.u64 0,
          Value.int IntKind.u64 LA.fst, Value.int IntKind.u64 LA.snd, Value.pointer (some { block := bA, off := 0 }),
          .pointer (some ⟨W3.heap.size, 0, none⟩), Value.tuple #[Value.int IntKind.u64 LA.fst, Value.int IntKind.u64 LA.snd],
          Value.pointer (some { block := b, off := 0 }),
          Value.tuple #[Value.int IntKind.u64 LA.fst, Value.int IntKind.u64 LA.snd], Value.int IntKind.u64 LA.fst,
          Value.int IntKind.u64 LA.snd, Value.bool false, Value.pointer (some { block := b, off := 0 }),
          Value.bool true, Value.bool false, Value.bool false, Value.int IntKind.u64 LA.fst, Value.int IntKind.u64 x,
          Value.bool false, undef, undef, Value.bool false, Value.int IntKind.u64 x,
          Value.pointer (some { block := b, off := 0 }), Value.pointer (some { block := b, off := 0 }),
          Value.pointer (some { block := b, off := 0 }), Value.int IntKind.u64 L.i, Value.bool false, undef, undef,
          undef, undef, undef, Value.int IntKind.u64 x, Value.pointer (some { block := b, off := 0 }),
          Value.int IntKind.u64 x,
          Value.func (Fn.func 51) #[]
            #[Value.pointer (some { block := bA + 1, off := 0 }),
              Value.pointer (some { block := bA + 2, off := 0 })],
          encE L.l cvs j, undef, undef, undef, undef, undef, undef, undef, undef, undef, undef, undef, undef, undef, undef,
          undef, undef, undef, undef, undef, undef], defers := [] })
    (fun x W3 => W3.alloc (.cells #[.int .u64 (L.l.getD x e0).i, .int .u64 (L.l.getD x e0).t, .int .u8 (L.l.getD x e0).k, .string (L.l.getD x e0).s, cvs.getD x (.slice none 0 0)] 31)) (fun x W3 => (by repeat (first | exact Below.refl _ _ | exact Lx.Ext.below _ | refine Below.drew ?_ | refine below_drewN ?_ _ | (refine Below.alloc ?_ (by first | exact Nat.le_refl _ | (simp; done) | (simp; omega)) _) | (refine Below.setCell ?_ (by first | exact Nat.le_refl _ | (simp; done) | (simp; omega)) _))))
    ?assign ?body ?done ?stop
  case start =>
    intro r
    have hbe : Below W5.heap.size W5 (Lx.enteredWorld W5 r) := ((Below.refl _ _).alloc (Nat.le_refl _) _).alloc (by simp) _
    exact ⟨x, hS0.grow hbe, hR⟩
  case assign =>
    intro l2 j W3 K hK
    unfold encE entV at hK ⊢
    obtain ⟨pw, nw, cw, hw⟩ : ∃ p n c, cvs.getD j (.slice none 0 0) = .slice p n c := by
      rw [List.getD_eq_getElem?_getD]
      rcases h : cvs[j]? with _ | cv
      · exact ⟨_, _, _, rfl⟩
      · exact hsl cv (List.mem_of_getElem? h)
    rw [hw] at hK ⊢
    generalize L.l.getD j e0 = en at *
    obtain ⟨ei, et, ek, s, ec⟩ := en
    dsimp only at hK ⊢
    clear hw hbt hsl hrow hcfs
    gi_wp2
    exact hK
  case body =>
    rintro l2 pre j W0 W3 ⟨v, hHB, hv⟩ hC hz0 hz3 hk3
    have hjl : j < L.l.length := by omega
    have hjc : j < cvs.length := by have := hrow.1; omega
    have hE : Blk W3 W0.heap.size [.int .u64 (L.l.getD j e0).i, .int .u64 (L.l.getD j e0).t, .int .u8 (L.l.getD j e0).k, .string (L.l.getD j e0).s, cvs.getD j (.slice none 0 0)] := (Blk.new W0 _ _).same (hk3 _ (Nat.le_refl _))
    rw [show upTo L x - pre.length = j + 1 by omega] at hv
    have hv' : (if (L.l.getD j e0).t = tt then hintR L.l tt j (L.l.getD j e0).i else v) = R := hv
    obtain ⟨pw, nw, cw, hw⟩ : ∃ p n c, cvs.getD j (.slice none 0 0) = .slice p n c := by
      rw [List.getD_eq_getElem?_getD, List.getElem?_eq_getElem hjc]
      exact hsl _ (List.getElem_mem hjc)
    obtain ⟨M, hM⟩ : ∃ M, upTo L x = M + 1 := ⟨upTo L x - 1, by omega⟩
    have hxM : x = L.i + M + 1 := by omega
    have hMl : M < L.l.length := by omega
    have hrow3 := hrow.same hHB.below.size fun g hg => hHB.below.block g (hrow.2.2 g hg)
    obtain ⟨a, c', hlv, -, g1, -, -, -⟩ := hrow3.get M hMl (by have := hrow.1; omega)
    have htM : L.l[M].t = tt := by rw [← htt, hM, Nat.add_sub_cancel, List.getD_eq_getElem?_getD, List.getElem?_eq_getElem hMl]; rfl
    rw [htM] at g1
    have l3 := (cell_below hHB.below hcl).trans hcl
    have l0 := (cell_below hHB.below hc0).trans hc0
    rw [hlv] at l3
    have b2 := hHB.c2.cell 0 rfl
    have b3 := hHB.c3.cell 0 rfl
    have bA0 := hHB.ca.cell 0 rfl
    have fA0 := hHB.ca.frz 0
    unfold encE entV
    rw [hw] at hE ⊢
    generalize L.l.getD j e0 = en at *
    obtain ⟨ei, et, ek, s, ec⟩ := en
    dsimp only at hE hv' ⊢
    obtain ⟨a0, a1, a2, a3, a4, -⟩ := hE.c5
    have V1 : IntKind.u64.wrap (x - L.i) = (M : Int) + 1 := by rw [IntKind.wrap_u64]; omega
    have V2 : IntKind.u64.wrap ((M : Int) + 1 - 1) = (M : Int) := by rw [IntKind.wrap_u64]; omega
    have V3 : IntKind.u64.wrap (M : Int) = (M : Int) := by rw [IntKind.wrap_u64]; omega
    have V4 : (0 : Int) ≤ (M : Int) := by omega
    have V5 : (M : Int) < (L.l.length : Int) := by omega
    have hz6 : bA + 3 ≤ W5.heap.size := by omega
    have hst := Lib.hid (fun u => hHB.stored u)
    have hgr := Lib.hid (fun A (hb : Below W3.heap.size W3 A) => hHB.grow hb)
    have hlt := hHB.lt
    clear hbt hcl hc0 hk3 hrow3 hM hMl htM hE hsl htt hv hR hz5 hz0 hz3 hlv hup hup1 hupl hxM hjl hjc hS0
    replace hrow := Lib.hid hrow
    replace hcfs := Lib.hid hcfs
    replace hHB := Lib.hid hHB
    replace hv' := Lib.hid hv'
    replace hC := Lib.hid hC
    replace hz6 := Lib.hid hz6
    replace hlt := Lib.hid hlt
    have hnon : Nonempty (Ext W3) := ⟨⟨W3, Below.refl _ _⟩⟩
    have y0 := fun y : Ext W3 => (cell_below y.below l0).trans l0
    have y1 := fun y : Ext W3 => (cell_below y.below l3).trans l3
    have y2 := fun y : Ext W3 => (cell_below y.below b2).trans b2
    have y3 := fun y : Ext W3 => (cell_below y.below b3).trans b3
    have y4 := fun y : Ext W3 => (cell_below y.below a1).trans a1
    have y5 := fun y : Ext W3 => (cell_below y.below g1).trans g1
    gi_wp2_with fail
    refine Lx.wpIn_region_light (fun A => ∃ y : Ext W3, A = y.wo) (by kernel_rfl) (by kernel_rfl) Lx.ext_drew ?_
    repeat (refine Lx.wpCh_one (by rfl) (by rfl) ?_; go_big_quiet_step (fail); refine wpQuiet_nil ?_)
    refine Lx.wpCh_nil ?_
    rintro w4 ⟨y, rfl⟩
    have hb4 := y.below
    have e0' := (cell_below hb4 a0).trans a0
    have hk4 := (hgr.out _ hb4).ca
    have c4 := hk4.cell 0 rfl
    have f4 := hk4.frz 0
    have hG4 := Lib.hid (hgr.out _ hb4)
    replace hb4 := Lib.hid hb4
    clear y0 y1 y2 y3 y4 y5 hk4 a0 a1 a2 a3 a4 b2 b3 bA0 fA0 g1 l0 l3
    generalize y.wo = w4 at *
    clear y
    by_cases ht : et = tt
    · rw [if_pos ht] at hv'
      have htb : (et != tt) = false := by rw [ht]; exact bne_self_eq_false tt
      replace ht := Lib.hid ht
      have hsub : upTo L x - (pre ++ [j]).length = j := by have := hC.out; simp; omega
      have hfin : From W5.heap.size W3 (w4.setCell ⟨bA, 0, none⟩ (.int .u64 ei)) ∧ ∃ v, HB w b bA x (.int .u64 v) (w4.setCell ⟨bA, 0, none⟩ (.int .u64 ei)) ∧ hintR L.l tt (upTo L x - (pre ++ [j]).length) v = R :=
        ⟨(From.below hb4.out).trans (From.setCell _ _ _ (by show bA < _; have := hz6.out; omega)), ei, hG4.out.stored _, by rw [hsub]; exact hv'.out⟩
      replace hfin := Lib.hid hfin
      clear hsub
      gi_wp2_with fail
      exact hfin.out
    · rw [if_neg ht] at hv'
      have htb : (et != tt) = true := by simpa using ht
      have hfin : From W5.heap.size W3 w4 ∧ HB w b bA x (.int .u64 R) w4 := ⟨From.below hb4.out, by rw [← hv'.out]; exact hG4.out⟩
      replace hfin := Lib.hid hfin
      replace ht := Lib.hid ht
      gi_wp2_with fail
      exact ⟨hfin.out.1, rfl, hfin.out.2⟩
  case done =>
    rintro D xs W3 hS ⟨v, hHB, hv⟩ hD hlD
    rw [hS, Nat.sub_self] at hv
    replace hv : v = R := hv
    subst hv
    have c4 := hHB.ca.cell 0 rfl
    have hfin := below_put hHB.below (L := D) (.deferred none) (by have := hHB.lt; omega)
    clear hbt hcl hc0 hR hS0
    replace hrow := Lib.hid hrow
    replace hcfs := Lib.hid hcfs
    replace hsl := Lib.hid hsl
    replace hHB := Lib.hid hHB
    replace hfin := Lib.hid hfin
    replace hD := Lib.hid hD
    gi_wp2_with fail
    refine ⟨by simp, .inl ⟨_, _, rfl, run_takeDeferred hD.out, ?_⟩⟩
    exact ⟨_, results_tmp rfl _ _ _, rfl, hfin.out⟩
  case stop =>
    rintro D c pre W3 ⟨rfl, hHB⟩ hD hlD
    have c4 := hHB.ca.cell 0 rfl
    have hfin := below_put hHB.below (L := D) (.deferred none) (by have := hHB.lt; omega)
    clear hbt hcl hc0 hR hS0
    replace hrow := Lib.hid hrow
    replace hcfs := Lib.hid hcfs
    replace hsl := Lib.hid hsl
    replace hHB := Lib.hid hHB
    replace hfin := Lib.hid hfin
    replace hD := Lib.hid hD
    gi_wp2_with fail
    refine ⟨by simp, .inl ⟨_, _, rfl, run_takeDeferred hD.out, ?_⟩⟩
    exact ⟨_, results_tmp rfl _ _ _, rfl, hfin.out⟩
end Go.Proofs.Ytkjfplkbgooflaa
