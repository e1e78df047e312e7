/-
  codicillaw26.copied: entries of their own.
-/
import Derived.Test.YtkjfplkbgooflaaSize
import Derived.Test.YtkjfplkbgooflaaSame
namespace Go.Proofs.Ytkjfplkbgooflaa
open Go Go.RowKit Go.Lst Go.Lx

theorem Ents.lt {B : Nat} {w : World} {v : Value} {es : List Ent} (h : Ents B w v es) (h0 : 0 < es.length) : ∀ g, v.ownBlock = some g → g < w.heap.size := fun g hg => by
  obtain ⟨p, c, rfl, _, _, h3⟩ := h
  obtain ⟨a, cv, rfl, h4, _⟩ := h3 0 h0
  cases hg
  have := h4 0 (by omega)
  rcases Nat.lt_or_ge a.block w.heap.size with h' | h'
  · exact h'
  · have e : a.add (0 * 5 + 0) = a := rfl
    rw [e] at this
    simp [World.cell?, Array.getElem?_eq_none h', entC] at this
theorem Ents.below {B : Nat} {w w' : World} {v : Value} {es : List Ent} (h : Ents B w v es) (hb : Below w.heap.size w w') : Ents B w' v es := h.keepn (Calms.below hb) fun h0 g hg => hb.block g (h.lt h0 g hg)
set_option maxRecDepth 100000 in
set_option maxHeartbeats 4000000 in
theorem copied_calls (B : Nat) (es : List Ent) (v : Value) (w : World) (h : Ents B w v es) (hB : B ≤ w.heap.size) (hl : es.length * 64 ≤ cap47) (hc : ∀ j (h : j < es.length), es[j].c.length * 8 ≤ cap47) :
    Calls Try.prog 17 #[v] w fun y w' => ∃ u, y = .returned u ∧ Row B w.heap.size w' u es ∧ Below w.heap.size w w' := by
  obtain ⟨p, c, hve, hc1, hc2⟩ := h.parts
  obtain ⟨n, hn⟩ : ∃ n, es.length = n := ⟨_, rfl⟩
  rw [hn] at hl
  have hh := Lib.hid h
  rw [hn] at hve hc1
  rw [hve] at hh ⊢
  clear h hve
  have hnm : n ≤ maxLen := by omega
  unfold maxLen at hnm
  have hn' : n < 4611686018427387904 := by unfold cap47 at hl; omega
  replace hc := Lib.hid hc
  replace hc1 := Lib.hid hc1
  replace hc2 := Lib.hid hc2
  replace hn := Lib.hid hn
  replace hB := Lib.hid hB
  replace hl := Lib.hid hl
  have hlx := Lib.hid (show n * 64 ≤ 140737488355328 from hl.out)
  rw [← hn.out] at hlx
  have hElt0 := Lib.hid (fun (h0 : 0 < es.length) => hh.out.lt h0)
  go_enter Try.func17, Try.ntmps17
  go_wp2_with fail
  go_loopg [3, 4] (n + 1) (fun k v3 v4 wr => ∃ i : Nat, v4 = .int .i64 (i : Int) ∧ i ≤ n ∧ n < i + k ∧ Row B w.heap.size wr v3 (es.take i) ∧ Ents B wr (.slice p n c) es ∧ Below w.heap.size w wr)
  case atStart => exact ⟨0, rfl, by omega, by omega, Row.nil _ _ _, hh.out, Below.refl _ _⟩
  case round =>
    clear hh
    obtain ⟨i, rfl, hile, hfuel, hrow, hE, hb⟩ := hrel
    cases gk with
    | zero => omega
    | succ k =>
      by_cases hlt1 : i < n
      · have hlt2 : (i : Int) < (n : Int) := by omega
        have h0 : (0 : Int) ≤ (i : Int) := by omega
        have hil : i < es.length := by have := hn.out; omega
        obtain ⟨a, c', cw, ev, g0, g1, g2, g3, g4, hcf⟩ := hE.get i hil
        injection ev with e1 e2 e3
        subst e1 e3
        have hcl := hc.out i hil
        obtain ⟨en, hen⟩ : ∃ en, es[i] = en := ⟨_, rfl⟩
        rw [hen] at g0 g1 g2 g3 hcf hcl
        obtain ⟨ei, et, ek, s, ec⟩ := en
        obtain ⟨pw, cc, rfl, -⟩ := hcf.n.parts
        dsimp only at g0 g1 g2 g3 hcf hcl
        have hm := made1 wr #[.int .u64 ei, .int .u64 et, .int .u8 ek, .string s, .slice pw ec.length cc] 31
        dsimp only at hm
        obtain ⟨A1, hb1, -⟩ := hm
        obtain ⟨a0, a1, a2, a3, a4, f0, f1, f2, f3, f4⟩ := A1.c5
        have hN := Lib.hid (hcf.n.below hb1)
        have hrow1 := Lib.hid (hrow.below hb1)
        replace hrow := Lib.hid hrow
        have hE1 := Lib.hid (hE.below hb1)
        have hElt : Hid (∀ g, (Value.slice (some a) n c).ownBlock = some g → g < wr.heap.size) := Lib.hid (hE.lt (by omega))
        have hB1 := Lib.hid (Lx.bstep hb (Nat.le_refl _) hb1)
        have hAA := Lib.hid A1
        have hsz : Hid (w.heap.size ≤ wr.heap.size) := Lib.hid hb.size
        clear hb hb1 hE e2 hcf A1
        replace hcl := Lib.hid hcl
        replace hil := Lib.hid hil
        replace hen := Lib.hid hen
        have hWs := Lib.hid (show wr.heap.size < (wr.alloc (.cells #[.int .u64 ei, .int .u64 et, .int .u8 ek, .string s, .slice pw ec.length cc] 31)).heap.size by simp)
        have hbx := Lib.hid (show (wr.alloc (.cells #[.int .u64 ei, .int .u64 et, .int .u8 ek, .string s, .slice pw ec.length cc] 31)).heap[wr.heap.size]? = some (.cells #[.int .u64 ei, .int .u64 et, .int .u8 ek, .string s, .slice pw ec.length cc] 31 (0, 0)) from heap_alloc_new _ _)
        have hsz1 := Lib.hid (show (wr.alloc (.cells #[.int .u64 ei, .int .u64 et, .int .u8 ek, .string s, .slice pw ec.length cc] 31)).heap.size = wr.heap.size + 1 by simp)
        have hBs : Hid (B ≤ wr.heap.size) := Lib.hid (Nat.le_trans hB.out hsz.out)
        go_wp2_with (at_builtin; first
          | (refine wpList_copied rfl (.const (.slice none 0 0)) (.tmp 17) 28 rfl 3 .i64 8 Try.underlying28 infoInt rfl (.slice pw ec.length cc) ec rfl hN.out (show ec.length * 8 ≤ 140737488355328 from hcl.out) ?_
             intro v1 w9 h1 hb9
             obtain ⟨q1, l1, d1, rfl⟩ := own_slice h1
             have x0 := (cell_below hb9 a0).trans a0
             have x1 := (cell_below hb9 a1).trans a1
             have x2 := (cell_below hb9 a2).trans a2
             have x3 := (cell_below hb9 a3).trans a3
             have x4 := (cell_below hb9 a4).trans a4
             have y4 := (hAA.out.below hb9).frz 4
             have hnc : ¬ Calm B w9 wr.heap.size := by
               rintro (hlt | ⟨cs, fr, e⟩)
               · have := hBs.out; omega
               · rw [hb9.block _ hWs.out, hbx.out] at e
                 injection e with e
                 injection e with _ e2 _
                 exact absurd e2 (by decide)
             have hcs := Calms.set (i := 4) hnc (.slice q1 l1 d1)
             have hcf := Lib.hid (Cf.keep (Cf.own (B := B) h1 hN.out.2) hcs)
             have hrow9 := Lib.hid ((hrow1.out.below hb9).keep hcs (fun g hg => Below.heap_setCell _ _ _ _ (by show g ≠ wr.heap.size; have := (hrow.out.block hg).2; omega)))
             have hE9 := Lib.hid ((hE1.out.below hb9).keepn hcs (fun _ g hg => Below.heap_setCell _ _ _ _ (by show g ≠ wr.heap.size; have := hElt.out g hg; omega)))
             have hB9 := Lib.hid ((Lx.bstep hB1.out (Nat.le_refl _) hb9).setCell (p := ⟨wr.heap.size, 4, none⟩) hsz.out (.slice q1 l1 d1))
             clear h1 hb9 hnc hcs a0 a1 a2 a3 a4 f0 f1 f2 f3 f4)
          | (have hbn : Below (w9.setCell ⟨wr.heap.size, 4, none⟩ (.slice q1 l1 d1)).heap.size (w9.setCell ⟨wr.heap.size, 4, none⟩ (.slice q1 l1 d1)) ((w9.setCell ⟨wr.heap.size, 4, none⟩ (.slice q1 l1 d1)).alloc (.cells #[.int .u64 ei, .int .u64 et, .int .u8 ek, .string s, .slice q1 l1 d1] 31)) := (by repeat (first | exact Below.refl _ _ | exact Lx.Ext.below _ | refine Below.drew ?_ | refine below_drewN ?_ _ | (refine Below.alloc ?_ (by first | exact Nat.le_refl _ | (simp; done) | (simp; omega)) _) | (refine Below.setCell ?_ (by first | exact Nat.le_refl _ | (simp; done) | (simp; omega)) _)))
             have hE7 := ents_one (B := B) (w := (w9.setCell ⟨wr.heap.size, 4, none⟩ (.slice q1 l1 d1)).alloc (.cells #[.int .u64 ei, .int .u64 et, .int .u8 ek, .string s, .slice q1 l1 d1] 31)) ⟨(w9.setCell ⟨wr.heap.size, 4, none⟩ (.slice q1 l1 d1)).heap.size, 0, none⟩ 1 ⟨ei, et, ek, s, ec⟩ (.slice q1 l1 d1) (Nat.le_refl _) (by unfold maxLen; omega) (blk_cells (Blk.new _ _ _)) (hcf.out.keep (Calms.below hbn))
             rw [show (w9.setCell ⟨wr.heap.size, 4, none⟩ (.slice q1 l1 d1)).heap.size = w9.heap.size by simp] at hE7
             have hB10 := Lx.bstep hB9.out (Nat.le_refl _) hbn
             refine wpList_append_rw rfl (.tmp 20) (.tmp 22) rfl rfl (.inl (hrow9.out.below hbn)) hB.out hB10.size _ 1 [⟨ei, et, ek, s, ec⟩] rfl hE7 (by simp) (show ((es.take i).length + 1) * 64 ≤ 140737488355328 from Nat.le_trans (Nat.mul_le_mul_right 64 (by rw [List.length_take]; have := hil.out; omega)) hlx.out) ?_
             intro v8 w8 hRow hg hcm hvo hbb
             have hE10 := Lib.hid (((hE9.out.below hbn).keepn hcm (fun h0 g hg2 => hg.block g (by have := (hE9.out.below hbn).lt h0 g hg2; exact this) (fun e => by
               have h1 := ((hrow9.out.below hbn).block e.symm).1
               have h2 := hElt0.out h0 g hg2
               omega))))
             replace hRow := Lib.hid hRow
             have hB11 := Lib.hid (hB10.trans hbb)
             clear hg hcm hvo hbb hE7 hbn hB10))
        go_roundg k
        case measure => omega
        case rel =>
          refine ⟨i + 1, by first | rfl | (rw [IntWalk.wrap64_in _ (by omega)]; rfl), by omega, by omega, ?_, hE10.out, hB11.out⟩
          rw [List.take_succ_eq_append_getElem hil.out, hen.out]
          exact hRow.out
      · have hd : decide ((i : Int) < (n : Int)) = false := by simp; omega
        have hin : i = n := by omega
        subst hin
        have ht : es.take i = es := List.take_of_length_le (by have := hn.out; omega)
        rw [ht] at hrow
        replace hb := Lib.hid hb
        replace hrow := Lib.hid hrow
        clear hE ht hfuel hlt1 hile
        go_wp2_with fail
        go_ret
        exact ⟨_, rfl, hrow.out, hb.out⟩
end Go.Proofs.Ytkjfplkbgooflaa
