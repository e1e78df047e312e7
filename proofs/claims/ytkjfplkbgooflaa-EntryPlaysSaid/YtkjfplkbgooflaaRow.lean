/-
  append of entries onto a row of entries, or onto one without room.
-/
import Derived.Test.YtkjfplkbgooflaaLog2
import Derived.Test.YtkjfplkbgooflaaApp
namespace Go.Proofs.Ytkjfplkbgooflaa
open Go Go.RowKit Go.Lst Go.Lx

theorem infoEntry : (Try.prog.info? 31).map (fun i => (i.zero, i.size, i.bytes)) = some (some (.agg #[.int .u64 0, .int .u64 0, .int .u8 0, .string ⟨#[]⟩, .slice none 0 0]), 5, 64) := by kernel_rfl
theorem Row.loud {B B0 : Nat} {w : World} {v : Value} {es : List Ent} (h : Row B B0 w v es) (hB : B ≤ B0) {g : Nat} (hg : v.ownBlock = some g) : ¬ Calm B w g := by
  obtain ⟨cvs, hl, hown, hc⟩ := h
  rcases hown.2 with ⟨rfl, _⟩ | ⟨g', cap, cur, rfl, hB', hh, r⟩
  · cases hg
  · cases hg
    rintro (hlt | ⟨cs, fr, e⟩)
    · dsimp only at hlt; omega
    · dsimp only at e
      rw [hh] at e
      injection e with e
      injection e with _ e2 _
      exact absurd e2 (by decide)
theorem Row.grown {B B0 : Nat} {w w' : World} {v : Value} {es : List Ent} (h : Row B B0 w v es) (hB : B ≤ B0) (hg : w.grownBy w' v.ownBlock) : Calms B w w' :=
  ⟨hg.size, fun g hlt hc => hg.block g hlt (fun e => h.loud hB e.symm hc)⟩
theorem rowC_appendL : ∀ (es : List Ent) (cvs : List Value) (fs : List Ent) (dvs : List Value), cvs.length = es.length → rowC (es ++ fs) (cvs ++ dvs) = rowC es cvs ++ rowC fs dvs
  | [], [], fs, dvs, _ => by simp [rowC]
  | x :: es, y :: cvs, fs, dvs, h => by
    have := rowC_appendL es cvs fs dvs (by simpa using h)
    simp [rowC, this]
  | [], _ :: _, _, _, h => by simp at h
  | _ :: _, [], _, _, h => by simp at h
theorem rowC_cell : ∀ (es : List Ent) (cvs : List Value), (∀ cv ∈ cvs, ∃ p n c, cv = .slice p n c) → ∀ u ∈ rowC es cvs, u.oneCell' = true
  | [], _, _, u, hu => by simp [rowC] at hu
  | _ :: _, [], _, u, hu => by simp [rowC] at hu
  | e :: es, cv :: cvs, h, u, hu => by
    obtain ⟨p, n, c, rfl⟩ := h cv (by simp)
    simp only [rowC, entC, List.mem_append, List.mem_cons, List.not_mem_nil, or_false] at hu
    rcases hu with (rfl | rfl | rfl | rfl | rfl) | hu
    · rfl
    · rfl
    · rfl
    · rfl
    · rfl
    · exact rowC_cell es cvs (fun x hx => h x (by simp [hx])) u hu
theorem Ents.row {B : Nat} {w : World} {a : Addr} {n c : Nat} {es : List Ent} (h : Ents B w (.slice (some a) n c) es) :
    ∃ cvs : List Value, cvs.length = es.length ∧ (∀ j u, (rowC es cvs)[j]? = some u → w.cell? (a.add j) = some u) ∧ ∀ j (h : j < es.length) (h' : j < cvs.length), Cf B w cvs[j] es[j].c := by
  obtain ⟨p, c', e, h1, h2, h3⟩ := h
  injection e with e1 e2 e3
  subst e1 e3
  have h4 : ∀ j : Fin es.length, ∃ cv, (∀ m, m < 5 → w.cell? (a.add (j.1 * 5 + m)) = (entC es[j.1] cv)[m]?) ∧ Cf B w cv es[j.1].c := fun j => by
    obtain ⟨a', cv, e, g1, g2⟩ := h3 j.1 j.2
    cases e
    exact ⟨cv, g1, g2⟩
  refine ⟨List.ofFn fun j => Classical.choose (h4 j), by simp, fun j u hu => ?_, fun j hj hj' => ?_⟩
  · have hj : j < (rowC es (List.ofFn fun j => Classical.choose (h4 j))).length := (List.getElem?_eq_some_iff.1 hu).1
    rw [rowC_length _ _ (by simp)] at hj
    have e := rowC_at es (List.ofFn fun j => Classical.choose (h4 j)) (by simp) (j / 5) (by omega) (j % 5) (by omega)
    rw [show j / 5 * 5 + j % 5 = j by omega, hu] at e
    have e2 := (Classical.choose_spec (h4 ⟨j / 5, by omega⟩)).1 (j % 5) (by omega)
    rw [show (j / 5) * 5 + j % 5 = j by omega] at e2
    rw [e2]
    simpa using e.symm
  · simpa using (Classical.choose_spec (h4 ⟨j, hj⟩)).2
theorem cf_slices {B : Nat} {w : World} {es : List Ent} {cvs : List Value} (hl : cvs.length = es.length) (hc : ∀ j (h : j < es.length) (h' : j < cvs.length), Cf B w cvs[j] es[j].c) : ∀ cv ∈ cvs, ∃ p n c, cv = .slice p n c := fun cv hcv => by
  obtain ⟨j, hj, rfl⟩ := List.getElem_of_mem hcv
  obtain ⟨p, c, e, _⟩ := (hc j (by omega) hj).n.parts
  exact ⟨_, _, _, e⟩
theorem cfs_append {B : Nat} {w w' : World} {es fs : List Ent} {cvs dvs : List Value} (hl : cvs.length = es.length) (hl' : dvs.length = fs.length) (hk : Calms B w w') (hc : ∀ j (h : j < es.length) (h' : j < cvs.length), Cf B w cvs[j] es[j].c) (hd : ∀ j (h : j < fs.length) (h' : j < dvs.length), Cf B w dvs[j] fs[j].c) :
    ∀ j (h : j < (es ++ fs).length) (h' : j < (cvs ++ dvs).length), Cf B w' (cvs ++ dvs)[j] (es ++ fs)[j].c := fun j h1 h2 => by
  by_cases hj : j < es.length
  · have e1 : (cvs ++ dvs)[j] = cvs[j]'(by omega) := List.getElem_append_left (by omega)
    have e2 : (es ++ fs)[j] = es[j] := List.getElem_append_left hj
    rw [e1, e2]
    exact (hc j hj (by omega)).keep hk
  · have e1 : (cvs ++ dvs)[j] = dvs[j - cvs.length]'(by simp at h2; omega) := List.getElem_append_right (by omega)
    have e2 : (es ++ fs)[j] = fs[j - es.length]'(by simp at h1; omega) := List.getElem_append_right (by omega)
    simp only [e1, e2, hl]
    exact (hd (j - es.length) (by simp at h1; omega) (by simp at h2; omega)).keep hk
theorem row_append {B B0 : Nat} {w : World} {v : Value} {es : List Ent} (h : Row B B0 w v es) (hB : B ≤ B0) (hB0 : B0 ≤ w.heap.size) (ty : TypeId) (ad : Addr) (c : Nat) (fs : List Ent) (hx : Ents B w (.slice (some ad) fs.length c) fs) (hn : (es.length + fs.length) * 64 ≤ 140737488355328) :
    ∃ v' w', (Builtin.append_ #[33, 33] ty #[v, .slice (some ad) fs.length c]).run Try.prog w = .ok v' w' ∧ Row B B0 w' v' (es ++ fs) ∧ w.grownBy w' v.ownBlock ∧ Calms B w w' ∧ (v'.ownBlock = v.ownBlock ∨ v'.ownBlock = some w.heap.size) ∧ Below B0 w w' := by
  obtain ⟨i0, hi, hz0, hz1, hz2⟩ := info_parts infoEntry
  obtain ⟨dvs, hdl, hdc, hdd⟩ := hx.row
  have hcalm := fun w' (hg : w.grownBy w' v.ownBlock) => h.grown hB hg
  obtain ⟨cvs, hl, hown, hc⟩ := h
  obtain ⟨v', w', hr, h2, h3, -, h5⟩ := run_append_own_at (P := Try.prog) w B0 33 ty 31 i0 _ 5 64 Try.underlying33 hi hz0 hz1 hz2 rfl (by decide) v es.length (rowC es cvs) hown ad fs.length c (rowC fs dvs) (rowC_length _ _ hdl) hdc
    (rowC_cell _ _ (cf_slices hdl hdd)) (by unfold maxLen; omega) hn hB0
  refine ⟨v', w', hr, ⟨cvs ++ dvs, by simp [hl, hdl], ?_, cfs_append hl hdl (hcalm w' h3) hc hdd⟩, h3, hcalm w' h3, h5, (Below.refl B0 w).grown h3 hB0 (fun k hk => (own_block hown hk).1)⟩
  rw [rowC_appendL es cvs fs dvs hl, List.length_append]; exact h2
theorem rw_append {B B0 : Nat} {w : World} {v : Value} {es : List Ent} (h : Rw B B0 w v es) (hB : B ≤ B0) (hB0 : B0 ≤ w.heap.size) (ty : TypeId) (ad : Addr) (c : Nat) (fs : List Ent) (hx : Ents B w (.slice (some ad) fs.length c) fs) (h0 : 0 < fs.length) (hn : (es.length + fs.length) * 64 ≤ 140737488355328) :
    ∃ v' w', (Builtin.append_ #[33, 33] ty #[v, .slice (some ad) fs.length c]).run Try.prog w = .ok v' w' ∧ Row B B0 w' v' (es ++ fs) ∧ w.grownBy w' v.ownBlock ∧ Calms B w w' ∧ (v'.ownBlock = v.ownBlock ∨ v'.ownBlock = some w.heap.size) ∧ Below B0 w w' := by
  obtain ⟨i0, hi, hz0, hz1, hz2⟩ := info_parts infoEntry
  obtain ⟨dvs, hdl, hdc, hdd⟩ := hx.row
  have rowed : ∀ {v}, Row B B0 w v es → _ := fun {v} h => row_append (v := v) h hB hB0 ty ad c fs hx hn
  rcases h with h | ⟨⟨p, rfl⟩, he, hlt⟩
  · exact rowed h
  · cases p with
    | none =>
      have e0 : es = [] := by
        obtain ⟨p, c', e, h1, h2, h3⟩ := he
        cases es with
        | nil => rfl
        | cons x xs => obtain ⟨a, _, e2, _⟩ := h3 0 (by simp); subst e2; cases e
      subst e0
      exact rowed (Row.nil B B0 w)
    | some b =>
      obtain ⟨cvs, hcl, hcc, hcd⟩ := he.row
      have hr := run_append_grow (P := Try.prog) w 33 ty 31 i0 _ Try.underlying33 hi hz0 b es.length es.length (rowC es cvs) (by rw [hz1]; exact rowC_length _ _ hcl) hcc ad fs.length c (rowC fs dvs) (by rw [hz1]; exact rowC_length _ _ hdl) hdc (by omega) (by omega) (by rw [hz2]; exact growslice_fits (by omega) (by omega))
      have hge := grownCap_ge w (es.length + fs.length) es.length 31
      have hcm : grownCap w (es.length + fs.length) es.length 31 ≤ maxLen := grownCap_le_maxLen w (es.length + fs.length) es.length 31 (by unfold maxLen; omega)
      generalize grownCap w (es.length + fs.length) es.length 31 = G at *
      have hbl : Below w.heap.size w (w.drew.alloc (.cells ((rowC es cvs).toArray ++ (rowC fs dvs).toArray ++ Builtin.zeroCells (Value.agg #[.int .u64 0, .int .u64 0, .int .u8 0, .string ⟨#[]⟩, .slice none 0 0]).cells (G - (es.length + fs.length))) 31)) := (Below.refl w.heap.size w).drew.alloc (Nat.le_refl _) _
      refine ⟨_, _, hr, ⟨cvs ++ dvs, by simp [hcl, hdl], ?_, cfs_append hcl hdl (Calms.below hbl) hcd hdd⟩, ⟨hbl.os, hbl.tape, hbl.output, hbl.size, fun k hk _ => hbl.block k hk⟩, Calms.below hbl, .inr rfl, (Below.refl B0 w).drew.alloc hB0 _⟩
      rw [rowC_appendL es cvs fs dvs hcl, List.length_append]
      have l1 := rowC_length es cvs hcl
      have l2 := rowC_length fs dvs hdl
      refine ⟨by rw [List.length_append, l1, l2]; omega, .inr ⟨w.heap.size, _, _, rfl, hB0, heap_alloc_new w.drew _, hge, hcm, ?_, ?_⟩⟩
      · simp only [Array.size_append, List.size_toArray, size_zeroCells, l1, l2, Value.cells]
        simp
        omega
      · simp only [Array.toList_append]
        have e1 : (es.length + fs.length) * 5 = (rowC es cvs ++ rowC fs dvs).length := by rw [List.length_append, l1, l2]; omega
        rw [e1]
        exact List.take_left
/-- One entry, by its cells. -/
theorem ents_one {B : Nat} {w : World} (ad : Addr) (c : Nat) (e : Ent) (cv : Value) (hc : 1 ≤ c) (hm : c ≤ maxLen) (hcells : ∀ j u, (entC e cv)[j]? = some u → w.cell? (ad.add j) = some u) (hcf : Cf B w cv e.c) : Ents B w (.slice (some ad) 1 c) [e] := by
  refine ⟨some ad, c, rfl, hc, hm, fun j hj => ?_⟩
  have : j = 0 := by simp at hj; omega
  subst this
  refine ⟨ad, cv, rfl, fun m hm => ?_, hcf⟩
  have hl : m < (entC e cv).length := by simpa [entC] using hm
  rw [show 0 * 5 + m = m by omega, hcells m _ (List.getElem?_eq_getElem hl)]
  show _ = (entC e cv)[m]?
  rw [List.getElem?_eq_getElem hl]
theorem heap_put {w : World} {b : Nat} {cs : List Value} {T : TypeId} (h1 : w.heap[b]? = some (.cells cs.toArray T (0, 0))) (i : Nat) (v : Value) : (w.setCell ⟨b, i, none⟩ v).heap[b]? = some (.cells (cs.set i v).toArray T (0, 0)) := by
  have hlt := heap_lt' h1
  have h' : w.heap[b] = .cells cs.toArray T (0, 0) := by simpa [Array.getElem?_eq_getElem hlt] using h1
  show (w.heap.modify b _)[b]? = _
  rw [Array.getElem?_eq_getElem (by simpa using hlt), Array.getElem_modify_self, h']
  simp
theorem LogAt.loud {B B0 : Nat} {w : World} {b : Nat} {cv lv : Value} {L : LogS} (h : LogAt B B0 w b cv lv L) : ¬ Calm B w b := by
  rintro (hlt | ⟨cs, fr, e⟩)
  · have := h.lo; omega
  · rw [h.blk] at e
    injection e with e
    injection e with _ e2 _
    exact absurd e2 (by decide)
theorem Calms.set {B : Nat} {w : World} {b i : Nat} (h : ¬ Calm B w b) (v : Value) : Calms B w (w.setCell ⟨b, i, none⟩ v) :=
  ⟨by simp, fun g _ hc => Below.heap_setCell _ _ _ _ (fun e => h (by cases e; exact hc))⟩
/-- A log's entries are put anew. -/
theorem LogAt.put {B B0 : Nat} {W w' : World} {b : Nat} {cv lv v : Value} {L : LogS} {l' : List Ent} (h : LogAt B B0 W b cv lv L) (hs : Stays (fun k => lv.ownBlock = some k) W w') (hc : Calms B W w') (hr : Rw B B0 w' v l') (hv : ∀ k, v.ownBlock = some k → lv.ownBlock = some k ∨ W.heap.size ≤ k) (hl : l'.length ≤ 4096) :
    LogAt B B0 (w'.setCell ⟨b, 3, none⟩ v) b cv v { L with l := l' } := by
  have hb : w'.heap[b]? = W.heap[b]? := hs.block b h.lt h.nb
  have hn : ¬ Calm B w' b := fun hc' => h.loud (hc'.keep hb.symm)
  have nb : ∀ k, v.ownBlock = some k → k ≠ b := fun k hk => by
    rcases hv k hk with h1 | h1
    · rintro rfl; exact h.nb h1
    · have := h.lt; omega
  have hbk : w'.heap[b]? = some (.cells [.int .u64 L.i, .int .u64 L.t, cv, lv].toArray 70 (0, 0)) := hb.trans h.blk
  exact ⟨heap_put hbk 3 v, (h.cf.keep hc).keep (Calms.set hn v), hr.keep (Calms.set hn v) (fun g hg => Below.heap_setCell _ _ _ _ (nb g hg)), fun e => nb b e rfl, h.lo, hl, h.nn⟩
/-- Worlds in which nothing but a log's entries was written. -/
def OnlyRow (lv : Value) (W w' : World) : Prop := Stays (fun k => lv.ownBlock = some k) W w'
theorem OnlyRow.cell {lv : Value} {W w' : World} (h : OnlyRow lv W w') {a : Addr} {v : Value} (hc : W.cell? a = some v) (hn : lv.ownBlock ≠ some a.block) : w'.cell? a = some v := by
  have hlt : a.block < W.heap.size := by
    rcases Nat.lt_or_ge a.block W.heap.size with h' | h'
    · exact h'
    · simp [World.cell?, Array.getElem?_eq_none h'] at hc
  rw [cell_same (h.block a.block hlt hn), hc]
theorem OnlyRow.refl (lv : Value) (W : World) : OnlyRow lv W W := Stays.of_below (Below.refl _ _)
theorem OnlyRow.drew (lv : Value) (W : World) : OnlyRow lv W W.drew := Stays.of_below ((Below.refl _ _).drew)
theorem OnlyRow.step {lv : Value} {W w1 w2 : World} (h : OnlyRow lv W w1) (hb : Below w1.heap.size w1 w2) : OnlyRow lv W w2 := h.trans (Stays.of_below (O := fun _ => False) hb) (fun i _ hf => hf.elim)
theorem blk_cells {w : World} {b : Nat} {cs : List Value} (h : Blk w b cs) : ∀ j u, cs[j]? = some u → w.cell? ((⟨b, 0, none⟩ : Addr).add j) = some u := fun j u hu => by
  have e : (⟨b, 0, none⟩ : Addr).add j = ⟨b, j, none⟩ := by unfold Addr.add; split <;> simp_all
  rw [e]
  exact h.cell j hu
theorem Row.mono {B B0 B1 : Nat} {w : World} {v : Value} {es : List Ent} (h : Row B B0 w v es) (hb : B1 ≤ B0) : Row B B1 w v es := by
  obtain ⟨cvs, hl, hown, hc⟩ := h
  exact ⟨cvs, hl, own_mono hown hb, hc⟩
theorem Rw.mono {B B0 B1 : Nat} {w : World} {v : Value} {es : List Ent} (h : Rw B B0 w v es) (hb : B1 ≤ B0) : Rw B B1 w v es := h.imp (fun h => h.mono hb) id
theorem Row.block {B B0 : Nat} {w : World} {v : Value} {es : List Ent} (h : Row B B0 w v es) {k : Nat} (hk : v.ownBlock = some k) : B0 ≤ k ∧ k < w.heap.size := by
  obtain ⟨cvs, hl, hown, hc⟩ := h
  exact own_block hown hk
theorem wpList_append_rw {ops : Array Oper} {rest : List Oper} {o : Oper} {a : Act} {w : World} {Q : Exit → Act → World → Prop} (hgd : o.guard = none) (s x : Operand)
    (ho : o.op = .call { callee := .builtin .append, args := #[s, x], argTypes := #[33, 33] }) {B B0 : Nat} {v : Value} {es : List Ent} (hs : a.eval s = v) (h : Rw B B0 w v es) (hB : B ≤ B0) (hB0 : B0 ≤ w.heap.size) (ad : Addr) (c : Nat) (fs : List Ent) (hxv : a.eval x = .slice (some ad) fs.length c)
    (hx : Ents B w (.slice (some ad) fs.length c) fs) (h0 : 0 < fs.length) (hn : (es.length + fs.length) * 64 ≤ 140737488355328)
    (hk : ∀ v' w', Row B B0 w' v' (es ++ fs) → w.grownBy w' v.ownBlock → Calms B w w' → (v'.ownBlock = v.ownBlock ∨ v'.ownBlock = some w.heap.size) → Below B0 w w' → wpList Try.prog ops Q rest (a.put o.dst v') w') : wpList Try.prog ops Q (o :: rest) a w := by
  obtain ⟨v', w', hr, h1, h2, h3, h4, h5⟩ := rw_append h hB hB0 o.type ad c fs hx h0 hn
  refine wpList_plain hgd fun K hK => ?_
  have h6 := run_append_op ho hs hxv hr
  unfold Oper.wp
  rw [h6]
  exact hK _ _ (hk v' w' h1 h2 h3 h4 h5)
end Go.Proofs.Ytkjfplkbgooflaa
