/-
  A row of entries that the call owns, which may begin anywhere in its block; append onto it.
-/
import Derived.Test.YtkjfplkbgooflaaAppend2
namespace Go.Proofs.Ytkjfplkbgooflaa
open Go Go.RowKit Go.Lst Go.Lx

theorem run_append_room_off {P : Program} (w : World) (t ty e : TypeId) (i : TypeInfo) (ht : P.underlying t = some (.slice e)) (hi : P.info? e = some i)
    (g off sLen sCap : Nat) (cur : Array Value) (hg : w.heap[g]? = some (.cells cur e (0, 0)))
    (a : Addr) (m c : Nat) (news : List Value) (hl : news.length = m * i.size) (hnews : ∀ j u, news[j]? = some u → w.cell? (a.add j) = some u) (h1 : ∀ u ∈ news, u.oneCell' = true)
    (hroom : sLen + m ≤ sCap) (hfit : off + sLen * i.size + news.length ≤ cur.size) :
    (Builtin.append_ #[t, t] ty #[.slice (some ⟨g, off, none⟩) sLen sCap, .slice (some a) m c]).run P w =
      .ok (.slice (some ⟨g, off, none⟩) (sLen + m) sCap) (w.setRow g (cur.toList.take (off + sLen * i.size) ++ news ++ cur.toList.drop (off + sLen * i.size + news.length)).toArray) := by
  have hf := run_firstCells_some (P := P) w i.size m a m c news hl hnews
  have hst := run_storeCells_at P g (off + sLen * i.size) e news 0 cur w hg (by simpa using hfit) h1
  simp only [Nat.add_zero] at hst
  simp [Builtin.append_, run_underlying ht, sizeOf, typeInfo, hi, Builtin.lenOf, hroom, hf, Addr.add_lit, hst]
def RowO (B B0 : Nat) (w : World) (v : Value) (es : List Ent) : Prop :=
  Ents B w v es ∧ (v = .slice none 0 0 ∧ es = [] ∨ ∃ g off cap cur, v = .slice (some ⟨g, off, none⟩) es.length cap ∧ B0 ≤ g ∧ w.heap[g]? = some (.cells cur 31 (0, 0)) ∧ off + cap * 5 ≤ cur.size)
theorem RowO.ents {B B0 : Nat} {w : World} {v : Value} {es : List Ent} (h : RowO B B0 w v es) : Ents B w v es := h.1
theorem RowO.nil (B B0 : Nat) (w : World) : RowO B B0 w (.slice none 0 0) [] := ⟨(Row.nil B B0 w).ents, .inl ⟨rfl, rfl⟩⟩
theorem Row.toO {B B0 : Nat} {w : World} {v : Value} {es : List Ent} (h : Row B B0 w v es) : RowO B B0 w v es := by
  refine ⟨h.ents, ?_⟩
  obtain ⟨cvs, hl, hown, hc⟩ := h
  rcases hown.2 with ⟨rfl, h0⟩ | ⟨g, cap, cur, rfl, hB, hh, hn, hm, hsz, htk⟩
  · exact .inl ⟨rfl, List.eq_nil_of_length_eq_zero h0⟩
  · exact .inr ⟨g, 0, cap, cur, rfl, hB, hh, by omega⟩
theorem RowO.block {B B0 : Nat} {w : World} {v : Value} {es : List Ent} (h : RowO B B0 w v es) {k : Nat} (hk : v.ownBlock = some k) : B0 ≤ k ∧ k < w.heap.size := by
  rcases h.2 with ⟨rfl, _⟩ | ⟨g, off, cap, cur, rfl, hB, hh, _⟩
  · cases hk
  · cases hk
    exact ⟨hB, heap_lt' hh⟩
theorem RowO.keep {B B0 : Nat} {w w' : World} {v : Value} {es : List Ent} (h : RowO B B0 w v es) (hk : Calms B w w') (ho : ∀ g, v.ownBlock = some g → w'.heap[g]? = w.heap[g]?) : RowO B B0 w' v es := by
  refine ⟨h.1.keep hk ho, ?_⟩
  rcases h.2 with h2 | ⟨g, off, cap, cur, rfl, hB, hh, h3⟩
  · exact .inl h2
  · exact .inr ⟨g, off, cap, cur, rfl, hB, (ho g rfl).trans hh, h3⟩
theorem RowO.below {B B0 : Nat} {w w' : World} {v : Value} {es : List Ent} (h : RowO B B0 w v es) (hb : Below w.heap.size w w') : RowO B B0 w' v es :=
  h.keep (Calms.below hb) fun g hg => hb.block g (h.block hg).2
theorem RowO.loud {B B0 : Nat} {w : World} {v : Value} {es : List Ent} (h : RowO B B0 w v es) (hB : B ≤ B0) {g : Nat} (hg : v.ownBlock = some g) : ¬ Calm B w g := by
  rcases h.2 with ⟨rfl, _⟩ | ⟨g', off, cap, cur, rfl, hB', hh, _⟩
  · cases hg
  · cases hg
    rintro (hlt | ⟨cs, fr, e⟩)
    · dsimp only at hlt; omega
    · dsimp only at e
      rw [hh] at e
      injection e with e
      injection e with _ e2 _
      exact absurd e2 (by decide)
theorem RowO.grown {B B0 : Nat} {w w' : World} {v : Value} {es : List Ent} (h : RowO B B0 w v es) (hB : B ≤ B0) (hg : w.grownBy w' v.ownBlock) : Calms B w w' :=
  ⟨hg.size, fun g hlt hc => hg.block g hlt (fun e => h.loud hB e.symm hc)⟩
/-- What lies behind an index is a row too. -/
theorem RowO.drop {B B0 : Nat} {w : World} {g off n cap : Nat} {es : List Ent} (h : RowO B B0 w (.slice (some ⟨g, off, none⟩) n cap) es) (k : Nat) (hk : k ≤ n) : RowO B B0 w (.slice (some ((⟨g, off, none⟩ : Addr).add (k * 5))) (n - k) (cap - k)) (es.drop k) := by
  obtain ⟨⟨p, c, e, h1, h2, h3⟩, h4⟩ := h
  injection e with e1 e2 e3
  subst e1 e2 e3
  have hl : (es.drop k).length = es.length - k := by simp
  rcases h4 with ⟨h4, _⟩ | ⟨g', off', cap', cur, e, hB, hh, hs⟩
  · cases h4
  injection e with e1 e2 e3
  injection e1 with e1
  injection e1 with e4 e5 e6
  subst e4 e5 e3
  refine ⟨⟨_, cap - k, by rw [hl], by rw [hl]; omega, by omega, fun j hj => ?_⟩, .inr ⟨g, off + k * 5, cap - k, cur, by rw [hl, Addr.add_lit], hB, hh, ?_⟩⟩
  · obtain ⟨a, cv, ha, h5, h6⟩ := h3 (k + j) (by omega)
    cases ha
    refine ⟨_, cv, rfl, fun m hm => ?_, by rw [List.getElem_drop]; exact h6⟩
    rw [List.getElem_drop, ← h5 m hm, Lst.add_add]
    congr 2
    omega
  · have : cap - k + k = cap := by omega
    have h7 : cap * 5 = (cap - k) * 5 + k * 5 := by rw [← Nat.add_mul, this]
    omega
theorem RowO.append {B B0 : Nat} {w : World} {v : Value} {es : List Ent} (h : RowO B B0 w v es) (hB : B ≤ B0) (hB0 : B0 ≤ w.heap.size) (ty : TypeId) (ad : Addr) (c : Nat) (fs : List Ent) (hx : Ents B w (.slice (some ad) fs.length c) fs) (h0 : 0 < fs.length) (hn : (es.length + fs.length) * 64 ≤ 140737488355328) :
    ∃ v' w', (Builtin.append_ #[33, 33] ty #[v, .slice (some ad) fs.length c]).run Try.prog w = .ok v' w' ∧ RowO B B0 w' v' (es ++ fs) ∧ w.grownBy w' v.ownBlock ∧ Calms B w w' ∧ (v'.ownBlock = v.ownBlock ∨ v'.ownBlock = some w.heap.size) ∧ Below B0 w w' := by
  obtain ⟨i0, hi, hz0, hz1, hz2⟩ := info_parts infoEntry
  obtain ⟨dvs, hdl, hdc, hdd⟩ := hx.row
  have hcalm := fun w' (hg : w.grownBy w' v.ownBlock) => h.grown hB hg
  have hbl := h
  rcases h.2 with ⟨rfl, rfl⟩ | ⟨g, off, cap, cur, rfl, hBg, hh, hfit⟩
  · obtain ⟨v', w', hr, h1, h2, h3, h4, h5⟩ := row_append (Row.nil B B0 w) hB hB0 ty ad c fs hx hn
    exact ⟨v', w', hr, h1.toO, h2, h3, h4, h5⟩
  · obtain ⟨cvs, hcl, hcc, hcd⟩ := h.1.row
    have l1 := rowC_length es cvs hcl
    have l2 := rowC_length fs dvs hdl
    have hcapm : es.length ≤ cap ∧ cap ≤ maxLen := by
      obtain ⟨p, c', e, h1, h2, _⟩ := h.1
      injection e with e1 e2 e3
      subst e3
      exact ⟨h1, h2⟩
    by_cases hroom : es.length + fs.length ≤ cap
    · have hsz : off + es.length * i0.size + (rowC fs dvs).length ≤ cur.size := by rw [hz1, l2]; omega
      have hr := run_append_room_off (P := Try.prog) w 33 ty 31 i0 Try.underlying33 hi g off es.length cap cur hh ad fs.length c (rowC fs dvs) (by rw [hz1]; exact l2) hdc (rowC_cell _ _ (cf_slices hdl hdd)) hroom hsz
      rw [hz1, l2] at hr
      have hg : w.grownBy (w.setRow g (cur.toList.take (off + es.length * 5) ++ rowC fs dvs ++ cur.toList.drop (off + es.length * 5 + fs.length * 5)).toArray) (some g) :=
        ⟨rfl, rfl, rfl, by simp, fun k _ hk => setRow_other w g k _ (fun e => hk (by simp [e]))⟩
      have hcm := hcalm _ hg
      have hhn := setRow_heap w g cur (cur.toList.take (off + es.length * 5) ++ rowC fs dvs ++ cur.toList.drop (off + es.length * 5 + fs.length * 5)).toArray 31 (0, 0) hh
      have hcfs := cfs_append hcl hdl hcm hcd hdd
      have hszc : off + es.length * 5 ≤ cur.toList.length := by have : cur.toList.length = cur.size := Array.length_toList; omega
      refine ⟨_, _, hr, ⟨⟨_, cap, by rw [List.length_append], by rw [List.length_append]; exact hroom, hcapm.2, fun j hj => ⟨_, (cvs ++ dvs)[j]'(by rw [List.length_append] at hj ⊢; omega), rfl, fun m hm => ?_, hcfs j hj (by rw [List.length_append] at hj ⊢; omega)⟩⟩, .inr ⟨g, off, cap, _, by rw [List.length_append], hBg, hhn, ?_⟩⟩, hg, hcm, .inl rfl, (Below.refl B0 w).grown hg hB0 (fun k hk => by cases hk; exact hBg)⟩
      · have hcell := rowC_at (es ++ fs) (cvs ++ dvs) (by simp [hcl, hdl]) j hj m hm
        rw [← hcell, Addr.add_lit, cell_setRow_same w g _ cur _ _ _ hh, rowC_appendL es cvs fs dvs hcl]
        rw [List.length_append] at hj
        rw [List.getElem?_toArray, List.append_assoc]
        by_cases hjj : j < es.length
        · rw [List.getElem?_append_left (by rw [List.length_take]; omega), List.getElem?_append_left (by omega), List.getElem?_take, if_pos (by omega), Array.getElem?_toList]
          obtain ⟨u, hu⟩ : ∃ u, (rowC es cvs)[j * 5 + m]? = some u := ⟨_, List.getElem?_eq_getElem (by omega)⟩
          have h8 := hcc _ u hu
          rw [Addr.add_lit] at h8
          rw [hu, ← h8]
          simp [World.cell?, hh]
        · rw [List.getElem?_append_right (by rw [List.length_take, Nat.min_eq_left hszc]; omega), List.length_take, Nat.min_eq_left hszc, show off + (j * 5 + m) - (off + es.length * 5) = j * 5 + m - es.length * 5 by omega, List.getElem?_append_left (by rw [l2]; omega), List.getElem?_append_right (by rw [l1]; omega), l1]
      · simp only [List.size_toArray, List.length_append, List.length_take, List.length_drop, Array.length_toList, l2]
        omega
    · have hr := run_append_grow (P := Try.prog) w 33 ty 31 i0 _ Try.underlying33 hi hz0 ⟨g, off, none⟩ es.length cap (rowC es cvs) (by rw [hz1]; exact l1) hcc ad fs.length c (rowC fs dvs) (by rw [hz1]; exact l2) hdc (by omega) (by omega) (by rw [hz2]; exact growslice_fits (by omega) (by omega))
      have hge := grownCap_ge w (es.length + fs.length) cap 31
      have hcm : grownCap w (es.length + fs.length) cap 31 ≤ maxLen := grownCap_le_maxLen w (es.length + fs.length) cap 31 (by unfold maxLen; omega)
      generalize grownCap w (es.length + fs.length) cap 31 = G at *
      have hbl : Below w.heap.size w (w.drew.alloc (.cells ((rowC es cvs).toArray ++ (rowC fs dvs).toArray ++ Builtin.zeroCells (Value.agg #[.int .u64 0, .int .u64 0, .int .u8 0, .string ⟨#[]⟩, .slice none 0 0]).cells (G - (es.length + fs.length))) 31)) := (Below.refl w.heap.size w).drew.alloc (Nat.le_refl _) _
      refine ⟨_, _, hr, Row.toO ⟨cvs ++ dvs, by simp [hcl, hdl], ?_, cfs_append hcl hdl (Calms.below hbl) hcd hdd⟩, ⟨hbl.os, hbl.tape, hbl.output, hbl.size, fun k hk _ => hbl.block k hk⟩, Calms.below hbl, .inr rfl, (Below.refl B0 w).drew.alloc hB0 _⟩
      rw [rowC_appendL es cvs fs dvs hcl, List.length_append]
      refine ⟨by rw [List.length_append, l1, l2]; omega, .inr ⟨w.heap.size, _, _, rfl, hB0, heap_alloc_new w.drew _, hge, hcm, ?_, ?_⟩⟩
      · simp only [Array.size_append, List.size_toArray, size_zeroCells, l1, l2, Value.cells]
        simp
        omega
      · simp only [Array.toList_append]
        have e1 : (es.length + fs.length) * 5 = (rowC es cvs ++ rowC fs dvs).length := by rw [List.length_append, l1, l2]; omega
        rw [e1]
        exact List.take_left
theorem wpList_append_o {ops : Array Oper} {rest : List Oper} {o : Oper} {a : Act} {w : World} {Q : Exit → Act → World → Prop} (hgd : o.guard = none) (s x : Operand)
    (ho : o.op = .call { callee := .builtin .append, args := #[s, x], argTypes := #[33, 33] }) {B B0 : Nat} {v : Value} {es : List Ent} (hs : a.eval s = v) (h : RowO B B0 w v es) (hB : B ≤ B0) (hB0 : B0 ≤ w.heap.size) (ad : Addr) (c : Nat) (fs : List Ent) (hxv : a.eval x = .slice (some ad) fs.length c)
    (hx : Ents B w (.slice (some ad) fs.length c) fs) (h0 : 0 < fs.length) (hn : (es.length + fs.length) * 64 ≤ 140737488355328)
    (hk : ∀ v' w', RowO B B0 w' v' (es ++ fs) → w.grownBy w' v.ownBlock → Calms B w w' → (v'.ownBlock = v.ownBlock ∨ v'.ownBlock = some w.heap.size) → Below B0 w w' → wpList Try.prog ops Q rest (a.put o.dst v') w') : wpList Try.prog ops Q (o :: rest) a w := by
  obtain ⟨v', w', hr, h1, h2, h3, h4, h5⟩ := h.append hB hB0 o.type ad c fs hx h0 hn
  refine wpList_plain hgd fun K hK => ?_
  have h6 := run_append_op ho hs hxv hr
  unfold Oper.wp
  rw [h6]
  exact hK _ _ (hk v' w' h1 h2 h3 h4 h5)
/-- Block b is the reference's log. -/
structure RefAt (B B0 : Nat) (w : World) (b : Nat) (cv lv : Value) (L : LogS) : Prop where
  blk : w.heap[b]? = some (.cells #[.int .u64 L.i, .int .u64 L.t, cv, lv] 76 (0, 0))
  cf : Cf B w cv L.c
  row : RowO B B0 w lv L.l
  nb : lv.ownBlock ≠ some b
  lo : B ≤ B0 ∧ B0 ≤ b
  sz : L.l.length ≤ 4096
theorem RefAt.lt {B B0 : Nat} {w : World} {b : Nat} {cv lv : Value} {L : LogS} (h : RefAt B B0 w b cv lv L) : b < w.heap.size := heap_lt' h.blk
theorem RefAt.below {B B0 : Nat} {w w' : World} {b : Nat} {cv lv : Value} {L : LogS} (h : RefAt B B0 w b cv lv L) (hb : Below w.heap.size w w') : RefAt B B0 w' b cv lv L :=
  ⟨(hb.block b h.lt).trans h.blk, h.cf.keep (Calms.below hb), h.row.below hb, h.nb, h.lo, h.sz⟩
theorem RefAt.keep {B B0 : Nat} {w w' : World} {b : Nat} {cv lv : Value} {L : LogS} (h : RefAt B B0 w b cv lv L) (hb : w'.heap[b]? = w.heap[b]?) (hc : Calms B w w') (hl : ∀ k, lv.ownBlock = some k → w'.heap[k]? = w.heap[k]?) : RefAt B B0 w' b cv lv L :=
  ⟨hb.trans h.blk, h.cf.keep hc, h.row.keep hc hl, h.nb, h.lo, h.sz⟩
theorem RefAt.isBlk {B B0 : Nat} {w : World} {b : Nat} {cv lv : Value} {L : LogS} (h : RefAt B B0 w b cv lv L) : Blk w b [.int .u64 L.i, .int .u64 L.t, cv, lv] := ⟨_, h.blk⟩
theorem RefAt.loud {B B0 : Nat} {w : World} {b : Nat} {cv lv : Value} {L : LogS} (h : RefAt B B0 w b cv lv L) : ¬ Calm B w b := by
  rintro (hlt | ⟨cs, fr, e⟩)
  · have := h.lo; omega
  · rw [h.blk] at e
    injection e with e
    injection e with _ e2 _
    exact absurd e2 (by decide)
end Go.Proofs.Ytkjfplkbgooflaa
