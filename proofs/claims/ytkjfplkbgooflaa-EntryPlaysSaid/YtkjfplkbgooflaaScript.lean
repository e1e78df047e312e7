/-
  What a script, and entries, that came in read as; how great their slices are.
-/
import Derived.Test.YtkjfplkbgooflaaStoreMath
import Derived.Test.YtkjfplkbgooflaaArgs
import Derived.SizedLaws
namespace Go.Proofs.Ytkjfplkbgooflaa
open Go Go.RowKit Go.Lst Go.Lx Go.ChangeShapes Go.WideShapes Go.Deep Go.Joins

section
variable {H : Type} {enc : TypeId × Value → H} {P : Program} {w : World} {base : Nat} {spare : Nat → Bool} {held : Bool}
theorem weightsAll_mem {e : TypeId} {d : DataW H} : ∀ {l : List (DataW H)}, d ∈ l → ∀ k ∈ d.weights P e, k ∈ DataW.weightsAll P e l
  | x :: l, h, k, hk => by
    unfold DataW.weightsAll
    rcases List.mem_cons.1 h with rfl | h
    · exact List.mem_append_left _ hk
    · exact List.mem_append_right _ (weightsAll_mem h k hk)
theorem weightsEach_mem {d : DataW H} {t : TypeId} : ∀ {ts : List TypeId} {l : List (DataW H)} {i : Nat}, ts[i]? = some t → l[i]? = some d → ∀ k ∈ d.weights P t, k ∈ DataW.weightsEach P ts l
  | t' :: ts, d' :: l, 0, ht, hd, k, hk => by
    unfold DataW.weightsEach
    cases ht; cases hd
    exact List.mem_append_left _ hk
  | t' :: ts, d' :: l, i + 1, ht, hd, k, hk => by
    unfold DataW.weightsEach
    exact List.mem_append_right _ (weightsEach_mem (i := i) (by simpa using ht) (by simpa using hd) k hk)
  | [], _, i, ht, _, _, _ => by simp at ht
  | _ :: _, [], i, _, hd, _, _ => by simp at hd
theorem recs_trod_w {t e : TypeId} {fuel : Nat} {v : Value} {x : DataW H × List MemPlace} {Q : World → List Value → Prop} (R : Nat) (ht : P.underlying t = some (.slice e)) (hQ : ∀ n cs y, DataW.trod enc P w base spare held n e cs = some y → (∀ k ∈ y.1.weights P e, k ≤ R) → Q w cs)
    (h : DataW.trod enc P w base spare held fuel t [v] = some x) (hw : ∀ k ∈ x.1.weights P t, k ≤ R) : ∃ n, Recs (P.cellsOf e) Q w v n ∧ n * P.bytesOf e ≤ R := by
  rcases open_slice ht h with ⟨hcs, _⟩ | ⟨a, len, cap, m, n, D, Pl, hcs, _, hl, hm, hmm, hx, hi⟩
  · simp at hcs
    exact ⟨0, ⟨none, 0, hcs, by simp, by unfold maxLen; omega, fun i hi => by omega⟩, by simp⟩
  · simp at hcs
    subst hcs
    have hlen : len ≤ m := by rw [hmm]; split <;> omega
    rw [hx] at hw
    dsimp only at hw
    unfold DataW.weights at hw
    rw [ht] at hw
    dsimp only at hw
    have hb : len * P.bytesOf e ≤ R := by
      have := hw _ (List.mem_cons_self)
      simp only [List.length_map, List.length_range] at this
      exact Nat.le_trans (Nat.mul_le_mul_right _ (by omega)) this
    refine ⟨len, ⟨some a, cap, rfl, hl, hm, fun i hil => ?_⟩, hb⟩
    obtain ⟨cs', hc, ht'⟩ := hi i (by omega)
    obtain ⟨_, hcl, hat⟩ := World.cells?_some hc
    refine ⟨a, cs', rfl, hcl, hQ _ _ _ ht' fun k hk => ?_, fun j hj => ?_⟩
    · exact hw k (List.mem_cons_of_mem _ (List.mem_append_left _ (weightsAll_mem (d := D i) (List.mem_map.2 ⟨i, List.mem_range.2 hil, rfl⟩) k hk)))
    · rw [← hat j hj, Go.Deep.add_add]
theorem cells_trod_w {t : TypeId} {fs : Array Field} {fuel : Nat} {cs : List Value} {x : DataW H × List MemPlace} (R : Nat) (ht : P.underlying t = some (.struct fs)) (hone : oneCellFields P fs = true) (hC : P.cellsOf t = fs.size)
    (h : DataW.trod enc P w base spare held fuel t cs = some x) (hw : ∀ k ∈ x.1.weights P t, k ≤ R) : cs.length = fs.size ∧ ∃ n, ∀ (i : Nat) (f : Field), fs[i]? = some f → ∃ v y, cs[i]? = some v ∧ DataW.trod enc P w base spare held n f.type [v] = some y ∧ ∀ k ∈ y.1.weights P f.type, k ≤ R := by
  obtain ⟨xs, n, _, hx, hcl, hxl, hf⟩ := DataW.trod_struct ht h
  refine ⟨hcl.trans hC, n, fun i f hi => ?_⟩
  obtain ⟨ho, hk⟩ := hone_of hone i f hi
  have hil : i < fs.size := (Array.getElem?_eq_some_iff.1 hi).1
  have hic : i < cs.length := by omega
  have h1 := hf i f hi
  rw [ho, hk] at h1
  have e : (cs.drop i).take 1 = [cs[i]] := by rw [List.drop_eq_getElem_cons hic]; rfl
  rw [e, List.getElem?_eq_getElem (show i < xs.length by omega)] at h1
  refine ⟨_, _, List.getElem?_eq_getElem hic, h1, fun k hk => ?_⟩
  rw [hx] at hw
  dsimp only at hw
  unfold DataW.weights at hw
  rw [ht] at hw
  dsimp only at hw
  refine hw k (weightsEach_mem (i := i) (t := f.type) ?_ ?_ k hk)
  · rw [List.getElem?_map, Array.getElem?_toList, hi]; rfl
  · rw [List.getElem?_map, List.getElem?_eq_getElem (show i < xs.length by omega)]; rfl
end
def cap47 : Nat := 140737488355328
/-- The cells of an entry that came in. -/
def QEnt (w : World) (cs : List Value) : Prop := ∃ e cv, cs = entC e cv ∧ Nums .i64 w cv e.c ∧ e.c.length * 8 ≤ cap47 ∧ (Lit.int .u64 e.i).wf = true
theorem recs_ents {B : Nat} {w : World} {v : Value} {n : Nat} (h : Recs 5 QEnt w v n) (hB : B = w.heap.size) : ∃ es, es.length = n ∧ Ents B w v es ∧ ∀ j (h : j < es.length), es[j].c.length * 8 ≤ cap47 ∧ (Lit.int .u64 es[j].i).wf = true := by
  obtain ⟨p, c, rfl, h1, h2, h3⟩ := h
  have h4 : ∀ j : Fin n, ∃ e cv, (∃ a, p = some a ∧ ∀ m, m < 5 → w.cell? (a.add (j.1 * 5 + m)) = (entC e cv)[m]?) ∧ Nums .i64 w cv e.c ∧ e.c.length * 8 ≤ cap47 ∧ (Lit.int .u64 e.i).wf = true := fun j => by
    obtain ⟨a, cs, rfl, _, ⟨e, cv, rfl, g1, g2, g3⟩, g4⟩ := h3 j.1 j.2
    exact ⟨e, cv, ⟨a, rfl, g4⟩, g1, g2, g3⟩
  have hch := fun j => Classical.choose_spec (h4 j)
  refine ⟨List.ofFn fun j => Classical.choose (h4 j), by simp, ⟨p, c, by simp, by simpa using h1, h2, fun j hj => ?_⟩, fun j hj => ?_⟩
  · have hj' : j < n := by simpa using hj
    obtain ⟨cv, ⟨a, ha, g1⟩, g2, g3⟩ := hch ⟨j, hj'⟩
    refine ⟨a, cv, ha, fun m hm => by simpa using g1 m hm, ⟨by simpa using g2, fun h0 g hg => ?_⟩⟩
    obtain ⟨ad, cc, e, hlt⟩ := g2.block_lt (by simpa using h0)
    rw [e] at hg
    cases hg
    exact ⟨hlt, .inl (by rw [hB]; exact hlt)⟩
  · have hj' : j < n := by simpa using hj
    obtain ⟨cv, _, _, g3, g4⟩ := hch ⟨j, hj'⟩
    exact ⟨by simpa using g3, by simpa using g4⟩
section
variable {H : Type} {enc : TypeId × Value → H} {w : World} {base : Nat} {spare : Nat → Bool} {held : Bool}
set_option maxRecDepth 100000 in
theorem conf_trod {n : Nat} {v : Value} {y : DataW H × List MemPlace} (h : DataW.trod enc Try.prog w base spare held n 28 [v] = some y) (hw : ∀ k ∈ y.1.weights Try.prog 28, k ≤ cap47) : ∃ xs, Nums .i64 w v xs ∧ xs.length * 8 ≤ cap47 := by
  obtain ⟨xs, hx⟩ := nums_trod Try.underlying28 Try.underlying3 (by kernel_rfl) h
  obtain ⟨m, hm, hb⟩ := recs_trod_w (Q := fun _ _ => True) cap47 Try.underlying28 (fun _ _ _ _ _ => trivial) h hw
  refine ⟨xs, hx, ?_⟩
  have h8 : Try.prog.bytesOf 3 = 8 := by kernel_rfl
  rw [h8] at hb
  obtain ⟨p, c, e1, _⟩ := hx.parts
  obtain ⟨p', c', e2, _⟩ := hm
  rw [e1] at e2
  injection e2 with _ e3 _
  omega
set_option maxRecDepth 100000 in
theorem entry_trod (n : Nat) (cs : List Value) (y : DataW H × List MemPlace) (h : DataW.trod enc Try.prog w base spare held n 31 cs = some y) (hw : ∀ k ∈ y.1.weights Try.prog 31, k ≤ cap47) : QEnt w cs := by
  obtain ⟨hl, n, hf⟩ := cells_trod_w cap47 Try.underlying31 (by kernel_rfl) (by kernel_rfl) h hw
  obtain ⟨c0, c1, c2, c3, c4, rfl⟩ := list5 hl
  obtain ⟨v0, y0, e0, h0, -⟩ := hf 0 _ rfl
  obtain ⟨v1, y1, e1, h1, -⟩ := hf 1 _ rfl
  obtain ⟨v2, y2, e2, h2, -⟩ := hf 2 _ rfl
  obtain ⟨v3, y3, e3, h3, -⟩ := hf 3 _ rfl
  obtain ⟨v4, y4, e4, h4, w4⟩ := hf 4 _ rfl
  cases e0; cases e1; cases e2; cases e3; cases e4
  obtain ⟨a0, rfl, w0⟩ := int_of Try.underlying27 ⟨_, h0⟩
  obtain ⟨a1, rfl, w1⟩ := int_of Try.underlying27 ⟨_, h1⟩
  obtain ⟨a2, rfl, w2⟩ := int_of Try.underlying5 ⟨_, h2⟩
  obtain ⟨a3, rfl, -⟩ := string_of Try.underlying9 ⟨_, h3⟩
  obtain ⟨xs, hx, hb⟩ := conf_trod h4 w4
  exact ⟨⟨a0, a1, a2, a3, xs⟩, c4, rfl, hx, hb, w0⟩
/-- Entries that came in. -/
def InEnts (w : World) (v : Value) (es : List Ent) : Prop := Ents w.heap.size w v es ∧ es.length * 64 ≤ cap47 ∧ ∀ j (h : j < es.length), es[j].c.length * 8 ≤ cap47 ∧ (Lit.int .u64 es[j].i).wf = true
set_option maxRecDepth 100000 in
theorem ents_trod {n : Nat} {v : Value} {y : DataW H × List MemPlace} (h : DataW.trod enc Try.prog w base spare held n 33 [v] = some y) (hw : ∀ k ∈ y.1.weights Try.prog 33, k ≤ cap47) : ∃ es, InEnts w v es := by
  have hC : Try.prog.cellsOf 31 = 5 := by kernel_rfl
  have h64 : Try.prog.bytesOf 31 = 64 := by kernel_rfl
  obtain ⟨m, hm, hb⟩ := recs_trod_w (Q := QEnt) cap47 Try.underlying33 entry_trod h hw
  rw [hC] at hm
  rw [h64] at hb
  obtain ⟨es, h1, h2, h3⟩ := recs_ents hm rfl
  exact ⟨es, h2, by omega, h3⟩
/-- The cells of a step that came in. -/
def QStep (w : World) (cs : List Value) : Prop := ∃ d i t ev m es, cs = [.int .i64 d, .int .u64 i, .int .u64 t, ev, .int .i64 m] ∧ InEnts w ev es ∧ (Lit.int .u64 i).wf = true ∧ (Lit.int .u64 t).wf = true
set_option maxRecDepth 100000 in
theorem step_trod (n : Nat) (cs : List Value) (y : DataW H × List MemPlace) (h : DataW.trod enc Try.prog w base spare held n 45 cs = some y) (hw : ∀ k ∈ y.1.weights Try.prog 45, k ≤ cap47) : QStep w cs := by
  obtain ⟨hl, n, hf⟩ := cells_trod_w cap47 Try.underlying45 (by kernel_rfl) (by kernel_rfl) h hw
  obtain ⟨c0, c1, c2, c3, c4, rfl⟩ := list5 hl
  obtain ⟨v0, y0, e0, h0, -⟩ := hf 0 _ rfl
  obtain ⟨v1, y1, e1, h1, -⟩ := hf 1 _ rfl
  obtain ⟨v2, y2, e2, h2, -⟩ := hf 2 _ rfl
  obtain ⟨v3, y3, e3, h3, w3⟩ := hf 3 _ rfl
  obtain ⟨v4, y4, e4, h4, -⟩ := hf 4 _ rfl
  cases e0; cases e1; cases e2; cases e3; cases e4
  obtain ⟨a0, rfl, -⟩ := int_of Try.underlying3 ⟨_, h0⟩
  obtain ⟨a1, rfl, w1⟩ := int_of Try.underlying27 ⟨_, h1⟩
  obtain ⟨a2, rfl, w2⟩ := int_of Try.underlying27 ⟨_, h2⟩
  obtain ⟨es, he⟩ := ents_trod h3 w3
  obtain ⟨a4, rfl, -⟩ := int_of Try.underlying3 ⟨_, h4⟩
  exact ⟨a0, a1, a2, c3, a4, es, rfl, he, w1, w2⟩
end
section
variable {H : Type} {enc : TypeId × Value → H} {W : World} {base : Nat} {v : Value} {d : DataW H} {p : List MemPlace}
set_option maxRecDepth 100000 in
theorem open_script (hv : Value.okWide Try.prog W .any base 41 v) (h : DataW.Trod enc Try.prog W 0 (fun _ => true) true 41 v d p) (hw : ∀ k ∈ d.weights Try.prog 41, k ≤ reachBytes) :
    ∃ n, Recs 5 QStep W v n := by
  have hC : Try.prog.cellsOf 45 = 5 := by kernel_rfl
  obtain ⟨a, l, c, rfl⟩ := okWide_slice Try.underlying41 hv
  obtain ⟨fuel, hf⟩ := h
  obtain ⟨m, hm, -⟩ := recs_trod_w (Q := QStep) cap47 Try.underlying41 step_trod (by simpa [Value.cells] using hf) (fun k hk => Nat.le_trans (hw k hk) (by decide))
  rw [hC] at hm
  exact ⟨m, hm⟩
set_option maxRecDepth 100000 in
theorem open_ents (hv : Value.okWide Try.prog W .any base 33 v) (h : DataW.Trod enc Try.prog W 0 (fun _ => true) true 33 v d p) (hw : ∀ k ∈ d.weights Try.prog 33, k ≤ reachBytes) :
    ∃ es, InEnts W v es := by
  obtain ⟨a, l, c, rfl⟩ := okWide_slice Try.underlying33 hv
  obtain ⟨fuel, hf⟩ := h
  exact ents_trod (by simpa [Value.cells] using hf) (fun k hk => Nat.le_trans (hw k hk) (by decide))
end
end Go.Proofs.Ytkjfplkbgooflaa
