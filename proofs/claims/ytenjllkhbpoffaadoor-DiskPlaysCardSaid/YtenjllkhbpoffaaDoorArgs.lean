/-
  Arguments that came in, as they are read: slices of numbers, structs of one-cell fields. No project text.
-/
import Derived.Test.YtenjllkhbpoffaaDoorLst
import Derived.Lib.SmallJoins
import Derived.Deep.Fields
import Derived.Deep.Slices
import Derived.ChangeSlices
namespace Go.Lst
open Go.RowKit Go.ChangeShapes Go.WideShapes Go.Deep Go.Joins
section
variable {H : Type} {enc : TypeId × Value → H} {P : Program} {w : World} {base : Nat} {spare : Nat → Bool} {held : Bool}

theorem nums_trod {t e : TypeId} {k : IntKind} {fuel : Nat} {v : Value} {x : DataW H × List MemPlace} (ht : P.underlying t = some (.slice e)) (he : P.underlying e = some (.int k)) (hc : P.cellsOf e = 1)
    (h : DataW.trod enc P w base spare held fuel t [v] = some x) : ∃ xs, Nums k w v xs := by
  rcases open_ints ht he hc h with ⟨hcs, _⟩ | ⟨a, len, cap, zs, hcs, _, hl, hm, hz, _, hcell, hwf⟩
  · simp at hcs
    exact ⟨[], by rw [hcs]; exact Nums.nil k w⟩
  · simp at hcs
    subst hcs
    have hlen : len ≤ zs.length := by rw [hz]; split <;> omega
    have e : (zs.take len).length = len := by rw [List.length_take]; omega
    refine ⟨zs.take len, ⟨some a, cap, by rw [List.length_map, e], by rw [List.length_map, e]; exact hl, hm, fun i hi => ⟨a, rfl, ?_⟩⟩, fun z hzm => hwf z (List.mem_of_mem_take hzm)⟩
    rw [List.length_map, e] at hi
    rw [hcell i (by omega)]
    simp [List.getD_eq_getElem?_getD, List.getElem?_eq_getElem (show i < zs.length by omega)]
/-- An argument that is a slice of numbers. -/
theorem nums_arg {t e : TypeId} {k : IntKind} {v : Value} {d : DataW H} {p : List MemPlace} {r : Reach} {b0 : Nat} (ht : P.underlying t = some (.slice e)) (he : P.underlying e = some (.int k)) (hc : P.cellsOf e = 1)
    (hv : Value.okWide P w r b0 t v) (h : DataW.Trod enc P w base spare held t v d p) : ∃ xs, Nums k w v xs := by
  obtain ⟨a, l, c, rfl⟩ := okWide_slice ht hv
  obtain ⟨fuel, hf⟩ := h
  exact nums_trod ht he hc (by simpa [Value.cells] using hf)
/-- A struct's cells, each with its own reading. -/
theorem cells_trod {t : TypeId} {fs : Array Field} {fuel : Nat} {cs : List Value} {x : DataW H × List MemPlace} (ht : P.underlying t = some (.struct fs)) (hone : oneCellFields P fs = true) (hC : P.cellsOf t = fs.size)
    (h : DataW.trod enc P w base spare held fuel t cs = some x) : cs.length = fs.size ∧ ∃ n, ∀ (i : Nat) (f : Field), fs[i]? = some f → ∃ v y, cs[i]? = some v ∧ DataW.trod enc P w base spare held n f.type [v] = some y := by
  obtain ⟨xs, n, _, _, hcl, hxl, hf⟩ := DataW.trod_struct ht h
  refine ⟨hcl.trans hC, n, fun i f hi => ?_⟩
  obtain ⟨ho, hk⟩ := hone_of hone i f hi
  have hil : i < fs.size := (Array.getElem?_eq_some_iff.1 hi).1
  have hic : i < cs.length := by omega
  have h1 := hf i f hi
  rw [ho, hk] at h1
  have e : (cs.drop i).take 1 = [cs[i]] := by rw [List.drop_eq_getElem_cons hic]; rfl
  rw [e, List.getElem?_eq_getElem (show i < xs.length by omega)] at h1
  exact ⟨_, _, List.getElem?_eq_getElem hic, h1⟩
/-- An argument that is a struct of one-cell fields. -/
theorem cells_arg {t : TypeId} {fs : Array Field} {v : Value} {d : DataW H} {p : List MemPlace} {r : Reach} {b0 : Nat} (ht : P.underlying t = some (.struct fs)) (hone : oneCellFields P fs = true) (hC : P.cellsOf t = fs.size)
    (hv : Value.okWide P w r b0 t v) (h : DataW.Trod enc P w base spare held t v d p) : ∃ cs : List Value, v = .agg cs.toArray ∧ cs.length = fs.size ∧ ∃ n, ∀ (i : Nat) (f : Field), fs[i]? = some f → ∃ v y, cs[i]? = some v ∧ DataW.trod enc P w base spare held n f.type [v] = some y := by
  obtain ⟨cs, rfl, hsz⟩ := okWide_struct ht hv
  obtain ⟨fuel, hf⟩ := h
  obtain ⟨h1, n, h2⟩ := cells_trod ht hone hC (by simpa [Value.cells] using hf)
  exact ⟨cs.toList, by simp, h1, n, h2⟩
/-- What a field that was read is. -/
theorem int_of {t : TypeId} {k : IntKind} {n : Nat} {v : Value} (ht : P.underlying t = some (.int k)) (h : ∃ y, DataW.trod enc P w base spare held n t [v] = some y) : ∃ a, v = .int k a ∧ (Lit.int k a).wf = true := by
  obtain ⟨y, h⟩ := h
  obtain ⟨a, hc, _, hw⟩ := DataW.trod_int ht h
  simp at hc
  exact ⟨a, hc, hw⟩
theorem bool_of {t : TypeId} {n : Nat} {v : Value} (ht : P.underlying t = some .bool) (h : ∃ y, DataW.trod enc P w base spare held n t [v] = some y) : ∃ a, v = .bool a := by
  obtain ⟨y, h⟩ := h
  obtain ⟨a, hc, _⟩ := DataW.trod_bool ht h
  simp at hc
  exact ⟨a, hc⟩
theorem string_of {t : TypeId} {n : Nat} {v : Value} (ht : P.underlying t = some .string) (h : ∃ y, DataW.trod enc P w base spare held n t [v] = some y) : ∃ a, v = .string a ∧ a.size ≤ maxLen := by
  obtain ⟨y, h⟩ := h
  obtain ⟨a, hc, _, hw⟩ := DataW.trod_string ht h
  simp at hc
  exact ⟨a, hc, hw⟩
end
/-- A slice of structs of one-cell fields (k cells each), of each of which Q holds. -/
def Recs (k : Nat) (Q : World → List Value → Prop) (w : World) (v : Value) (n : Nat) : Prop :=
  ∃ p c, v = .slice p n c ∧ n ≤ c ∧ c ≤ maxLen ∧ ∀ i, i < n → ∃ a cs, p = some a ∧ cs.length = k ∧ Q w cs ∧ ∀ j, j < k → w.cell? (a.add (i * k + j)) = cs[j]?
theorem Recs.below {k : Nat} {Q : World → List Value → Prop} {w w' : World} {v : Value} {n : Nat} (h : Recs k Q w v n) (hQ : ∀ cs, Q w cs → Q w' cs) (hb : Below w.heap.size w w') : Recs k Q w' v n := by
  obtain ⟨p, c, e, h1, h2, h3⟩ := h
  refine ⟨p, c, e, h1, h2, fun i hi => ?_⟩
  obtain ⟨a, cs, e1, e2, e3, e4⟩ := h3 i hi
  refine ⟨a, cs, e1, e2, hQ cs e3, fun j hj => ?_⟩
  have h5 := e4 j hj
  rw [List.getElem?_eq_getElem (show j < cs.length by omega)] at h5 ⊢
  exact (cell_below hb h5).trans h5
section
variable {H : Type} {enc : TypeId × Value → H} {P : Program} {w : World} {base : Nat} {spare : Nat → Bool} {held : Bool}
theorem recs_trod {t e : TypeId} {fuel : Nat} {v : Value} {x : DataW H × List MemPlace} {Q : World → List Value → Prop} (ht : P.underlying t = some (.slice e)) (hQ : ∀ n cs y, DataW.trod enc P w base spare held n e cs = some y → Q w cs)
    (h : DataW.trod enc P w base spare held fuel t [v] = some x) : ∃ n, Recs (P.cellsOf e) Q w v n := by
  rcases open_slice ht h with ⟨hcs, _⟩ | ⟨a, len, cap, m, n, D, Pl, hcs, _, hl, hm, hmm, _, hi⟩
  · simp at hcs
    exact ⟨0, none, 0, hcs, by simp, by unfold maxLen; omega, fun i hi => by omega⟩
  · simp at hcs
    subst hcs
    have hlen : len ≤ m := by rw [hmm]; split <;> omega
    refine ⟨len, some a, cap, rfl, hl, hm, fun i hil => ?_⟩
    obtain ⟨cs', hc, ht'⟩ := hi i (by omega)
    obtain ⟨_, hcl, hat⟩ := World.cells?_some hc
    refine ⟨a, cs', rfl, hcl, hQ _ _ _ ht', fun j hj => ?_⟩
    rw [← hat j hj, Go.Deep.add_add]
theorem recs_arg {t e : TypeId} {v : Value} {d : DataW H} {p : List MemPlace} {r : Reach} {b0 : Nat} {Q : World → List Value → Prop} (ht : P.underlying t = some (.slice e)) (hQ : ∀ n cs y, DataW.trod enc P w base spare held n e cs = some y → Q w cs)
    (hv : Value.okWide P w r b0 t v) (h : DataW.Trod enc P w base spare held t v d p) : ∃ n, Recs (P.cellsOf e) Q w v n := by
  obtain ⟨a, l, c, rfl⟩ := okWide_slice ht hv
  obtain ⟨fuel, hf⟩ := h
  exact recs_trod ht hQ (by simpa [Value.cells] using hf)
end
theorem list2 {α : Type} : ∀ {l : List α}, l.length = 2 → ∃ a b, l = [a, b]
  | [a, b], _ => ⟨a, b, rfl⟩
theorem list3 {α : Type} : ∀ {l : List α}, l.length = 3 → ∃ a b c, l = [a, b, c]
  | [a, b, c], _ => ⟨a, b, c, rfl⟩
theorem list4 {α : Type} : ∀ {l : List α}, l.length = 4 → ∃ a b c d, l = [a, b, c, d]
  | [a, b, c, d], _ => ⟨a, b, c, d, rfl⟩
theorem list5 {α : Type} : ∀ {l : List α}, l.length = 5 → ∃ a b c d e, l = [a, b, c, d, e]
  | [a, b, c, d, e], _ => ⟨a, b, c, d, e, rfl⟩
end Go.Lst
