/-
  A slice that is read: nil, or cells behind an address. No project text.
-/
import Derived.Test.YtenjllkhbpoffaaDoorLx
import Derived.OwnWalk
import Derived.Maps.AppendAt
namespace Go.Lst
open Go.RowKit

/-- What a slice of one-cell elements reads as. -/
def Lst (w : World) (v : Value) (xs : List Value) : Prop :=
  ∃ (p : Option Addr) (c : Nat), v = .slice p xs.length c ∧ xs.length ≤ c ∧ c ≤ maxLen ∧ ∀ i (_ : i < xs.length), ∃ a, p = some a ∧ w.cell? (a.add i) = some xs[i]
theorem Lst.nil (w : World) : Lst w (.slice none 0 0) [] := ⟨none, 0, rfl, by simp, by unfold maxLen; omega, fun i hi => by simp at hi⟩
theorem Lst.own {w0 : Nat} {e : TypeId} {w : World} {v : Value} {n : Nat} {xs : List Value} (h : w.ownsRow w0 e 1 v n xs) : Lst w v xs := by
  have hn : xs.length = n := by simpa using h.1
  rcases h.2 with ⟨rfl, h0⟩ | ⟨g, cap, cur, rfl, _, h2, h3, h4, h5, h6⟩
  · exact ⟨none, 0, by rw [hn, h0], by omega, by unfold maxLen; omega, fun i hi => by omega⟩
  · refine ⟨some ⟨g, 0, none⟩, cap, by rw [hn], by omega, h4, fun i hi => ⟨_, rfl, ?_⟩⟩
    have e : (Addr.add ⟨g, 0, none⟩ i) = ⟨g, i, none⟩ := by unfold Addr.add; split <;> simp_all
    rw [e]
    simp only [World.cell?, h2, Option.isSome_none, Bool.false_eq_true, if_false]
    have : (cur.toList.take (n * 1))[i]? = some xs[i] := by rw [h6]; simp [hi]
    rw [List.getElem?_take, if_pos (by omega)] at this
    simpa using this
theorem cell_below {w w' : World} {a : Addr} {v : Value} (hb : Below w.heap.size w w') (h : w.cell? a = some v) : w'.cell? a = w.cell? a := by
  refine World.cell?_of_block (hb.block _ ?_)
  by_cases hl : a.block < w.heap.size
  · exact hl
  · simp [World.cell?, Array.getElem?_eq_none (Nat.le_of_not_lt hl)] at h
theorem Lst.below {w w' : World} {v : Value} {xs : List Value} (h : Lst w v xs) (hb : Below w.heap.size w w') : Lst w' v xs := by
  obtain ⟨p, c, e1, e2, e3, e4⟩ := h
  refine ⟨p, c, e1, e2, e3, fun i hi => ?_⟩
  obtain ⟨a, e5, e6⟩ := e4 i hi
  exact ⟨a, e5, (cell_below hb e6).trans e6⟩
theorem Lst.pre {w : World} {p : Option Addr} {xs ys : List Value} {n c : Nat} (h : Lst w (.slice p n c) (xs ++ ys)) : Lst w (.slice p xs.length c) xs := by
  obtain ⟨p', c', e, h1, h2, h3⟩ := h
  cases e
  rw [List.length_append] at h1
  refine ⟨p, c, rfl, by omega, h2, fun i hi => ?_⟩
  obtain ⟨a, e1, e2⟩ := h3 i (by rw [List.length_append]; omega)
  exact ⟨a, e1, by rw [e2, List.getElem_append_left hi]⟩
theorem Lst.take {w : World} {p : Option Addr} {xs : List Value} {n c : Nat} (j : Nat) (hj : j ≤ xs.length) (h : Lst w (.slice p n c) xs) : Lst w (.slice p j c) (xs.take j) := by
  have h' : Lst w (.slice p n c) (xs.take j ++ xs.drop j) := by rw [List.take_append_drop]; exact h
  have := h'.pre
  rw [List.length_take, Nat.min_eq_left hj] at this
  exact this
theorem add_add (a : Addr) (i j : Nat) : (a.add i).add j = a.add (i + j) := by
  unfold Addr.add
  by_cases h0 : i = 0
  · simp [h0]
  · by_cases h4 : j = 0
    · simp [h4]
    · simp [h0, h4, Nat.add_assoc]
theorem Lst.post {w : World} {p : Option Addr} {xs ys : List Value} {n c : Nat} (h : Lst w (.slice p n c) (xs ++ ys)) : Lst w (.slice (p.map fun x => x.add xs.length) ys.length (c - xs.length)) ys := by
  obtain ⟨p', c', e, h1, h2, h3⟩ := h
  cases e
  rw [List.length_append] at h1
  refine ⟨_, _, rfl, by omega, by omega, fun i hi => ?_⟩
  obtain ⟨a, e1, e2⟩ := h3 (xs.length + i) (by rw [List.length_append]; omega)
  refine ⟨a.add xs.length, by rw [e1]; rfl, ?_⟩
  rw [add_add, e2, List.getElem_append_right (by omega)]
  simp
theorem Lst.stop {w : World} {p q : Option Addr} {xs ys : List Value} {n c : Nat} (h : Lst w (.slice p n c) (xs ++ ys)) (hc : c ≤ xs.length) : Lst w (.slice q ys.length 0) ys := by
  obtain ⟨p', c', e, h1, h2, h3⟩ := h
  cases e
  rw [List.length_append] at h1
  exact ⟨_, _, rfl, by omega, by unfold maxLen; omega, fun i hi => by omega⟩
theorem Lst.at {w : World} {p : Option Addr} {n c : Nat} {xs : List Value} (h : Lst w (.slice p n c) xs) (i : Nat) (hi : i < xs.length) (d : Value) :
    ∃ a, p = some a ∧ w.cell? (a.add i) = some (xs.getD i d) := by
  obtain ⟨p', c', e, _, _, h3⟩ := h
  cases e
  obtain ⟨a, h1, h2⟩ := h3 i hi
  refine ⟨a, h1, ?_⟩
  rw [h2, List.getD_eq_getElem?_getD, List.getElem?_eq_getElem hi]; rfl

/-- .. of numbers that their kind can hold. -/
def Nums (k : IntKind) (w : World) (v : Value) (xs : List Int) : Prop := Lst w v (xs.map fun x => .int k x) ∧ ∀ x ∈ xs, (Lit.int k x).wf = true
theorem Nums.nil (k : IntKind) (w : World) : Nums k w (.slice none 0 0) [] := ⟨Lst.nil w, fun x hx => by cases hx⟩
theorem Nums.below {k : IntKind} {w w' : World} {v : Value} {xs : List Int} (h : Nums k w v xs) (hb : Below w.heap.size w w') : Nums k w' v xs := ⟨h.1.below hb, h.2⟩
theorem Nums.own {k : IntKind} {w0 : Nat} {e : TypeId} {w : World} {v : Value} {n : Nat} {xs : List Int} (h : w.ownsRow w0 e 1 v n (xs.map fun x => .int k x)) (hw : ∀ x ∈ xs, (Lit.int k x).wf = true) : Nums k w v xs := ⟨Lst.own h, hw⟩
theorem Nums.parts {k : IntKind} {w : World} {v : Value} {xs : List Int} (h : Nums k w v xs) : ∃ (p : Option Addr) (c : Nat), v = .slice p xs.length c ∧ xs.length ≤ c ∧ c ≤ maxLen ∧ ∀ i, i < xs.length → ∃ a, p = some a ∧ w.cell? (a.add i) = some (.int k (xs.getD i 0)) := by
  obtain ⟨⟨p, c, e, h1, h2, h3⟩, _⟩ := h
  rw [List.length_map] at *
  refine ⟨p, c, e, h1, h2, fun i hi => ?_⟩
  obtain ⟨a, h4, h5⟩ := h3 i (by simpa using hi)
  refine ⟨a, h4, ?_⟩
  rw [h5, List.getElem_map, List.getD_eq_getElem?_getD, List.getElem?_eq_getElem hi]; rfl
theorem Nums.wf {k : IntKind} {w : World} {v : Value} {xs : List Int} (h : Nums k w v xs) (i : Nat) (hi : i < xs.length) : (Lit.int k (xs.getD i 0)).wf = true :=
  h.2 _ (by rw [List.getD_eq_getElem?_getD, List.getElem?_eq_getElem hi]; exact List.getElem_mem hi)
end Go.Lst
