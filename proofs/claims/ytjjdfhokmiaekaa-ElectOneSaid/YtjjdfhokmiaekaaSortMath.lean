/-
  Insertion sort on a list of numbers, swap by swap. Plain.
-/
namespace Go.Srt

/-- Ahead of the swap at j: without the number at j the first i + 1 stand in order, and it is at most those behind it. -/
structure Ins (zs : List Int) (i j : Nat) : Prop where
  hi : i < zs.length
  hj : j ≤ i
  ord : ∀ p q, p < q → q ≤ i → p ≠ j → q ≠ j → zs.getD p 0 ≤ zs.getD q 0
  low : ∀ q, j < q → q ≤ i → zs.getD j 0 ≤ zs.getD q 0
def Sorted (zs : List Int) (n : Nat) : Prop := ∀ p q, p < q → q < n → zs.getD p 0 ≤ zs.getD q 0
theorem getD_set {zs : List Int} {k : Nat} (hk : k < zs.length) (v : Int) (p : Nat) : (zs.set k v).getD p 0 = if p = k then v else zs.getD p 0 := by
  by_cases h : p = k
  · subst h; rw [if_pos rfl, List.getD_eq_getElem?_getD, List.getElem?_set_self hk]; rfl
  · rw [if_neg h, List.getD_eq_getElem?_getD, List.getElem?_set_ne (fun e => h e.symm), ← List.getD_eq_getElem?_getD]
def swap (zs : List Int) (j : Nat) : List Int := (zs.set j (zs.getD (j - 1) 0)).set (j - 1) (zs.getD j 0)
theorem swap_len (zs : List Int) (j : Nat) : (swap zs j).length = zs.length := by simp [swap]
theorem swap_perm {zs : List Int} {j : Nat} (h : j < zs.length) : (swap zs j).Perm zs := by
  unfold swap
  have h1 : zs.getD j 0 = zs[j] := by rw [List.getD_eq_getElem?_getD, List.getElem?_eq_getElem h]; rfl
  have h2 : zs.getD (j - 1) 0 = zs[j - 1] := by rw [List.getD_eq_getElem?_getD, List.getElem?_eq_getElem (by omega)]; rfl
  rw [h1, h2]
  exact List.set_set_perm h (by omega)
theorem swap_getD {zs : List Int} {j : Nat} (h : j < zs.length) (h0 : 0 < j) (p : Nat) : (swap zs j).getD p 0 = if p = j - 1 then zs.getD j 0 else if p = j then zs.getD (j - 1) 0 else zs.getD p 0 := by
  unfold swap
  rw [getD_set (by simp; omega), getD_set h]
theorem Ins.start {zs : List Int} {i : Nat} (h : Sorted zs i) (hi : i < zs.length) : Ins zs i i :=
  ⟨hi, Nat.le_refl _, fun p q h1 h2 _ h4 => h p q h1 (by omega), fun q h1 h2 => by omega⟩
theorem Ins.done {zs : List Int} {i j : Nat} (h : Ins zs i j) (hd : j = 0 ∨ zs.getD (j - 1) 0 ≤ zs.getD j 0) : Sorted zs (i + 1) := by
  intro p q h1 h2
  by_cases hp : p = j
  · subst hp; exact h.low q h1 (by omega)
  · by_cases hq : q = j
    · subst hq
      rcases hd with hd | hd
      · omega
      · by_cases h3 : p = q - 1
        · rw [h3]; exact hd
        · exact Int.le_trans (h.ord p (q - 1) (by omega) (by have := h.hj; omega) hp (by omega)) hd
    · exact h.ord p q h1 (by omega) hp hq
theorem Ins.step {zs : List Int} {i j : Nat} (h : Ins zs i j) (h0 : 0 < j) (hlt : zs.getD j 0 < zs.getD (j - 1) 0) : Ins (swap zs j) i (j - 1) := by
  have hl : j < zs.length := by have := h.hi; have := h.hj; omega
  refine ⟨by rw [swap_len]; exact h.hi, by have := h.hj; omega, fun p q h1 h2 h3 h4 => ?_, fun q h1 h2 => ?_⟩
  · rw [swap_getD hl h0, swap_getD hl h0, if_neg h3, if_neg h4]
    by_cases hp : p = j
    · rw [if_pos hp, if_neg (by omega)]
      exact h.ord (j - 1) q (by omega) h2 (by omega) (by omega)
    · rw [if_neg hp]
      by_cases hq : q = j
      · rw [if_pos hq]; exact h.ord p (j - 1) (by omega) (by have := h.hj; omega) hp (by omega)
      · rw [if_neg hq]; exact h.ord p q h1 h2 hp hq
  · rw [swap_getD hl h0, swap_getD hl h0, if_pos rfl, if_neg (by omega)]
    by_cases hq : q = j
    · rw [if_pos hq]; omega
    · rw [if_neg hq]; exact h.low q (by omega) h2
end Go.Srt
