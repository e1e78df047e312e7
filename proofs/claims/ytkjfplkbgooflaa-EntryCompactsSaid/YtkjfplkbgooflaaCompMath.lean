/-
  What a log answers behind Compact, of what is kept.
-/
import Derived.Test.YtkjfplkbgooflaaStoresMath
import Derived.Test.YtkjfplkbgooflaaWorks26
namespace Go.Proofs.Ytkjfplkbgooflaa

section
variable {L : LogS} (ok : LogOk L) (hl : L.l.length ≤ 4096) {a : Int} (ha : (termAt L a).2 = 0)
include ha
theorem comp_eq : compactL L a = ⟨a, (termAt L a).1, saysC L a, L.l.drop (a - L.i).toNat⟩ := by
  unfold compactL; rw [if_pos ha]
include ok
theorem saysI_le : saysI L a ≤ a := by
  obtain ⟨h1, h2, -⟩ := termAt_ok ok ha
  unfold saysI
  rcases h : saysE L a with _ | e
  · exact h1
  · unfold saysE at h
    have hm := List.mem_of_find?_eq_some h
    rw [List.mem_reverse, List.mem_take_iff_getElem] at hm
    obtain ⟨j, hj, rfl⟩ := hm
    exact (upTo_iff ok a j (by omega)).2 (by omega)
theorem at_ok : L.i ≤ a ∧ a ≤ (lastOf L).1 := by
  obtain ⟨h1, h2, -⟩ := termAt_ok ok ha
  rw [ok.last]
  omega
include hl
theorem comp_last : (lastOf (compactL L a)).1 = (lastOf L).1 := by
  obtain ⟨h1, h2, -⟩ := termAt_ok ok ha
  rw [(compactL_ok ok hl a).1.last, ok.last, comp_eq ha]
  dsimp only
  rw [List.length_drop]
  omega
theorem comp_term {x : Int} (hx : a ≤ x) : termAt (compactL L a) x = termAt L x := by
  obtain ⟨h1, h2, -⟩ := termAt_ok ok ha
  have e1 := comp_last ok hl ha
  have e2 : (compactL L a).i = a := by rw [comp_eq ha]
  have e3 : (compactL L a).t = (termAt L a).1 := by rw [comp_eq ha]
  have e4 : (compactL L a).l = L.l.drop (a - L.i).toNat := by rw [comp_eq ha]
  by_cases hxa : x = a
  · subst hxa
    have e : termAt L x = ((termAt L x).1, 0) := by rw [← ha]
    rw [e]
    have hlast := ok.last
    conv => lhs; unfold termAt
    rw [e1, e2, e3, if_neg (by omega), if_neg (by omega), if_pos rfl]
  · unfold termAt at *
    rw [e1, e2]
    rw [if_neg (by omega : ¬ x < a), if_neg (by omega : ¬ x < L.i)]
    by_cases c : (lastOf L).1 < x
    · rw [if_pos c, if_pos c]
    · rw [if_neg c, if_neg c, if_neg hxa, if_neg (by omega)]
      unfold entAt
      rw [e2, e4]
      simp only [List.getD_eq_getElem?_getD, List.getElem?_drop]
      rw [show (a - L.i).toNat + (x - a - 1).toNat = (x - L.i - 1).toNat by omega]
theorem comp_says {x : Int} (hx : a ≤ x) : saysE L x = (saysE (compactL L a) x).or (saysE L a) := by
  obtain ⟨h1, h2, -⟩ := termAt_ok ok ha
  unfold saysE upTo
  rw [comp_eq ha]
  dsimp only
  rw [List.length_drop]
  have hK : min L.l.length (a - L.i).toNat = (a - L.i).toNat := by omega
  have hx' : min L.l.length (x - L.i).toNat = (a - L.i).toNat + min (L.l.length - (a - L.i).toNat) (x - a).toNat := by omega
  rw [hK, hx', List.take_add, List.reverse_append, List.find?_append]
theorem comp_saysC {x : Int} (hx : a ≤ x) : saysC (compactL L a) x = saysC L x := by
  have h := comp_says ok hl ha hx
  have e : (compactL L a).c = saysC L a := by rw [comp_eq ha]
  unfold saysC at *
  rw [h, e]
  rcases saysE (compactL L a) x with _ | e
  · rw [Option.none_or]
  · rw [Option.some_or]
theorem comp_saysI {x : Int} (hx : a ≤ x) : saysI (compactL L a) x = max (saysI L x) a := by
  have h := comp_says ok hl ha hx
  have hle := saysI_le ok ha
  have e : (compactL L a).i = a := by rw [comp_eq ha]
  have ok' := (compactL_ok ok hl a).1
  unfold saysI at *
  rw [h, e]
  rcases h' : saysE (compactL L a) x with _ | e'
  · rw [Option.none_or]
    dsimp only
    omega
  · rw [Option.some_or]
    dsimp only
    unfold saysE at h'
    have hm := List.mem_of_find?_eq_some h'
    rw [List.mem_reverse, List.mem_take_iff_getElem] at hm
    obtain ⟨j, hj, rfl⟩ := hm
    have := (ok'.at' j (by omega)).1
    omega
theorem comp_confAt {x : Int} (hx : a ≤ x) : confAt (compactL L a) x = confAt L x := by
  unfold confAt
  rw [comp_term ok hl ha hx, comp_saysC ok hl ha hx]
theorem comp_fits : fitsB (compactL L a) a (termAt L a).1 = true := by
  unfold fitsB
  rw [comp_term ok hl ha (Int.le_refl _), ha]
  simp
theorem comp_slice : sliceE (compactL L a) (a + 1) 4096 = 0 ∧ sliceE L (a + 1) 4096 = 0 ∧ sliceL (compactL L a) (a + 1) 4096 = L.l.drop (a - L.i).toNat ∧ sliceL L (a + 1) 4096 = L.l.drop (a - L.i).toNat := by
  obtain ⟨h1, h2, -⟩ := termAt_ok ok ha
  have e : (compactL L a).i = a := by rw [comp_eq ha]
  have e4 : (compactL L a).l = L.l.drop (a - L.i).toNat := by rw [comp_eq ha]
  have s1 : sliceE (compactL L a) (a + 1) 4096 = 0 := by unfold sliceE; rw [e, if_neg (by omega), if_neg (by omega)]
  have s2 : sliceE L (a + 1) 4096 = 0 := by unfold sliceE; rw [if_neg (by omega), if_neg (by omega)]
  refine ⟨s1, s2, ?_, ?_⟩
  · unfold sliceL
    rw [if_pos s1, e, e4, show (a + 1 - a - 1).toNat = 0 by omega, List.drop_zero]
    exact List.take_of_length_le (by rw [List.length_drop]; simp; omega)
  · unfold sliceL
    rw [if_pos s2, show (a + 1 - L.i - 1).toNat = (a - L.i).toNat by omega]
    exact List.take_of_length_le (by rw [List.length_drop]; simp; omega)
end
theorem termAt_in {L : LogS} (ok : LogOk L) {x : Int} (h1 : L.i ≤ x) (h2 : x ≤ (lastOf L).1) : (termAt L x).2 = 0 := by
  unfold termAt
  rw [if_neg (by omega), if_neg (by omega)]
  split <;> rfl
end Go.Proofs.Ytkjfplkbgooflaa
