/-
  A slice of texts that came in: what it reads.
-/
import Derived.Test.YtfcicfkgbepagaaSegList
import Derived.SliceStrings
import Derived.SizedLaws
namespace Go.Proofs.Ytfcicfkgbepagaa
open Go.RowKit Go.ChangeShapes Go.WideShapes

theorem weights_texts {H : Type} {P : Program} {e : TypeId} (ss : List ByteArray) : ∀ s ∈ ss, s.data.toList.length ∈ DataW.weightsAll (H := H) P e (strs ss) := by
  induction ss with
  | nil => intro s hs; cases hs
  | cons x ss ih =>
    intro s hs
    simp only [strs, List.map_cons, DataW.weightsAll, DataW.weights]
    rcases List.mem_cons.1 hs with rfl | h
    · simp
    · exact List.mem_append_right _ (ih s h)
theorem open_texts {H : Type} {enc : TypeId × Value → H} {W : World} {base : Nat} {v : Value} {d : DataW H} {p : List MemPlace} (hv : Value.okWide Try.prog W .any base 39 v) (h : DataW.Trod enc Try.prog W 0 (fun _ => true) true 39 v d p) :
    ∃ ts, Reads W v ts ∧ ((∀ n ∈ d.weights Try.prog 39, n ≤ reachBytes) → Fits ts) := by
  obtain ⟨a0, len, cap, rfl⟩ := okWide_slice Try.underlying39 hv
  obtain ⟨fuel, hf⟩ := h
  rcases open_strings Try.underlying39 Try.underlying9 (by kernel_rfl) hf with ⟨hcs, hx⟩ | ⟨a, len', cap', ss, hcs, _, hl, hm, hz, hx, hcell, hws⟩
  · simp [Value.cells] at hcs
    obtain ⟨rfl, rfl, rfl⟩ := hcs
    exact ⟨[], ⟨none, 0, rfl, by simp, by unfold maxLen; omega, fun i hi => by simp at hi⟩, fun _ i hi => by simp at hi⟩
  · simp [Value.cells] at hcs
    obtain ⟨rfl, rfl, rfl⟩ := hcs
    simp only [Prod.mk.injEq] at hx
    obtain ⟨rfl, -⟩ := hx
    have hlen : (ss.take len).length = len := by rw [List.length_take, hz]; simp; omega
    have hmap : ((ss.take len).map fun s => s.data.toList).length = len := by rw [List.length_map, hlen]
    refine ⟨(ss.take len).map fun s => s.data.toList, ⟨some a, cap, by rw [hmap], by omega, hm, fun i hi => ⟨a, rfl, ?_⟩⟩, fun hw i hi => ?_⟩
    · have hi' : i < (ss.take len).length := by rw [hmap] at hi; omega
      have hi2 : i < ss.length := by rw [List.length_take] at hi'; omega
      rw [hcell i hi2]
      congr 1
      simp only [sv, List.getElem_map, List.getElem_take, str_of]
      simp [List.getD, hi2]
    · have hi' : i < (ss.take len).length := by rw [hmap] at hi; omega
      have hmem : (ss.take len)[i] ∈ ss.take len := List.getElem_mem hi'
      have := hw _ (by
        rw [DataW.weights, Try.underlying39]
        exact List.mem_cons_of_mem _ (List.mem_append_left _ (weights_texts (ss.take len) _ hmem)))
      have hr : reachBytes ≤ 140737488355328 := by decide
      rw [List.getD_eq_getElem?_getD, List.getElem?_map, List.getElem?_eq_getElem hi']
      simp only [Option.map_some, Option.getD_some]
      omega
end Go.Proofs.Ytfcicfkgbepagaa
