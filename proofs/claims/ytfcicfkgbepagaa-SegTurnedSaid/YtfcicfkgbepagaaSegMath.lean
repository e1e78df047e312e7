/-
  Plain law: what a scan of bytes finds. No program in sight.
-/
import Derived.Test.YtfcicfkgbepagaaSegRef
namespace Go.Proofs.Ytfcicfkgbepagaa
open Go.RowKit

theorem rd_ok (l : List UInt8) (h : (rd l).2.2 = 0) : (rd l).2.1 = 12 + (rd l).1.length ∧ (rd l).2.1 ≤ l.length := by
  unfold rd at h ⊢
  split at h
  · simp at h
  · split at h
    · simp at h
    · split at h
      · simp at h
      · split at h
        · simp at h
        · split at h
          · simp at h
          · rename_i h1 h2 h3 h4 h5
            rw [if_neg h1, if_neg h2, if_neg h3, if_neg h4, if_neg h5]
            simp; omega

/-- What is found from here on: the texts, how far they go, the error of what is left. -/
def scan : Nat → List UInt8 → List (List UInt8) × Nat × Nat
  | 0, _ => ([], 0, 0)
  | k + 1, l => if l.length = 0 then ([], 0, 0) else if (rd l).2.2 = 0 then ((rd l).1 :: (scan k (l.drop (rd l).2.1)).1, (rd l).2.1 + (scan k (l.drop (rd l).2.1)).2.1, (scan k (l.drop (rd l).2.1)).2.2) else ([], 0, (rd l).2.2)
def scanAll (l : List UInt8) := scan (l.length + 1) l
theorem scan_more (k m : Nat) (l : List UInt8) (hk : l.length < k) (hm : l.length < m) : scan k l = scan m l := by
  induction k generalizing m l with
  | zero => omega
  | succ k ih =>
    obtain ⟨m, rfl⟩ : ∃ m', m = m' + 1 := ⟨m - 1, by omega⟩
    simp only [scan]
    by_cases h0 : l.length = 0
    · rw [if_pos h0, if_pos h0]
    · rw [if_neg h0, if_neg h0]
      by_cases h1 : (rd l).2.2 = 0
      · have := rd_ok l h1
        have hl : (l.drop (rd l).2.1).length < k := by rw [List.length_drop]; omega
        have hl2 : (l.drop (rd l).2.1).length < m := by rw [List.length_drop]; omega
        rw [if_pos h1, if_pos h1, ih m _ hl hl2]
      · rw [if_neg h1, if_neg h1]
theorem scan_le (k : Nat) (l : List UInt8) : (scan k l).2.1 ≤ l.length ∧ (scan k l).1.length ≤ l.length := by
  induction k generalizing l with
  | zero => simp [scan]
  | succ k ih =>
    simp only [scan]
    by_cases h0 : l.length = 0
    · rw [if_pos h0]; simp
    · rw [if_neg h0]
      by_cases h1 : (rd l).2.2 = 0
      · have h2 := rd_ok l h1
        have h3 := ih (l.drop (rd l).2.1)
        rw [List.length_drop] at h3
        rw [if_pos h1]
        simp; omega
      · rw [if_neg h1]; simp
end Go.Proofs.Ytfcicfkgbepagaa
