/-
  EntryFull: plain laws.
-/
import Derived.Test.YtkjfplkbgooflaaWorks26
namespace Go.Proofs.Ytkjfplkbgooflaa
open Go Go.RowKit Go.Lst Go.Lx

def fullL (n : Nat) : LogS := ⟨0, 0, [1, 2, 3], (List.range n).map fun j : Nat => nE ((j : Int) + 1) 1⟩
def esL (m : Nat) : List Ent := (List.range m).map fun j : Nat => nE (4096 + (j : Int) + 1) 1
theorem fullL_len (n : Nat) : (fullL n).l.length = n := by simp [fullL]
theorem esL_len (n : Nat) : (esL n).length = n := by simp [esL]
theorem mayE_noop (i t : Int) (h : 1 ≤ i ∧ i ≤ 281474976710656 ∧ 1 ≤ t ∧ t ≤ 281474976710656) : mayE (nE i t) = true := by
  unfold mayE nE
  dsimp only
  rw [decide_eq_true h]
  kernel_rfl
theorem full_last (n : Nat) (ok : LogOk (fullL n)) : (lastOf (fullL n)).1 = n := by
  rw [ok.last, fullL_len]; simp [fullL]
theorem full_last_t (n : Nat) : (lastOf (fullL n)).2 ≤ 1 := by
  unfold lastOf
  rcases h : (fullL n).l.getLast? with _ | e
  · simp [fullL]
  · have := List.mem_of_getLast? h
    simp only [fullL, List.mem_map, List.mem_range] at this
    obtain ⟨j, _, rfl⟩ := this
    simp [nE]
theorem full_app (n : Nat) (ok : LogOk (fullL n)) (h : n < 4096) : appendE (fullL n) (nE ((n : Int) + 1) 1) = 0 ∧ appendL (fullL n) (nE ((n : Int) + 1) 1) = fullL (n + 1) := by
  have h1 : appendE (fullL n) (nE ((n : Int) + 1) 1) = 0 := by
    unfold appendE
    rw [mayE_noop _ _ (by omega), if_neg (by decide), full_last n ok, if_neg, if_neg (by rw [fullL_len]; omega)]
    have := full_last_t n
    rintro (h | h)
    · exact h rfl
    · simp only [nE] at h; omega
  refine ⟨h1, ?_⟩
  unfold appendL
  rw [if_pos h1]
  unfold fullL
  simp [List.range_succ]
theorem full_over (ok : LogOk (fullL 4096)) : appendE (fullL 4096) (nE 4097 1) = 6 := by
  unfold appendE
  rw [mayE_noop _ _ (by omega), if_neg (by decide), full_last _ ok, if_neg, if_pos (by rw [fullL_len]; omega)]
  have := full_last_t 4096
  rintro (h | h)
  · exact h rfl
  · simp only [nE] at h; omega
theorem full_term (n : Nat) (ok : LogOk (fullL n)) (x : Int) (h : 1 ≤ x ∧ x ≤ n) : termAt (fullL n) x = (1, 0) := by
  unfold termAt
  rw [full_last n ok, if_neg (by simp [fullL]; omega), if_neg (by omega), if_neg (by simp [fullL]; omega)]
  have : entAt (fullL n) x = nE x 1 := by
    unfold entAt fullL
    dsimp only
    rw [List.getD_eq_getElem?_getD, List.getElem?_map, List.getElem?_range (by omega)]
    simp only [Option.map_some, Option.getD_some]
    congr 1
    omega
  rw [this]
  rfl
theorem esL_may (m : Nat) (hm : m ≤ 100) : ∀ (i : Nat), i ≤ m → ∀ t, t = 1 → mayEs (4096 + (i : Int)) t ((List.range' i (m - i)).map fun j : Nat => nE (4096 + (j : Int) + 1) 1) = true := by
  intro i
  generalize hk : m - i = k
  induction k generalizing i with
  | zero => intro _ t _; rfl
  | succ k ih =>
    intro hi t ht
    subst ht
    rw [List.range'_succ, List.map_cons, mayEs_cons, mayE_noop _ _ (by omega)]
    have h1 : (nE (4096 + (i : Int) + 1) 1).i = IntKind.u64.wrap (4096 + (i : Int) + 1) := by show 4096 + (i : Int) + 1 = _; rw [IntKind.wrap_u64]; omega
    rw [decide_eq_true h1, decide_eq_true (show (1 : Int) ≤ (nE (4096 + (i : Int) + 1) 1).t from Int.le_refl _)]
    simp only [Bool.true_and]
    have h2 := ih (i + 1) (by omega) (by omega) 1 rfl
    have e : (nE (4096 + (i : Int) + 1) 1).i = 4096 + ((i + 1 : Nat) : Int) := by show 4096 + (i : Int) + 1 = _; omega
    rw [e]
    exact h2
theorem esL_mayE (m : Nat) (hm : m ≤ 100) : mayEs 4096 1 (esL m) = true := by
  have := esL_may m hm 0 (by omega) 1 rfl
  rw [Nat.sub_zero, ← List.range_eq_range'] at this
  simpa [esL] using this
/-- What a log that ends at 4096 answers to them. -/
theorem esL_store {L : LogS} (ok : LogOk L) (hl : L.i + L.l.length = 4096) (ht : termAt L 4096 = (1, 0)) (m : Nat) (hm : 1 ≤ m ∧ m ≤ 100) :
    storeE L 4096 1 (esL m) = (if L.i < m then 6 else 0) ∧ (L.i < m → storeAt L 4096 1 (esL m) = 0 ∧ storePut L 4096 1 (esL m) = [] ∧ storeL L 4096 1 (esL m) = L) ∧
      (¬ L.i < m → storeAt L 4096 1 (esL m) = 4097 ∧ storePut L 4096 1 (esL m) = esL m ∧ (lastOf (storeL L 4096 1 (esL m))).1 = 4096 + m) := by
  have hi0 := ok.i0
  have hlast := ok.last
  obtain ⟨k, rfl⟩ : ∃ k, m = k + 1 := ⟨m - 1, by omega⟩
  obtain ⟨r, hr, hrl⟩ : ∃ r, esL (k + 1) = nE 4097 1 :: r ∧ r.length = k := by
    refine ⟨(esL (k + 1)).tail, ?_, by rw [List.length_tail, esL_len]; omega⟩
    unfold esL
    rw [List.range_succ_eq_map]
    rfl
  have hc : clashB L 4096 1 = false := by unfold clashB; rw [ht]; rfl
  have hf : fitsB L 4097 1 = false := by
    unfold fitsB termAt
    rw [if_neg (by omega), if_pos (by omega)]
    rfl
  have hs : skipE L (esL (k + 1)) = nE 4097 1 :: r := by
    rw [hr]
    unfold skipE
    rw [if_neg]
    rintro (h | h)
    · have : (nE 4097 1).i = 4097 := rfl
      omega
    · have : fitsB L (nE 4097 1).i (nE 4097 1).t = false := hf
      rw [this] at h
      cases h
  have hE : storeE L 4096 1 (esL (k + 1)) = if L.i < ((k + 1 : Nat) : Int) then 6 else 0 := by
    unfold storeE
    rw [esL_mayE _ hm.2, if_neg (by decide), hc, if_neg (by decide), hs]
    dsimp only
    have e : (nE 4097 1).i = 4097 := rfl
    rw [e, hrl]
    by_cases h : L.i < ((k + 1 : Nat) : Int)
    · rw [if_pos h, if_pos (by omega)]
    · rw [if_neg h, if_neg (by omega)]
  refine ⟨hE, fun h => ?_, fun h => ?_⟩
  · have hp : storePut L 4096 1 (esL (k + 1)) = [] := by unfold storePut; rw [hE, if_pos h, if_neg (by decide)]
    exact ⟨by unfold storeAt; rw [hp], hp, by unfold storeL; rw [hp]⟩
  · have hp : storePut L 4096 1 (esL (k + 1)) = nE 4097 1 :: r := by unfold storePut; rw [hE, if_neg h, if_pos rfl, hs]
    refine ⟨by unfold storeAt; rw [hp]; rfl, by rw [hp, hr], ?_⟩
    have hk := (storeL_ok ok (by omega) (i := 4096) (t := 1) (by decide) (esL (k + 1))).1.last
    rw [hk]
    unfold storeL
    rw [hp]
    dsimp only
    have e : (nE 4097 1).i = 4097 := rfl
    rw [e, List.length_append, List.length_take, List.length_cons, hrl]
    omega
theorem full_compact (ok : LogOk (fullL 4096)) (K : Nat) (hK : 1 ≤ K ∧ K ≤ 4096) : (compactL (fullL 4096) K).i = K ∧ (compactL (fullL 4096) K).i + (compactL (fullL 4096) K).l.length = 4096 ∧ termAt (compactL (fullL 4096) K) 4096 = (1, 0) := by
  have ht := full_term 4096 ok (K : Int) (by omega)
  have hc : compactL (fullL 4096) K = ⟨K, 1, saysC (fullL 4096) K, (fullL 4096).l.drop K⟩ := by
    unfold compactL
    rw [ht, if_pos rfl]
    have : ((K : Int) - (fullL 4096).i).toNat = K := by simp [fullL]
    rw [this]
  have ok2 := (compactL_ok ok (by rw [fullL_len]; omega) (K : Int)).1
  rw [hc] at ok2 ⊢
  have hl2 := ok2.last
  have hlen : ((fullL 4096).l.drop K).length = 4096 - K := by rw [List.length_drop, fullL_len]
  dsimp only at hl2 ⊢
  rw [hlen] at hl2 ⊢
  refine ⟨rfl, by omega, ?_⟩
  unfold termAt
  rw [hl2]
  dsimp only
  rw [if_neg (by omega), if_neg (by omega)]
  by_cases h4 : K = 4096
  · subst h4; rfl
  · rw [if_neg (by omega)]
    have : entAt ⟨K, 1, saysC (fullL 4096) K, (fullL 4096).l.drop K⟩ 4096 = nE 4096 1 := by
      unfold entAt fullL
      dsimp only
      rw [List.getD_eq_getElem?_getD, List.getElem?_drop, List.getElem?_map, show K + (4096 - (K : Int) - 1).toNat = 4095 by omega, List.getElem?_range (by omega)]
      rfl
    rw [this]
    rfl
end Go.Proofs.Ytkjfplkbgooflaa
