/-
  Plain law: frames that stand one behind the other, joined, cut off. No program in sight.
-/
import Derived.Test.YtfcicfkgbepagaaSegList
namespace Go.Proofs.Ytfcicfkgbepagaa

def head (t : List UInt8) : List UInt8 := be4 (BitVec.ofNat 32 t.length)
theorem be4_len (x : BitVec 32) : (be4 x).length = 4 := rfl
theorem le4_len (x : BitVec 32) : (le4 x).length = 4 := rfl
theorem frame_eq (t : List UInt8) : frame t = head t ++ (le4 (Crc.crc (head t)) ++ (t ++ le4 (Crc.crc t))) := by
  simp [frame, head]
theorem num_head (t : List UInt8) (ht : t.length ≤ 16384) (b : List UInt8) : num (head t ++ b) = t.length := by
  have e : ∀ n : Nat, n < 4294967296 → num (be4 (BitVec.ofNat 32 n) ++ b) = n := by
    intro n hn
    simp only [num, be4, List.cons_append, List.nil_append, List.getD_cons_zero, List.getD_cons_succ, UInt8.toNat_ofBitVec, BitVec.toNat_setWidth, BitVec.toNat_ushiftRight, BitVec.toNat_ofNat, Nat.shiftRight_eq_div_pow]
    omega
  exact e _ (by omega)
theorem rd_frame (t b : List UInt8) (ht : t.length ≤ 16384) : rd (frame t ++ b) = (t, 12 + t.length, 0) := by
  have hl : (frame t ++ b).length = 12 + t.length + b.length := by rw [List.length_append, frame_len]
  have h0 : (head t).length = 4 := rfl
  have h1 : (le4 (Crc.crc (head t))).length = 4 := rfl
  have h2 : (le4 (Crc.crc t)).length = 4 := rfl
  have e : frame t ++ b = head t ++ (le4 (Crc.crc (head t)) ++ (t ++ (le4 (Crc.crc t) ++ b))) := by rw [frame_eq]; simp
  have e1 : (frame t ++ b).take 4 = head t := by rw [e, List.take_left' h0]
  have e2 : ((frame t ++ b).drop 4).take 4 = le4 (Crc.crc (head t)) := by rw [e, List.drop_left' h0, List.take_left' h1]
  have e3 : num (frame t ++ b) = t.length := by rw [e]; exact num_head t ht _
  have e8 : (frame t ++ b).drop 8 = t ++ (le4 (Crc.crc t) ++ b) := by
    rw [show (8 : Nat) = 4 + 4 from rfl, ← List.drop_drop, e, List.drop_left' h0, List.drop_left' h1]
  have e4 : ((frame t ++ b).drop 8).take t.length = t := by rw [e8, List.take_left]
  have e5 : ((frame t ++ b).drop (8 + t.length)).take 4 = le4 (Crc.crc t) := by
    rw [← List.drop_drop, e8, List.drop_left, List.take_left' h2]
  unfold rd
  rw [if_neg (by omega), e1, e2, e3, if_neg (by simp), if_neg (by omega), if_neg (by omega), e4, e5, if_neg (by simp)]
theorem scan_step (l : List UInt8) (h0 : 0 < l.length) (hok : (rd l).2.2 = 0) : scanAll l = ((rd l).1 :: (scanAll (l.drop (rd l).2.1)).1, (rd l).2.1 + (scanAll (l.drop (rd l).2.1)).2.1, (scanAll (l.drop (rd l).2.1)).2.2) := by
  have h := rd_ok l hok
  have hd : (l.drop (rd l).2.1).length = l.length - (rd l).2.1 := List.length_drop
  have e : scan l.length (l.drop (rd l).2.1) = scanAll (l.drop (rd l).2.1) := scan_more _ _ _ (by omega) (by omega)
  rw [← e]
  unfold scanAll
  rw [scan, if_neg (by omega), if_pos hok]
theorem scan_bad (l : List UInt8) (h0 : 0 < l.length) (hbad : (rd l).2.2 ≠ 0) : scanAll l = ([], 0, (rd l).2.2) := by
  unfold scanAll
  rw [scan, if_neg (by omega), if_neg hbad]
theorem scan_nil : scanAll [] = ([], 0, 0) := rfl
theorem scan_frame (t b : List UInt8) (ht : t.length ≤ 16384) : scanAll (frame t ++ b) = (t :: (scanAll b).1, 12 + t.length + (scanAll b).2.1, (scanAll b).2.2) := by
  have h := rd_frame t b ht
  have hl : (frame t ++ b).length = 12 + t.length + b.length := by rw [List.length_append, frame_len]
  rw [scan_step _ (by omega) (by rw [h]), h]
  have : (frame t ++ b).drop (12 + t.length) = b := List.drop_left' (frame_len t)
  simp only [this]
theorem framesOf_cons (t : List UInt8) (ts : List (List UInt8)) : framesOf (t :: ts) = frame t ++ framesOf ts := by simp [framesOf]
theorem scan_frames (ts : List (List UInt8)) (b : List UInt8) (h : ∀ t ∈ ts, t.length ≤ 16384) :
    scanAll (framesOf ts ++ b) = (ts ++ (scanAll b).1, (framesOf ts).length + (scanAll b).2.1, (scanAll b).2.2) := by
  induction ts with
  | nil => simp [framesOf]
  | cons t ts ih =>
    rw [framesOf_cons, List.append_assoc, scan_frame _ _ (h t (by simp)), ih (fun t ht => h t (by simp [ht]))]
    simp [frame_len, Nat.add_assoc]

/-! ### cut off -/
theorem rd_torn (t : List UInt8) (ht : t.length ≤ 16384) (n : Nat) (hn : n < 12 + t.length) : (rd ((frame t).take n)).2.2 = 70 := by
  have hl : ((frame t).take n).length = n := by rw [List.length_take, frame_len]; omega
  unfold rd
  by_cases h8 : n < 8
  · rw [if_pos (by omega)]
  · have h0 : (head t).length = 4 := rfl
    have h1 : (le4 (Crc.crc (head t))).length = 4 := rfl
    have e : (frame t).take n = head t ++ (le4 (Crc.crc (head t)) ++ (t ++ le4 (Crc.crc t)).take (n - 8)) := by
      rw [frame_eq, List.take_append, List.take_append, List.take_of_length_le (by omega), List.take_of_length_le (by omega), h0, h1, Nat.sub_sub]
    have e1 : ((frame t).take n).take 4 = head t := by rw [e, List.take_left' h0]
    have e2 : (((frame t).take n).drop 4).take 4 = le4 (Crc.crc (head t)) := by rw [e, List.drop_left' h0, List.take_left' h1]
    have e3 : num ((frame t).take n) = t.length := by rw [e]; exact num_head t ht _
    rw [if_neg (by omega), e1, e2, e3, if_neg (by simp), if_neg (by omega), if_pos (by omega)]
theorem scan_cut (ts : List (List UInt8)) (h : ∀ t ∈ ts, t.length ≤ 16384) (n : Nat) (hn : n ≤ (framesOf ts).length) :
    ∃ j g, j ≤ ts.length ∧ g ≤ n ∧ scanAll ((framesOf ts).take n) = (ts.take j, g, if g = n then 0 else 70) ∧ (j < ts.length → n - g < 12 + (ts.getD j []).length) ∧ (n = (framesOf ts).length → j = ts.length) := by
  induction ts generalizing n with
  | nil =>
    have : n = 0 := by simpa [framesOf] using hn
    subst this
    exact ⟨0, 0, by simp, by simp, by simp [framesOf, scan_nil], by simp, by simp⟩
  | cons t ts ih =>
    have ht := h t (by simp)
    have hlf := frame_len t
    rw [framesOf_cons, List.length_append] at *
    by_cases hlt : n < 12 + t.length
    · have e : (frame t ++ framesOf ts).take n = (frame t).take n := by rw [List.take_append_of_le_length (by omega)]
      refine ⟨0, 0, by simp, by simp, ?_, by simpa using hlt, by omega⟩
      rw [e]
      have hl : ((frame t).take n).length = n := by rw [List.length_take, frame_len]; omega
      by_cases h0 : n = 0
      · subst h0; simp [scan_nil]
      · have hr := rd_torn t ht n hlt
        rw [scan_bad _ (by omega) (by omega), hr, if_neg (by omega)]; rfl
    · have e : (frame t ++ framesOf ts).take n = frame t ++ (framesOf ts).take (n - (12 + t.length)) := by rw [List.take_append, List.take_of_length_le (by omega), hlf]
      obtain ⟨j, g, h1, h2, h3, h4, h5⟩ := ih (fun t ht => h t (by simp [ht])) (n - (12 + t.length)) (by omega)
      refine ⟨j + 1, 12 + t.length + g, by simp; omega, by omega, ?_, ?_, ?_⟩
      · rw [e, scan_frame _ _ ht, h3]
        simp only [List.take_succ_cons]
        congr 2
        by_cases hg : g = n - (12 + t.length)
        · rw [if_pos hg, if_pos (by omega)]
        · rw [if_neg hg, if_neg (by omega)]
      · intro hj
        have := h4 (by simpa using hj)
        simp only [List.getD_cons_succ]
        omega
      · intro hn
        have := h5 (by omega)
        simp [this]
end Go.Proofs.Ytfcicfkgbepagaa
