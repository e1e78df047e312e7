/-
  Plain law: bits that are turned within 32 in a row, in frames that stand one behind the other, are told. No program in sight.
-/
import Derived.Test.YtfcicfkgbepagaaSegPlain
namespace Go.Proofs.Ytfcicfkgbepagaa

def flipAt (l : List UInt8) (p : Nat) : List UInt8 := l.set (p / 8) (UInt8.ofBitVec ((l.getD (p / 8) 0).toBitVec ^^^ BitVec.twoPow 8 (p % 8)))
/-- The first k bits of V are turned, from bit f on. -/
def turn (V : BitVec 32) (f : Nat) : Nat → List UInt8 → List UInt8
  | 0, l => l
  | k + 1, l => if V.getLsbD k then flipAt (turn V f k l) (f + k) else turn V f k l
theorem flip_len (l : List UInt8) (p : Nat) : (flipAt l p).length = l.length := by simp [flipAt]
theorem turn_len (V : BitVec 32) (f k : Nat) (l : List UInt8) : (turn V f k l).length = l.length := by
  induction k with
  | zero => rfl
  | succ k ih => rw [turn]; split <;> simp [flip_len, ih]
theorem flip_right (A X : List UInt8) (p : Nat) (h : 8 * A.length ≤ p) : flipAt (A ++ X) p = A ++ flipAt X (p - 8 * A.length) := by
  have e1 : p / 8 = A.length + (p - 8 * A.length) / 8 := by omega
  have e2 : p % 8 = (p - 8 * A.length) % 8 := by omega
  unfold flipAt
  rw [e2, e1, List.set_append_right _ _ (by omega)]
  congr 2
  · omega
  · rw [List.getD_eq_getElem?_getD, List.getElem?_append_right (by omega), List.getD_eq_getElem?_getD]
    simp
theorem flip_left (X C : List UInt8) (p : Nat) (h : p < 8 * X.length) : flipAt (X ++ C) p = flipAt X p ++ C := by
  unfold flipAt
  rw [List.set_append_left _ _ (by omega)]
  congr 3
  rw [List.getD_eq_getElem?_getD, List.getElem?_append_left (by omega), List.getD_eq_getElem?_getD]
theorem turn_right (V : BitVec 32) (f k : Nat) (A X : List UInt8) (h : 8 * A.length ≤ f) : turn V f k (A ++ X) = A ++ turn V (f - 8 * A.length) k X := by
  induction k with
  | zero => rfl
  | succ k ih =>
    simp only [turn, ih]
    split
    · rw [flip_right _ _ _ (by omega)]; congr 2; omega
    · rfl
theorem turn_left (V : BitVec 32) (f k : Nat) (D C : List UInt8) (hf : f < 8 * D.length) : ∃ C', C'.length = C.length ∧ turn V f k (D ++ C) = turn V f (min k (8 * D.length - f)) D ++ C' := by
  induction k with
  | zero => exact ⟨C, rfl, by simp [turn]⟩
  | succ k ih =>
    obtain ⟨C', h4, h5⟩ := ih
    by_cases hp : k < 8 * D.length - f
    · rw [Nat.min_eq_left (by omega)] at h5
      rw [Nat.min_eq_left (by omega)]
      refine ⟨C', h4, ?_⟩
      simp only [turn, h5]
      split
      · rw [flip_left _ _ _ (by rw [turn_len]; omega)]
      · rfl
    · rw [Nat.min_eq_right (by omega)] at h5
      rw [Nat.min_eq_right (by omega)]
      by_cases hv : V.getLsbD k = true
      · refine ⟨flipAt C' (f + k - 8 * D.length), by rw [flip_len, h4], ?_⟩
        simp only [turn, h5, if_pos hv]
        rw [flip_right _ _ _ (by rw [turn_len]; omega), turn_len]
      · exact ⟨C', h4, by simp only [turn, h5, if_neg hv]⟩
theorem flip_fold (x : BitVec 32) (bs : List UInt8) (p : Nat) (h : p < 8 * bs.length) : Crc.fold x (flipAt bs p) = Crc.fold x bs ^^^ Crc.Ln (8 * bs.length - p) 1#32 := by
  have hm : p % 8 < 8 := Nat.mod_lt _ (by decide)
  have hj : p / 8 < bs.length := by omega
  have e1 : bs = bs.take (p / 8) ++ bs.getD (p / 8) 0 :: bs.drop (p / 8 + 1) := by
    have hg : bs[p / 8] = bs.getD (p / 8) 0 := by simp [List.getD, hj]
    rw [← hg, List.getElem_cons_drop, List.take_append_drop]
  have e3 : (bs.drop (p / 8 + 1)).length = bs.length - p / 8 - 1 := by rw [List.length_drop]; omega
  unfold flipAt
  generalize hd : UInt8.ofBitVec ((bs.getD (p / 8) 0).toBitVec ^^^ BitVec.twoPow 8 (p % 8)) = d
  have hdb : d.toBitVec = (bs.getD (p / 8) 0).toBitVec ^^^ BitVec.twoPow 8 (p % 8) := by rw [← hd]
  have e2 : bs.set (p / 8) d = bs.take (p / 8) ++ d :: bs.drop (p / 8 + 1) := List.set_eq_take_append_cons_drop ▸ by simp [hj]
  rw [e2, Crc.fold_flip _ _ _ (bs.getD (p / 8) 0) d (p % 8) hm hdb, ← e1, e3]
  congr 2
  omega
theorem turn_fold (V : BitVec 32) (f k : Nat) (D : List UInt8) (x : BitVec 32) (hk : k ≤ 32) (h : f + k ≤ 8 * D.length) :
    Crc.fold x (turn V f k D) = Crc.fold x D ^^^ Crc.Ln (8 * D.length - f) (Crc.low V k) := by
  induction k with
  | zero => simp [turn, Crc.low, Crc.Ln_zero]
  | succ k ih =>
    have ih := ih (by omega) (by omega)
    have hlen := turn_len V f k D
    simp only [turn]
    cases hv : V.getLsbD k with
    | false => rw [Crc.low_off V k hv, ← ih]; simp
    | true =>
      rw [if_pos rfl, flip_fold _ _ _ (by omega), ih, hlen, Crc.Ln_low V _ k (by omega) (by omega) hv, BitVec.xor_assoc]
      congr 3
      omega

/-- What stands behind its own sum leaves one and the same in the register. -/
theorem step8 (x y : BitVec 32) : Crc.Ln 8 (x ^^^ y) = Crc.B x (y.setWidth 8) ^^^ (y >>> 8) := by
  unfold Crc.B
  rw [Crc.Ln_xor, Crc.Ln_xor, Crc.Ln8 y, BitVec.xor_assoc, BitVec.xor_comm (y >>> 8)]
theorem fold_le4 (x y : BitVec 32) : Crc.fold x (le4 y) = Crc.Ln 32 (x ^^^ y) := by
  have e : Crc.fold x (le4 y) = Crc.B (Crc.B (Crc.B (Crc.B x (y.setWidth 8)) ((y >>> 8).setWidth 8)) ((y >>> 16).setWidth 8)) ((y >>> 24).setWidth 8) := rfl
  have h32 : (y >>> 24) >>> 8 = 0#32 := by
    apply BitVec.eq_of_getLsbD_eq
    intro i hi
    rw [BitVec.getLsbD_ushiftRight, BitVec.getLsbD_ushiftRight, BitVec.getLsbD_of_ge _ _ (by omega)]
    simp
  have a1 : (y >>> 8) >>> 8 = y >>> 16 := by rw [← BitVec.shiftRight_add]
  have a2 : (y >>> 16) >>> 8 = y >>> 24 := by rw [← BitVec.shiftRight_add]
  have h8 : Crc.Ln 32 (x ^^^ y) = Crc.Ln (8 + (8 + (8 + 8))) (x ^^^ y) := rfl
  rw [e, h8, Crc.Ln_add 8 (8 + (8 + 8)), Crc.Ln_add 8 (8 + 8), Crc.Ln_add 8 8, step8 x y, step8 _ (y >>> 8), a1, step8 _ (y >>> 16), a2, step8 _ (y >>> 24), h32, BitVec.xor_zero]
theorem xor_not (z : BitVec 32) : z ^^^ ~~~ z = BitVec.allOnes 32 := by
  rw [← BitVec.allOnes_xor, BitVec.xor_comm, BitVec.xor_assoc, BitVec.xor_self, BitVec.xor_zero]
theorem fold_block (D : List UInt8) : Crc.fold (~~~ 0#32) (D ++ le4 (Crc.crc D)) = Crc.Ln 32 (BitVec.allOnes 32) := by
  rw [Crc.fold_append, fold_le4]
  congr 1
  exact xor_not _
/-- Bits that are turned in a block are told by its sum. -/
theorem turned_block (X : List UInt8) (V : BitVec 32) (f k : Nat) (hV : V.getLsbD 0 = true) (hk0 : 0 < k) (hk : k ≤ 32) (h : f + k ≤ 8 * (X.length + 4)) (X' Y' : List UInt8) (hX : X'.length = X.length) (e : turn V f k (X ++ le4 (Crc.crc X)) = X' ++ Y') : le4 (Crc.crc X') ≠ Y' := by
  intro he
  have h1 := fold_block X
  have h2 := fold_block X'
  rw [he, ← e, turn_fold V f k _ _ hk (by simp [le4_len]; omega), h1] at h2
  have h4 := congrArg (fun z => Crc.Ln 32 (BitVec.allOnes 32) ^^^ z) h2
  simp only [BitVec.xor_self, ← BitVec.xor_assoc, BitVec.zero_xor] at h4
  exact Crc.low_zero V k 0 hk (by omega) hV _ h4

theorem rd_turned (t b : List UInt8) (ht : t.length ≤ 16384) (V : BitVec 32) (f k : Nat) (hV : V.getLsbD 0 = true) (hk0 : 0 < k) (hk : k ≤ 32) (hf : f < 8 * (12 + t.length)) :
    (rd (turn V f k (frame t ++ b))).2.2 = 71 := by
  have h0 : (head t).length = 4 := rfl
  have h1 : (le4 (Crc.crc (head t))).length = 4 := rfl
  have h2 : (le4 (Crc.crc t)).length = 4 := rfl
  have hb1 : (head t ++ le4 (Crc.crc (head t))).length = 8 := rfl
  by_cases h8 : f < 64
  · have e : frame t ++ b = (head t ++ le4 (Crc.crc (head t))) ++ ((t ++ le4 (Crc.crc t)) ++ b) := by rw [frame_eq]; simp
    obtain ⟨C', hC, eC⟩ := turn_left V f k (head t ++ le4 (Crc.crc (head t))) ((t ++ le4 (Crc.crc t)) ++ b) (by omega)
    rw [← e, hb1] at eC
    have hm : min k (64 - f) ≤ 32 := by omega
    have hTl := turn_len V f (min k (64 - f)) (head t ++ le4 (Crc.crc (head t)))
    rw [hb1] at hTl
    have hne := turned_block (head t) V f (min k (64 - f)) hV (by omega) hm (by omega) ((turn V f (min k (64 - f)) (head t ++ le4 (Crc.crc (head t)))).take 4) ((turn V f (min k (64 - f)) (head t ++ le4 (Crc.crc (head t)))).drop 4) (by rw [List.length_take, hTl]; rfl) (List.take_append_drop _ _).symm
    generalize turn V f (min k (64 - f)) (head t ++ le4 (Crc.crc (head t))) = T at *
    rw [eC]
    unfold rd
    have hl : ¬ (T ++ C').length < 8 := by rw [List.length_append]; omega
    have e1 : (T ++ C').take 4 = T.take 4 := by rw [List.take_append_of_le_length (by omega)]
    have e2 : ((T ++ C').drop 4).take 4 = T.drop 4 := by
      rw [List.drop_append_of_le_length (by omega), List.take_append_of_le_length (by rw [List.length_drop]; omega), List.take_of_length_le (by rw [List.length_drop]; omega)]
    rw [if_neg hl, e1, e2, if_pos hne]
  · have e : frame t ++ b = (head t ++ le4 (Crc.crc (head t))) ++ ((t ++ le4 (Crc.crc t)) ++ b) := by rw [frame_eq]; simp
    have hb2 : (t ++ le4 (Crc.crc t)).length = t.length + 4 := by rw [List.length_append, h2]
    rw [e, turn_right V f k _ _ (by omega), hb1]
    obtain ⟨C', hC, eC⟩ := turn_left V (f - 8 * 8) k (t ++ le4 (Crc.crc t)) b (by omega)
    rw [hb2] at eC
    have hTl := turn_len V (f - 8 * 8) (min k (8 * (t.length + 4) - (f - 8 * 8))) (t ++ le4 (Crc.crc t))
    rw [hb2] at hTl
    have hne := turned_block t V (f - 8 * 8) (min k (8 * (t.length + 4) - (f - 8 * 8))) hV (by omega) (by omega) (by omega) ((turn V (f - 8 * 8) (min k (8 * (t.length + 4) - (f - 8 * 8))) (t ++ le4 (Crc.crc t))).take t.length) ((turn V (f - 8 * 8) (min k (8 * (t.length + 4) - (f - 8 * 8))) (t ++ le4 (Crc.crc t))).drop t.length) (by rw [List.length_take, hTl]; omega) (List.take_append_drop _ _).symm
    rw [eC]
    generalize turn V (f - 8 * 8) (min k (8 * (t.length + 4) - (f - 8 * 8))) (t ++ le4 (Crc.crc t)) = T at *
    have el : head t ++ le4 (Crc.crc (head t)) ++ (T ++ C') = head t ++ (le4 (Crc.crc (head t)) ++ (T ++ C')) := by simp
    have hl : (head t ++ le4 (Crc.crc (head t)) ++ (T ++ C')).length = 12 + t.length + C'.length := by rw [el, List.length_append, List.length_append, List.length_append, h0, h1, hTl]; omega
    have e1 : (head t ++ le4 (Crc.crc (head t)) ++ (T ++ C')).take 4 = head t := by rw [el, List.take_left' h0]
    have e2 : ((head t ++ le4 (Crc.crc (head t)) ++ (T ++ C')).drop 4).take 4 = le4 (Crc.crc (head t)) := by rw [el, List.drop_left' h0, List.take_left' h1]
    have e3 : num (head t ++ le4 (Crc.crc (head t)) ++ (T ++ C')) = t.length := by rw [el]; exact num_head t ht _
    have e8 : (head t ++ le4 (Crc.crc (head t)) ++ (T ++ C')).drop 8 = T ++ C' := List.drop_left' hb1
    have e4 : ((head t ++ le4 (Crc.crc (head t)) ++ (T ++ C')).drop 8).take t.length = T.take t.length := by rw [e8, List.take_append_of_le_length (by omega)]
    have e5 : ((head t ++ le4 (Crc.crc (head t)) ++ (T ++ C')).drop (8 + t.length)).take 4 = T.drop t.length := by
      rw [← List.drop_drop, e8, List.drop_append_of_le_length (by omega), List.take_append_of_le_length (by rw [List.length_drop]; omega), List.take_of_length_le (by rw [List.length_drop]; omega)]
    unfold rd
    rw [if_neg (by omega), e1, e2, e3, if_neg (by simp), if_neg (by omega), if_neg (by omega), e4, e5, if_pos hne]
theorem scan_turned (ts : List (List UInt8)) (h : ∀ t ∈ ts, t.length ≤ 16384) (V : BitVec 32) (f k : Nat) (hV : V.getLsbD 0 = true) (hk0 : 0 < k) (hk : k ≤ 32) (hf : f < 8 * (framesOf ts).length) :
    ∃ j g, j < ts.length ∧ g ≤ f / 8 ∧ scanAll (turn V f k (framesOf ts)) = (ts.take j, g, 71) := by
  induction ts generalizing f with
  | nil => simp [framesOf] at hf
  | cons t ts ih =>
    have ht := h t (by simp)
    have hlf := frame_len t
    rw [framesOf_cons, List.length_append] at *
    by_cases hlt : f < 8 * (12 + t.length)
    · refine ⟨0, 0, by simp, by omega, ?_⟩
      have hr := rd_turned t (framesOf ts) ht V f k hV hk0 hk hlt
      rw [scan_bad _ (by rw [turn_len, List.length_append]; omega) (by omega), hr]; rfl
    · obtain ⟨j, g, h1, h2, h3⟩ := ih (fun t ht => h t (by simp [ht])) (f - 8 * (12 + t.length)) (by omega)
      refine ⟨j + 1, 12 + t.length + g, by simp; omega, by omega, ?_⟩
      rw [turn_right V f k _ _ (by omega), hlf, scan_frame _ _ ht, h3]
      rfl
end Go.Proofs.Ytfcicfkgbepagaa
