/-
  The contracts of crc.More, crc.Of, crc.Join and of the reference's functions of the same names: each returns the plain law's value. Strings of at most maxLen bytes.
-/
import Derived.Test.YtfcicfkgbepagaaTab
import Derived.Below
import Derived.Deep.QuietTactic
import Derived.BigQuiet
namespace Go.Proofs.Ytfcicfkgbepagaa
open Go.RowKit

def bv8 (x : BitVec 32) (c : UInt8) : BitVec 8 := x.setWidth 8 ^^^ c.toBitVec
theorem idx_eq (x : BitVec 32) (c : UInt8) : Go.bits .xor .u8 ((x.toNat : Int) % 256) (c.toNat : Int) = ((bv8 x c).toNat : Int) := by
  have h1 : (x.toNat : Int) % (256 : Int) = ((x.setWidth 8).toNat : Int) := by simp
  rw [h1]
  exact Lx.xor8 _ _
theorem more_step (x : BitVec 32) (c : UInt8) : Go.bits .xor .u32 ((x.toNat : Int) / 256) ((Crc.Ln 8 ((bv8 x c).setWidth 32)).toNat : Int) = ((Crc.B x c.toBitVec).toNat : Int) := by
  have h1 : (x.toNat : Int) / (256 : Int) = ((x >>> 8).toNat : Int) := by
    rw [BitVec.toNat_ushiftRight, Nat.shiftRight_eq_div_pow]; simp
  rw [h1, Lx.xor32, Crc.B_eq]; rfl
theorem fold_snoc (x : BitVec 32) (s : ByteArray) (k : Nat) (h : k < s.size) : Crc.fold x (s.data.toList.take (k + 1)) = Crc.B (Crc.fold x (s.data.toList.take k)) (s[k]).toBitVec := by
  rw [List.take_succ_eq_append_getElem (by simpa using h), Crc.fold_append]; rfl
theorem fold_zero (x : BitVec 32) (l : List UInt8) : Crc.fold x (l.take 0) = x := by simp [Crc.fold]

theorem setRow2 (w : World) : ((w.alloc (.cells (tc 256) 50)).alloc (.cells tz 50)).setRow (w.heap.size + 1) (tc 256) = (w.alloc (.cells (tc 256) 50)).alloc (.cells (tc 256) 50) := by
  have := Lx.setRow_alloc (w.alloc (.cells (tc 256) 50)) tz (tc 256) 50
  rw [World.size_alloc] at this
  exact this

set_option maxRecDepth 100000 in
set_option maxHeartbeats 400000 in
theorem More_calls (sum : BitVec 32) (s : ByteArray) (w : World) (hs : s.size ≤ maxLen) :
    Calls Try.prog 13 #[.int .u32 (sum.toNat : Int), .string s] w fun e w' => e = .returned (.int .u32 ((Crc.more sum s.data.toList).toNat : Int)) ∧ Below w.heap.size w w' := by
  unfold maxLen at hs
  have hz := zeroTab
  have hi := Lib.hid (show (Try.prog.info? 50).map (·.size) = some (tc 256).size by rw [tc_size]; kernel_rfl)
  have hsz := Lib.hid (show tz.size = (tc 256).size by rw [tc_size]; simp [tz])
  have hsr := setRow2 w
  go_enter Try.func13, Try.ntmps13
  go_wp2_with (first
    | (go_at_call 27; refine (table_calls _).mono ?_; rintro e w' ⟨rfl, rfl⟩)
    | (refine Lx.wpList_store_row rfl 50 (.tmp 5) (.tmp 8) rfl (w.heap.size + 1) rfl (tc 256) rfl 50 tz (heap_alloc2_new w _ _) hsz.out hi.out tc_one ?_))
  clear hz hi hsz hsr
  go_loop [6, 13] (fun v6 v13 => ∃ k : Nat, k ≤ s.size ∧ v13 = .int .i64 k ∧ v6 = .int .u32 ((Crc.fold (~~~ sum) (s.data.toList.take k)).toNat : Int)) (fun _ v13 => s.size - (intOf v13).toNat)
  case atStart => exact ⟨0, Nat.zero_le _, rfl, by rw [fold_zero, ← Lx.not32]; rfl⟩
  case round =>
    obtain ⟨k, hk, rfl, rfl⟩ := hrel
    by_cases hlt : k < s.size
    · have hst := Lib.hid (fold_snoc (~~~ sum) s k hlt)
      generalize Crc.fold (~~~ sum) (s.data.toList.take k) = x at *
      have hx := idx_eq x s[k]
      have hm := Lib.hid (more_step x s[k])
      have hc := tc_at (bv8 x s[k])
      have hj : (bv8 x s[k]).toNat < 256 := (bv8 x s[k]).isLt
      generalize bv8 x s[k] = j at *
      go_wp2
      go_round
      case rel => exact ⟨k + 1, by omega, by go_num, by rw [hst.out, ← hm.out]⟩
      case measure => simp [intOf]; omega
    · obtain rfl : k = s.size := by omega
      go_wp2
      go_ret
      exact ⟨by
        rw [show (IntKind.u32.max : Int) = 4294967295 from rfl, Lx.not32, List.take_of_length_le (by simp)]; rfl,
        ((Below.refl _ _).alloc (Nat.le_refl _) _).alloc (by simp) _⟩

theorem Of_calls (s : ByteArray) (w : World) (hs : s.size ≤ maxLen) :
    Calls Try.prog 11 #[.string s] w fun e w' => e = .returned (.int .u32 ((Crc.crc s.data.toList).toNat : Int)) ∧ Below w.heap.size w w' := by
  go_enter Try.func11, Try.ntmps11
  go_wp2_with (go_at_call 13; refine (More_calls 0#32 s _ hs).mono ?_; rintro e w' ⟨rfl, hb⟩)
  go_ret
  exact ⟨rfl, hb⟩

/-! The reference. -/
theorem ref_bit (x : BitVec 32) : ((Crc.L x).toNat : Int) = if Go.bits .and .u32 (x.toNat : Int) 1 = 1 then Go.bits .xor .u32 ((x.toNat : Int) / 2) 3988292384 else (x.toNat : Int) / 2 := by
  have h1 : Go.bits .and .u32 (x.toNat : Int) 1 = ((x &&& 1#32).toNat : Int) := Lx.and32 x 1#32
  have h3 : Go.bits .xor .u32 ((x.toNat : Int) / 2) 3988292384 = (((x >>> 1) ^^^ Crc.P).toNat : Int) := by
    rw [Lx.half32]; exact Lx.xor32 (x >>> 1) Crc.P
  rw [h1, h3, Lx.half32, Crc.L_eq]
  have hm : x.toNat % 2 = (x.getLsbD 0).toNat := by
    rw [BitVec.getLsbD, Nat.testBit_zero]
    have : x.toNat % 2 = 0 ∨ x.toNat % 2 = 1 := by omega
    rcases this with h | h <;> simp [h]
  have e : (x &&& 1#32).toNat = (x.getLsbD 0).toNat := by
    rw [BitVec.toNat_and, ← hm]
    exact Nat.and_one_is_mod _
  rw [e]
  cases x.getLsbD 0 <;> simp

set_option maxRecDepth 100000 in
set_option maxHeartbeats 400000 in
theorem refMore_calls (sum : BitVec 32) (s : ByteArray) (w : World) (hs : s.size ≤ maxLen) :
    Calls Try.prog 14 #[.int .u32 (sum.toNat : Int), .string s] w fun e w' => e = .returned (.int .u32 ((Crc.more sum s.data.toList).toNat : Int)) ∧ w = w' := by
  unfold maxLen at hs
  go_enter Try.func14, Try.ntmps14
  go_wp2_with fail
  go_loop [5, 6] (fun v6 v13 => ∃ k : Nat, k ≤ s.size ∧ v13 = .int .i64 k ∧ v6 = .int .u32 ((Crc.fold (~~~ sum) (s.data.toList.take k)).toNat : Int)) (fun _ v13 => s.size - (intOf v13).toNat)
  case atStart => exact ⟨0, Nat.zero_le _, rfl, by rw [fold_zero, ← Lx.not32]; rfl⟩
  case round =>
    obtain ⟨k, hk, rfl, rfl⟩ := hrel
    by_cases hlt : k < s.size
    · have hst := Lib.hid (fold_snoc (~~~ sum) s k hlt)
      generalize Crc.fold (~~~ sum) (s.data.toList.take k) = x at *
      have hb0 : s[k].toNat < 256 := s[k].toNat_lt
      have hx : Go.bits .xor .u32 (x.toNat : Int) (s[k].toNat : Int) = ((x ^^^ s[k].toBitVec.setWidth 32).toNat : Int) := by
        have := Lx.xor32 x (s[k].toBitVec.setWidth 32)
        rw [← this]; congr 2
      unfold Crc.B at hst
      generalize x ^^^ s[k].toBitVec.setWidth 32 = y at *
      go_wp2
      go_loop [5, 7] (fun v5 v7 => ∃ j : Nat, j ≤ 8 ∧ v7 = .int .i64 j ∧ v5 = .int .u32 ((Crc.Ln j y).toNat : Int)) (fun _ v7 => 8 - (intOf v7).toNat)
      case atStart => exact ⟨0, Nat.zero_le _, rfl, rfl⟩
      case round =>
        obtain ⟨j, hj, rfl, rfl⟩ := hrel
        by_cases hjt : j < 8
        · have hL := Lib.hid (ref_bit (Crc.Ln j y))
          have hL' : Crc.L (Crc.Ln j y) = Crc.Ln (j + 1) y := rfl
          rw [hL'] at hL
          clear hL'
          generalize Crc.Ln j y = z at *
          have hz0 : 0 ≤ (z.toNat : Int) := by omega
          by_cases hb : Go.bits .and .u32 (z.toNat : Int) 1 = 1
          · have hb' : (Go.bits .and .u32 (z.toNat : Int) 1 == 1) = true := beq_iff_eq.2 hb
            have hL2 := hL.out
            rw [if_pos hb] at hL2
            have hL2 := Lib.hid hL2
            clear hL hb
            go_wp2
            go_round
            case rel => exact ⟨j + 1, by omega, by go_num, by rw [hL2.out]⟩
            case measure => simp [intOf]; omega
          · have hb' : (Go.bits .and .u32 (z.toNat : Int) 1 == 1) = false := beq_eq_false_iff_ne.2 hb
            have hL2 := hL.out
            rw [if_neg hb] at hL2
            have hL2 := Lib.hid hL2
            clear hL hb
            go_wp2
            go_round
            case rel => exact ⟨j + 1, by omega, by go_num, by rw [hL2.out]⟩
            case measure => simp [intOf]; omega
        · obtain rfl : j = 8 := by omega
          go_wp2
          go_round
          case rel => exact ⟨k + 1, by omega, by go_num, by rw [hst.out]⟩
          case measure => simp [intOf]; omega
    · obtain rfl : k = s.size := by omega
      go_wp2
      go_ret
      exact ⟨by
        rw [show (IntKind.u32.max : Int) = 4294967295 from rfl, Lx.not32, List.take_of_length_le (by simp)]; rfl, rfl⟩

theorem refOf_calls (s : ByteArray) (w : World) (hs : s.size ≤ maxLen) :
    Calls Try.prog 12 #[.string s] w fun e w' => e = .returned (.int .u32 ((Crc.crc s.data.toList).toNat : Int)) ∧ w = w' := by
  go_enter Try.func12, Try.ntmps12
  go_wp2_with (go_at_call 14; refine (refMore_calls 0#32 s _ hs).mono ?_; rintro e w' ⟨rfl, rfl⟩)
  go_ret
  exact ⟨rfl, rfl⟩

/-! Products. -/
theorem L_shape (b : BitVec 32) : Go.bits .xor .u32 ((b.toNat : Int) / 2) (Go.bits .and .u32 3988292384 ((-(Go.bits .and .u32 (b.toNat : Int) 1)) % 4294967296)) = ((Crc.L b).toNat : Int) := st_L b
theorem top_shape (a b p : BitVec 32) : Go.bits .xor .u32 (p.toNat : Int) (Go.bits .and .u32 (b.toNat : Int) ((-((a.toNat : Int) / 2147483648)) % 4294967296)) = ((p ^^^ (if a.msb then b else 0#32)).toNat : Int) := by
  have h1 : (a.toNat : Int) / (2147483648 : Int) = ((a >>> 31).toNat : Int) := by
    rw [BitVec.toNat_ushiftRight, Nat.shiftRight_eq_div_pow]; simp
  rw [h1, Lx.neg32, Lx.and32, Lx.xor32]
  congr 3
  have e : a >>> 31 = if a.msb then 1#32 else 0#32 := by
    apply BitVec.eq_of_toNat_eq
    rw [BitVec.toNat_ushiftRight, Nat.shiftRight_eq_div_pow, BitVec.msb_eq_decide]
    have := a.isLt
    by_cases h : 2 ^ (32 - 1) ≤ a.toNat
    · simp [h]; omega
    · simp [h]; omega
  rw [e]
  cases a.msb
  · simp
  · simp only [if_true]; rw [show (-1#32) = BitVec.allOnes 32 from by decide, BitVec.and_allOnes]

/-- What is left of a product behind n rounds. -/
theorem times_end (a b p : BitVec 32) (n : Nat) (hn : n ≤ 32) (ha : a = 0#32) : p = p ^^^ Crc.ev n a b := by
  rw [ha, Crc.ev_zero_a, BitVec.xor_zero]
theorem shl_zero (a : BitVec 32) (n : Nat) (h : n ≤ 31) (ha : ∀ i, i < 32 - (n + 1) → a.getLsbD i = false) : ∀ i, i < 32 - n → (a <<< 1).getLsbD i = false := by
  intro i hi
  rw [BitVec.getLsbD_shiftLeft]
  by_cases h0 : i < 1
  · simp [h0]
  · simp [h0]; intro _; exact ha _ (by omega)

set_option maxRecDepth 100000 in
set_option maxHeartbeats 400000 in
theorem times_calls (a b : BitVec 32) (w : World) :
    Calls Try.prog 28 #[.int .u32 (a.toNat : Int), .int .u32 (b.toNat : Int)] w fun e w' => e = .returned (.int .u32 ((Crc.ev 32 a b).toNat : Int)) ∧ w = w' := by
  go_enter Try.func28, Try.ntmps28
  go_wp2_with fail
  have hfin := Lib.hid (rfl : Crc.ev 32 a b = Crc.ev 32 a b)
  go_loopg [0, 1, 4] 32 (fun n v0 v1 v4 w' => ∃ (a' b' p : BitVec 32), v0 = .int .u32 (a'.toNat : Int) ∧ v1 = .int .u32 (b'.toNat : Int) ∧ v4 = .int .u32 (p.toNat : Int) ∧ n ≤ 32 ∧ (∀ i, i < 32 - n → a'.getLsbD i = false) ∧ Hid (Crc.ev 32 a b = p ^^^ Crc.ev n a' b') ∧ w = w')
  case atStart => exact ⟨a, b, 0#32, rfl, rfl, rfl, by omega, by intro i hi; omega, Lib.hid (by simp), rfl⟩
  case round =>
    obtain ⟨a', b', p, rfl, rfl, rfl, hn, ha, hH, rfl⟩ := hrel
    have ha' := Lib.hid ha
    clear ha
    by_cases hz : (a'.toNat : Int) = 0
    · have hz1 : ((a'.toNat : Int) != 0) = false := by simpa using hz
      have hz2 : a' = 0#32 := by apply BitVec.eq_of_toNat_eq; simp; omega
      have hz4 := Lib.hid hz2
      have hz3 := Lib.hid hz
      clear hz hz2
      go_wp2
      go_ret
      exact ⟨Lx.ret_int (by rw [hH.out, hz4.out, Crc.ev_zero_a, BitVec.xor_zero]), rfl⟩
    · have hz1 : ((a'.toNat : Int) != 0) = true := by simpa using hz
      have hz3 := Lib.hid hz
      clear hz
      cases gk with
      | zero =>
        exfalso; apply hz3.out
        have : a' = 0#32 := by apply BitVec.eq_of_getLsbD_eq; intro i hi; rw [ha'.out i (by omega)]; simp
        rw [this]; rfl
      | succ n =>
        have h1 := Lib.hid (L_shape b')
        have h2 := Lib.hid (top_shape a' b' p)
        have h3 := Lib.hid (Lx.shl1_32 a')
        go_wp2
        go_roundg n
        case measure => omega
        case rel => exact ⟨a' <<< 1, Crc.L b', p ^^^ (if a'.msb then b' else 0#32), by rw [h3.out], by rw [h1.out], by rw [h2.out], by omega, shl_zero a' n (by omega) (by have := ha'.out; intro i hi; exact this i (by omega)), Lib.hid (by rw [hH.out, Crc.ev, BitVec.xor_assoc]), rfl⟩

theorem and1_int (n : Nat) (h : n < 2 ^ 31) : Go.bits .and .i64 (n : Int) 1 = ((n % 2 : Nat) : Int) := by
  have h1 := (bits_nat .i64 31 (by decide) (fun m h0 h1 => by rw [IntKind.wrap_i64]; omega) n 1 h (by decide)).1
  have e : ((1 : Nat) : Int) = 1 := rfl
  rw [e] at h1
  rw [h1, Nat.and_one_is_mod]

set_option maxRecDepth 100000 in
set_option maxHeartbeats 400000 in
theorem Join_calls (a b : BitVec 32) (n : Nat) (hn : n ≤ 1048576) (w : World) :
    Calls Try.prog 15 #[.int .u32 (a.toNat : Int), .int .u32 (b.toNat : Int), .int .i64 (n : Int)] w fun e w' => e = .returned (.int .u32 ((Crc.Ln (8 * n) a ^^^ b).toNat : Int)) ∧ w = w' := by
  have hg1 : decide ((n : Int) < 0) = false := by simp
  have hg2 : decide ((1048576 : Int) < (n : Int)) = false := by simp; omega
  go_enter Try.func15, Try.ntmps15
  go_wp2_with fail
  clear hg1 hg2
  go_loopg [2, 7, 8] n (fun m v2 v7 v8 w' => ∃ (k j : Nat), v2 = .int .i64 (m : Int) ∧ v7 = .int .u32 ((Crc.Ln (8 * k) Crc.one).toNat : Int) ∧ v8 = .int .u32 ((Crc.Ln (8 * 2 ^ j) Crc.one).toNat : Int) ∧ Hid (k + 2 ^ j * m = n) ∧ w = w')
  case atStart => exact ⟨0, 0, rfl, rfl, congrArg (Value.int .u32) (by decide), Lib.hid (by simp), rfl⟩
  case round =>
    obtain ⟨k, j, rfl, rfl, rfl, hH, rfl⟩ := hrel
    by_cases h0 : gk = 0
    · subst h0
      go_wp2_with (go_at_call 28; refine (times_calls _ _ _).mono ?_; rintro e w' ⟨rfl, rfl⟩)
      go_ret
      exact ⟨Lx.ret_int (by rw [Crc.ev_pow, Lx.xor32]; have := hH.out; rw [show k = n from by omega]), rfl⟩
    · have hle : gk ≤ 1048576 := by
        have := hH.out
        have h2 : gk ≤ 2 ^ j * gk := Nat.le_mul_of_pos_left _ (Nat.two_pow_pos j)
        omega
      have hand := and1_int gk (by omega)
      have hsh := Lib.hid (show ((gk : Int)) / (2 : Int) = ((gk / 2 : Nat) : Int) by omega)
      have hpos : 0 < gk := by omega
      have hsum : gk = 2 * (gk / 2) + gk % 2 := by omega
      have hstep : 2 ^ j * gk = 2 ^ (j + 1) * (gk / 2) + 2 ^ j * (gk % 2) := by
        rw [Nat.pow_succ, Nat.mul_assoc, ← Nat.mul_add]
        exact congrArg _ hsum
      have hstep' := Lib.hid hstep
      clear hstep hsum h0
      by_cases hodd : gk % 2 = 1
      · rw [hodd] at hand
        have hodd' := Lib.hid hodd
        clear hodd
        go_wp2_with (go_at_call 28; refine (times_calls _ _ _).mono ?_; rintro e w' ⟨rfl, rfl⟩)
        go_roundg (gk / 2)
        case measure => omega
        case rel => exact ⟨k + 2 ^ j, j + 1, by rw [hsh.out], by rw [Crc.ev_pows, Nat.mul_add], by rw [Crc.ev_pows, ← Nat.two_mul, Nat.pow_succ, ← Nat.mul_assoc, Nat.mul_comm 2 8, Nat.mul_assoc, Nat.mul_comm 2], Lib.hid (by have h1 := hH.out; have h2 := hstep'.out; rw [hodd'.out] at h2; omega), rfl⟩
      · rw [show gk % 2 = 0 from by omega] at hand
        have hodd' := Lib.hid (show gk % 2 = 0 by omega)
        clear hodd
        go_wp2_with (go_at_call 28; refine (times_calls _ _ _).mono ?_; rintro e w' ⟨rfl, rfl⟩)
        go_roundg (gk / 2)
        case measure => omega
        case rel => exact ⟨k, j + 1, by rw [hsh.out], rfl, by rw [Crc.ev_pows, ← Nat.two_mul, Nat.pow_succ, ← Nat.mul_assoc, Nat.mul_comm 2 8, Nat.mul_assoc, Nat.mul_comm 2], Lib.hid (by have h1 := hH.out; have h2 := hstep'.out; rw [hodd'.out] at h2; omega), rfl⟩

theorem Join_off (a b : BitVec 32) (n : Int) (hn : n < 0 ∨ 1048576 < n) (w : World) :
    Calls Try.prog 15 #[.int .u32 (a.toNat : Int), .int .u32 (b.toNat : Int), .int .i64 n] w fun e w' => e = .returned (.int .u32 0) ∧ w = w' := by
  rcases hn with hn | hn
  · have hg1 : decide (n < 0) = true := by simp; omega
    go_enter Try.func15, Try.ntmps15
    go_wp2_with fail
    go_ret
    exact ⟨rfl, rfl⟩
  · have hg1 : decide (n < 0) = false := by simp; omega
    have hg2 : decide (1048576 < n) = true := by simp; omega
    go_enter Try.func15, Try.ntmps15
    go_wp2_with fail
    go_ret
    exact ⟨rfl, rfl⟩

set_option maxRecDepth 100000 in
set_option maxHeartbeats 400000 in
theorem noughts_calls (x : BitVec 32) (n : Nat) (hn : n ≤ 1048576) (w : World) :
    Calls Try.prog 29 #[.int .u32 (x.toNat : Int), .int .i64 (n : Int)] w fun e w' => e = .returned (.int .u32 ((Crc.Ln (8 * n) x).toNat : Int)) ∧ w = w' := by
  go_enter Try.func29, Try.ntmps29
  go_wp2_with fail
  go_loop [0, 5] (fun v0 v3 => ∃ k : Nat, k ≤ n ∧ v3 = .int .i64 k ∧ v0 = .int .u32 ((Crc.Ln (8 * k) x).toNat : Int)) (fun _ v3 => n - (intOf v3).toNat)
  case atStart => exact ⟨0, Nat.zero_le _, rfl, rfl⟩
  case round =>
    obtain ⟨k, hk, rfl, rfl⟩ := hrel
    by_cases hlt : k < n
    · have hst := Lib.hid (show Crc.Ln (8 * (k + 1)) x = Crc.Ln 8 (Crc.Ln (8 * k) x) by rw [← Crc.Ln_add]; congr 1; omega)
      generalize Crc.Ln (8 * k) x = y at *
      go_wp2
      go_loop [0, 6] (fun v5 v7 => ∃ j : Nat, j ≤ 8 ∧ v7 = .int .i64 j ∧ v5 = .int .u32 ((Crc.Ln j y).toNat : Int)) (fun _ v7 => 8 - (intOf v7).toNat)
      case atStart => exact ⟨0, Nat.zero_le _, rfl, rfl⟩
      case round =>
        obtain ⟨j, hj, rfl, rfl⟩ := hrel
        by_cases hjt : j < 8
        · have hL := Lib.hid (ref_bit (Crc.Ln j y))
          have hL' : Crc.L (Crc.Ln j y) = Crc.Ln (j + 1) y := rfl
          rw [hL'] at hL
          clear hL'
          generalize Crc.Ln j y = z at *
          have hz0 : 0 ≤ (z.toNat : Int) := by omega
          by_cases hb : Go.bits .and .u32 (z.toNat : Int) 1 = 1
          · have hb' : (Go.bits .and .u32 (z.toNat : Int) 1 == 1) = true := beq_iff_eq.2 hb
            have hL2 := hL.out
            rw [if_pos hb] at hL2
            have hL3 := Lib.hid hL2
            clear hL hb hL2
            go_wp2
            go_round
            case rel => exact ⟨j + 1, by omega, by go_num, by rw [hL3.out]⟩
            case measure => simp [intOf]; omega
          · have hb' : (Go.bits .and .u32 (z.toNat : Int) 1 == 1) = false := beq_eq_false_iff_ne.2 hb
            have hL2 := hL.out
            rw [if_neg hb] at hL2
            have hL3 := Lib.hid hL2
            clear hL hb hL2
            go_wp2
            go_round
            case rel => exact ⟨j + 1, by omega, by go_num, by rw [hL3.out]⟩
            case measure => simp [intOf]; omega
        · obtain rfl : j = 8 := by omega
          go_wp2
          go_round
          case rel => exact ⟨k + 1, by omega, by go_num, by rw [hst.out]⟩
          case measure => simp [intOf]; omega
    · obtain rfl : k = n := by omega
      go_wp2
      go_ret
      exact ⟨rfl, rfl⟩

theorem refJoin_calls (a b : BitVec 32) (n : Nat) (hn : n ≤ 1048576) (w : World) :
    Calls Try.prog 16 #[.int .u32 (a.toNat : Int), .int .u32 (b.toNat : Int), .int .i64 (n : Int)] w fun e w' => e = .returned (.int .u32 ((Crc.Ln (8 * n) a ^^^ b).toNat : Int)) ∧ w = w' := by
  have hg1 : decide ((n : Int) < 0) = false := by simp
  have hg2 : decide ((1048576 : Int) < (n : Int)) = false := by simp; omega
  go_enter Try.func16, Try.ntmps16
  go_wp2_with (go_at_call 29; refine (noughts_calls a n hn _).mono ?_; rintro e w' ⟨rfl, rfl⟩)
  go_ret
  exact ⟨Lx.ret_int (by rw [Lx.xor32]), rfl⟩
theorem refJoin_off (a b : BitVec 32) (n : Int) (hn : n < 0 ∨ 1048576 < n) (w : World) :
    Calls Try.prog 16 #[.int .u32 (a.toNat : Int), .int .u32 (b.toNat : Int), .int .i64 n] w fun e w' => e = .returned (.int .u32 0) ∧ w = w' := by
  rcases hn with hn | hn
  · have hg1 : decide (n < 0) = true := by simp; omega
    go_enter Try.func16, Try.ntmps16
    go_wp2_with fail
    go_ret
    exact ⟨rfl, rfl⟩
  · have hg1 : decide (n < 0) = false := by simp; omega
    have hg2 : decide (1048576 < n) = true := by simp; omega
    go_enter Try.func16, Try.ntmps16
    go_wp2_with fail
    go_ret
    exact ⟨rfl, rfl⟩
end Go.Proofs.Ytfcicfkgbepagaa
