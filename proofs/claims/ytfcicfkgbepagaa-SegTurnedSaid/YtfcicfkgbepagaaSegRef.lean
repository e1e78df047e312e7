/-
  The contracts of the reference's functions of layer 7: each returns the plain law's value.
-/
import Derived.Test.YtfcicfkgbepagaaSeg
namespace Go.Proofs.Ytfcicfkgbepagaa
open Go.RowKit

set_option maxRecDepth 100000 in
set_option maxHeartbeats 400000 in
theorem rfour_calls (x : BitVec 32) (w : World) :
    Calls Try.prog 32 #[.int .u32 (x.toNat : Int)] w fun e w' => e = .returned (.string (str (be4 x))) ∧ Below w.heap.size w w' := by
  have hc := conv4 w 5
  have hb := Lib.hid (be4_of x)
  go_enter Try.func32, Try.ntmps32
  go_wp2_with fail
  go_ret
  exact ⟨Lx.ret_str hb.out, (Below.refl _ _).alloc (Nat.le_refl _) _⟩

theorem le4_idx (x : BitVec 32) : strOfNums [(((be4 x).getD 3 0).toNat : Int), (((be4 x).getD 2 0).toNat : Int), (((be4 x).getD 1 0).toNat : Int), (((be4 x).getD 0 0).toNat : Int)] = str (le4 x) := by
  have h : ∀ b : UInt8, UInt8.ofNat ((b.toNat : Int)).toNat = b := by intro b; simp
  unfold strOfNums
  simp only [List.map, h]
  rfl
theorem conv4d (w : World) (T : TypeId) (a b c d : Int) :
    (convert 25 9 (.slice (some ⟨w.heap.size, 0, none⟩) 4 4)).run Try.prog (w.alloc (.cells #[.int .u8 a, .int .u8 b, .int .u8 c, .int .u8 d] T)).drew = .ok (.string (strOfNums [a, b, c, d])) (w.alloc (.cells #[.int .u8 a, .int .u8 b, .int .u8 c, .int .u8 d] T)).drew :=
  run_convert_bytes_arg (P := Try.prog) _ 25 5 Try.underlying25 Try.underlying5 w.heap.size 0 4 4 [a, b, c, d] rfl (fun i hi => by
    show (w.alloc _).cell? _ = _
    rw [Nat.zero_add, World.cell?_alloc_at (hn := rfl)]
    match i, hi with
    | 0, _ => rfl
    | 1, _ => rfl
    | 2, _ => rfl
    | 3, _ => rfl) 9 Try.underlying9

set_option maxRecDepth 100000 in
set_option maxHeartbeats 400000 in
theorem rsum_calls (s : ByteArray) (w : World) (hs : s.size ≤ maxLen) :
    Calls Try.prog 33 #[.string s] w fun e w' => e = .returned (.string (str (le4 (Crc.crc s.data.toList)))) ∧ Below w.heap.size w w' := by
  have hc := fun W => conv4d W 5
  have hb := Lib.hid (le4_idx (Crc.crc s.data.toList))
  have hz : (str (be4 (Crc.crc s.data.toList))).size = 4 := by rw [str_size]; rfl
  have i0 : ∀ w, (Instr.index 9 (.string (str (be4 (Crc.crc s.data.toList)))) (.int .i64 0)).run Try.prog w = .ok (.int .u8 (((be4 (Crc.crc s.data.toList)).getD 0 0).toNat : Int)) w := fun w => by have := run_index_lit Try.underlying9 (str (be4 (Crc.crc s.data.toList))) 0 (by omega) w; rwa [str_data] at this
  have i1 : ∀ w, (Instr.index 9 (.string (str (be4 (Crc.crc s.data.toList)))) (.int .i64 1)).run Try.prog w = .ok (.int .u8 (((be4 (Crc.crc s.data.toList)).getD 1 0).toNat : Int)) w := fun w => by have := run_index_lit Try.underlying9 (str (be4 (Crc.crc s.data.toList))) 1 (by omega) w; rwa [str_data] at this
  have i2 : ∀ w, (Instr.index 9 (.string (str (be4 (Crc.crc s.data.toList)))) (.int .i64 2)).run Try.prog w = .ok (.int .u8 (((be4 (Crc.crc s.data.toList)).getD 2 0).toNat : Int)) w := fun w => by have := run_index_lit Try.underlying9 (str (be4 (Crc.crc s.data.toList))) 2 (by omega) w; rwa [str_data] at this
  have i3 : ∀ w, (Instr.index 9 (.string (str (be4 (Crc.crc s.data.toList)))) (.int .i64 3)).run Try.prog w = .ok (.int .u8 (((be4 (Crc.crc s.data.toList)).getD 3 0).toNat : Int)) w := fun w => by have := run_index_lit Try.underlying9 (str (be4 (Crc.crc s.data.toList))) 3 (by omega) w; rwa [str_data] at this
  have O1 := Lib.hid (fun W => refOf_calls s W hs)
  have F1 := Lib.hid (fun W => rfour_calls (Crc.crc s.data.toList) W)
  generalize (be4 (Crc.crc s.data.toList)).getD 0 0 = b0 at i0 hb
  generalize (be4 (Crc.crc s.data.toList)).getD 1 0 = b1 at i1 hb
  generalize (be4 (Crc.crc s.data.toList)).getD 2 0 = b2 at i2 hb
  generalize (be4 (Crc.crc s.data.toList)).getD 3 0 = b3 at i3 hb
  generalize str (be4 (Crc.crc s.data.toList)) = H at *
  go_enter Try.func33, Try.ntmps33
  go_wp2_with fail
  refine (O1.out _).mono ?_
  rintro e w1 ⟨rfl, rfl⟩
  go_wp2_with fail
  refine (F1.out _).mono ?_
  rintro e w1 ⟨rfl, hb1⟩
  go_wp2_with fail
  go_region
  all_goals (go_wp2_with fail; go_ret; exact ⟨Lx.ret_str hb.out, (hb1.alloc hb1.size _).drew⟩)

theorem rframe_str (s : ByteArray) : str (be4 (BitVec.ofNat 32 s.size)) ++ str (le4 (Crc.crc (be4 (BitVec.ofNat 32 s.size)))) ++ s ++ str (le4 (Crc.crc s.data.toList)) = str (frame s.data.toList) := frame_str s
set_option maxRecDepth 100000 in
set_option maxHeartbeats 400000 in
theorem rFrame_calls (s : ByteArray) (w : World) (hs : s.size ≤ 16384) :
    Calls Try.prog 19 #[.string s] w fun e w' => e = .returned (.string (str (frame s.data.toList))) ∧ Below w.heap.size w w' := by
  have hsz : (s.size : Int) ≤ 16384 := by omega
  have hm : s.size ≤ maxLen := by unfold maxLen; omega
  have F1 := Lib.hid (fun W => rfour_calls (BitVec.ofNat 32 s.size) W)
  rw [show (((BitVec.ofNat 32 s.size).toNat : Nat) : Int) = (s.size : Int) from by rw [BitVec.toNat_ofNat]; omega] at F1
  have S1 := Lib.hid (fun W => rsum_calls (str (be4 (BitVec.ofNat 32 s.size))) W (by rw [str_size]; unfold maxLen; simp [be4]))
  rw [str_data] at S1
  have S2 := Lib.hid (fun W => rsum_calls s W hm)
  have hf := Lib.hid (frame_str s)
  have q1 : (str (be4 (BitVec.ofNat 32 s.size))).size = 4 := by rw [str_size]; rfl
  have q2 : (str (le4 (Crc.crc (be4 (BitVec.ofNat 32 s.size))))).size = 4 := by rw [str_size]; rfl
  have q3 : (str (le4 (Crc.crc s.data.toList))).size = 4 := by rw [str_size]; rfl
  go_enter Try.func19, Try.ntmps19
  go_wp2_with fail
  refine (F1.out _).mono ?_
  rintro e w1 ⟨rfl, hb1⟩
  go_wp2_with fail
  refine (S1.out _).mono ?_
  rintro e w2 ⟨rfl, hb2⟩
  go_wp2_with fail
  refine (S2.out _).mono ?_
  rintro e w3 ⟨rfl, hb3⟩
  go_wp2_with fail
  go_ret
  exact ⟨by rw [hf.out]; rfl, Lx.bstep (Lx.bstep hb1 (Nat.le_refl _) hb2) (Nat.le_refl _) hb3⟩

/-- The number of the first so many bytes. -/
def num4 (l : List UInt8) : Nat → Nat
  | 0 => 0
  | k + 1 => num4 l k * 256 + (l.getD k 0).toNat
theorem num4_lt (l : List UInt8) (k : Nat) (hk : k ≤ 4) : num4 l k < 4294967296 := by
  have h := fun k => (l.getD k 0).toNat_lt
  have h0 := h 0; have h1 := h 1; have h2 := h 2; have h3 := h 3
  match k, hk with
  | 0, _ => simp [num4]
  | 1, _ => simp only [num4]; omega
  | 2, _ => simp only [num4]; omega
  | 3, _ => simp only [num4]; omega
  | 4, _ => simp only [num4]; omega
theorem num4_eq (l : List UInt8) : num4 l 4 = num l := by
  simp only [num4, num]; omega

/-- What the walks of the reference's Read take. -/
structure RRFacts (s H1 : ByteArray) (n : Nat) : Prop where
  z0 : (0 : Int) ≤ (s.size : Int)
  z1 : (8 : Int) ≤ (s.size : Int)
  z2 : (4 : Int) ≤ (s.size : Int)
  s1 : ∀ W : World, Calls Try.prog 33 #[.string (s.extract 0 4)] W fun e w' => e = .returned (.string H1) ∧ Below W.heap.size W w'
  n0 : (0 : Int) ≤ (n : Int)
  nn : n = num4 s.data.toList 4

set_option maxRecDepth 100000 in
set_option maxHeartbeats 1000000 in
theorem rRead_short {s : ByteArray} (h8 : s.size < 8) (w : World) (hs : s.size ≤ 9223372036854775807)  :
    Calls Try.prog 21 #[.string s] w fun e w' => e = .returned (.tuple #[.string (⟨#[]⟩ : ByteArray), .int .i64 0, .int .i64 70]) ∧ Below w.heap.size w w' := by
  go_enter Try.func21, Try.ntmps21
  go_wp2_with fail
  go_ret3
  exact ⟨rfl, Below.refl _ _⟩
set_option maxRecDepth 100000 in
set_option maxHeartbeats 1000000 in
theorem rRead_sum1 {s H1 : ByteArray} {n : Nat} (F : RRFacts s H1 n) (w : World) (hs : s.size ≤ 9223372036854775807) (t1 : (!H1.toList == (s.extract 4 8).toList) = true) :
    Calls Try.prog 21 #[.string s] w fun e w' => e = .returned (.tuple #[.string (⟨#[]⟩ : ByteArray), .int .i64 0, .int .i64 71]) ∧ Below w.heap.size w w' := by
  obtain ⟨z0, z1, z2, s1, n0, nn⟩ := F
  have S1 := Lib.hid s1
  have N := Lib.hid nn
  clear s1 nn
  go_enter Try.func21, Try.ntmps21
  go_wp2_with fail
  refine Lx.wp_region_ext (by kernel_rfl) (by kernel_rfl) ?_
  repeat (go_big_quiet_step ((go_at_call 33; with_reducible exact Lx.ext_of (S1.out _))))
  refine wpQuiet_nil ?_
  rintro _ ⟨x1, rfl⟩
  go_wp2_with fail
  go_ret3
  exact ⟨rfl, x1.below⟩
set_option maxRecDepth 100000 in
set_option maxHeartbeats 1000000 in
theorem rRead_long {s H1 : ByteArray} {n : Nat} (F : RRFacts s H1 n) (w : World) (hs : s.size ≤ 9223372036854775807) (t1 : (!H1.toList == (s.extract 4 8).toList) = false) (hn : 16384 < n) :
    Calls Try.prog 21 #[.string s] w fun e w' => e = .returned (.tuple #[.string (⟨#[]⟩ : ByteArray), .int .i64 0, .int .i64 4]) ∧ Below w.heap.size w w' := by
  obtain ⟨z0, z1, z2, s1, n0, nn⟩ := F
  have S1 := Lib.hid s1
  have N := Lib.hid nn
  clear s1 nn
  go_enter Try.func21, Try.ntmps21
  go_wp2_with fail
  refine Lx.wp_region_ext (by kernel_rfl) (by kernel_rfl) ?_
  repeat (go_big_quiet_step ((go_at_call 33; with_reducible exact Lx.ext_of (S1.out _))))
  refine wpQuiet_nil ?_
  rintro _ ⟨x1, rfl⟩
  go_wp2_with fail
  go_loop [5, 6] (fun v5 v6 => ∃ k : Nat, k ≤ 4 ∧ v6 = .int .i64 k ∧ v5 = .int .i64 (num4 s.data.toList k : Int)) (fun _ v6 => 4 - (intOf v6).toNat)
  case atStart => exact ⟨0, by omega, rfl, rfl⟩
  case round =>
    obtain ⟨k, hk, rfl, rfl⟩ := hrel
    by_cases hlt : k < 4
    · have hst := Lib.hid (show ((num4 s.data.toList (k + 1) : Nat) : Int) = (num4 s.data.toList k : Int) * 256 + ((s.data.toList.getD k 0).toNat : Int) by simp [num4])
      have hb0 := num4_lt s.data.toList k (by omega)
      have hb1 : ((s.data.toList.getD k 0).toNat : Int) < 256 := by have := (s.data.toList.getD k 0).toNat_lt; omega
      have v1 : IntKind.i64.wrap ((num4 s.data.toList k : Int) * 256) = (num4 s.data.toList k : Int) * 256 := IntWalk.i64_in _ (by omega)
      have v2 : IntKind.i64.wrap ((num4 s.data.toList k : Int) * 256 + ((s.data.toList.getD k 0).toNat : Int)) = (num4 s.data.toList k : Int) * 256 + ((s.data.toList.getD k 0).toNat : Int) := IntWalk.i64_in _ (by omega)
      have v3 : wrap64 ((num4 s.data.toList k : Int) * 256) = (num4 s.data.toList k : Int) * 256 := by unfold wrap64; omega
      have v4 : wrap64 ((num4 s.data.toList k : Int) * 256 + ((s.data.toList.getD k 0).toNat : Int)) = (num4 s.data.toList k : Int) * 256 + ((s.data.toList.getD k 0).toNat : Int) := by unfold wrap64; omega
      have ik : ∀ w, (Instr.index 9 (.string s) (.int .i64 (k : Int))).run Try.prog w = .ok (.int .u8 ((s.data.toList.getD k 0).toNat : Int)) w := fun w => run_index_lit Try.underlying9 s k (by omega) w
      generalize num4 s.data.toList k = x at *
      generalize s.data.toList.getD k 0 = c at *
      clear hb0
      go_wp2
      go_round
      case rel => exact ⟨k + 1, by omega, by go_num, by rw [hst.out]⟩
      case measure => simp [intOf]; omega
    · obtain rfl : k = 4 := by omega
      rw [← N.out]
      go_wp2_with fail
      go_ret3
      exact ⟨rfl, x1.below⟩
set_option maxRecDepth 100000 in
set_option maxHeartbeats 1000000 in
theorem rRead_torn {s H1 : ByteArray} {n : Nat} (F : RRFacts s H1 n) (w : World) (hs : s.size ≤ 9223372036854775807) (t1 : (!H1.toList == (s.extract 4 8).toList) = false) (hn : (n : Int) ≤ 16384) (hl : s.size < 12 + n) :
    Calls Try.prog 21 #[.string s] w fun e w' => e = .returned (.tuple #[.string (⟨#[]⟩ : ByteArray), .int .i64 0, .int .i64 70]) ∧ Below w.heap.size w w' := by
  obtain ⟨z0, z1, z2, s1, n0, nn⟩ := F
  have S1 := Lib.hid s1
  have N := Lib.hid nn
  clear s1 nn
  go_enter Try.func21, Try.ntmps21
  go_wp2_with fail
  refine Lx.wp_region_ext (by kernel_rfl) (by kernel_rfl) ?_
  repeat (go_big_quiet_step ((go_at_call 33; with_reducible exact Lx.ext_of (S1.out _))))
  refine wpQuiet_nil ?_
  rintro _ ⟨x1, rfl⟩
  go_wp2_with fail
  go_loop [5, 6] (fun v5 v6 => ∃ k : Nat, k ≤ 4 ∧ v6 = .int .i64 k ∧ v5 = .int .i64 (num4 s.data.toList k : Int)) (fun _ v6 => 4 - (intOf v6).toNat)
  case atStart => exact ⟨0, by omega, rfl, rfl⟩
  case round =>
    obtain ⟨k, hk, rfl, rfl⟩ := hrel
    by_cases hlt : k < 4
    · have hst := Lib.hid (show ((num4 s.data.toList (k + 1) : Nat) : Int) = (num4 s.data.toList k : Int) * 256 + ((s.data.toList.getD k 0).toNat : Int) by simp [num4])
      have hb0 := num4_lt s.data.toList k (by omega)
      have hb1 : ((s.data.toList.getD k 0).toNat : Int) < 256 := by have := (s.data.toList.getD k 0).toNat_lt; omega
      have v1 : IntKind.i64.wrap ((num4 s.data.toList k : Int) * 256) = (num4 s.data.toList k : Int) * 256 := IntWalk.i64_in _ (by omega)
      have v2 : IntKind.i64.wrap ((num4 s.data.toList k : Int) * 256 + ((s.data.toList.getD k 0).toNat : Int)) = (num4 s.data.toList k : Int) * 256 + ((s.data.toList.getD k 0).toNat : Int) := IntWalk.i64_in _ (by omega)
      have v3 : wrap64 ((num4 s.data.toList k : Int) * 256) = (num4 s.data.toList k : Int) * 256 := by unfold wrap64; omega
      have v4 : wrap64 ((num4 s.data.toList k : Int) * 256 + ((s.data.toList.getD k 0).toNat : Int)) = (num4 s.data.toList k : Int) * 256 + ((s.data.toList.getD k 0).toNat : Int) := by unfold wrap64; omega
      have ik : ∀ w, (Instr.index 9 (.string s) (.int .i64 (k : Int))).run Try.prog w = .ok (.int .u8 ((s.data.toList.getD k 0).toNat : Int)) w := fun w => run_index_lit Try.underlying9 s k (by omega) w
      generalize num4 s.data.toList k = x at *
      generalize s.data.toList.getD k 0 = c at *
      clear hb0
      go_wp2
      go_round
      case rel => exact ⟨k + 1, by omega, by go_num, by rw [hst.out]⟩
      case measure => simp [intOf]; omega
    · obtain rfl : k = 4 := by omega
      rw [← N.out]
      go_wp2_with fail
      go_ret3
      exact ⟨rfl, x1.below⟩
set_option maxRecDepth 100000 in
set_option maxHeartbeats 1000000 in
theorem rRead_sum2 {s H1 : ByteArray} {n : Nat} (F : RRFacts s H1 n) (w : World) (hs : s.size ≤ 9223372036854775807) (t1 : (!H1.toList == (s.extract 4 8).toList) = false) (hn : (n : Int) ≤ 16384) (hl : 12 + n ≤ s.size) {H2 : ByteArray} (s2 : ∀ W : World, Calls Try.prog 33 #[.string (s.extract 8 (8 + n))] W fun e w' => e = .returned (.string H2) ∧ Below W.heap.size W w') (t2 : (!H2.toList == (s.extract (8 + n) (12 + n)).toList) = true) :
    Calls Try.prog 21 #[.string s] w fun e w' => e = .returned (.tuple #[.string (⟨#[]⟩ : ByteArray), .int .i64 0, .int .i64 71]) ∧ Below w.heap.size w w' := by
  obtain ⟨z0, z1, z2, s1, n0, nn⟩ := F
  have S1 := Lib.hid s1
  have N := Lib.hid nn
  clear s1 nn
  go_enter Try.func21, Try.ntmps21
  go_wp2_with fail
  refine Lx.wp_region_ext (by kernel_rfl) (by kernel_rfl) ?_
  repeat (go_big_quiet_step ((go_at_call 33; with_reducible exact Lx.ext_of (S1.out _))))
  refine wpQuiet_nil ?_
  rintro _ ⟨x1, rfl⟩
  go_wp2_with fail
  go_loop [5, 6] (fun v5 v6 => ∃ k : Nat, k ≤ 4 ∧ v6 = .int .i64 k ∧ v5 = .int .i64 (num4 s.data.toList k : Int)) (fun _ v6 => 4 - (intOf v6).toNat)
  case atStart => exact ⟨0, by omega, rfl, rfl⟩
  case round =>
    obtain ⟨k, hk, rfl, rfl⟩ := hrel
    by_cases hlt : k < 4
    · have hst := Lib.hid (show ((num4 s.data.toList (k + 1) : Nat) : Int) = (num4 s.data.toList k : Int) * 256 + ((s.data.toList.getD k 0).toNat : Int) by simp [num4])
      have hb0 := num4_lt s.data.toList k (by omega)
      have hb1 : ((s.data.toList.getD k 0).toNat : Int) < 256 := by have := (s.data.toList.getD k 0).toNat_lt; omega
      have v1 : IntKind.i64.wrap ((num4 s.data.toList k : Int) * 256) = (num4 s.data.toList k : Int) * 256 := IntWalk.i64_in _ (by omega)
      have v2 : IntKind.i64.wrap ((num4 s.data.toList k : Int) * 256 + ((s.data.toList.getD k 0).toNat : Int)) = (num4 s.data.toList k : Int) * 256 + ((s.data.toList.getD k 0).toNat : Int) := IntWalk.i64_in _ (by omega)
      have v3 : wrap64 ((num4 s.data.toList k : Int) * 256) = (num4 s.data.toList k : Int) * 256 := by unfold wrap64; omega
      have v4 : wrap64 ((num4 s.data.toList k : Int) * 256 + ((s.data.toList.getD k 0).toNat : Int)) = (num4 s.data.toList k : Int) * 256 + ((s.data.toList.getD k 0).toNat : Int) := by unfold wrap64; omega
      have ik : ∀ w, (Instr.index 9 (.string s) (.int .i64 (k : Int))).run Try.prog w = .ok (.int .u8 ((s.data.toList.getD k 0).toNat : Int)) w := fun w => run_index_lit Try.underlying9 s k (by omega) w
      generalize num4 s.data.toList k = x at *
      generalize s.data.toList.getD k 0 = c at *
      clear hb0
      go_wp2
      go_round
      case rel => exact ⟨k + 1, by omega, by go_num, by rw [hst.out]⟩
      case measure => simp [intOf]; omega
    · obtain rfl : k = 4 := by omega
      rw [← N.out]
      have q1 : (8 : Int) + (n : Int) ≤ (s.size : Int) := by omega
      have q2 : (12 : Int) + (n : Int) ≤ (s.size : Int) := by omega
      have q0 : (8 : Int) ≤ 8 + (n : Int) := by omega
      have q5 : ((8 : Int) + (n : Int)).toNat = 8 + n := by omega
      have q6 : ((12 : Int) + (n : Int)).toNat = 12 + n := by omega
      have q7 : (0 : Int) ≤ 8 + (n : Int) := by omega
      have q8 : (8 : Int) + (n : Int) ≤ 12 + (n : Int) := by omega
      have q3 : IntKind.i64.wrap ((8 : Int) + (n : Int)) = 8 + (n : Int) := IntWalk.i64_in _ (by omega)
      have q4 : IntKind.i64.wrap ((12 : Int) + (n : Int)) = 12 + (n : Int) := IntWalk.i64_in _ (by omega)
      have S2 := Lib.hid s2
      clear s2
      go_wp2_with fail
      refine Lx.wp_region_ext (by kernel_rfl) (by kernel_rfl) ?_
      repeat (go_big_quiet_step ((go_at_call 33; with_reducible exact Lx.ext_of (S2.out _))))
      refine wpQuiet_nil ?_
      rintro _ ⟨x2, rfl⟩
      go_wp2_with fail
      go_ret3
      exact ⟨rfl, Lx.bstep x1.below (Nat.le_refl _) x2.below⟩
set_option maxRecDepth 100000 in
set_option maxHeartbeats 1000000 in
theorem rRead_ok {s H1 : ByteArray} {n : Nat} (F : RRFacts s H1 n) (w : World) (hs : s.size ≤ 9223372036854775807) (t1 : (!H1.toList == (s.extract 4 8).toList) = false) (hn : (n : Int) ≤ 16384) (hl : 12 + n ≤ s.size) {H2 : ByteArray} (s2 : ∀ W : World, Calls Try.prog 33 #[.string (s.extract 8 (8 + n))] W fun e w' => e = .returned (.string H2) ∧ Below W.heap.size W w') (t2 : (!H2.toList == (s.extract (8 + n) (12 + n)).toList) = false) :
    Calls Try.prog 21 #[.string s] w fun e w' => e = .returned (.tuple #[.string (s.extract 8 (8 + n)), .int .i64 (12 + (n : Int)), .int .i64 0]) ∧ Below w.heap.size w w' := by
  obtain ⟨z0, z1, z2, s1, n0, nn⟩ := F
  have S1 := Lib.hid s1
  have N := Lib.hid nn
  clear s1 nn
  go_enter Try.func21, Try.ntmps21
  go_wp2_with fail
  refine Lx.wp_region_ext (by kernel_rfl) (by kernel_rfl) ?_
  repeat (go_big_quiet_step ((go_at_call 33; with_reducible exact Lx.ext_of (S1.out _))))
  refine wpQuiet_nil ?_
  rintro _ ⟨x1, rfl⟩
  go_wp2_with fail
  go_loop [5, 6] (fun v5 v6 => ∃ k : Nat, k ≤ 4 ∧ v6 = .int .i64 k ∧ v5 = .int .i64 (num4 s.data.toList k : Int)) (fun _ v6 => 4 - (intOf v6).toNat)
  case atStart => exact ⟨0, by omega, rfl, rfl⟩
  case round =>
    obtain ⟨k, hk, rfl, rfl⟩ := hrel
    by_cases hlt : k < 4
    · have hst := Lib.hid (show ((num4 s.data.toList (k + 1) : Nat) : Int) = (num4 s.data.toList k : Int) * 256 + ((s.data.toList.getD k 0).toNat : Int) by simp [num4])
      have hb0 := num4_lt s.data.toList k (by omega)
      have hb1 : ((s.data.toList.getD k 0).toNat : Int) < 256 := by have := (s.data.toList.getD k 0).toNat_lt; omega
      have v1 : IntKind.i64.wrap ((num4 s.data.toList k : Int) * 256) = (num4 s.data.toList k : Int) * 256 := IntWalk.i64_in _ (by omega)
      have v2 : IntKind.i64.wrap ((num4 s.data.toList k : Int) * 256 + ((s.data.toList.getD k 0).toNat : Int)) = (num4 s.data.toList k : Int) * 256 + ((s.data.toList.getD k 0).toNat : Int) := IntWalk.i64_in _ (by omega)
      have v3 : wrap64 ((num4 s.data.toList k : Int) * 256) = (num4 s.data.toList k : Int) * 256 := by unfold wrap64; omega
      have v4 : wrap64 ((num4 s.data.toList k : Int) * 256 + ((s.data.toList.getD k 0).toNat : Int)) = (num4 s.data.toList k : Int) * 256 + ((s.data.toList.getD k 0).toNat : Int) := by unfold wrap64; omega
      have ik : ∀ w, (Instr.index 9 (.string s) (.int .i64 (k : Int))).run Try.prog w = .ok (.int .u8 ((s.data.toList.getD k 0).toNat : Int)) w := fun w => run_index_lit Try.underlying9 s k (by omega) w
      generalize num4 s.data.toList k = x at *
      generalize s.data.toList.getD k 0 = c at *
      clear hb0
      go_wp2
      go_round
      case rel => exact ⟨k + 1, by omega, by go_num, by rw [hst.out]⟩
      case measure => simp [intOf]; omega
    · obtain rfl : k = 4 := by omega
      rw [← N.out]
      have q1 : (8 : Int) + (n : Int) ≤ (s.size : Int) := by omega
      have q2 : (12 : Int) + (n : Int) ≤ (s.size : Int) := by omega
      have q0 : (8 : Int) ≤ 8 + (n : Int) := by omega
      have q5 : ((8 : Int) + (n : Int)).toNat = 8 + n := by omega
      have q6 : ((12 : Int) + (n : Int)).toNat = 12 + n := by omega
      have q7 : (0 : Int) ≤ 8 + (n : Int) := by omega
      have q8 : (8 : Int) + (n : Int) ≤ 12 + (n : Int) := by omega
      have q3 : IntKind.i64.wrap ((8 : Int) + (n : Int)) = 8 + (n : Int) := IntWalk.i64_in _ (by omega)
      have q4 : IntKind.i64.wrap ((12 : Int) + (n : Int)) = 12 + (n : Int) := IntWalk.i64_in _ (by omega)
      have S2 := Lib.hid s2
      clear s2
      go_wp2_with fail
      refine Lx.wp_region_ext (by kernel_rfl) (by kernel_rfl) ?_
      repeat (go_big_quiet_step ((go_at_call 33; with_reducible exact Lx.ext_of (S2.out _))))
      refine wpQuiet_nil ?_
      rintro _ ⟨x2, rfl⟩
      go_wp2_with fail
      go_ret3
      exact ⟨rfl, Lx.bstep x1.below (Nat.le_refl _) x2.below⟩

theorem rRead_to {s a : ByteArray} {n x : Int} {w : World} {r : List UInt8 × Nat × Nat} (h : Calls Try.prog 21 #[.string s] w fun e w' => e = .returned (.tuple #[.string a, .int .i64 n, .int .i64 x]) ∧ Below w.heap.size w w')
    (h1 : a = str r.1) (h2 : n = (r.2.1 : Int)) (h3 : x = (r.2.2 : Int)) :
    Calls Try.prog 21 #[.string s] w fun e w' => e = .returned (.tuple #[.string (str r.1), .int .i64 r.2.1, .int .i64 r.2.2]) ∧ Below w.heap.size w w' := by
  rw [← h1, ← h2, ← h3]; exact h

theorem RRF (s : ByteArray) (h8 : 8 ≤ s.size) (hs : s.size ≤ 9223372036854775807) : RRFacts s (str (le4 (Crc.crc (s.data.toList.take 4)))) (num s.data.toList) := by
  have e0 : (s.extract 0 4).data.toList = s.data.toList.take 4 := by rw [piece]; rfl
  have hsz : (s.extract 0 4).size ≤ maxLen := by unfold maxLen; simp; omega
  have hc := rsum_calls (s.extract 0 4)
  rw [e0] at hc
  exact ⟨by omega, by omega, by omega, fun W => hc W hsz, by omega, (num4_eq _).symm⟩

theorem rRead_calls (s : ByteArray) (w : World) (hs : s.size ≤ maxLen) :
    Calls Try.prog 21 #[.string s] w fun e w' => e = .returned (.tuple #[.string (str (rd s.data.toList).1), .int .i64 (rd s.data.toList).2.1, .int .i64 (rd s.data.toList).2.2]) ∧ Below w.heap.size w w' := by
  have hlen : s.data.toList.length = s.size := by simp
  have hs' := maxLen_le hs
  by_cases h8 : s.size < 8
  · have hr : rd s.data.toList = ([], 0, 70) := by unfold rd; rw [if_pos (by omega)]
    rw [hr]
    exact rRead_to (rRead_short h8 w hs') str_nil rfl rfl
  · obtain ⟨R, hR⟩ : ∃ R, rd s.data.toList = R := ⟨_, rfl⟩
    have hr := hR
    unfold rd at hr
    rw [if_neg (by omega)] at hr
    have e1 : (str (le4 (Crc.crc (s.data.toList.take 4)))).toList = le4 (Crc.crc (s.data.toList.take 4)) := by rw [ByteArray.toList_eq, str_data]
    have e2 := sub_eq s 4 4
    have F := RRF s (by omega) hs'
    by_cases hsum : le4 (Crc.crc (s.data.toList.take 4)) = (s.data.toList.drop 4).take 4
    · have t1 : (!(str (le4 (Crc.crc (s.data.toList.take 4)))).toList == (s.extract 4 8).toList) = false := by rw [e1, e2, hsum]; simp
      rw [if_neg (by simp [hsum])] at hr
      by_cases hn : 16384 < num s.data.toList
      · rw [if_pos hn] at hr
        rw [hR, ← hr]
        exact rRead_to (rRead_long F w hs' t1 hn) str_nil rfl rfl
      · rw [if_neg hn] at hr
        by_cases hl : s.size < 12 + num s.data.toList
        · rw [if_pos (by omega)] at hr
          rw [hR, ← hr]
          exact rRead_to (rRead_torn F w hs' t1 (by omega) hl) str_nil rfl rfl
        · rw [if_neg (by omega)] at hr
          have f1 : (s.extract 8 (8 + num s.data.toList)).data.toList = (s.data.toList.drop 8).take (num s.data.toList) := by rw [← ByteArray.toList_eq, sub_eq]
          have f2 := sub_eq s (8 + num s.data.toList) 4
          rw [show 8 + num s.data.toList + 4 = 12 + num s.data.toList from by omega] at f2
          have s2 : ∀ W : World, Calls Try.prog 33 #[.string (s.extract 8 (8 + num s.data.toList))] W fun e w' => e = .returned (.string (str (le4 (Crc.crc ((s.data.toList.drop 8).take (num s.data.toList)))))) ∧ Below W.heap.size W w' := fun W => by
            rw [← f1]; exact rsum_calls _ W (by unfold maxLen; simp; omega)
          have e3 : (str (le4 (Crc.crc ((s.data.toList.drop 8).take (num s.data.toList))))).toList = le4 (Crc.crc ((s.data.toList.drop 8).take (num s.data.toList))) := by rw [ByteArray.toList_eq, str_data]
          by_cases hs2 : le4 (Crc.crc ((s.data.toList.drop 8).take (num s.data.toList))) = (s.data.toList.drop (8 + num s.data.toList)).take 4
          · rw [if_neg (by simp [hs2])] at hr
            rw [hR, ← hr]
            have g0 := rRead_ok F w hs' t1 (by omega) (by omega) s2 (by rw [e3, f2, hs2]; simp)
            have g1 : s.extract 8 (8 + num s.data.toList) = str ((s.data.toList.drop 8).take (num s.data.toList)) := by rw [← f1, str_of]
            have g2 : (12 : Int) + ((num s.data.toList : Nat) : Int) = ((12 + num s.data.toList : Nat) : Int) := by omega
            rw [g1, g2] at g0
            clear hR hr hs2 e3 f2 s2 t1 F f1 g1 g2
            generalize num s.data.toList = n at *
            generalize (s.data.toList.drop 8).take n = t at *
            exact g0
          · rw [if_pos hs2] at hr
            rw [hR, ← hr]
            exact rRead_to (rRead_sum2 F w hs' t1 (by omega) (by omega) s2 (by rw [e3, f2]; simpa using hs2)) str_nil rfl rfl
    · have t1 : (!(str (le4 (Crc.crc (s.data.toList.take 4)))).toList == (s.extract 4 8).toList) = true := by rw [e1, e2]; simpa using hsum
      rw [if_pos hsum] at hr
      rw [hR, ← hr]
      exact rRead_to (rRead_sum1 F w hs' t1) str_nil rfl rfl
end Go.Proofs.Ytfcicfkgbepagaa
