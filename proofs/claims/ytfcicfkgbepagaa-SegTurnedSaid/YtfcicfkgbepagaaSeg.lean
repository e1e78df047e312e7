/-
  The contracts of seg.four, seg.sum, seg.Frame, seg.Read and of the reference's functions: each returns the plain law's value.
-/
import Derived.Test.YtfcicfkgbepagaaCrc
import Derived.Laws.BytesArg
namespace Go.Proofs.Ytfcicfkgbepagaa
open Go.RowKit

/-- A string of its bytes. -/
def str (l : List UInt8) : ByteArray := ⟨l.toArray⟩
theorem str_data (l : List UInt8) : (str l).data.toList = l := by simp [str]
theorem str_of (s : ByteArray) : str s.data.toList = s := by cases s; simp [str]
theorem str_size (l : List UInt8) : (str l).size = l.length := by simp [str, ByteArray.size]

def be4 (x : BitVec 32) : List UInt8 := [UInt8.ofBitVec ((x >>> 24).setWidth 8), UInt8.ofBitVec ((x >>> 16).setWidth 8), UInt8.ofBitVec ((x >>> 8).setWidth 8), UInt8.ofBitVec (x.setWidth 8)]
def le4 (x : BitVec 32) : List UInt8 := [UInt8.ofBitVec (x.setWidth 8), UInt8.ofBitVec ((x >>> 8).setWidth 8), UInt8.ofBitVec ((x >>> 16).setWidth 8), UInt8.ofBitVec ((x >>> 24).setWidth 8)]

theorem conv4 (w : World) (T : TypeId) (a b c d : Int) :
    (convert 25 9 (.slice (some ⟨w.heap.size, 0, none⟩) 4 4)).run Try.prog (w.alloc (.cells #[.int .u8 a, .int .u8 b, .int .u8 c, .int .u8 d] T)) = .ok (.string (strOfNums [a, b, c, d])) (w.alloc (.cells #[.int .u8 a, .int .u8 b, .int .u8 c, .int .u8 d] T)) :=
  run_convert_bytes_arg (P := Try.prog) _ 25 5 Try.underlying25 Try.underlying5 w.heap.size 0 4 4 [a, b, c, d] rfl (fun i hi => by
    rw [Nat.zero_add, World.cell?_alloc_at (hn := rfl)]
    match i, hi with
    | 0, _ => rfl
    | 1, _ => rfl
    | 2, _ => rfl
    | 3, _ => rfl) 9 Try.underlying9
theorem byte_of (x : BitVec 32) (k : Nat) : UInt8.ofNat (((x.toNat : Int) / ((2 ^ k : Nat) : Int)) % 256).toNat = UInt8.ofBitVec ((x >>> k).setWidth 8) := by
  rw [Lx.shr32]
  apply UInt8.toNat_inj.1
  have e : (((x >>> k).toNat : Int) % 256).toNat = (x >>> k).toNat % 256 := by omega
  rw [e]
  simp
theorem byte_top (x : BitVec 32) : UInt8.ofNat ((x.toNat : Int) / (16777216 : Int)).toNat = UInt8.ofBitVec ((x >>> 24).setWidth 8) := by
  rw [← byte_of]
  congr 2
  have := x.isLt
  rw [show ((2 ^ 24 : Nat) : Int) = 16777216 from rfl]
  omega
theorem byte_low (x : BitVec 32) : UInt8.ofNat ((x.toNat : Int) % (256 : Int)).toNat = UInt8.ofBitVec (x.setWidth 8) := by
  have := byte_of x 0
  simpa using this
theorem be4_of (x : BitVec 32) : strOfNums [(x.toNat : Int) / (16777216 : Int), (x.toNat : Int) / (65536 : Int) % (256 : Int), (x.toNat : Int) / (256 : Int) % (256 : Int), (x.toNat : Int) % (256 : Int)] = str (be4 x) := by
  unfold strOfNums str be4
  rw [← byte_top, ← byte_of x 16, ← byte_of x 8, ← byte_low]
  rfl
theorem le4_of (x : BitVec 32) : strOfNums [(x.toNat : Int) % (256 : Int), (x.toNat : Int) / (256 : Int) % (256 : Int), (x.toNat : Int) / (65536 : Int) % (256 : Int), (x.toNat : Int) / (16777216 : Int)] = str (le4 x) := by
  unfold strOfNums str le4
  rw [← byte_top, ← byte_of x 16, ← byte_of x 8, ← byte_low]
  rfl

set_option maxRecDepth 100000 in
set_option maxHeartbeats 400000 in
theorem four_calls (x : BitVec 32) (w : World) :
    Calls Try.prog 30 #[.int .u32 (x.toNat : Int)] w fun e w' => e = .returned (.string (str (be4 x))) ∧ Below w.heap.size w w' := by
  have hc := conv4 w 59
  have hb := Lib.hid (be4_of x)
  go_enter Try.func30, Try.ntmps30
  go_wp2_with fail
  go_ret
  exact ⟨Lx.ret_str hb.out, (Below.refl _ _).alloc (Nat.le_refl _) _⟩

set_option maxRecDepth 100000 in
set_option maxHeartbeats 400000 in
theorem sum_calls (s : ByteArray) (w : World) (hs : s.size ≤ maxLen) :
    Calls Try.prog 31 #[.string s] w fun e w' => e = .returned (.string (str (le4 (Crc.crc s.data.toList)))) ∧ Below w.heap.size w w' := by
  have hc := fun W => conv4 W 59
  have hb := Lib.hid (le4_of (Crc.crc s.data.toList))
  go_enter Try.func31, Try.ntmps31
  go_wp2_with fail
  refine (Of_calls s _ hs).mono ?_
  rintro e w1 ⟨rfl, hb1⟩
  have hx := (Crc.crc s.data.toList).isLt
  go_wp2_with fail
  go_ret
  exact ⟨Lx.ret_str hb.out, hb1.alloc hb1.size _⟩

def frame (t : List UInt8) : List UInt8 := be4 (BitVec.ofNat 32 t.length) ++ le4 (Crc.crc (be4 (BitVec.ofNat 32 t.length))) ++ t ++ le4 (Crc.crc t)
theorem str_append (a b : List UInt8) : str a ++ str b = str (a ++ b) := by
  apply ByteArray.ext; simp [str]
theorem str_append' (a : List UInt8) (s : ByteArray) : str a ++ s = str (a ++ s.data.toList) := by
  rw [← str_append, str_of]
theorem frame_str (s : ByteArray) : str (be4 (BitVec.ofNat 32 s.size)) ++ str (le4 (Crc.crc (be4 (BitVec.ofNat 32 s.size)))) ++ s ++ str (le4 (Crc.crc s.data.toList)) = str (frame s.data.toList) := by
  have e : s.data.toList.length = s.size := by simp
  rw [str_append, str_append', str_append]
  unfold frame
  rw [e]

set_option maxRecDepth 100000 in
set_option maxHeartbeats 400000 in
theorem Frame_calls (s : ByteArray) (w : World) (hs : s.size ≤ 16384) :
    Calls Try.prog 18 #[.string s] w fun e w' => e = .returned (.tuple #[.string (str (frame s.data.toList)), .int .i64 0]) ∧ Below w.heap.size w w' := by
  have hsz : (s.size : Int) ≤ 16384 := by omega
  have hm : s.size ≤ maxLen := by unfold maxLen; omega
  have F1 := Lib.hid (fun W => four_calls (BitVec.ofNat 32 s.size) W)
  rw [show (((BitVec.ofNat 32 s.size).toNat : Nat) : Int) = (s.size : Int) from by rw [BitVec.toNat_ofNat]; omega] at F1
  have S1 := Lib.hid (fun W => sum_calls (str (be4 (BitVec.ofNat 32 s.size))) W (by rw [str_size]; unfold maxLen; simp [be4]))
  rw [str_data] at S1
  have S2 := Lib.hid (fun W => sum_calls s W hm)
  have hf := Lib.hid (frame_str s)
  have q1 : (str (be4 (BitVec.ofNat 32 s.size))).size = 4 := by rw [str_size]; rfl
  have q2 : (str (le4 (Crc.crc (be4 (BitVec.ofNat 32 s.size))))).size = 4 := by rw [str_size]; rfl
  have q3 : (str (le4 (Crc.crc s.data.toList))).size = 4 := by rw [str_size]; rfl
  go_enter Try.func18, Try.ntmps18
  go_wp2_with fail
  refine (F1.out _).mono ?_
  rintro e w1 ⟨rfl, hb1⟩
  go_wp2_with fail
  refine (S1.out _).mono ?_
  rintro e w2 ⟨rfl, hb2⟩
  go_wp2_with fail
  refine (S2.out _).mono ?_
  rintro e w3 ⟨rfl, hb3⟩
  go_wp2_with fail
  go_ret2
  exact ⟨by rw [hf.out]; rfl, Lx.bstep (Lx.bstep hb1 (Nat.le_refl _) hb2) (Nat.le_refl _) hb3⟩
theorem Frame_long (s : ByteArray) (w : World) (hs : 16384 < s.size) :
    Calls Try.prog 18 #[.string s] w fun e w' => e = .returned (.tuple #[.string (str []), .int .i64 4]) ∧ Below w.heap.size w w' := by
  go_enter Try.func18, Try.ntmps18
  go_wp2_with fail
  go_ret2
  exact ⟨rfl, Below.refl _ _⟩

theorem below_drawn' {B : Nat} {w w' : World} (n : Nat) (h : Below B w w') : Below B w (w'.drewN n) := ⟨h.os, h.tape, h.output, h.size, h.block⟩
theorem below_of_ext {w : World} (x : Lx.Ext w) (n : Nat) : Below w.heap.size w (x.wo.drewN n) := below_drawn' n x.below
theorem below_of_ext2 {w : World} (x : Lx.Ext w) (n : Nat) (y : Lx.Ext (x.wo.drewN n)) : Below w.heap.size w y.wo := Lx.bstep (below_of_ext x n) (Nat.le_refl _) y.below
/-! Read. -/
def num (l : List UInt8) : Nat := (l.getD 0 0).toNat * 16777216 + (l.getD 1 0).toNat * 65536 + (l.getD 2 0).toNat * 256 + (l.getD 3 0).toNat
/-- What bytes are read as: the text, the bytes of its frame, the error. -/
def rd (l : List UInt8) : List UInt8 × Nat × Nat :=
  if l.length < 8 then ([], 0, 70)
  else if le4 (Crc.crc (l.take 4)) ≠ (l.drop 4).take 4 then ([], 0, 71)
  else if 16384 < num l then ([], 0, 4)
  else if l.length < 12 + num l then ([], 0, 70)
  else if le4 (Crc.crc ((l.drop 8).take (num l))) ≠ (l.drop (8 + num l)).take 4 then ([], 0, 71)
  else ((l.drop 8).take (num l), 12 + num l, 0)

theorem run_index_lit {P : Program} {T : TypeId} (hu : P.underlying T = some .string) (s : ByteArray) (k : Nat) (h : k < s.size) (w : World) : (Instr.index T (.string s) (.int .i64 (k : Int))).run P w = .ok (.int .u8 ((s.data.toList.getD k 0).toNat : Int)) w := by
  have e : s[k]? = some (s.data.toList.getD k 0) := by
    rw [getElem?_pos s k h]; simp [List.getD, h]; rfl
  simp [Instr.index, asIntOf, run_underlying hu, e]
theorem or_num (a b c d : UInt8) : Go.bits .or .i64 (Go.bits .or .i64 (Go.bits .or .i64 ((a.toNat : Int) * 16777216) ((b.toNat : Int) * 65536)) ((c.toNat : Int) * 256)) (d.toNat : Int) = ((a.toNat * 16777216 + b.toNat * 65536 + c.toNat * 256 + d.toNat : Nat) : Int) := by
  have ha := a.toNat_lt; have hb := b.toNat_lt; have hc := c.toNat_lt; have hd := d.toNat_lt
  have hw : ∀ n : Int, 0 ≤ n → n < 2 ^ 62 → IntKind.i64.wrap n = n := fun n _ _ => by rw [IntKind.wrap_i64]; omega
  have h1 := bits_join .i64 62 (by decide) hw 24 ((a.toNat : Int) * 16777216) ((b.toNat : Int) * 65536) (by omega) (by omega) (by omega) (by omega) (by omega) (by omega)
  have h2 := bits_join .i64 62 (by decide) hw 16 ((a.toNat : Int) * 16777216 + (b.toNat : Int) * 65536) ((c.toNat : Int) * 256) (by omega) (by omega) (by omega) (by omega) (by omega) (by omega)
  have h3 := bits_join .i64 62 (by decide) hw 8 ((a.toNat : Int) * 16777216 + (b.toNat : Int) * 65536 + (c.toNat : Int) * 256) (d.toNat : Int) (by omega) (by omega) (by omega) (by omega) (by omega) (by omega)
  rw [h1, h2, h3]
  omega
theorem piece (s : ByteArray) (i k : Nat) : (s.extract i k).data.toList = (s.data.toList.take k).drop i := by
  simp [ByteArray.data_extract, List.extract_eq_take_drop, List.drop_take]
theorem sub_eq (s : ByteArray) (i n : Nat) : (s.extract i (i + n)).toList = (s.data.toList.drop i).take n := by
  rw [ByteArray.toList_eq, piece, List.drop_take]; congr 1; omega
theorem ret3s {a b : ByteArray} {n m x y : Int} (h1 : a = b) (h2 : n = m) (h3 : x = y) : Ending.returned (.tuple #[.string a, .int .i64 n, .int .i64 x]) = .returned (.tuple #[.string b, .int .i64 m, .int .i64 y]) := by rw [h1, h2, h3]

/-- What the walks of Read take. -/
structure RFacts (s H1 : ByteArray) (b0 b1 b2 b3 : UInt8) (n : Nat) : Prop where
  z0 : (0 : Int) ≤ (s.size : Int)
  z1 : (8 : Int) ≤ (s.size : Int)
  z2 : (4 : Int) ≤ (s.size : Int)
  s1 : ∀ W : World, Calls Try.prog 31 #[.string (s.extract 0 4)] W fun e w' => e = .returned (.string H1) ∧ Below W.heap.size W w'
  i0 : ∀ w, (Instr.index 9 (.string s) (.int .i64 0)).run Try.prog w = .ok (.int .u8 (b0.toNat : Int)) w
  i1 : ∀ w, (Instr.index 9 (.string s) (.int .i64 1)).run Try.prog w = .ok (.int .u8 (b1.toNat : Int)) w
  i2 : ∀ w, (Instr.index 9 (.string s) (.int .i64 2)).run Try.prog w = .ok (.int .u8 (b2.toNat : Int)) w
  i3 : ∀ w, (Instr.index 9 (.string s) (.int .i64 3)).run Try.prog w = .ok (.int .u8 (b3.toNat : Int)) w
  hnum : Go.bits .or .i64 (Go.bits .or .i64 (Go.bits .or .i64 ((b0.toNat : Int) * 16777216) ((b1.toNat : Int) * 65536)) ((b2.toNat : Int) * 256)) (b3.toNat : Int) = (n : Int)
  c0 : (b0.toNat : Int) < 256
  c1 : (b1.toNat : Int) < 256
  c2 : (b2.toNat : Int) < 256
  c3 : (b3.toNat : Int) < 256
  n0 : (0 : Int) ≤ (n : Int)

set_option maxRecDepth 100000 in
set_option maxHeartbeats 1000000 in
theorem Read_short {s : ByteArray} (h8 : s.size < 8) (w : World) (hs : s.size ≤ 9223372036854775807)  :
    Calls Try.prog 20 #[.string s] w fun e w' => e = .returned (.tuple #[.string (⟨#[]⟩ : ByteArray), .int .i64 0, .int .i64 70]) ∧ Below w.heap.size w w' := by
  go_enter Try.func20, Try.ntmps20
  go_wp2_with fail
  go_ret3
  exact ⟨rfl, Below.refl _ _⟩
set_option maxRecDepth 100000 in
set_option maxHeartbeats 1000000 in
theorem Read_sum1 {s H1 : ByteArray} {b0 b1 b2 b3 : UInt8} {n : Nat} (F : RFacts s H1 b0 b1 b2 b3 n) (w : World) (hs : s.size ≤ 9223372036854775807) (t1 : (!H1.toList == (s.extract 4 8).toList) = true) :
    Calls Try.prog 20 #[.string s] w fun e w' => e = .returned (.tuple #[.string (⟨#[]⟩ : ByteArray), .int .i64 0, .int .i64 71]) ∧ Below w.heap.size w w' := by
  obtain ⟨z0, z1, z2, s1, i0, i1, i2, i3, hnum, c0, c1, c2, c3, n0⟩ := F
  have S1 := Lib.hid s1
  clear s1
  go_enter Try.func20, Try.ntmps20
  go_wp2_with fail
  refine Lx.wp_region_ext (by kernel_rfl) (by kernel_rfl) ?_
  repeat (go_big_quiet_step ((go_at_call 31; with_reducible exact Lx.ext_of (S1.out _))))
  refine wpQuiet_nil ?_
  rintro _ ⟨x1, rfl⟩
  go_wp2_with fail
  go_ret3
  exact ⟨rfl, x1.below⟩
set_option maxRecDepth 100000 in
set_option maxHeartbeats 1000000 in
theorem Read_long {s H1 : ByteArray} {b0 b1 b2 b3 : UInt8} {n : Nat} (F : RFacts s H1 b0 b1 b2 b3 n) (w : World) (hs : s.size ≤ 9223372036854775807) (t1 : (!H1.toList == (s.extract 4 8).toList) = false) (hn : 16384 < n) :
    Calls Try.prog 20 #[.string s] w fun e w' => e = .returned (.tuple #[.string (⟨#[]⟩ : ByteArray), .int .i64 0, .int .i64 4]) ∧ Below w.heap.size w w' := by
  obtain ⟨z0, z1, z2, s1, i0, i1, i2, i3, hnum, c0, c1, c2, c3, n0⟩ := F
  have S1 := Lib.hid s1
  clear s1
  go_enter Try.func20, Try.ntmps20
  go_wp2_with fail
  refine Lx.wp_region_ext (by kernel_rfl) (by kernel_rfl) ?_
  repeat (go_big_quiet_step ((go_at_call 31; with_reducible exact Lx.ext_of (S1.out _))))
  refine wpQuiet_nil ?_
  rintro _ ⟨x1, rfl⟩
  go_wp2_with fail
  go_quiet (fail)
  go_wp2_with fail
  go_ret3
  exact ⟨rfl, below_of_ext x1 nq⟩
set_option maxRecDepth 100000 in
set_option maxHeartbeats 1000000 in
theorem Read_torn {s H1 : ByteArray} {b0 b1 b2 b3 : UInt8} {n : Nat} (F : RFacts s H1 b0 b1 b2 b3 n) (w : World) (hs : s.size ≤ 9223372036854775807) (t1 : (!H1.toList == (s.extract 4 8).toList) = false) (hn : (n : Int) ≤ 16384) (hl : s.size < 12 + n) :
    Calls Try.prog 20 #[.string s] w fun e w' => e = .returned (.tuple #[.string (⟨#[]⟩ : ByteArray), .int .i64 0, .int .i64 70]) ∧ Below w.heap.size w w' := by
  obtain ⟨z0, z1, z2, s1, i0, i1, i2, i3, hnum, c0, c1, c2, c3, n0⟩ := F
  have S1 := Lib.hid s1
  clear s1
  go_enter Try.func20, Try.ntmps20
  go_wp2_with fail
  refine Lx.wp_region_ext (by kernel_rfl) (by kernel_rfl) ?_
  repeat (go_big_quiet_step ((go_at_call 31; with_reducible exact Lx.ext_of (S1.out _))))
  refine wpQuiet_nil ?_
  rintro _ ⟨x1, rfl⟩
  go_wp2_with fail
  go_quiet (fail)
  go_wp2_with fail
  go_ret3
  exact ⟨rfl, below_of_ext x1 nq⟩
set_option maxRecDepth 100000 in
set_option maxHeartbeats 1000000 in
theorem Read_sum2 {s H1 : ByteArray} {b0 b1 b2 b3 : UInt8} {n : Nat} (F : RFacts s H1 b0 b1 b2 b3 n) (w : World) (hs : s.size ≤ 9223372036854775807) (t1 : (!H1.toList == (s.extract 4 8).toList) = false) (hn : (n : Int) ≤ 16384) (hl : 12 + n ≤ s.size) {H2 : ByteArray} (s2 : ∀ W : World, Calls Try.prog 31 #[.string (s.extract 8 (8 + n))] W fun e w' => e = .returned (.string H2) ∧ Below W.heap.size W w') (t2 : (!H2.toList == (s.extract (8 + n) (12 + n)).toList) = true) :
    Calls Try.prog 20 #[.string s] w fun e w' => e = .returned (.tuple #[.string (⟨#[]⟩ : ByteArray), .int .i64 0, .int .i64 71]) ∧ Below w.heap.size w w' := by
  obtain ⟨z0, z1, z2, s1, i0, i1, i2, i3, hnum, c0, c1, c2, c3, n0⟩ := F
  have S1 := Lib.hid s1
  clear s1
  have q1 : (8 : Int) + (n : Int) ≤ (s.size : Int) := by omega
  have q2 : (12 : Int) + (n : Int) ≤ (s.size : Int) := by omega
  have q0 : (8 : Int) ≤ 8 + (n : Int) := by omega
  have q5 : ((8 : Int) + (n : Int)).toNat = 8 + n := by omega
  have q6 : ((12 : Int) + (n : Int)).toNat = 12 + n := by omega
  have q7 : (0 : Int) ≤ 8 + (n : Int) := by omega
  have q8 : (8 : Int) + (n : Int) ≤ 12 + (n : Int) := by omega
  have q3 : IntKind.i64.wrap ((8 : Int) + (n : Int)) = 8 + (n : Int) := IntWalk.i64_in _ (by omega)
  have q4 : IntKind.i64.wrap ((12 : Int) + (n : Int)) = 12 + (n : Int) := IntWalk.i64_in _ (by omega)
  have S2 := Lib.hid s2
  clear s2
  go_enter Try.func20, Try.ntmps20
  go_wp2_with fail
  refine Lx.wp_region_ext (by kernel_rfl) (by kernel_rfl) ?_
  repeat (go_big_quiet_step ((go_at_call 31; with_reducible exact Lx.ext_of (S1.out _))))
  refine wpQuiet_nil ?_
  rintro _ ⟨x1, rfl⟩
  go_wp2_with fail
  go_quiet (fail)
  go_wp2_with fail
  refine Lx.wp_region_ext (by kernel_rfl) (by kernel_rfl) ?_
  repeat (go_big_quiet_step ((go_at_call 31; with_reducible exact Lx.ext_of (S2.out _))))
  refine wpQuiet_nil ?_
  rintro _ ⟨x2, rfl⟩
  go_wp2_with fail
  go_ret3
  exact ⟨rfl, below_of_ext2 x1 nq x2⟩
set_option maxRecDepth 100000 in
set_option maxHeartbeats 1000000 in
theorem Read_ok {s H1 : ByteArray} {b0 b1 b2 b3 : UInt8} {n : Nat} (F : RFacts s H1 b0 b1 b2 b3 n) (w : World) (hs : s.size ≤ 9223372036854775807) (t1 : (!H1.toList == (s.extract 4 8).toList) = false) (hn : (n : Int) ≤ 16384) (hl : 12 + n ≤ s.size) {H2 : ByteArray} (s2 : ∀ W : World, Calls Try.prog 31 #[.string (s.extract 8 (8 + n))] W fun e w' => e = .returned (.string H2) ∧ Below W.heap.size W w') (t2 : (!H2.toList == (s.extract (8 + n) (12 + n)).toList) = false) :
    Calls Try.prog 20 #[.string s] w fun e w' => e = .returned (.tuple #[.string (s.extract 8 (8 + n)), .int .i64 (12 + (n : Int)), .int .i64 0]) ∧ Below w.heap.size w w' := by
  obtain ⟨z0, z1, z2, s1, i0, i1, i2, i3, hnum, c0, c1, c2, c3, n0⟩ := F
  have S1 := Lib.hid s1
  clear s1
  have q1 : (8 : Int) + (n : Int) ≤ (s.size : Int) := by omega
  have q2 : (12 : Int) + (n : Int) ≤ (s.size : Int) := by omega
  have q0 : (8 : Int) ≤ 8 + (n : Int) := by omega
  have q5 : ((8 : Int) + (n : Int)).toNat = 8 + n := by omega
  have q6 : ((12 : Int) + (n : Int)).toNat = 12 + n := by omega
  have q7 : (0 : Int) ≤ 8 + (n : Int) := by omega
  have q8 : (8 : Int) + (n : Int) ≤ 12 + (n : Int) := by omega
  have q3 : IntKind.i64.wrap ((8 : Int) + (n : Int)) = 8 + (n : Int) := IntWalk.i64_in _ (by omega)
  have q4 : IntKind.i64.wrap ((12 : Int) + (n : Int)) = 12 + (n : Int) := IntWalk.i64_in _ (by omega)
  have S2 := Lib.hid s2
  clear s2
  go_enter Try.func20, Try.ntmps20
  go_wp2_with fail
  refine Lx.wp_region_ext (by kernel_rfl) (by kernel_rfl) ?_
  repeat (go_big_quiet_step ((go_at_call 31; with_reducible exact Lx.ext_of (S1.out _))))
  refine wpQuiet_nil ?_
  rintro _ ⟨x1, rfl⟩
  go_wp2_with fail
  go_quiet (fail)
  go_wp2_with fail
  refine Lx.wp_region_ext (by kernel_rfl) (by kernel_rfl) ?_
  repeat (go_big_quiet_step ((go_at_call 31; with_reducible exact Lx.ext_of (S2.out _))))
  refine wpQuiet_nil ?_
  rintro _ ⟨x2, rfl⟩
  go_wp2_with fail
  go_ret3
  exact ⟨rfl, below_of_ext2 x1 nq x2⟩

theorem Read_to {s a : ByteArray} {n x : Int} {w : World} {r : List UInt8 × Nat × Nat} (h : Calls Try.prog 20 #[.string s] w fun e w' => e = .returned (.tuple #[.string a, .int .i64 n, .int .i64 x]) ∧ Below w.heap.size w w')
    (h1 : a = str r.1) (h2 : n = (r.2.1 : Int)) (h3 : x = (r.2.2 : Int)) :
    Calls Try.prog 20 #[.string s] w fun e w' => e = .returned (.tuple #[.string (str r.1), .int .i64 r.2.1, .int .i64 r.2.2]) ∧ Below w.heap.size w w' := by
  rw [← h1, ← h2, ← h3]; exact h
theorem maxLen_le {n : Nat} (h : n ≤ maxLen) : n ≤ 9223372036854775807 := by unfold maxLen at h; omega
theorem str_nil : (⟨#[]⟩ : ByteArray) = str [] := rfl

theorem RF (s : ByteArray) (h8 : 8 ≤ s.size) (hs : s.size ≤ 9223372036854775807) : RFacts s (str (le4 (Crc.crc (s.data.toList.take 4)))) (s.data.toList.getD 0 0) (s.data.toList.getD 1 0) (s.data.toList.getD 2 0) (s.data.toList.getD 3 0) (num s.data.toList) := by
  have e0 : (s.extract 0 4).data.toList = s.data.toList.take 4 := by rw [piece]; rfl
  have hsz : (s.extract 0 4).size ≤ maxLen := by unfold maxLen; simp; omega
  have hn := or_num (s.data.toList.getD 0 0) (s.data.toList.getD 1 0) (s.data.toList.getD 2 0) (s.data.toList.getD 3 0)
  have hc := sum_calls (s.extract 0 4)
  rw [e0] at hc
  constructor
  · omega
  · omega
  · omega
  · exact fun W => hc W hsz
  · exact fun w => run_index_lit Try.underlying9 s 0 (by omega) w
  · exact fun w => run_index_lit Try.underlying9 s 1 (by omega) w
  · exact fun w => run_index_lit Try.underlying9 s 2 (by omega) w
  · exact fun w => run_index_lit Try.underlying9 s 3 (by omega) w
  · unfold num; exact hn
  · have := (s.data.toList.getD 0 0).toNat_lt; omega
  · have := (s.data.toList.getD 1 0).toNat_lt; omega
  · have := (s.data.toList.getD 2 0).toNat_lt; omega
  · have := (s.data.toList.getD 3 0).toNat_lt; omega
  · omega

theorem Read_calls (s : ByteArray) (w : World) (hs : s.size ≤ maxLen) :
    Calls Try.prog 20 #[.string s] w fun e w' => e = .returned (.tuple #[.string (str (rd s.data.toList).1), .int .i64 (rd s.data.toList).2.1, .int .i64 (rd s.data.toList).2.2]) ∧ Below w.heap.size w w' := by
  have hlen : s.data.toList.length = s.size := by simp
  have hs' := maxLen_le hs
  by_cases h8 : s.size < 8
  · have hr : rd s.data.toList = ([], 0, 70) := by unfold rd; rw [if_pos (by omega)]
    rw [hr]
    exact Read_to (Read_short h8 w hs') str_nil rfl rfl
  · obtain ⟨R, hR⟩ : ∃ R, rd s.data.toList = R := ⟨_, rfl⟩
    have hr := hR
    unfold rd at hr
    rw [if_neg (by omega)] at hr
    have e1 : (str (le4 (Crc.crc (s.data.toList.take 4)))).toList = le4 (Crc.crc (s.data.toList.take 4)) := by rw [ByteArray.toList_eq, str_data]
    have e2 := sub_eq s 4 4
    have F := RF s (by omega) hs'
    by_cases hsum : le4 (Crc.crc (s.data.toList.take 4)) = (s.data.toList.drop 4).take 4
    · have t1 : (!(str (le4 (Crc.crc (s.data.toList.take 4)))).toList == (s.extract 4 8).toList) = false := by rw [e1, e2, hsum]; simp
      rw [if_neg (by simp [hsum])] at hr
      by_cases hn : 16384 < num s.data.toList
      · rw [if_pos hn] at hr
        rw [hR, ← hr]
        exact Read_to (Read_long F w hs' t1 hn) str_nil rfl rfl
      · rw [if_neg hn] at hr
        by_cases hl : s.size < 12 + num s.data.toList
        · rw [if_pos (by omega)] at hr
          rw [hR, ← hr]
          exact Read_to (Read_torn F w hs' t1 (by omega) hl) str_nil rfl rfl
        · rw [if_neg (by omega)] at hr
          have f1 : (s.extract 8 (8 + num s.data.toList)).data.toList = (s.data.toList.drop 8).take (num s.data.toList) := by rw [← ByteArray.toList_eq, sub_eq]
          have f2 := sub_eq s (8 + num s.data.toList) 4
          rw [show 8 + num s.data.toList + 4 = 12 + num s.data.toList from by omega] at f2
          have s2 : ∀ W : World, Calls Try.prog 31 #[.string (s.extract 8 (8 + num s.data.toList))] W fun e w' => e = .returned (.string (str (le4 (Crc.crc ((s.data.toList.drop 8).take (num s.data.toList)))))) ∧ Below W.heap.size W w' := fun W => by
            rw [← f1]; exact sum_calls _ W (by unfold maxLen; simp; omega)
          have e3 : (str (le4 (Crc.crc ((s.data.toList.drop 8).take (num s.data.toList))))).toList = le4 (Crc.crc ((s.data.toList.drop 8).take (num s.data.toList))) := by rw [ByteArray.toList_eq, str_data]
          by_cases hs2 : le4 (Crc.crc ((s.data.toList.drop 8).take (num s.data.toList))) = (s.data.toList.drop (8 + num s.data.toList)).take 4
          · rw [if_neg (by simp [hs2])] at hr
            rw [hR, ← hr]
            have g0 := Read_ok F w hs' t1 (by omega) (by omega) s2 (by rw [e3, f2, hs2]; simp)
            have g1 : s.extract 8 (8 + num s.data.toList) = str ((s.data.toList.drop 8).take (num s.data.toList)) := by rw [← f1, str_of]
            have g2 : (12 : Int) + ((num s.data.toList : Nat) : Int) = ((12 + num s.data.toList : Nat) : Int) := by omega
            rw [g1, g2] at g0
            clear hR hr hs2 e3 f2 s2 t1 F f1 g1 g2
            generalize num s.data.toList = n at *
            generalize (s.data.toList.drop 8).take n = t at *
            exact g0
          · rw [if_pos hs2] at hr
            rw [hR, ← hr]
            exact Read_to (Read_sum2 F w hs' t1 (by omega) (by omega) s2 (by rw [e3, f2]; simpa using hs2)) str_nil rfl rfl
    · have t1 : (!(str (le4 (Crc.crc (s.data.toList.take 4)))).toList == (s.extract 4 8).toList) = true := by rw [e1, e2]; simpa using hsum
      rw [if_pos hsum] at hr
      rw [hR, ← hr]
      exact Read_to (Read_sum1 F w hs' t1) str_nil rfl rfl
end Go.Proofs.Ytfcicfkgbepagaa
