/-
  What Go's operators on uint32 and uint8 say of bit vectors. No condition.
-/
import Derived.Laws.BitsLemmas
import Derived.Laws.Closers25b
import Derived.WalkKit
namespace Go.Lx
open Go

/-- What Go's operators on uint32 say of bit vectors. -/
theorem xor32 (a b : BitVec 32) : Go.bits .xor .u32 (a.toNat : Int) (b.toNat : Int) = ((a ^^^ b).toNat : Int) := by
  simp only [Go.bits, IntKind.wrap_u32]
  have e : ∀ x : BitVec 32, BitVec.ofInt IntKind.u32.bits (x.toNat : Int) = x := by
    intro x; apply BitVec.eq_of_toNat_eq; simp [IntKind.bits]
  rw [e, e]
  have h : (a ^^^ b).toNat < 4294967296 := (a ^^^ b).isLt
  change (((a ^^^ b).toNat : Nat) : Int) % 4294967296 = _
  omega
theorem and32 (a b : BitVec 32) : Go.bits .and .u32 (a.toNat : Int) (b.toNat : Int) = ((a &&& b).toNat : Int) := by
  simp only [Go.bits, IntKind.wrap_u32]
  have e : ∀ x : BitVec 32, BitVec.ofInt IntKind.u32.bits (x.toNat : Int) = x := by
    intro x; apply BitVec.eq_of_toNat_eq; simp [IntKind.bits]
  rw [e, e]
  have h : (a &&& b).toNat < 4294967296 := (a &&& b).isLt
  change (((a &&& b).toNat : Nat) : Int) % 4294967296 = _
  omega
theorem neg32 (a : BitVec 32) : (-(a.toNat : Int)) % 4294967296 = ((-a).toNat : Int) := by
  rw [BitVec.toNat_neg]
  have := a.isLt
  omega
theorem shr32 (a : BitVec 32) (k : Nat) : (a.toNat : Int) / ((2 ^ k : Nat) : Int) = ((a >>> k).toNat : Int) := by
  rw [BitVec.toNat_ushiftRight, Nat.shiftRight_eq_div_pow]
  exact (Int.natCast_ediv _ _).symm
theorem half32 (a : BitVec 32) : (a.toNat : Int) / (2 : Int) = ((a >>> 1).toNat : Int) := by
  rw [BitVec.toNat_ushiftRight, Nat.shiftRight_eq_div_pow]; simp
theorem shl1_32 (a : BitVec 32) : ((a.toNat : Int) * (2 : Int)) % (4294967296 : Int) = ((a <<< 1).toNat : Int) := by
  rw [BitVec.toNat_shiftLeft, Nat.shiftLeft_eq]
  omega
theorem of32 (x : Int) (h0 : 0 ≤ x) (h1 : x < 4294967296) : ∃ b : BitVec 32, x = (b.toNat : Int) :=
  ⟨BitVec.ofNat 32 x.toNat, by rw [BitVec.toNat_ofNat]; omega⟩
theorem xor8 (a b : BitVec 8) : Go.bits .xor .u8 (a.toNat : Int) (b.toNat : Int) = ((a ^^^ b).toNat : Int) := by
  simp only [Go.bits, IntKind.wrap_u8]
  have e : ∀ x : BitVec 8, BitVec.ofInt IntKind.u8.bits (x.toNat : Int) = x := by
    intro x; apply BitVec.eq_of_toNat_eq; simp [IntKind.bits]
  rw [e, e]
  have h : (a ^^^ b).toNat < 256 := (a ^^^ b).isLt
  change (((a ^^^ b).toNat : Nat) : Int) % 256 = _
  omega
theorem not32 (a : BitVec 32) : Go.bits .xor .u32 4294967295 (a.toNat : Int) = ((~~~a).toNat : Int) := by
  rw [show (4294967295 : Int) = ((BitVec.allOnes 32).toNat : Int) from by decide, xor32]
  congr 2
theorem wf_u32 {x : Int} (h : (Lit.int .u32 x).wf = true) : 0 ≤ x ∧ x < 4294967296 := by
  simp [Lit.wf, IntKind.min, IntKind.max, IntKind.signed, IntKind.bits] at h
  omega
theorem wf_u16 {x : Int} (h : (Lit.int .u16 x).wf = true) : 0 ≤ x ∧ x < 65536 := by
  simp [Lit.wf, IntKind.min, IntKind.max, IntKind.signed, IntKind.bits] at h
  omega
theorem wf_u8 {x : Int} (h : (Lit.int .u8 x).wf = true) : 0 ≤ x ∧ x < 256 := by
  simp [Lit.wf, IntKind.min, IntKind.max, IntKind.signed, IntKind.bits] at h
  omega
theorem wf_u64 {x : Int} (h : (Lit.int .u64 x).wf = true) : 0 ≤ x ∧ x < 18446744073709551616 := by
  simp [Lit.wf, IntKind.min, IntKind.max, IntKind.signed, IntKind.bits] at h
  omega
theorem wf_i64 {x : Int} (h : (Lit.int .i64 x).wf = true) : -9223372036854775808 ≤ x ∧ x ≤ 9223372036854775807 := by
  simp [Lit.wf, IntKind.min, IntKind.max, IntKind.signed, IntKind.bits] at h
  omega
end Go.Lx
