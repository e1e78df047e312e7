/-
  The contract of crc.table: it returns the table of the sum. No condition.
-/
import Derived.Test.YtfcicfkgbepagaaProg
import Derived.Test.YtfcicfkgbepagaaLx
import Derived.Test.YtfcicfkgbepagaaBits
import Derived.Test.YtfcicfkgbepagaaCrcMath
namespace Go.Proofs.Ytfcicfkgbepagaa
open Go.RowKit

/-! codicil/crc.table -/
def tz : Array Value := Array.replicate 256 (.int .u32 0)
theorem zeroTab (w : World) : (zeroValue 50).run Try.prog w = .ok (.agg tz) w := by kernel_rfl

def st (x : Int) : Int := Go.bits .xor .u32 (x / 2) (Go.bits .and .u32 3988292384 ((-(Go.bits .and .u32 x 1)) % 4294967296))
def stn : Nat → Int → Int
  | 0, x => x
  | n + 1, x => st (stn n x)
def tb (i : Nat) : Int := stn 8 i
def tc (k : Nat) : Array Value := ((List.range 256).map fun i => Value.int .u32 (if i < k then tb i else 0)).toArray
theorem tc_zero : tc 0 = tz := by
  apply Array.ext
  · simp [tc, tz]
  · intro i h1 h2; simp [tc, tz]
theorem tc_size (k : Nat) : (tc k).size = 256 := by simp [tc]
theorem tc_get (k : Nat) (h : k < 256) : (tc k)[k]? = some (.int .u32 0) := by
  simp [tc, h]
theorem tc_succ (k : Nat) : (tc k).setIfInBounds k (.int .u32 (tb k)) = tc (k + 1) := by
  apply Array.ext
  · simp [tc]
  · intro i h1 h2
    simp [tc] at h1 h2
    simp only [tc, List.getElem_toArray, List.getElem_map, List.getElem_range, Array.getElem_setIfInBounds]
    by_cases e : k = i
    · subst e; simp
    · simp [e]; congr 1; simp; omega
theorem tc_one : ∀ v ∈ (tc 256).toList, v.oneCell' = true := by
  intro v hv
  simp [tc] at hv
  obtain ⟨a, _, rfl⟩ := hv
  rfl

theorem stn_ge (n : Nat) (x : Int) (h : 0 ≤ x) : 0 ≤ stn n x := by
  cases n with
  | zero => exact h
  | succ n => unfold stn st; exact bits_lo_u32 _ _ _
theorem st_L (b : BitVec 32) : st (b.toNat : Int) = ((Crc.L b).toNat : Int) := by
  unfold st Crc.L
  rw [show (1 : Int) = ((1#32).toNat : Int) from by decide, Lx.half32, Lx.and32, Lx.neg32, show (3988292384 : Int) = ((Crc.P).toNat : Int) from by decide, Lx.and32, Lx.xor32]
theorem stn_L (n : Nat) (b : BitVec 32) : stn n (b.toNat : Int) = ((Crc.Ln n b).toNat : Int) := by
  induction n with
  | zero => rfl
  | succ n ih => rw [stn, ih, st_L]; rfl
theorem tc_at (j : BitVec 8) : (tc 256)[j.toNat]? = some (.int .u32 ((Crc.Ln 8 (j.setWidth 32)).toNat : Int)) := by
  have hj := j.isLt
  have e : tb j.toNat = ((Crc.Ln 8 (j.setWidth 32)).toNat : Int) := by
    rw [← stn_L]; unfold tb; congr 1
  have hj' : j.toNat < 256 := hj
  simp only [tc, List.getElem?_toArray, List.getElem?_map, List.getElem?_range hj', Option.map_some, if_pos hj', e]

set_option maxRecDepth 100000 in
set_option maxHeartbeats 400000 in
theorem table_calls (w : World) : Calls Try.prog 27 #[] w fun e w' => e = .returned (.agg (tc 256)) ∧ w' = w.alloc (.cells (tc 256) 50) := by
  have hz := zeroTab
  go_enter Try.func27, Try.ntmps27
  go_wp2_with fail
  go_loopw [3] (fun v3 wr => ∃ k : Nat, k ≤ 256 ∧ v3 = .int .i64 k ∧ wr = w.alloc (.cells (tc k) 50)) (fun v3 _ => 256 - (intOf v3).toNat)
  case atStart => exact ⟨0, by omega, rfl, by rw [tc_zero]⟩
  case round =>
    clear hz
    obtain ⟨k, hk, rfl, rfl⟩ := hrel
    by_cases hlt : k < 256
    · have hck := tc_get k hlt
      go_wp2
      go_loopw [2, 8] (fun v2 v8 wr => ∃ j : Nat, j ≤ 8 ∧ v8 = .int .i64 j ∧ v2 = .int .u32 (stn j k) ∧ wr = w.alloc (.cells (tc k) 50)) (fun _ v8 _ => 8 - (intOf v8).toNat)
      case atStart => exact ⟨0, by omega, rfl, rfl, rfl⟩
      case round =>
        obtain ⟨j, hj, rfl, rfl, rfl⟩ := hrel
        have hp := stn_ge j k (by omega)
        by_cases hjt : j < 8
        · go_wp2
          go_roundw
          case rel => exact ⟨j + 1, by omega, by go_num, rfl, trivial⟩
          case measure => simp [intOf]; omega
        · obtain rfl : j = 8 := by omega
          go_wp2
          go_roundw
          case rel => exact ⟨k + 1, by omega, by go_num, by rw [← tc_succ k]; rfl⟩
          case measure => simp [intOf]; omega
    · obtain rfl : k = 256 := by omega
      have hs := tc_size 256
      have hi : (Try.prog.info? 50).map (·.size) = some (tc 256).size := by rw [hs]; kernel_rfl
      have hh := heap_alloc_new w (.cells (tc 256) 50)
      have hsr : (w.alloc (.cells (tc 256) 50)).setRow w.heap.size (tc 256) = w.alloc (.cells (tc 256) 50) := Lx.setRow_alloc w _ _ _
      have hi' := Lib.hid hi
      have hh' := Lib.hid hh
      have hs' := Lib.hid hs
      clear hi hh hs
      go_wp2_with (first
        | (refine wpList_load_row rfl 50 (.tmp 0) rfl w.heap.size rfl 50 (tc 256) (0, 0) _ hh'.out Try.underlying50 rfl hi'.out ?_)
        | (refine Lx.wpList_store_row rfl 50 (.tmp 0) (.tmp 22) rfl w.heap.size rfl (tc 256) rfl 50 (tc 256) hh'.out rfl hi'.out tc_one ?_))
      rw [hsr]
      go_wp2
      exact bodyPost_ret (v := .agg (tc 256)) (results_cell_row rfl _ _ w.heap.size 50 (tc 256) (0, 0) _ rfl hh'.out Try.underlying50 rfl hi'.out) rfl ⟨rfl, rfl⟩
end Go.Proofs.Ytfcicfkgbepagaa
