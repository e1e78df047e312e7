/-
  The walks of the laws of layer 4: each returns true. No condition beyond what an input of its type fulfils.
-/
import Derived.Test.YtfcicfkgbepagaaCrc
namespace Go.Proofs.Ytfcicfkgbepagaa
open Go.RowKit

theorem of9 (w : World) : Calls Try.prog 11 #[.string ⟨#[49, 50, 51, 52, 53, 54, 55, 56, 57]⟩] w fun e w' => e = .returned (.int .u32 3421780262) ∧ Below w.heap.size w w' :=
  (Of_calls _ w (by unfold maxLen; decide)).mono (by rintro e w' ⟨rfl, hb⟩; exact ⟨Lx.ret_int (by decide +kernel), hb⟩)
theorem of4 (w : World) : Calls Try.prog 11 #[.string ⟨#[49, 50, 51, 52]⟩] w fun e w' => e = .returned (.int .u32 ((Crc.crc [49, 50, 51, 52]).toNat : Int)) ∧ Below w.heap.size w w' :=
  (Of_calls _ w (by unfold maxLen; decide)).mono (by rintro e w' ⟨rfl, hb⟩; exact ⟨rfl, hb⟩)
theorem of0 (w : World) : Calls Try.prog 11 #[.string ⟨#[]⟩] w fun e w' => e = .returned (.int .u32 0) ∧ Below w.heap.size w w' :=
  (Of_calls _ w (by unfold maxLen; decide)).mono (by rintro e w' ⟨rfl, hb⟩; exact ⟨Lx.ret_int (by decide +kernel), hb⟩)
theorem more5 (w : World) : Calls Try.prog 13 #[.int .u32 ((Crc.crc [49, 50, 51, 52]).toNat : Int), .string ⟨#[53, 54, 55, 56, 57]⟩] w fun e w' => e = .returned (.int .u32 3421780262) ∧ Below w.heap.size w w' :=
  (More_calls _ _ w (by unfold maxLen; decide)).mono (by rintro e w' ⟨rfl, hb⟩; exact ⟨Lx.ret_int (by decide +kernel), hb⟩)

set_option maxRecDepth 100000 in
set_option maxHeartbeats 400000 in
theorem works04_calls (w : World) : Calls Try.prog 10 #[] w fun e w' => e = .returned (.bool true) ∧ Below w.heap.size w w' := by
  go_enter Try.func10, Try.ntmps10
  go_wp2_with fail
  refine (of9 _).mono ?_
  rintro e w1 ⟨rfl, hb1⟩
  go_wp2_with fail
  refine (of4 _).mono ?_
  rintro e w2 ⟨rfl, hb2⟩
  go_wp2_with fail
  refine (more5 _).mono ?_
  rintro e w3 ⟨rfl, hb3⟩
  go_wp2_with fail
  refine (of0 _).mono ?_
  rintro e w4 ⟨rfl, hb4⟩
  go_wp2_with fail
  go_ret
  exact ⟨rfl, Lx.bstep (Lx.bstep (Lx.bstep hb1 (Nat.le_refl _) hb2) (Nat.le_refl _) hb3) (Nat.le_refl _) hb4⟩

/-! ### CrcSums -/
/-- What Join answers, whatever the number. -/
def jn (a b : BitVec 32) (n : Int) : Int := if n < 0 ∨ 1048576 < n then 0 else ((Crc.Ln (8 * n.toNat) a ^^^ b).toNat : Int)
theorem Join_any (a b : BitVec 32) (n : Int) (w : World) : Calls Try.prog 15 #[.int .u32 (a.toNat : Int), .int .u32 (b.toNat : Int), .int .i64 n] w fun e w' => e = .returned (.int .u32 (jn a b n)) ∧ w = w' := by
  unfold jn
  by_cases h : n < 0 ∨ 1048576 < n
  · rw [if_pos h]; exact Join_off a b n h w
  · rw [if_neg h]
    obtain ⟨m, rfl⟩ := Int.eq_ofNat_of_zero_le (show 0 ≤ n by omega)
    exact Join_calls a b m (by omega) w
theorem refJoin_any (a b : BitVec 32) (n : Int) (w : World) : Calls Try.prog 16 #[.int .u32 (a.toNat : Int), .int .u32 (b.toNat : Int), .int .i64 n] w fun e w' => e = .returned (.int .u32 (jn a b n)) ∧ w = w' := by
  unfold jn
  by_cases h : n < 0 ∨ 1048576 < n
  · rw [if_pos h]; exact refJoin_off a b n h w
  · rw [if_neg h]
    obtain ⟨m, rfl⟩ := Int.eq_ofNat_of_zero_le (show 0 ≤ n by omega)
    exact refJoin_calls a b m (by omega) w

set_option maxRecDepth 100000 in
set_option maxHeartbeats 1000000 in
theorem CrcSums_walk (s t : ByteArray) (a2 n : Int) (w : World) (hs : s.size ≤ maxLen) (ht : t.size ≤ maxLen) (w2 : (Lit.int .u32 a2).wf = true) (w3 : (Lit.int .i64 n).wf = true) :
    Calls Try.prog 4 #[.string s, .string t, .int .u32 a2, .int .i64 n] w fun e w' => e = .returned (.bool true) ∧ Below w.heap.size w w' := by
  obtain ⟨sum, rfl⟩ := Lx.of32 a2 (by have := Lx.wf_u32 w2; omega) (by have := Lx.wf_u32 w2; omega)
  clear w2 w3
  go_enter Try.func4, Try.ntmps4
  go_wp2_with fail
  all_goals first
    | (go_at_call 10
       refine (works04_calls _).mono ?_
       rintro e w1 ⟨rfl, hb1⟩
       go_wp2_with fail
       go_ret
       exact ⟨rfl, hb1⟩)
    | (refine (Of_calls s _ hs).mono ?_
       rintro e w1 ⟨rfl, hb1⟩
       go_wp2_with fail
       refine (refOf_calls s _ hs).mono ?_
       rintro e w1 ⟨rfl, rfl⟩
       go_wp2_with fail
       refine (More_calls sum t _ ht).mono ?_
       rintro e w2 ⟨rfl, hb2⟩
       go_wp2_with fail
       refine (refMore_calls sum t _ ht).mono ?_
       rintro e w2 ⟨rfl, rfl⟩
       go_wp2_with fail
       refine (Of_calls t _ ht).mono ?_
       rintro e w3 ⟨rfl, hb3⟩
       go_wp2_with fail
       refine (Join_any sum _ _ _).mono ?_
       rintro e w3 ⟨rfl, rfl⟩
       go_wp2_with fail
       refine (refOf_calls t _ ht).mono ?_
       rintro e w3 ⟨rfl, rfl⟩
       go_wp2_with fail
       refine (refJoin_any sum _ _ _).mono ?_
       rintro e w3 ⟨rfl, rfl⟩
       go_wp2_with fail
       refine (works04_calls _).mono ?_
       rintro e w4 ⟨rfl, hb4⟩
       go_wp2_with fail
       go_ret
       exact ⟨rfl, Lx.bstep (Lx.bstep (Lx.bstep hb1 (Nat.le_refl _) hb2) (Nat.le_refl _) hb3) (Nat.le_refl _) hb4⟩)
end Go.Proofs.Ytfcicfkgbepagaa
