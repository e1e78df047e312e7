/-
  The walks of the laws of layer 4: each returns true. No condition beyond what an input of its type fulfils.
-/
import Derived.Test.YtfcicfkgbepagaaCrc
namespace Go.Proofs.Ytfcicfkgbepagaa
open Go.RowKit

theorem of9 (w : World) : Calls Try.prog 11 #[.string ⟨#[49, 50, 51, 52, 53, 54, 55, 56, 57]⟩] w fun e w' => e = .returned (.int .u32 3421780262) ∧ Below w.heap.size w w' :=
  (Of_calls _ w (by unfold maxLen; decide)).mono (by rintro e w' ⟨rfl, hb⟩; exact ⟨Lx.ret_int (by decide +kernel), hb⟩)
theorem of4 (w : World) : Calls Try.prog 11 #[.string ⟨#[49, 50, 51, 52]⟩] w fun e w' => e = .returned (.int .u32 ((Crc.crc [49, 50, 51, 52]).toNat : Int)) ∧ Below w.heap.size w w' :=
  (Of_calls _ w (by unfold maxLen; decide)).mono (by rintro e w' ⟨rfl, hb⟩; exact ⟨rfl, hb⟩)
theorem of0 (w : World) : Calls Try.prog 11 #[.string ⟨#[]⟩] w fun e w' => e = .returned (.int .u32 0) ∧ Below w.heap.size w w' :=
  (Of_calls _ w (by unfold maxLen; decide)).mono (by rintro e w' ⟨rfl, hb⟩; exact ⟨Lx.ret_int (by decide +kernel), hb⟩)
theorem more5 (w : World) : Calls Try.prog 13 #[.int .u32 ((Crc.crc [49, 50, 51, 52]).toNat : Int), .string ⟨#[53, 54, 55, 56, 57]⟩] w fun e w' => e = .returned (.int .u32 3421780262) ∧ Below w.heap.size w w' :=
  (More_calls _ _ w (by unfold maxLen; decide)).mono (by rintro e w' ⟨rfl, hb⟩; exact ⟨Lx.ret_int (by decide +kernel), hb⟩)

set_option maxRecDepth 100000 in
set_option maxHeartbeats 400000 in
theorem works04_calls (w : World) : Calls Try.prog 10 #[] w fun e w' => e = .returned (.bool true) ∧ Below w.heap.size w w' := by
  go_enter Try.func10, Try.ntmps10
  go_wp2_with fail
  refine (of9 _).mono ?_
  rintro e w1 ⟨rfl, hb1⟩
  go_wp2_with fail
  refine (of4 _).mono ?_
  rintro e w2 ⟨rfl, hb2⟩
  go_wp2_with fail
  refine (more5 _).mono ?_
  rintro e w3 ⟨rfl, hb3⟩
  go_wp2_with fail
  refine (of0 _).mono ?_
  rintro e w4 ⟨rfl, hb4⟩
  go_wp2_with fail
  go_ret
  exact ⟨rfl, Lx.bstep (Lx.bstep (Lx.bstep hb1 (Nat.le_refl _) hb2) (Nat.le_refl _) hb3) (Nat.le_refl _) hb4⟩

/-! ### CrcSums -/
/-- What Join answers, whatever the number. -/
def jn (a b : BitVec 32) (n : Int) : Int := if n < 0 ∨ 1048576 < n then 0 else ((Crc.Ln (8 * n.toNat) a ^^^ b).toNat : Int)
theorem Join_any (a b : BitVec 32) (n : Int) (w : World) : Calls Try.prog 15 #[.int .u32 (a.toNat : Int), .int .u32 (b.toNat : Int), .int .i64 n] w fun e w' => e = .returned (.int .u32 (jn a b n)) ∧ w = w' := by
  unfold jn
  by_cases h : n < 0 ∨ 1048576 < n
  · rw [if_pos h]; exact Join_off a b n h w
  · rw [if_neg h]
    obtain ⟨m, rfl⟩ := Int.eq_ofNat_of_zero_le (show 0 ≤ n by omega)
    exact Join_calls a b m (by omega) w
theorem refJoin_any (a b : BitVec 32) (n : Int) (w : World) : Calls Try.prog 16 #[.int .u32 (a.toNat : Int), .int .u32 (b.toNat : Int), .int .i64 n] w fun e w' => e = .returned (.int .u32 (jn a b n)) ∧ w = w' := by
  unfold jn
  by_cases h : n < 0 ∨ 1048576 < n
  · rw [if_pos h]; exact refJoin_off a b n h w
  · rw [if_neg h]
    obtain ⟨m, rfl⟩ := Int.eq_ofNat_of_zero_le (show 0 ≤ n by omega)
    exact refJoin_calls a b m (by omega) w

set_option maxRecDepth 100000 in
set_option maxHeartbeats 1000000 in
theorem CrcSums_walk (s t : ByteArray) (a2 n : Int) (w : World) (hs : s.size ≤ maxLen) (ht : t.size ≤ maxLen) (w2 : (Lit.int .u32 a2).wf = true) (w3 : (Lit.int .i64 n).wf = true) :
    Calls Try.prog 4 #[.string s, .string t, .int .u32 a2, .int .i64 n] w fun e w' => e = .returned (.bool true) ∧ Below w.heap.size w w' := by
  obtain ⟨sum, rfl⟩ := Lx.of32 a2 (by have := Lx.wf_u32 w2; omega) (by have := Lx.wf_u32 w2; omega)
  clear w2 w3
  go_enter Try.func4, Try.ntmps4
  go_wp2_with fail
  all_goals first
    | (go_at_call 10
       refine (works04_calls _).mono ?_
       rintro e w1 ⟨rfl, hb1⟩
       go_wp2_with fail
       go_ret
       exact ⟨rfl, hb1⟩)
    | (refine (Of_calls s _ hs).mono ?_
       rintro e w1 ⟨rfl, hb1⟩
       go_wp2_with fail
       refine (refOf_calls s _ hs).mono ?_
       rintro e w1 ⟨rfl, rfl⟩
       go_wp2_with fail
       refine (More_calls sum t _ ht).mono ?_
       rintro e w2 ⟨rfl, hb2⟩
       go_wp2_with fail
       refine (refMore_calls sum t _ ht).mono ?_
       rintro e w2 ⟨rfl, rfl⟩
       go_wp2_with fail
       refine (Of_calls t _ ht).mono ?_
       rintro e w3 ⟨rfl, hb3⟩
       go_wp2_with fail
       refine (Join_any sum _ _ _).mono ?_
       rintro e w3 ⟨rfl, rfl⟩
       go_wp2_with fail
       refine (refOf_calls t _ ht).mono ?_
       rintro e w3 ⟨rfl, rfl⟩
       go_wp2_with fail
       refine (refJoin_any sum _ _ _).mono ?_
       rintro e w3 ⟨rfl, rfl⟩
       go_wp2_with fail
       refine (works04_calls _).mono ?_
       rintro e w4 ⟨rfl, hb4⟩
       go_wp2_with fail
       go_ret
       exact ⟨rfl, Lx.bstep (Lx.bstep (Lx.bstep hb1 (Nat.le_refl _) hb2) (Nat.le_refl _) hb3) (Nat.le_refl _) hb4⟩)

/-! ### CrcJoin -/
theorem Join_int (a b : BitVec 32) (n : Int) (h0 : 0 ≤ n) (h1 : n ≤ 1048576) (w : World) : Calls Try.prog 15 #[.int .u32 (a.toNat : Int), .int .u32 (b.toNat : Int), .int .i64 n] w fun e w' => e = .returned (.int .u32 ((Crc.Ln (8 * n.toNat) a ^^^ b).toNat : Int)) ∧ w = w' := by
  obtain ⟨m, rfl⟩ := Int.eq_ofNat_of_zero_le h0
  exact Join_calls a b m (by omega) w

/-- The list of a piece of a string. -/
theorem piece (s : ByteArray) (i k : Nat) : (s.extract i k).data.toList = (s.data.toList.take k).drop i := by
  simp [ByteArray.data_extract, List.extract_eq_take_drop, List.drop_take]
theorem piece_size (s : ByteArray) (i k : Nat) (h : k ≤ s.size) : (s.extract i k).size = k - i := by
  simp [Nat.min_eq_left h]

/-- The sums of three pieces, and of what they are joined to. -/
theorem pieces (s : ByteArray) (p q : Nat) (hpq : p ≤ q) (hq : q ≤ s.size) (hs : s.size ≤ 16384) : ∃ X Y Z XY YZ V : BitVec 32,
    (∀ w, Calls Try.prog 11 #[.string (s.extract 0 p)] w fun e w' => e = .returned (.int .u32 (X.toNat : Int)) ∧ Below w.heap.size w w') ∧
    (∀ w, Calls Try.prog 11 #[.string (s.extract p q)] w fun e w' => e = .returned (.int .u32 (Y.toNat : Int)) ∧ Below w.heap.size w w') ∧
    (∀ w, Calls Try.prog 11 #[.string (s.extract q s.size)] w fun e w' => e = .returned (.int .u32 (Z.toNat : Int)) ∧ Below w.heap.size w w') ∧
    (∀ w, Calls Try.prog 11 #[.string s] w fun e w' => e = .returned (.int .u32 (V.toNat : Int)) ∧ Below w.heap.size w w') ∧
    (∀ w, Calls Try.prog 13 #[.int .u32 (X.toNat : Int), .string (s.extract p q)] w fun e w' => e = .returned (.int .u32 (XY.toNat : Int)) ∧ Below w.heap.size w w') ∧
    (∀ w, Calls Try.prog 13 #[.int .u32 (XY.toNat : Int), .string (s.extract q s.size)] w fun e w' => e = .returned (.int .u32 (V.toNat : Int)) ∧ Below w.heap.size w w') ∧
    (∀ w, Calls Try.prog 15 #[.int .u32 (X.toNat : Int), .int .u32 (Y.toNat : Int), .int .i64 ((q : Int) - (p : Int))] w fun e w' => e = .returned (.int .u32 (XY.toNat : Int)) ∧ w = w') ∧
    (∀ w, Calls Try.prog 15 #[.int .u32 (XY.toNat : Int), .int .u32 (Z.toNat : Int), .int .i64 ((s.size : Int) - (q : Int))] w fun e w' => e = .returned (.int .u32 (V.toNat : Int)) ∧ w = w') ∧
    (∀ w, Calls Try.prog 15 #[.int .u32 (Y.toNat : Int), .int .u32 (Z.toNat : Int), .int .i64 ((s.size : Int) - (q : Int))] w fun e w' => e = .returned (.int .u32 (YZ.toNat : Int)) ∧ w = w') ∧
    (∀ w, Calls Try.prog 15 #[.int .u32 (X.toNat : Int), .int .u32 (YZ.toNat : Int), .int .i64 ((s.size : Int) - (p : Int))] w fun e w' => e = .returned (.int .u32 (V.toNat : Int)) ∧ w = w') := by
  have hsz : ∀ a b, (s.extract a b).size ≤ maxLen := by intro a b; unfold maxLen; simp; omega
  have hm : s.size ≤ maxLen := by unfold maxLen; omega
  have e1 : (s.extract 0 p).data.toList = s.data.toList.take p := by rw [piece]; rfl
  have e2 : (s.extract p q).data.toList = (s.data.toList.take q).drop p := piece s p q
  have e3 : (s.extract q s.size).data.toList = s.data.toList.drop q := by rw [piece, List.take_of_length_le (by simp)]
  have l2 : ((s.data.toList.take q).drop p).length = q - p := by simp; omega
  have l3 : (s.data.toList.drop q).length = s.size - q := by simp
  have l23 : ((s.data.toList.take q).drop p ++ s.data.toList.drop q).length = s.size - p := by rw [List.length_append, l2, l3]; omega
  have c12 : s.data.toList.take p ++ (s.data.toList.take q).drop p = s.data.toList.take q := by
    have := List.take_append_drop p (s.data.toList.take q)
    rwa [List.take_take, Nat.min_eq_left hpq] at this
  have c123 : s.data.toList.take q ++ s.data.toList.drop q = s.data.toList := List.take_append_drop _ _
  have c1_23 : s.data.toList.take p ++ ((s.data.toList.take q).drop p ++ s.data.toList.drop q) = s.data.toList := by rw [← List.append_assoc, c12, c123]
  refine ⟨Crc.crc (s.data.toList.take p), Crc.crc ((s.data.toList.take q).drop p), Crc.crc (s.data.toList.drop q), Crc.crc (s.data.toList.take q), Crc.crc ((s.data.toList.take q).drop p ++ s.data.toList.drop q), Crc.crc s.data.toList, ?_, ?_, ?_, ?_, ?_, ?_, ?_, ?_, ?_, ?_⟩
  · intro w; rw [← e1]; exact Of_calls _ w (hsz _ _)
  · intro w; rw [← e2]; exact Of_calls _ w (hsz _ _)
  · intro w; rw [← e3]; exact Of_calls _ w (hsz _ _)
  · intro w; exact Of_calls _ w hm
  · intro w
    have := More_calls (Crc.crc (s.data.toList.take p)) (s.extract p q) w (hsz _ _)
    rwa [e2, show Crc.more (Crc.crc (s.data.toList.take p)) ((s.data.toList.take q).drop p) = Crc.crc (s.data.toList.take q) from by
      unfold Crc.crc; rw [Crc.more_append, c12]] at this
  · intro w
    have := More_calls (Crc.crc (s.data.toList.take q)) (s.extract q s.size) w (hsz _ _)
    rwa [e3, show Crc.more (Crc.crc (s.data.toList.take q)) (s.data.toList.drop q) = Crc.crc s.data.toList from by
      unfold Crc.crc; rw [Crc.more_append, c123]] at this
  · intro w
    have := Join_int (Crc.crc (s.data.toList.take p)) (Crc.crc ((s.data.toList.take q).drop p)) ((q : Int) - (p : Int)) (by omega) (by omega) w
    rwa [show ((q : Int) - (p : Int)).toNat = ((s.data.toList.take q).drop p).length from by rw [l2]; omega, Crc.crc_join, c12] at this
  · intro w
    have := Join_int (Crc.crc (s.data.toList.take q)) (Crc.crc (s.data.toList.drop q)) ((s.size : Int) - (q : Int)) (by omega) (by omega) w
    rwa [show ((s.size : Int) - (q : Int)).toNat = (s.data.toList.drop q).length from by rw [l3]; omega, Crc.crc_join, c123] at this
  · intro w
    have := Join_int (Crc.crc ((s.data.toList.take q).drop p)) (Crc.crc (s.data.toList.drop q)) ((s.size : Int) - (q : Int)) (by omega) (by omega) w
    rwa [show ((s.size : Int) - (q : Int)).toNat = (s.data.toList.drop q).length from by rw [l3]; omega, Crc.crc_join] at this
  · intro w
    have := Join_int (Crc.crc (s.data.toList.take p)) (Crc.crc ((s.data.toList.take q).drop p ++ s.data.toList.drop q)) ((s.size : Int) - (p : Int)) (by omega) (by omega) w
    rwa [show ((s.size : Int) - (p : Int)).toNat = ((s.data.toList.take q).drop p ++ s.data.toList.drop q).length from by rw [l23]; omega, Crc.crc_join, c1_23] at this

set_option maxRecDepth 100000 in
set_option maxHeartbeats 1000000 in
theorem CrcJoin_walk (s : ByteArray) (a b : Int) (w : World) (hs : s.size ≤ maxLen) (w1 : (Lit.int .u16 a).wf = true) (w2 : (Lit.int .u16 b).wf = true) :
    Calls Try.prog 5 #[.string s, .int .u16 a, .int .u16 b] w fun e w' => e = .returned (.bool true) ∧ Below w.heap.size w w' := by
  have ha := Lx.wf_u16 w1
  have hb := Lx.wf_u16 w2
  clear w1 w2
  by_cases hl : 16384 < s.size
  · go_enter Try.func5, Try.ntmps5
    go_wp2_with fail
    refine (works04_calls _).mono ?_
    rintro e w1 ⟨rfl, hb1⟩
    go_wp2_with fail
    go_ret
    exact ⟨rfl, hb1⟩
  · obtain ⟨i, hi, hile⟩ : ∃ i : Nat, a % ((s.size : Int) + 1) = (i : Int) ∧ i ≤ s.size := by
      have h1 := Int.emod_nonneg a (show ((s.size : Int) + 1) ≠ 0 by omega)
      have h2 := Int.emod_lt_of_pos a (show 0 < ((s.size : Int) + 1) by omega)
      exact ⟨(a % ((s.size : Int) + 1)).toNat, by omega, by omega⟩
    obtain ⟨k, hk, hkle⟩ : ∃ i : Nat, b % ((s.size : Int) + 1) = (i : Int) ∧ i ≤ s.size := by
      have h1 := Int.emod_nonneg b (show ((s.size : Int) + 1) ≠ 0 by omega)
      have h2 := Int.emod_lt_of_pos b (show 0 < ((s.size : Int) + 1) by omega)
      exact ⟨(b % ((s.size : Int) + 1)).toNat, by omega, by omega⟩
    have z1 : (0 : Int) ≤ (i : Int) := by omega
    have z2 : (0 : Int) ≤ (k : Int) := by omega
    have z3 : (i : Int) ≤ (s.size : Int) := by omega
    have z4 : (k : Int) ≤ (s.size : Int) := by omega
    have z5 : (k : Int) < (i : Int) ∨ (i : Int) < (k : Int) ∨ i = k := by omega
    have z6 : (s.size : Int) ≤ 16384 := by omega
    rcases z5 with hik | hik | hik
    · have z7 : (k : Int) ≤ (i : Int) := by omega
      obtain ⟨X, Y, Z, XY, YZ, V, o1, o2, o3, o4, m1, m2, j1, j2, j3, j4⟩ := pieces s k i (by omega) hile (by omega)
      have O1 := Lib.hid o1; have O2 := Lib.hid o2; have O3 := Lib.hid o3; have O4 := Lib.hid o4; have M1 := Lib.hid m1; have M2 := Lib.hid m2
      have J1 := Lib.hid j1; have J2 := Lib.hid j2; have J3 := Lib.hid j3; have J4 := Lib.hid j4
      clear o1 o2 o3 o4 m1 m2 j1 j2 j3 j4
      go_enter Try.func5, Try.ntmps5
      go_wp2_with fail
      go_quiet (fail)
      go_wp2_with fail
      refine Lx.wp_region_ext (by kernel_rfl) (by kernel_rfl) ?_
      repeat (go_big_quiet_step (first
        | (go_at_call 11; with_reducible exact Lx.ext_of (O1.out _))
        | (go_at_call 11; with_reducible exact Lx.ext_of (O2.out _))
        | (go_at_call 11; with_reducible exact Lx.ext_of (O3.out _))))
      refine wpQuiet_nil ?_
      rintro _ ⟨x1, rfl⟩
      go_wp2_with (go_at_call 11; refine (O4.out _).mono ?_; rintro e w2 ⟨rfl, hb2⟩)
      have v1 : IntKind.i64.wrap ((i : Int) - (k : Int)) = (i : Int) - (k : Int) := IntWalk.i64_in _ (by omega)
      have v2 : IntKind.i64.wrap ((s.size : Int) - (i : Int)) = (s.size : Int) - (i : Int) := IntWalk.i64_in _ (by omega)
      have v3 : IntKind.i64.wrap ((s.size : Int) - (k : Int)) = (s.size : Int) - (k : Int) := IntWalk.i64_in _ (by omega)
      refine Lx.wp_region_ext (by kernel_rfl) (by kernel_rfl) ?_
      repeat (go_big_quiet_step (first
        | (go_at_call 13; with_reducible exact Lx.ext_of (M1.out _))
        | (go_at_call 13; with_reducible exact Lx.ext_of (M2.out _))
        | (go_at_call 15; with_reducible exact Lx.ext_same (J1.out _))
        | (go_at_call 15; with_reducible exact Lx.ext_same (J2.out _))
        | (go_at_call 15; with_reducible exact Lx.ext_same (J3.out _))
        | (go_at_call 15; with_reducible exact Lx.ext_same (J4.out _))
        | (go_at_call 10; with_reducible exact Lx.ext_of (works04_calls _))))
      refine wpQuiet_nil ?_
      rintro _ ⟨x2, rfl⟩
      clear v1 v2 v3
      go_wp2_with fail
      go_ret
      exact ⟨rfl, Lx.bstep (Lx.bstep (Lx.Ext.drawn nq x1) (Nat.le_refl _) hb2) (Nat.le_refl _) x2.below⟩
    · have z7 : (i : Int) ≤ (k : Int) := by omega
      obtain ⟨X, Y, Z, XY, YZ, V, o1, o2, o3, o4, m1, m2, j1, j2, j3, j4⟩ := pieces s i k (by omega) hkle (by omega)
      have O1 := Lib.hid o1; have O2 := Lib.hid o2; have O3 := Lib.hid o3; have O4 := Lib.hid o4; have M1 := Lib.hid m1; have M2 := Lib.hid m2
      have J1 := Lib.hid j1; have J2 := Lib.hid j2; have J3 := Lib.hid j3; have J4 := Lib.hid j4
      clear o1 o2 o3 o4 m1 m2 j1 j2 j3 j4
      go_enter Try.func5, Try.ntmps5
      go_wp2_with fail
      go_quiet (fail)
      go_wp2_with fail
      refine Lx.wp_region_ext (by kernel_rfl) (by kernel_rfl) ?_
      repeat (go_big_quiet_step (first
        | (go_at_call 11; with_reducible exact Lx.ext_of (O1.out _))
        | (go_at_call 11; with_reducible exact Lx.ext_of (O2.out _))
        | (go_at_call 11; with_reducible exact Lx.ext_of (O3.out _))))
      refine wpQuiet_nil ?_
      rintro _ ⟨x1, rfl⟩
      go_wp2_with (go_at_call 11; refine (O4.out _).mono ?_; rintro e w2 ⟨rfl, hb2⟩)
      have v1 : IntKind.i64.wrap ((k : Int) - (i : Int)) = (k : Int) - (i : Int) := IntWalk.i64_in _ (by omega)
      have v2 : IntKind.i64.wrap ((s.size : Int) - (i : Int)) = (s.size : Int) - (i : Int) := IntWalk.i64_in _ (by omega)
      have v3 : IntKind.i64.wrap ((s.size : Int) - (k : Int)) = (s.size : Int) - (k : Int) := IntWalk.i64_in _ (by omega)
      refine Lx.wp_region_ext (by kernel_rfl) (by kernel_rfl) ?_
      repeat (go_big_quiet_step (first
        | (go_at_call 13; with_reducible exact Lx.ext_of (M1.out _))
        | (go_at_call 13; with_reducible exact Lx.ext_of (M2.out _))
        | (go_at_call 15; with_reducible exact Lx.ext_same (J1.out _))
        | (go_at_call 15; with_reducible exact Lx.ext_same (J2.out _))
        | (go_at_call 15; with_reducible exact Lx.ext_same (J3.out _))
        | (go_at_call 15; with_reducible exact Lx.ext_same (J4.out _))
        | (go_at_call 10; with_reducible exact Lx.ext_of (works04_calls _))))
      refine wpQuiet_nil ?_
      rintro _ ⟨x2, rfl⟩
      clear v1 v2 v3
      go_wp2_with fail
      go_ret
      exact ⟨rfl, Lx.bstep (Lx.bstep (Lx.Ext.drawn nq x1) (Nat.le_refl _) hb2) (Nat.le_refl _) x2.below⟩
    · subst hik
      obtain ⟨X, Y, Z, XY, YZ, V, o1, o2, o3, o4, m1, m2, j1, j2, j3, j4⟩ := pieces s i i (by omega) hile (by omega)
      have hE : s.extract i i = ByteArray.empty := by simp
      rw [hE] at o2 m1
      rw [Int.sub_self] at j1
      clear hE
      have O1 := Lib.hid o1; have O2 := Lib.hid o2; have O3 := Lib.hid o3; have O4 := Lib.hid o4; have M1 := Lib.hid m1; have M2 := Lib.hid m2
      have J1 := Lib.hid j1; have J2 := Lib.hid j2; have J3 := Lib.hid j3; have J4 := Lib.hid j4
      clear o1 o2 o3 o4 m1 m2 j1 j2 j3 j4
      go_enter Try.func5, Try.ntmps5
      go_wp2_with fail
      go_quiet (fail)
      go_wp2_with fail
      refine Lx.wp_region_ext (by kernel_rfl) (by kernel_rfl) ?_
      repeat (go_big_quiet_step (first
        | (go_at_call 11; with_reducible exact Lx.ext_of (O1.out _))
        | (go_at_call 11; with_reducible exact Lx.ext_of (O2.out _))
        | (go_at_call 11; with_reducible exact Lx.ext_of (O3.out _))))
      refine wpQuiet_nil ?_
      rintro _ ⟨x1, rfl⟩
      go_wp2_with (go_at_call 11; refine (O4.out _).mono ?_; rintro e w2 ⟨rfl, hb2⟩)
      have v2 : IntKind.i64.wrap ((s.size : Int) - (i : Int)) = (s.size : Int) - (i : Int) := IntWalk.i64_in _ (by omega)
      have v3 : IntKind.i64.wrap ((s.size : Int) - (i : Int)) = (s.size : Int) - (i : Int) := IntWalk.i64_in _ (by omega)
      refine Lx.wp_region_ext (by kernel_rfl) (by kernel_rfl) ?_
      repeat (go_big_quiet_step (first
        | (go_at_call 13; with_reducible exact Lx.ext_of (M1.out _))
        | (go_at_call 13; with_reducible exact Lx.ext_of (M2.out _))
        | (go_at_call 15; with_reducible exact Lx.ext_same (J1.out _))
        | (go_at_call 15; with_reducible exact Lx.ext_same (J2.out _))
        | (go_at_call 15; with_reducible exact Lx.ext_same (J3.out _))
        | (go_at_call 15; with_reducible exact Lx.ext_same (J4.out _))
        | (go_at_call 10; with_reducible exact Lx.ext_of (works04_calls _))))
      refine wpQuiet_nil ?_
      rintro _ ⟨x2, rfl⟩
      clear v2 v3
      go_wp2_with fail
      go_ret
      exact ⟨rfl, Lx.bstep (Lx.bstep (Lx.Ext.drawn nq x1) (Nat.le_refl _) hb2) (Nat.le_refl _) x2.below⟩
end Go.Proofs.Ytfcicfkgbepagaa
