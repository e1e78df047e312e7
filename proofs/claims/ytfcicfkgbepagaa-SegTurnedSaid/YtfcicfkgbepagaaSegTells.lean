/-
  The walk of SegTells.
-/
import Derived.Test.YtfcicfkgbepagaaSegWorks
namespace Go.Proofs.Ytfcicfkgbepagaa
open Go.RowKit

theorem scan_post {w : World} {r : List (List UInt8) × Nat × Nat} {e : Ending} {w' : World} (h : ScanPost w r e w') : ∃ v, e = .returned (.tuple #[v, .int .i64 (r.2.1 : Int), .int .i64 (r.2.2 : Int)]) ∧ Reads w' v r.1 ∧ Below w.heap.size w w' := by
  obtain ⟨v, h1, h2, h3⟩ := h
  exact ⟨v, h1, h2.reads, h3⟩

set_option maxRecDepth 100000 in
set_option maxHeartbeats 2000000 in
theorem Tells_short (s t : ByteArray) (w : World) (hs : (s.size : Int) ≤ 32768) (ht : (t.size : Int) ≤ 16384) :
    Calls Try.prog 6 #[.string t, .string s] w fun e w' => e = .returned (.bool true) ∧ Below w.heap.size w w' := by
  have F1 := Lib.hid (fun W => Frame_calls t W (by omega))
  have F2 := Lib.hid (fun W => rFrame_calls t W (by omega))
  have R1 := Lib.hid (fun W => Read_calls s W (by unfold maxLen; omega))
  have R2 := Lib.hid (fun W => rRead_calls s W (by unfold maxLen; omega))
  have S1 := Lib.hid (fun W => (Scan_calls s W (by omega)).mono fun _ _ => scan_post)
  have S2 := Lib.hid (fun W => (rScan_calls s W (by omega)).mono fun _ _ => scan_post)
  generalize str (rd s.data.toList).1 = T at *
  generalize (rd s.data.toList).2.1 = n at *
  generalize (rd s.data.toList).2.2 = g at *
  generalize scanAll s.data.toList = R at *
  generalize str (frame t.data.toList) = F at *
  have hT : (!F.toList == F.toList) = false := by simp
  go_enter Try.func6, Try.ntmps6
  go_wp2_with fail
  refine (F1.out _).mono ?_
  rintro e w1 ⟨rfl, hb1⟩
  go_wp2_with fail
  refine (F2.out _).mono ?_
  rintro e w2 ⟨rfl, hb2⟩
  go_wp2_with fail
  refine (R1.out _).mono ?_
  rintro e w3 ⟨rfl, hb3⟩
  go_wp2_with fail
  refine (R2.out _).mono ?_
  rintro e w4 ⟨rfl, hb4⟩
  go_wp2_with fail
  refine (S1.out _).mono ?_
  rintro e w5 ⟨v, rfl, hv, hb5⟩
  go_wp2_with fail
  refine (S2.out _).mono ?_
  rintro e w6 ⟨u, rfl, hu, hb6⟩
  replace hv := hv.below hb6
  go_wp2_with fail
  refine (Same_calls v u R.1 R.1 _ hv hu).mono ?_
  rintro e w7 ⟨rfl, hb7⟩
  rw [decide_eq_true (Eq.refl R.1)]
  go_wp2_with fail
  refine (works07_calls _).mono ?_
  rintro e w8 ⟨rfl, hb8⟩
  go_wp2_with fail
  go_ret
  exact ⟨rfl, Lx.bstep (Lx.bstep (Lx.bstep (Lx.bstep (Lx.bstep (Lx.bstep (Lx.bstep hb1 (Nat.le_refl _) hb2) (Nat.le_refl _) hb3) (Nat.le_refl _) hb4) (Nat.le_refl _) hb5) (Nat.le_refl _) hb6) (Nat.le_refl _) hb7) (Nat.le_refl _) hb8⟩

set_option maxRecDepth 100000 in
set_option maxHeartbeats 2000000 in
theorem Tells_long (s t : ByteArray) (w : World) (hs : (s.size : Int) ≤ 32768) (ht : (t.size : Int) ≤ 32768) (hl : (16384 : Int) < t.size) :
    Calls Try.prog 6 #[.string t, .string s] w fun e w' => e = .returned (.bool true) ∧ Below w.heap.size w w' := by
  have F1 := Lib.hid (fun W => Frame_long t W (by omega))
  have hE : (str []).toList = [] := str_list _
  have R1 := Lib.hid (fun W => Read_calls s W (by unfold maxLen; omega))
  have R2 := Lib.hid (fun W => rRead_calls s W (by unfold maxLen; omega))
  have S1 := Lib.hid (fun W => (Scan_calls s W (by omega)).mono fun _ _ => scan_post)
  have S2 := Lib.hid (fun W => (rScan_calls s W (by omega)).mono fun _ _ => scan_post)
  generalize str (rd s.data.toList).1 = T at *
  generalize (rd s.data.toList).2.1 = n at *
  generalize (rd s.data.toList).2.2 = g at *
  generalize scanAll s.data.toList = R at *
  go_enter Try.func6, Try.ntmps6
  go_wp2_with fail
  refine (F1.out _).mono ?_
  rintro e w2 ⟨rfl, hb2⟩
  go_wp2_with fail
  refine (R1.out _).mono ?_
  rintro e w3 ⟨rfl, hb3⟩
  go_wp2_with fail
  refine (R2.out _).mono ?_
  rintro e w4 ⟨rfl, hb4⟩
  go_wp2_with fail
  refine (S1.out _).mono ?_
  rintro e w5 ⟨v, rfl, hv, hb5⟩
  go_wp2_with fail
  refine (S2.out _).mono ?_
  rintro e w6 ⟨u, rfl, hu, hb6⟩
  replace hv := hv.below hb6
  go_wp2_with fail
  refine (Same_calls v u R.1 R.1 _ hv hu).mono ?_
  rintro e w7 ⟨rfl, hb7⟩
  rw [decide_eq_true (Eq.refl R.1)]
  go_wp2_with fail
  refine (works07_calls _).mono ?_
  rintro e w8 ⟨rfl, hb8⟩
  go_wp2_with fail
  go_ret
  exact ⟨rfl, Lx.bstep (Lx.bstep (Lx.bstep (Lx.bstep (Lx.bstep (Lx.bstep hb2 (Nat.le_refl _) hb3) (Nat.le_refl _) hb4) (Nat.le_refl _) hb5) (Nat.le_refl _) hb6) (Nat.le_refl _) hb7) (Nat.le_refl _) hb8⟩

set_option maxRecDepth 100000 in
set_option maxHeartbeats 2000000 in
theorem Tells_far (s t : ByteArray) (w : World) (h : (32768 : Int) < t.size ∨ (32768 : Int) < s.size) :
    Calls Try.prog 6 #[.string t, .string s] w fun e w' => e = .returned (.bool true) ∧ Below w.heap.size w w' := by
  by_cases hx : (32768 : Int) < t.size
  all_goals
    go_enter Try.func6, Try.ntmps6
    go_wp2_with fail
    refine (works07_calls _).mono ?_
    rintro e w8 ⟨rfl, hb8⟩
    go_wp2_with fail
    go_ret
    exact ⟨rfl, hb8⟩
theorem SegTells_walk (t s : ByteArray) (w : World) (ht : t.size ≤ maxLen) (hs : s.size ≤ maxLen) :
    Calls Try.prog 6 #[.string t, .string s] w fun e w' => e = .returned (.bool true) ∧ Below w.heap.size w w' := by
  by_cases h : 32768 < t.size ∨ 32768 < s.size
  · exact Tells_far s t w (by omega)
  · by_cases hl : 16384 < t.size
    · exact Tells_long s t w (by omega) (by omega) (by omega)
    · exact Tells_short s t w (by omega) (by omega)
end Go.Proofs.Ytfcicfkgbepagaa
