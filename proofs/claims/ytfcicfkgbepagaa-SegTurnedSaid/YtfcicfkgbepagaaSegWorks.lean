/-
  The known case of layer 7, and the walk of SegTells.
-/
import Derived.Test.YtfcicfkgbepagaaSegSame
namespace Go.Proofs.Ytfcicfkgbepagaa
open Go.RowKit

theorem works_facts : ∃ A B C : ByteArray, A.size = 13 ∧ B.size = 14 ∧ A ++ B ++ A.extract 0 5 = C ∧ (A.extract 8 13).toList = [97, 67, 190, 183, 232] ∧
    (∀ w, Calls Try.prog 18 #[.string ⟨#[97]⟩] w fun e w' => e = .returned (.tuple #[.string A, .int .i64 0]) ∧ Below w.heap.size w w') ∧
    (∀ w, Calls Try.prog 18 #[.string ⟨#[98, 99]⟩] w fun e w' => e = .returned (.tuple #[.string B, .int .i64 0]) ∧ Below w.heap.size w w') ∧
    (∀ w, Calls Try.prog 22 #[.string C] w fun e w' => ∃ p c, e = .returned (.tuple #[.slice (some p) 2 c, .int .i64 27, .int .i64 70]) ∧ w'.cell? ⟨p.block, p.off + 1, none⟩ = some (.string ⟨#[98, 99]⟩) ∧ Below w.heap.size w w') ∧
    (∀ w, Calls Try.prog 20 #[.string B] w fun e w' => e = .returned (.tuple #[.string ⟨#[98, 99]⟩, .int .i64 14, .int .i64 0]) ∧ Below w.heap.size w w') := by
  have h1 : frame [97] = [0, 0, 0, 1, 138, 239, 67, 86, 97, 67, 190, 183, 232] := by decide +kernel
  have h2 : frame [98, 99] = [0, 0, 0, 2, 48, 190, 74, 207, 98, 99, 56, 43, 169, 194] := by decide +kernel
  have e3 : str (frame [97]) ++ str (frame [98, 99]) ++ (str (frame [97])).extract 0 5 = str (frame [97] ++ frame [98, 99] ++ (frame [97]).take 5) := by
    rw [str_append, ← str_of ((str (frame [97])).extract 0 5), piece, str_data, str_append]; rfl
  have h3 : scanAll (frame [97] ++ frame [98, 99] ++ (frame [97]).take 5) = ([[97], [98, 99]], 27, 70) := by decide +kernel
  have h4 : rd (frame [98, 99]) = ([98, 99], 14, 0) := by decide +kernel
  refine ⟨str (frame [97]), str (frame [98, 99]), _, ?_, ?_, e3, ?_, ?_, ?_, ?_, ?_⟩
  · rw [str_size, h1]; rfl
  · rw [str_size, h2]; rfl
  · rw [ByteArray.toList_eq, piece, str_data, h1]; rfl
  · exact fun w => Frame_calls ⟨#[97]⟩ w (by decide)
  · exact fun w => Frame_calls ⟨#[98, 99]⟩ w (by decide)
  · intro w
    have := Scan_calls (str (frame [97] ++ frame [98, 99] ++ (frame [97]).take 5)) w (by rw [str_size, h1, h2]; decide)
    rw [str_data, h3] at this
    refine this.mono ?_
    rintro e w' ⟨v, rfl, ht, hb⟩
    obtain ⟨p, c, rfl, _, _, h⟩ := ht.reads
    obtain ⟨a, rfl, hc⟩ := h 1 (by simp)
    exact ⟨a, c, rfl, hc, hb⟩
  · intro w
    have := Read_calls (str (frame [98, 99])) w (by rw [str_size, h2]; decide)
    rw [str_data, h4] at this
    exact this

set_option maxRecDepth 100000 in
set_option maxHeartbeats 1000000 in
theorem works07_calls (w : World) : Calls Try.prog 17 #[] w fun e w' => e = .returned (.bool true) ∧ Below w.heap.size w w' := by
  obtain ⟨A, B, C, hA, hB, hC, hA8, f1, f2, f3, f4⟩ := works_facts
  have F1 := Lib.hid f1; have F2 := Lib.hid f2; have F3 := Lib.hid f3; have F4 := Lib.hid f4
  clear f1 f2 f3 f4
  go_enter Try.func17, Try.ntmps17
  go_wp2_with fail
  refine (F1.out _).mono ?_
  rintro e w1 ⟨rfl, hb1⟩
  clear F1
  go_wp2_with fail
  refine (F2.out _).mono ?_
  rintro e w2 ⟨rfl, hb2⟩
  clear F2
  go_wp2_with fail
  refine (F3.out _).mono ?_
  rintro e w3 ⟨p, c, rfl, hcell, hb3⟩
  clear F3
  go_wp2_with fail
  refine (F4.out _).mono ?_
  rintro e w4 ⟨rfl, hb4⟩
  clear F4
  replace hcell := (cell_below hb4 hcell).trans hcell
  go_wp2_with fail
  go_ret
  exact ⟨rfl, Lx.bstep (Lx.bstep (Lx.bstep hb1 (Nat.le_refl _) hb2) (Nat.le_refl _) hb3) (Nat.le_refl _) hb4⟩
end Go.Proofs.Ytfcicfkgbepagaa
