/-
  works; DiskNone.
-/
import Derived.Test.YtenjllkhbpoffaaDoorDskRun
namespace Go.Proofs.YtenjllkhbpoffaaDoor
open Go Go.Maps Go.WideMaps Go.Dsk Go.Lx Go.Lst Go.RowKit

set_option maxRecDepth 100000 in
set_option maxHeartbeats 4000000 in
theorem works_calls (w : World) : Calls Tryd.prog 9 #[] w fun e w' => e = .returned (.bool true) ∧ Below w.heap.size w w' := by
  have h0 := Lib.hid (New_run w 100 (by decide))
  go_enter Tryd.func9, Tryd.ntmps9
  go_wp2_with fail
  refine h0.out.mono ?_
  rintro e A1 ⟨b, rfl, h1⟩
  have c1 := Append_run h1 bA ⟨#[120, 121]⟩ (by decide) (by decide) (by decide)
  rw [w1.1, w1.2] at c1
  replace c1 := Lib.hid c1
  clear h0 h1
  go_wp2_with fail
  refine c1.out.mono ?_
  rintro e A2 ⟨rfl, h2⟩
  have c2 := Sync_run h2
  rw [w2.1, w2.2] at c2
  replace c2 := Lib.hid c2
  clear c1 h2
  go_wp2_with fail
  refine c2.out.mono ?_
  rintro e A3 ⟨rfl, h3⟩
  have c3 := Append_run h3 bA ⟨#[122]⟩ (by decide) (by decide) (by decide)
  rw [w3.1, w3.2] at c3
  replace c3 := Lib.hid c3
  clear c2 h3
  go_wp2_with fail
  refine c3.out.mono ?_
  rintro e A4 ⟨rfl, h4⟩
  have c4 := Append_run h4 bB ⟨#[119]⟩ (by decide) (by decide) (by decide)
  rw [w4.1, w4.2] at c4
  replace c4 := Lib.hid c4
  clear c3 h4
  go_wp2_with fail
  refine c4.out.mono ?_
  rintro e A5 ⟨rfl, h5⟩
  have c5 := Crash_run h5 1 0 (by decide)
  rw [w5] at c5
  replace c5 := Lib.hid c5
  clear c4 h5
  go_wp2_with fail
  refine c5.out.mono ?_
  rintro e A6 ⟨rfl, h6⟩
  have c6 := Read_run h6 bA (by decide)
  have c7 := Read_run h6 bB (by decide)
  have c8 := Cut_run h6 bA 1 (by decide) (by decide)
  rw [w6.1, w6.2.1] at c6
  rw [w6.2.2.1, w6.2.2.2] at c7
  rw [w7.1, w7.2] at c8
  replace c6 := Lib.hid c6
  replace c7 := Lib.hid c7
  replace c8 := Lib.hid c8
  clear c5 h6
  go_wp2_with fail
  refine c6.out.mono ?_
  rintro e A7 ⟨rfl, rfl⟩
  go_wp2_with fail
  refine c7.out.mono ?_
  rintro e A8 ⟨rfl, rfl⟩
  go_wp2_with fail
  refine c8.out.mono ?_
  rintro e A7 ⟨rfl, h7⟩
  have c9 := Crash_run h7 0 0 (by decide)
  rw [w8] at c9
  replace c9 := Lib.hid c9
  clear c6 c7 c8 h7
  go_wp2_with fail
  refine c9.out.mono ?_
  rintro e A8 ⟨rfl, h8⟩
  have d1 := Read_run h8 bA (by decide)
  rw [w6.1, w6.2.1] at d1
  have d2 := Left_run h8
  rw [w9.1] at d2
  replace d1 := Lib.hid d1
  replace d2 := Lib.hid d2
  clear c9 h8
  go_wp2_with fail
  refine d1.out.mono ?_
  rintro e A9 ⟨rfl, rfl⟩
  go_wp2_with fail
  refine d2.out.mono ?_
  rintro e A9 ⟨rfl, h9⟩
  have d3 := Names_len h9
  rw [w9.2] at d3
  replace d3 := Lib.hid d3
  clear d1 d2 h9
  go_wp2_with fail
  refine d3.out.mono ?_
  rintro e B1 ⟨p, c, rfl, h10⟩
  replace h10 := Lib.hid h10
  go_wp2_with fail
  go_ret
  exact ⟨rfl, h10.out.2⟩
set_option maxRecDepth 100000 in
set_option maxHeartbeats 4000000 in
theorem DiskNone_walk (a s : ByteArray) (n : Int) (w : World) (ha : a.size ≤ 140737488351232) (hs : s.size ≤ 140737488351232) (hn : (Lit.int .i64 n).wf = true) :
    Calls Tryd.prog 7 #[.string a, .string s, .int .i64 n] w fun e w' => e = .returned (.bool true) ∧ Below w.heap.size w w' := by
  have hW := Lib.hid works_calls
  by_cases hb : 1024 < (a.size : Int) + s.size
  · have hbb : decide (1024 < (a.size : Int) + s.size) = true := decide_eq_true hb
    clear hb
    go_enter Tryd.func7, Tryd.ntmps7
    go_wp2_with fail
    refine (hW.out _).mono ?_
    rintro e w1 ⟨rfl, h1⟩
    go_wp2_with fail
    go_ret
    exact ⟨rfl, h1⟩
  have hbb : decide (1024 < (a.size : Int) + s.size) = false := decide_eq_false hb
  clear hb hn
  go_enter Tryd.func7, Tryd.ntmps7
  go_wp2_with fail
  refine (Read_nil _ _).mono ?_
  rintro e w1 ⟨rfl, rfl⟩
  go_wp2_with fail
  refine (Append_nil _ _ _).mono ?_
  rintro e w1 ⟨rfl, h1⟩
  go_wp2_with fail
  refine (Cut_nil _ _ _).mono ?_
  rintro e w2 ⟨rfl, h2⟩
  go_wp2_with fail
  refine (Rename_nil _ _ _).mono ?_
  rintro e w3 ⟨rfl, h3⟩
  go_wp2_with fail
  refine (Remove_nil _ _).mono ?_
  rintro e w4 ⟨rfl, h4⟩
  go_wp2_with fail
  refine (Sync_nil _).mono ?_
  rintro e w5 ⟨rfl, rfl⟩
  go_wp2_with fail
  refine (Fuse_nil _ _).mono ?_
  rintro e w5 ⟨rfl, rfl⟩
  go_wp2_with fail
  refine (Crash_nil _ _ _).mono ?_
  rintro e w5 ⟨rfl, rfl⟩
  go_wp2_with fail
  refine (Alter_nil _ _ _ _).mono ?_
  rintro e w5 ⟨rfl, rfl⟩
  go_wp2_with fail
  refine (Names_nil _).mono ?_
  rintro e w5 ⟨rfl, rfl⟩
  go_wp2_with fail
  refine (Left_nil _).mono ?_
  rintro e w5 ⟨rfl, rfl⟩
  go_wp2_with fail
  refine (Loose_nil _).mono ?_
  rintro e w5 ⟨rfl, rfl⟩
  go_wp2_with fail
  refine (hW.out _).mono ?_
  rintro e w6 ⟨rfl, h6⟩
  go_wp2_with fail
  go_ret
  exact ⟨rfl, Lx.bstep (Lx.bstep (Lx.bstep (Lx.bstep h1 (Nat.le_refl _) h2) (Nat.le_refl _) h3) (Nat.le_refl _) h4) (Nat.le_refl _) h6⟩
end Go.Proofs.YtenjllkhbpoffaaDoor
