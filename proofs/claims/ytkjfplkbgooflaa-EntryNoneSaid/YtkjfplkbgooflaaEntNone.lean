/-
  EntryNone: what no log answers.
-/
import Derived.Test.YtkjfplkbgooflaaWorks26
namespace Go.Proofs.Ytkjfplkbgooflaa
open Go Go.RowKit Go.Lst Go.Lx

theorem Append_nil' (i t : Int) (w : World) : Calls Try.prog 9 #[.pointer none, .agg #[.int .u64 i, .int .u64 t, .int .u8 1, .string ⟨#[]⟩, .slice none 0 0]] w fun y w' => y = .returned (.int .i64 1) ∧ Below w.heap.size w w' := Append_nil (nE i t) (.slice none 0 0) ⟨_, _, _, rfl⟩ w
set_option maxRecDepth 100000 in
set_option maxHeartbeats 2000000 in
theorem EntryNone_walk (n most : Int) (w : World) (wa : (Lit.int .u64 n).wf = true) (wb : (Lit.int .i64 most).wf = true) :
    Calls Try.prog 7 #[.int .u64 n, .int .i64 most] w fun e w' => e = .returned (.bool true) ∧ Below w.heap.size w w' := by
  clear wa wb
  have hB := Lib.hid (Below.refl w.heap.size w)
  go_enter Try.func7, Try.ntmps7
  go_wp2_with fail
  refine (Base_nil _).mono ?_
  rintro y w1 ⟨rfl, rfl⟩
  go_wp2_with fail
  refine (Last_nil _).mono ?_
  rintro y w1 ⟨rfl, rfl⟩
  go_wp2_with fail
  refine (Term_nil n _).mono ?_
  rintro y w1 ⟨rfl, rfl⟩
  go_wp2_with fail
  refine (Store_nil n n _ _).mono ?_
  rintro y w1 ⟨rfl, rfl⟩
  go_wp2_with fail
  refine (Slice_nil n most _).mono ?_
  rintro y w1 ⟨rfl, rfl⟩
  go_wp2_with fail
  refine (Conf_nil _).mono ?_
  rintro y w1 ⟨rfl, rfl⟩
  go_wp2_with fail
  refine (ConfAt_nil n _).mono ?_
  rintro y w1 ⟨rfl, rfl⟩
  go_wp2_with fail
  refine (noop_calls' 1 1 _).mono ?_
  rintro y w1 ⟨rfl, hb⟩
  replace hB := Lib.hid (Lx.bstep hB.out (Nat.le_refl _) hb)
  clear hb
  go_wp2_with fail
  refine (Append_nil' 1 1 _).mono ?_
  rintro y w2 ⟨rfl, hb⟩
  replace hB := Lib.hid (Lx.bstep hB.out (Nat.le_refl _) hb)
  clear hb
  go_wp2_with fail
  refine (Fits_nil n n _).mono ?_
  rintro y w3 ⟨rfl, rfl⟩
  go_wp2_with fail
  refine (Hint_nil n _).mono ?_
  rintro y w3 ⟨rfl, hb⟩
  replace hB := Lib.hid (Lx.bstep hB.out (Nat.le_refl _) hb)
  clear hb
  go_wp2_with fail
  refine (Compact_nil n _).mono ?_
  rintro y w4 ⟨rfl, rfl⟩
  go_wp2_with fail
  refine (works26_calls _).mono ?_
  rintro y w4 ⟨rfl, hb⟩
  replace hB := Lib.hid (Lx.bstep hB.out (Nat.le_refl _) hb)
  clear hb
  go_wp2_with fail
  go_ret
  exact ⟨rfl, hB.out⟩
end Go.Proofs.Ytkjfplkbgooflaa
