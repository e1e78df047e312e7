/-
  What no log answers.
-/
import Derived.Test.YtkjfplkbgooflaaCompact
import Derived.Test.YtkjfplkbgooflaaHint
namespace Go.Proofs.Ytkjfplkbgooflaa
open Go Go.RowKit Go.Lst Go.Lx

theorem noop_calls (i t : Int) (w : World) : Calls Try.prog 10 #[.int .u64 i, .int .u64 t] w fun y w' => y = .returned (entV ⟨i, t, 1, ⟨#[]⟩, []⟩ (.slice none 0 0)) ∧ Below w.heap.size w w' := by
  go_enter Try.func10, Try.ntmps10
  go_wp2_with fail
  exact bodyPost_ret (results_blk1 rfl rfl strEntry (Blk.new _ _ _)) rfl ⟨rfl, (by repeat (first | exact Below.refl _ _ | exact Lx.Ext.below _ | refine Below.drew ?_ | refine below_drewN ?_ _ | (refine Below.alloc ?_ (by first | exact Nat.le_refl _ | (simp; done) | (simp; omega)) _) | (refine Below.setCell ?_ (by first | exact Nat.le_refl _ | (simp; done) | (simp; omega)) _)))⟩
set_option maxRecDepth 100000 in
theorem Append_nil (e : Ent) (cv : Value) (hc : ∃ p n c, cv = .slice p n c) (w : World) : Calls Try.prog 9 #[.pointer none, entV e cv] w fun y w' => y = .returned (.int .i64 1) ∧ Below w.heap.size w w' := by
  obtain ⟨p, n, c, rfl⟩ := hc
  obtain ⟨ei, et, ek, es, ec⟩ := e
  unfold entV
  dsimp only
  go_enter Try.func9, Try.ntmps9
  go_wp2_with fail
  refine (Last_nil _).mono ?_
  rintro y w1 ⟨rfl, rfl⟩
  go_wp2_with fail
  refine (made_nil _).mono ?_
  rintro y w1 ⟨rfl, rfl⟩
  go_wp2_with fail
  go_ret
  exact ⟨rfl, (by repeat (first | exact Below.refl _ _ | exact Lx.Ext.below _ | refine Below.drew ?_ | refine below_drewN ?_ _ | (refine Below.alloc ?_ (by first | exact Nat.le_refl _ | (simp; done) | (simp; omega)) _) | (refine Below.setCell ?_ (by first | exact Nat.le_refl _ | (simp; done) | (simp; omega)) _)))⟩
theorem Store_nil (i t : Int) (v : Value) (w : World) : Calls Try.prog 11 #[.pointer none, .int .u64 i, .int .u64 t, v] w fun y w' => y = .returned (.tuple #[.int .u64 0, .slice none 0 0, .int .i64 1]) ∧ w = w' := by
  go_enter Try.func11, Try.ntmps11
  go_wp2_with fail
  refine (Term_nil i _).mono ?_
  rintro y w1 ⟨rfl, rfl⟩
  go_wp2_with fail
  go_ret3
  exact ⟨rfl, rfl⟩
theorem Slice_nil (x m : Int) (w : World) : Calls Try.prog 19 #[.pointer none, .int .u64 x, .int .i64 m] w fun y w' => y = .returned (.tuple #[.slice none 0 0, .int .i64 1]) ∧ w = w' := by
  go_enter Try.func19, Try.ntmps19
  go_wp2_with fail
  refine (made_nil _).mono ?_
  rintro y w1 ⟨rfl, rfl⟩
  go_wp2_with fail
  go_ret2
  exact ⟨rfl, rfl⟩
theorem Conf_nil (w : World) : Calls Try.prog 28 #[.pointer none] w fun y w' => y = .returned (.tuple #[.slice none 0 0, .int .u64 0]) ∧ w = w' := by
  go_enter Try.func28, Try.ntmps28
  go_wp2_with fail
  refine (made_nil _).mono ?_
  rintro y w1 ⟨rfl, rfl⟩
  go_wp2_with fail
  go_ret2
  exact ⟨rfl, rfl⟩
theorem ConfAt_nil (x : Int) (w : World) : Calls Try.prog 31 #[.pointer none, .int .u64 x] w fun y w' => y = .returned (.tuple #[.slice none 0 0, .int .i64 1]) ∧ w = w' := by
  go_enter Try.func31, Try.ntmps31
  go_wp2_with fail
  refine (Term_nil x _).mono ?_
  rintro y w1 ⟨rfl, rfl⟩
  go_wp2_with fail
  go_ret2
  exact ⟨rfl, rfl⟩
theorem Compact_nil (x : Int) (w : World) : Calls Try.prog 12 #[.pointer none, .int .u64 x] w fun y w' => y = .returned (.int .i64 1) ∧ w = w' := by
  go_enter Try.func12, Try.ntmps12
  go_wp2_with fail
  refine (Term_nil x _).mono ?_
  rintro y w1 ⟨rfl, rfl⟩
  go_wp2_with fail
  go_ret
  exact ⟨rfl, rfl⟩
set_option maxRecDepth 100000 in
theorem Hint_nil (x : Int) (w : World) : Calls Try.prog 33 #[.pointer none, .int .u64 x] w fun y w' => y = .returned (.int .u64 0) ∧ Below w.heap.size w w' := by
  refine (callsIn_wide (n := 7)).1 ?_
  refine callsIn_of_wp_marks Try.func33 rfl trivial ?_ rfl
  simp only [Try.ntmps33, List.size_toArray, List.length_cons, List.length_nil, Nat.reduceAdd, Nat.reduceSub, Array.replicate_succ, Array.replicate_zero, List.push_toArray, List.append_toArray, List.nil_append, List.cons_append]
  obtain ⟨B2, B3, hB, hz⟩ := made2 w #[.pointer none] #[.int .u64 x] 23 27
  have a2 := B2.cell 0 rfl
  have a3 := B3.cell 0 rfl
  clear B2 B3 hz
  gi_wp2_with fail
  generalize (w.alloc (.cells #[.pointer none] 23)).alloc (.cells #[.int .u64 x] 27) = W at *
  refine ⟨trivial, ?_⟩
  refine (callsIn_wide.2 (Last_nil _)).mono ?_
  rintro e w1 ⟨rfl, rfl⟩
  gi_wp2_with fail
  refine ⟨trivial, ?_⟩
  refine (callsIn_wide.2 (made_nil _)).mono ?_
  rintro e w2 ⟨rfl, rfl⟩
  gi_wp2_with fail
  exact ⟨_, results_tmp rfl _ _ _, rfl, hB⟩
end Go.Proofs.Ytkjfplkbgooflaa
