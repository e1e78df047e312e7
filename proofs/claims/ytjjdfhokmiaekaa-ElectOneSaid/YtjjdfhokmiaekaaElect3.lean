/-
  The contracts of elect's Won, Lost, Newer, mayVote, Grant, Stand, Wait.
-/
import Derived.Test.YtjjdfhokmiaekaaElect2
namespace Go.Proofs.Ytjjdfhokmiaekaa
open Go.RowKit Go.Lst
attribute [local go_sem] run_eql_slice_nil

def won (said : List Nat) (conf : List Int) : Bool := quorum (so (fun x => x == 1) said conf) conf
def lost (said : List Nat) (conf : List Int) : Bool := !quorum (so (fun x => x != 2) said conf) conf

set_option maxRecDepth 100000 in
theorem Won_calls (b : Nat) (T : Int) (conf : List Int) (said : List Nat) (w : World) (h : Tal w b T conf said) (hm : may conf = true) :
    Calls Try.prog 36 #[.pointer (some ⟨b, 0, none⟩)] w fun e w' => e = .returned (.bool (won said conf)) ∧ Below w.heap.size w w' := by
  have C1 := Lib.hid (quorumWon_calls b T conf said w h hm)
  change Hid (Calls _ _ _ _ fun e w' => e = .returned (.bool (won said conf)) ∧ _) at C1
  generalize won said conf = r at *
  clear h hm
  go_enter Try.func36, Try.ntmps36
  go_wp2_with fail
  refine C1.out.mono ?_
  rintro e w1 ⟨rfl, hb1⟩
  go_wp2_with fail
  go_ret
  exact ⟨rfl, hb1⟩
set_option maxRecDepth 100000 in
theorem Lost_calls (b : Nat) (T : Int) (conf : List Int) (said : List Nat) (w : World) (h : Tal w b T conf said) (hm : may conf = true) :
    Calls Try.prog 38 #[.pointer (some ⟨b, 0, none⟩)] w fun e w' => e = .returned (.bool (lost said conf)) ∧ Below w.heap.size w w' := by
  have C1 := Lib.hid (quorumLost_calls b T conf said w h hm)
  obtain ⟨p, c, h1, h2, h3⟩ := h.c1
  unfold lost
  generalize quorum (so (fun x => x != 2) said conf) conf = r at *
  clear h hm h3
  go_enter Try.func38, Try.ntmps38
  go_wp2_with fail
  refine C1.out.mono ?_
  rintro e w1 ⟨rfl, hb1⟩
  go_wp2_with fail
  go_ret
  exact ⟨rfl, hb1⟩

theorem isNaN_calls (x : Int) (w : World) : Calls Try.prog 74 #[.int .u64 x] w fun e w' => e = .returned (.bool false) ∧ w = w' := by
  go_enter Try.func74, Try.ntmps74
  go_wp2_with fail
  go_ret
  exact ⟨by simp, rfl⟩
def cmp (x y : Int) : Int := if x < y then -1 else if y < x then 1 else 0
set_option maxRecDepth 100000 in
theorem Compare_calls (x y : Int) (w : World) : Calls Try.prog 64 #[.int .u64 x, .int .u64 y] w fun e w' => e = .returned (.int .i64 (cmp x y)) ∧ w = w' := by
  unfold cmp
  by_cases h1 : x < y
  · rw [if_pos h1]
    go_enter Try.func64, Try.ntmps64
    go_wp2_with (go_at_call 74; refine (isNaN_calls _ _).mono ?_; rintro e w1 ⟨rfl, rfl⟩)
    go_ret
    exact ⟨rfl, rfl⟩
  · rw [if_neg h1]
    by_cases h2 : y < x
    · rw [if_pos h2]
      go_enter Try.func64, Try.ntmps64
      go_wp2_with (go_at_call 74; refine (isNaN_calls _ _).mono ?_; rintro e w1 ⟨rfl, rfl⟩)
      go_ret
      exact ⟨rfl, rfl⟩
    · rw [if_neg h2]
      go_enter Try.func64, Try.ntmps64
      go_wp2_with (go_at_call 74; refine (isNaN_calls _ _).mono ?_; rintro e w1 ⟨rfl, rfl⟩)
      go_ret
      exact ⟨rfl, rfl⟩
theorem cell_two (w : World) (T : TypeId) (x y : Value) : (w.alloc (.cells #[x, y] T)).cell? ⟨w.heap.size, 0, none⟩ = some x ∧ (w.alloc (.cells #[x, y] T)).cell? ⟨w.heap.size, 1, none⟩ = some y := by
  have hh : (w.alloc (.cells #[x, y] T)).heap[w.heap.size]? = some (.cells #[x, y] T) := by show (w.heap.push _)[w.heap.size]? = _; simp
  simp only [World.cell?, hh]
  exact ⟨rfl, rfl⟩
def newer (t i t' i' : Int) : Bool := decide (t' < t ∨ (t = t' ∧ i' ≤ i))
set_option maxRecDepth 100000 in
theorem Or_calls (w : World) (p : Addr) (x y : Int) (hx : w.cell? p = some (.int .i64 x)) (hy : w.cell? (p.add 1) = some (.int .i64 y)) :
    Calls Try.prog 63 #[.slice (some p) 2 2] w fun e w' => e = .returned (.int .i64 (if x = 0 then y else x)) ∧ Below w.heap.size w w' := by
  have hy' : w.cell? ⟨p.block, p.off + 1, none⟩ = some (.int .i64 y) := hy
  go_enter Try.func63, Try.ntmps63
  by_cases h0 : x = 0
  · subst h0
    by_cases h1 : y = 0
    · subst h1
      go_wp2_with fail
      refine wp_loop_rounds 3 ?_
      rw [rounds_succ]
      go_wp2_with fail
      rw [rounds_succ]
      go_wp2_with fail
      rw [rounds_succ]
      go_wp2_with fail
      go_ret
      exact ⟨rfl, Below.refl _ _⟩
    · have hb : (y != 0) = true := by simpa using h1
      go_wp2_with fail
      refine wp_loop_rounds 3 ?_
      rw [rounds_succ]
      go_wp2_with fail
      rw [rounds_succ]
      go_wp2_with fail
      go_ret
      exact ⟨by simp, Below.refl _ _⟩
  · have hb : (x != 0) = true := by simpa using h0
    go_wp2_with fail
    refine wp_loop_rounds 3 ?_
    rw [rounds_succ]
    go_wp2_with fail
    go_ret
    exact ⟨by simp [h0], Below.refl _ _⟩
set_option maxRecDepth 100000 in
theorem Newer_calls (t i t' i' : Int) (w : World) : Calls Try.prog 27 #[.int .u64 t, .int .u64 i, .int .u64 t', .int .u64 i'] w fun e w' => e = .returned (.bool (newer t i t' i')) ∧ Below w.heap.size w w' := by
  have hr : decide (0 ≤ if cmp t t' = 0 then cmp i i' else cmp t t') = newer t i t' i' := by
    unfold cmp newer
    rw [Bool.eq_iff_iff, decide_eq_true_iff, decide_eq_true_iff]
    split <;> (try split) <;> (try split) <;> (try split) <;> omega
  obtain ⟨r, hr'⟩ : ∃ r, newer t i t' i' = r := ⟨_, rfl⟩
  rw [hr'] at hr ⊢
  have C1 := Lib.hid (Compare_calls t t')
  have C2 := Lib.hid (Compare_calls i i')
  clear hr'
  generalize cmp t t' = a at *
  generalize cmp i i' = b at *
  have hr2 := Lib.hid hr
  clear hr
  have hc := cell_two w 3 (.int .i64 a) (.int .i64 b)
  have C3 := Lib.hid (Or_calls (w.alloc (.cells #[.int .i64 a, .int .i64 b] 3)) ⟨w.heap.size, 0, none⟩ a b hc.1 hc.2)
  clear hc
  go_enter Try.func27, Try.ntmps27
  go_wp2_with fail
  refine (C1.out _).mono ?_
  rintro e w1 ⟨rfl, rfl⟩
  go_wp2_with fail
  refine (C2.out _).mono ?_
  rintro e w1 ⟨rfl, rfl⟩
  go_wp2_with fail
  refine C3.out.mono ?_
  rintro e w1 ⟨rfl, hb1⟩
  generalize (if a = 0 then b else a) = z at *
  go_wp2_with fail
  go_ret
  exact ⟨by rw [← hr2.out]; rfl, Lx.bstep ((Below.refl _ _).alloc (Nat.le_refl _) _) (by simp) hb1⟩

def mayVote (T F : Int) : Bool := decide (T ≤ 281474976710656 ∧ 0 ≤ F ∧ F ≤ 64 ∧ (0 < T ∨ F = 0))
set_option maxRecDepth 100000 in
theorem mayVote_calls (T F : Int) (w : World) (hT : 0 ≤ T) : Calls Try.prog 62 #[.agg #[.int .u64 T, .int .i64 F]] w fun e w' => e = .returned (.bool (mayVote T F)) ∧ Below w.heap.size w w' := by
  obtain ⟨r, hr⟩ : ∃ r, mayVote T F = r := ⟨_, rfl⟩
  rw [hr]
  have hr' := Lib.hid hr
  clear hr
  go_enter Try.func62, Try.ntmps62
  go_wp2_with fail
  all_goals
    go_ret
    refine ⟨congrArg (fun b => Ending.returned (.bool b)) ?_, (Below.refl _ _).alloc (Nat.le_refl _) _⟩
    rw [← hr'.out]
    unfold mayVote
    first
      | (refine (decide_eq_true ?_).symm; omega)
      | (refine (decide_eq_false ?_).symm; omega)
      | (rw [Bool.eq_iff_iff]; simp; omega)
end Go.Proofs.Ytjjdfhokmiaekaa
