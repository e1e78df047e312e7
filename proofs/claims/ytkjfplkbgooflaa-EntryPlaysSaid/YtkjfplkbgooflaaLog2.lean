/-
  A log: Fits, New; what no log answers to Term, Fits.
-/
import Derived.Test.YtkjfplkbgooflaaLog
namespace Go.Proofs.Ytkjfplkbgooflaa
open Go.RowKit Go.Lst Go.Lx

def fitsB (L : LogS) (x t : Int) : Bool := ((termAt L x).2 == 0) && ((termAt L x).1 == t)
set_option maxRecDepth 100000 in
theorem Fits_calls {B B0 : Nat} {w : World} {b : Nat} {cv lv : Value} {L : LogS} (h : LogAt B B0 w b cv lv L) (ok : LogOk L) (x t : Int) (hx : 0 ≤ x) :
    Calls Try.prog 32 #[.pointer (some ⟨b, 0, none⟩), .int .u64 x, .int .u64 t] w fun y w' => y = .returned (.bool (fitsB L x t)) ∧ Below w.heap.size w w' := by
  have C1 := Lib.hid (Term_calls h ok x hx)
  unfold fitsB
  obtain ⟨⟨p, q⟩, hT⟩ : ∃ T, termAt L x = T := ⟨_, rfl⟩
  rw [hT] at C1 ⊢
  dsimp only at C1 ⊢
  clear hT h ok hx
  cases hq : (q == 0)
  all_goals
    go_enter Try.func32, Try.ntmps32
    go_wp2_with fail
    refine C1.out.mono ?_
    rintro y w1 ⟨rfl, hb⟩
    go_wp2_with fail
    go_ret
    exact ⟨rfl, hb⟩
theorem Term_nil (x : Int) (w : World) : Calls Try.prog 30 #[.pointer none, .int .u64 x] w fun y w' => y = .returned (.tuple #[.int .u64 0, .int .i64 1]) ∧ w = w' := by
  go_enter Try.func30, Try.ntmps30
  go_wp2_with fail
  refine (Last_nil _).mono ?_
  rintro y w1 ⟨rfl, rfl⟩
  go_wp2_with fail
  refine (made_nil _).mono ?_
  rintro y w1 ⟨rfl, rfl⟩
  go_wp2_with fail
  go_ret2
  exact ⟨rfl, rfl⟩
theorem Fits_nil (x t : Int) (w : World) : Calls Try.prog 32 #[.pointer none, .int .u64 x, .int .u64 t] w fun y w' => y = .returned (.bool false) ∧ w = w' := by
  go_enter Try.func32, Try.ntmps32
  go_wp2_with fail
  refine (Term_nil x _).mono ?_
  rintro y w1 ⟨rfl, rfl⟩
  go_wp2_with fail
  go_ret
  exact ⟨rfl, rfl⟩
def mayNew (i t : Int) (c : List Int) : Bool := decide (i ≤ 281474976710656 ∧ t ≤ 281474976710656 ∧ (i = 0 ↔ t = 0)) && may c
set_option maxRecDepth 100000 in
set_option maxHeartbeats 1000000 in
theorem New_good (B : Nat) (i t : Int) (v : Value) (c : List Int) (w : World) (h : Nums .i64 w v c) (hi : 0 ≤ i) (ht : 0 ≤ t) (hm : mayNew i t c = true) (hB : B ≤ w.heap.size) :
    Calls Try.prog 8 #[.int .u64 i, .int .u64 t, v] w fun y w' => ∃ b cv, y = .returned (.tuple #[.pointer (some ⟨b, 0, none⟩), .int .i64 0]) ∧ w.heap.size ≤ b ∧ LogAt B w.heap.size w' b cv (.slice none 0 0) ⟨i, t, c, []⟩ ∧ LogOk ⟨i, t, c, []⟩ ∧ Below w.heap.size w w' := by
  unfold mayNew at hm
  rw [Bool.and_eq_true, decide_eq_true_eq] at hm
  obtain ⟨⟨h1, h2, h3⟩, h4⟩ := hm
  have C1 := Lib.hid (May_calls v c w h)
  rw [h4] at C1
  have hlen : c.length ≤ 7 ∧ 0 < c.length := by unfold may at h4; simp at h4; omega
  have C2 := Lib.hid (fun W h => CloneAny_calls v c W h (by omega))
  have d1 : decide (281474976710656 < i) = false := by simp; omega
  have d2 : decide (281474976710656 < t) = false := by simp; omega
  have d3 : (i == 0) = (t == 0) := by rw [Bool.eq_iff_iff]; simp [h3]
  have hwf := Lib.hid h.2
  obtain ⟨p, cc, rfl, -⟩ := h.parts
  replace h := Lib.hid h
  have hok := Lib.hid (show LogOk ⟨i, t, c, []⟩ from ⟨⟨hi, h1⟩, ⟨ht, h2⟩, h4, fun j hj => by simp at hj⟩)
  replace hlen := Lib.hid hlen
  replace hB := Lib.hid hB
  clear h1 h2 h3 h4 hi ht
  cases hz : (t == 0)
  all_goals
    rw [hz] at d3
    go_enter Try.func8, Try.ntmps8
    go_wp2_with fail
    refine C1.out.mono ?_
    rintro y w1 ⟨rfl, hb⟩
    go_wp2_with fail
    refine (C2.out _ (h.out.below hb)).mono ?_
    rintro y w2 ⟨u, rfl, hown, hb2⟩
    obtain ⟨g, cap, rfl, hg1, hg2⟩ : ∃ g cap, u = .slice (some ⟨g, 0, none⟩) c.length cap ∧ w1.heap.size ≤ g ∧ g < w2.heap.size := by
      rcases hown.2 with ⟨_, h0⟩ | ⟨g, cap, cur, h1, h2, h3, _⟩
      · have := hlen.out; omega
      · exact ⟨g, cap, h1, h2, (Array.getElem?_eq_some_iff.1 h3).1⟩
    replace hb2 := Lib.hid (Lx.bstep hb (Nat.le_refl _) hb2)
    replace hown := Lib.hid hown
    clear hb
    go_wp2_with fail
    go_ret2
    have hbl : Below w2.heap.size w2 (w2.alloc (.cells #[.int .u64 i, .int .u64 t, .slice (some ⟨g, 0, none⟩) c.length cap, .slice none 0 0] 70)) := (Below.refl _ _).alloc (Nat.le_refl _) _
    exact ⟨w2.heap.size, _, rfl, hb2.out.size, ⟨by show (w2.heap.push _)[w2.heap.size]? = _; simp, (Cf.own hown.out hwf.out).keep (Calms.below hbl), .inl (Row.nil _ _ _), by simp [Value.ownBlock], ⟨hB.out, hb2.out.size⟩, by simp, ⟨_, _, _, rfl⟩⟩, hok.out, Lx.bstep hb2.out (Nat.le_refl _) hbl⟩
end Go.Proofs.Ytkjfplkbgooflaa
