/-
  The known case of layer 25.
-/
import Derived.Test.YtjjdfhokmiaekaaElect5
namespace Go.Proofs.Ytjjdfhokmiaekaa
open Go.RowKit Go.Lst

def eV : Value := .agg #[.int .u64 4, .int .u64 2, .int .u8 0, .string ⟨#[]⟩, .slice none 0 0]
/-- The entry's block, as the walk asks of it. -/
structure Five (w : World) (b : Nat) : Prop where
  c0 : w.cell? ⟨b, 0, none⟩ = some (.int .u64 4)
  c1 : w.cell? ⟨b, 1, none⟩ = some (.int .u64 2)
  c2 : w.cell? ⟨b, 2, none⟩ = some (.int .u8 0)
  c3 : w.cell? ⟨b, 3, none⟩ = some (.string ⟨#[]⟩)
  c4 : w.cell? ⟨b, 4, none⟩ = some (.slice none 0 0)
theorem Five.below {w w' : World} {b : Nat} (h : Five w b) (hb : Below w.heap.size w w') : Five w' b :=
  ⟨(cell_below hb h.c0).trans h.c0, (cell_below hb h.c1).trans h.c1, (cell_below hb h.c2).trans h.c2, (cell_below hb h.c3).trans h.c3, (cell_below hb h.c4).trans h.c4⟩

theorem Five.alloc (w : World) (T : TypeId) : Five (w.alloc (.cells #[.int .u64 4, .int .u64 2, .int .u8 0, .string ⟨#[]⟩, .slice none 0 0] T)) w.heap.size := by
  have h : (w.alloc (.cells #[.int .u64 4, .int .u64 2, .int .u8 0, .string ⟨#[]⟩, .slice none 0 0] T)).heap[w.heap.size]? = some (.cells #[.int .u64 4, .int .u64 2, .int .u8 0, .string ⟨#[]⟩, .slice none 0 0] T) := by show (w.heap.push _)[w.heap.size]? = _; simp
  refine ⟨?_, ?_, ?_, ?_, ?_⟩ <;> simp only [World.cell?, h] <;> simp
theorem nums3 (w : World) : Nums .i64 (w.alloc (.cells #[.int .i64 1, .int .i64 2, .int .i64 3] 3)) (.slice (some ⟨w.heap.size, 0, none⟩) 3 3) [1, 2, 3] := by
  refine ⟨⟨some ⟨w.heap.size, 0, none⟩, 3, rfl, by decide, by unfold maxLen; omega, fun i hi => ⟨_, rfl, ?_⟩⟩, by decide⟩
  have h : (w.alloc (.cells #[.int .i64 1, .int .i64 2, .int .i64 3] 3)).heap[w.heap.size]? = some (.cells #[.int .i64 1, .int .i64 2, .int .i64 3] 3) := by show (w.heap.push _)[w.heap.size]? = _; simp
  have hi' : i < 3 := hi
  have e : (Addr.add ⟨w.heap.size, 0, none⟩ i) = ⟨w.heap.size, i, none⟩ := by unfold Addr.add; split <;> simp_all
  rw [e]
  simp only [World.cell?, h]
  match i, hi' with
  | 0, _ => rfl
  | 1, _ => rfl
  | 2, _ => rfl
theorem Two.grown {w w' : World} {b r : Nat} {x y : Value} (h : Two w b x y) (hg : w.grownBy w' (some r)) (hne : b ≠ r) : Two w' b x y := by
  have hl : b < w.heap.size := by
    by_cases hl : b < w.heap.size
    · exact hl
    · have := h.c0
      simp [World.cell?, Array.getElem?_eq_none (Nat.le_of_not_lt hl)] at this
  have hbl := hg.block b hl (by intro e; injection e with e; exact hne e)
  exact ⟨(World.cell?_of_block hbl).trans h.c0, (World.cell?_of_block hbl).trans h.c1, (World.frozen?_of_block hbl).trans h.f0, (World.frozen?_of_block hbl).trans h.f1⟩
theorem grants : (∀ W, Calls Try.prog 23 #[.agg #[.int .u64 3, .int .i64 0], .int .u64 3, .int .i64 2, eV, eV] W fun e w' => e = .returned (.tuple #[.agg #[.int .u64 3, .int .i64 2], .bool true, .int .i64 0]) ∧ Below W.heap.size W w') ∧
    (∀ W, Calls Try.prog 23 #[.agg #[.int .u64 3, .int .i64 2], .int .u64 3, .int .i64 1, eV, eV] W fun e w' => e = .returned (.tuple #[.agg #[.int .u64 3, .int .i64 2], .bool false, .int .i64 0]) ∧ Below W.heap.size W w') ∧
    (∀ W, Calls Try.prog 23 #[.agg #[.int .u64 3, .int .i64 2], .int .u64 3, .int .i64 2, eV, eV] W fun e w' => e = .returned (.tuple #[.agg #[.int .u64 3, .int .i64 2], .bool true, .int .i64 0]) ∧ Below W.heap.size W w') ∧
    (∀ W, Calls Try.prog 25 #[.agg #[.int .u64 3, .int .i64 2], .int .i64 1] W fun e w' => e = .returned (.tuple #[.agg #[.int .u64 4, .int .i64 1], .int .i64 0]) ∧ Below W.heap.size W w') ∧
    (∀ W, Calls Try.prog 26 #[.int .i64 10, .int .u32 23] W fun e w' => e = .returned (.tuple #[.int .i64 13, .int .i64 0]) ∧ W = w') := by
  refine ⟨fun W => ?_, fun W => ?_, fun W => ?_, fun W => ?_, fun W => ?_⟩
  · exact Grant_good (3, 0) 3 2 4 2 4 2 (.int .u8 0, .string ⟨#[]⟩, .slice none 0 0) (.int .u8 0, .string ⟨#[]⟩, .slice none 0 0) W (by decide) (by decide)
  · exact Grant_good (3, 2) 3 1 4 2 4 2 (.int .u8 0, .string ⟨#[]⟩, .slice none 0 0) (.int .u8 0, .string ⟨#[]⟩, .slice none 0 0) W (by decide) (by decide)
  · exact Grant_good (3, 2) 3 2 4 2 4 2 (.int .u8 0, .string ⟨#[]⟩, .slice none 0 0) (.int .u8 0, .string ⟨#[]⟩, .slice none 0 0) W (by decide) (by decide)
  · have := Stand_calls (3, 2) 1 W (by decide)
    rw [if_neg (by decide), if_neg (by decide)] at this
    exact this
  · have := Wait_calls 10 23 W (by decide)
    rw [if_neg (by decide)] at this
    exact this
def s1 : List Nat := (List.replicate 65 0).set 1 1
def s2 : List Nat := s1.set 2 1
theorem v1 : vote 3 [1, 2, 3] (List.replicate 65 0) 1 3 true = (0, s1) := by decide
theorem v2 : vote 3 [1, 2, 3] s1 1 3 true = (0, s1) := by decide
theorem v3 : vote 3 [1, 2, 3] s1 2 3 true = (0, s2) := by decide
theorem n1 : won s1 [1, 2, 3] = false := by decide
theorem n2 : won s2 [1, 2, 3] = true := by decide
theorem n3 : lost s2 [1, 2, 3] = false := by decide
set_option maxRecDepth 100000 in
set_option maxHeartbeats 1500000 in
theorem works25_calls (w : World) : Calls Try.prog 22 #[] w fun e w' => e = .returned (.bool true) ∧ Below w.heap.size w w' := by
  obtain ⟨g1, g2, g3, g4, g5⟩ := grants
  have G1 := Lib.hid g1; have G2 := Lib.hid g2; have G3 := Lib.hid g3; have G4 := Lib.hid g4; have G5 := Lib.hid g5
  clear g1 g2 g3 g4 g5
  go_enter Try.func22, Try.ntmps22
  go_wp2_with fail
  refine (G1.out _).mono ?_
  rintro e w1 ⟨rfl, hb1⟩
  clear G1
  have f := Lib.hid ((Five.alloc w 55).below hb1)
  have hB := Lib.hid (Lx.bstep ((Below.refl w.heap.size w).alloc (Nat.le_refl _) (.cells #[.int .u64 4, .int .u64 2, .int .u8 0, .string ⟨#[]⟩, .slice none 0 0] 55)) (Nat.le_refl _) hb1)
  obtain ⟨c0, c1, c2, c3, c4⟩ := f.out
  have l1 : w.heap.size < w1.heap.size := by have := hb1.size; simp at this; omega
  clear hb1
  go_wp2_with fail
  refine (G2.out _).mono ?_
  rintro e w2 ⟨rfl, hb2⟩
  clear G2
  have l2 : w1.heap.size < w2.heap.size := by have := hb2.size; simp at this; omega
  have l_2 : w.heap.size < w2.heap.size := by omega
  have al := (Below.refl w1.heap.size w1).alloc (Nat.le_refl _) (.cells #[.int .u64 3, .int .i64 2] 53)
  replace hB := Lib.hid (Lx.bstep (Lx.bstep hB.out (Nat.le_refl _) al) (Nat.le_refl _) hb2)
  clear c0 c1 c2 c3 c4
  replace f := Lib.hid ((f.out.below al).below hb2)
  obtain ⟨c0, c1, c2, c3, c4⟩ := f.out
  have t1 := Lib.hid ((Two.alloc w1 (.int .u64 3) (.int .i64 2) 53).below hb2)
  clear al hb2
  obtain ⟨d0, d1, d2, d3⟩ := t1.out
  go_wp2_with fail
  clear d0 d1 d2 d3
  refine (G3.out _).mono ?_
  rintro e w3 ⟨rfl, hb3⟩
  clear G3
  have l3 : w2.heap.size < w3.heap.size := by have := hb3.size; simp at this; omega
  have l_3 : w.heap.size < w3.heap.size := by omega
  have l1_3 : w1.heap.size < w3.heap.size := by omega
  have al := (Below.refl w2.heap.size w2).alloc (Nat.le_refl _) (.cells #[.int .u64 3, .int .i64 2] 53)
  replace hB := Lib.hid (Lx.bstep (Lx.bstep hB.out (Nat.le_refl _) al) (Nat.le_refl _) hb3)
  clear c0 c1 c2 c3 c4
  replace f := Lib.hid ((f.out.below al).below hb3)
  obtain ⟨c0, c1, c2, c3, c4⟩ := f.out
  replace t1 := Lib.hid ((t1.out.below al).below hb3)
  have t2 := Lib.hid ((Two.alloc w2 (.int .u64 3) (.int .i64 2) 53).below hb3)
  clear al hb3
  obtain ⟨d0, d1, d2, d3⟩ := t1.out
  go_wp2_with fail
  clear d0 d1 d2 d3
  refine (G4.out _).mono ?_
  rintro e w4 ⟨rfl, hb4⟩
  clear G4
  have l4 : w3.heap.size < w4.heap.size := by have := hb4.size; simp at this; omega
  have l_4 : w.heap.size < w4.heap.size := by omega
  have l1_4 : w1.heap.size < w4.heap.size := by omega
  have l2_4 : w2.heap.size < w4.heap.size := by omega
  have al := (Below.refl w3.heap.size w3).alloc (Nat.le_refl _) (.cells #[.int .u64 3, .int .i64 2] 53)
  replace hB := Lib.hid (Lx.bstep (Lx.bstep hB.out (Nat.le_refl _) al) (Nat.le_refl _) hb4)
  clear c0 c1 c2 c3 c4
  replace f := Lib.hid ((f.out.below al).below hb4)
  obtain ⟨c0, c1, c2, c3, c4⟩ := f.out
  replace t1 := Lib.hid ((t1.out.below al).below hb4)
  replace t2 := Lib.hid ((t2.out.below al).below hb4)
  have t3 := Lib.hid ((Two.alloc w3 (.int .u64 3) (.int .i64 2) 53).below hb4)
  clear al hb4
  obtain ⟨d0, d1, d2, d3⟩ := t1.out
  go_wp2_with fail
  refine (G5.out _).mono ?_
  rintro e w5 ⟨rfl, rfl⟩
  clear G5 c0 c1 c2 c3 c4 d0 d1 d2 d3 f
  have al := (Below.refl w4.heap.size w4).alloc (Nat.le_refl _) (.cells #[.int .u64 4, .int .i64 1] 53)
  replace t1 := Lib.hid (t1.out.below al)
  replace t2 := Lib.hid (t2.out.below al)
  replace t3 := Lib.hid (t3.out.below al)
  have t4 := Lib.hid (Two.alloc w4 (.int .u64 4) (.int .i64 1) 53)
  replace hB := Lib.hid (Lx.bstep hB.out (Nat.le_refl _) al)
  clear al
  have hW : (w4.alloc (.cells #[.int .u64 4, .int .i64 1] 53)).heap.size = w4.heap.size + 1 := by simp
  replace hW := Lib.hid hW
  generalize w4.alloc (.cells #[.int .u64 4, .int .i64 1] 53) = W4 at *
  go_wp2_with fail
  refine (NewTally_calls 3 _ [1, 2, 3] _ (nums3 W4) (by decide) (by decide)).mono ?_
  rintro e w5 ⟨b, rfl, hbge, hT, hb5⟩
  have al := (Below.refl W4.heap.size W4).alloc (Nat.le_refl _) (.cells #[.int .i64 1, .int .i64 2, .int .i64 3] 3)
  have hbb : w4.heap.size + 1 ≤ b := by have := hW.out; simp at hbge; omega
  replace t1 := Lib.hid ((t1.out.below al).below hb5)
  replace t2 := Lib.hid ((t2.out.below al).below hb5)
  replace t3 := Lib.hid ((t3.out.below al).below hb5)
  replace t4 := Lib.hid ((t4.out.below al).below hb5)
  replace hB := Lib.hid (Lx.bstep (Lx.bstep hB.out (Nat.le_refl _) al) (Nat.le_refl _) hb5)
  replace hT := Lib.hid hT
  clear al hb5 hbge
  go_wp2_with fail
  refine (Vote_calls b 3 [1, 2, 3] (List.replicate 65 0) 1 3 true _ hT.out).mono ?_
  rw [v1]
  rintro e w6 ⟨rfl, hT6, hg6⟩
  dsimp only at hT6
  replace t1 := Lib.hid (t1.out.grown hg6 (by omega))
  replace t2 := Lib.hid (t2.out.grown hg6 (by omega))
  replace t3 := Lib.hid (t3.out.grown hg6 (by omega))
  replace t4 := Lib.hid (t4.out.grown hg6 (by omega))
  replace hB := Lib.hid (hB.out.grown hg6 (by have := hB.out.size; omega) (fun j hj => by cases hj; omega))
  replace hT := Lib.hid hT6
  clear hT6 hg6
  go_wp2_with fail
  refine (Won_calls b 3 [1, 2, 3] s1 _ hT.out (by decide)).mono ?_
  rw [n1]
  rintro e w7 ⟨rfl, hb7⟩
  replace t1 := Lib.hid (t1.out.below hb7)
  replace t2 := Lib.hid (t2.out.below hb7)
  replace t3 := Lib.hid (t3.out.below hb7)
  replace t4 := Lib.hid (t4.out.below hb7)
  replace hB := Lib.hid (Lx.bstep hB.out (Nat.le_refl _) hb7)
  replace hT := Lib.hid (hT.out.below hb7)
  clear hb7
  go_wp2_with fail
  refine (Vote_calls b 3 [1, 2, 3] s1 1 3 true _ hT.out).mono ?_
  rw [v2]
  rintro e w8 ⟨rfl, hT8, hg8⟩
  dsimp only at hT8
  replace t1 := Lib.hid (t1.out.grown hg8 (by omega))
  replace t2 := Lib.hid (t2.out.grown hg8 (by omega))
  replace t3 := Lib.hid (t3.out.grown hg8 (by omega))
  replace t4 := Lib.hid (t4.out.grown hg8 (by omega))
  replace hB := Lib.hid (hB.out.grown hg8 (by have := hB.out.size; omega) (fun j hj => by cases hj; omega))
  replace hT := Lib.hid hT8
  clear hT8 hg8
  go_wp2_with fail
  refine (Vote_calls b 3 [1, 2, 3] s1 2 3 true _ hT.out).mono ?_
  rw [v3]
  rintro e w9 ⟨rfl, hT9, hg9⟩
  dsimp only at hT9
  replace t1 := Lib.hid (t1.out.grown hg9 (by omega))
  replace t2 := Lib.hid (t2.out.grown hg9 (by omega))
  replace t3 := Lib.hid (t3.out.grown hg9 (by omega))
  replace t4 := Lib.hid (t4.out.grown hg9 (by omega))
  replace hB := Lib.hid (hB.out.grown hg9 (by have := hB.out.size; omega) (fun j hj => by cases hj; omega))
  replace hT := Lib.hid hT9
  clear hT9 hg9
  obtain ⟨d0, d1, _, _⟩ := t1.out
  obtain ⟨x0, x1, _, _⟩ := t2.out
  obtain ⟨y0, y1, _, _⟩ := t3.out
  obtain ⟨z0, z1, _, _⟩ := t4.out
  go_wp2_with fail
  clear t1 t2 t3 t4 d0 d1 x0 x1 y0 y1 z0 z1
  refine (Won_calls b 3 [1, 2, 3] s2 _ hT.out (by decide)).mono ?_
  rw [n2]
  rintro e w10 ⟨rfl, hb10⟩
  replace hB := Lib.hid (Lx.bstep hB.out (Nat.le_refl _) hb10)
  replace hT := Lib.hid (hT.out.below hb10)
  clear hb10
  go_wp2_with fail
  refine (Lost_calls b 3 [1, 2, 3] s2 _ hT.out (by decide)).mono ?_
  rw [n3]
  rintro e w11 ⟨rfl, hb11⟩
  replace hB := Lib.hid (Lx.bstep hB.out (Nat.le_refl _) hb11)
  clear hb11 hT
  go_wp2_with fail
  refine (Newer_calls 2 1 1 9 _).mono ?_
  rw [show newer 2 1 1 9 = true from by decide]
  rintro e w12 ⟨rfl, hb12⟩
  replace hB := Lib.hid (Lx.bstep hB.out (Nat.le_refl _) hb12)
  clear hb12
  go_wp2_with fail
  refine (Newer_calls 1 8 1 9 _).mono ?_
  rw [show newer 1 8 1 9 = false from by decide]
  rintro e w13 ⟨rfl, hb13⟩
  replace hB := Lib.hid (Lx.bstep hB.out (Nat.le_refl _) hb13)
  clear hb13
  go_wp2_with fail
  go_ret
  exact ⟨rfl, hB.out⟩

end Go.Proofs.Ytjjdfhokmiaekaa
