/-
  The contract of the trial run of layer 24's laws.
-/
import Derived.Test.YtjjdfhokmiaekaaMember6
namespace Go.Proofs.Ytjjdfhokmiaekaa
open Go.RowKit Go.Lst Go.Lx

theorem nums_lit (k : IntKind) (W : World) (xs : List Int) (T : TypeId) (hw : ∀ x ∈ xs, (Lit.int k x).wf = true) (hl : xs.length ≤ maxLen) : Nums k (W.alloc (.cells (xs.map fun x => .int k x).toArray T)) (.slice (some ⟨W.heap.size, 0, none⟩) xs.length xs.length) xs := by
  refine ⟨⟨some ⟨W.heap.size, 0, none⟩, xs.length, by rw [List.length_map], by rw [List.length_map]; exact Nat.le_refl _, hl, fun i hi => ⟨_, rfl, ?_⟩⟩, hw⟩
  have e2 : (Addr.add ⟨W.heap.size, 0, none⟩ i) = ⟨W.heap.size, i, none⟩ := by unfold Addr.add; split <;> simp_all
  rw [e2]
  exact (Blk.new W _ T).cell i (by simp only [List.getElem?_eq_getElem hi])
theorem agreed_three (x : Int) (h : x ∈ [(5 : Int), 9, 0]) (h2 : 3 < 2 * cntG [5, 9, 0] x) (h3 : 2 * cntM [5, 9, 0] x ≤ 3) : x = 5 := by
  simp only [List.mem_cons, List.not_mem_nil, or_false] at h
  rcases h with rfl | rfl | rfl
  · rfl
  · exact absurd h2 (by decide)
  · exact absurd h3 (by decide)
theorem works24_parts : (∀ v W, Nums .i64 W v [1, 2, 3] → Calls Try.prog 42 #[v] W fun e w' => e = .returned (.tuple #[.int .i64 2, .int .i64 0]) ∧ Below W.heap.size W w') ∧
    (∀ v u W, Nums .i64 W v [1, 1, 4] → Nums .i64 W u [1, 2, 3] → Calls Try.prog 43 #[v, u] W fun e w' => e = .returned (.tuple #[.bool false, .int .i64 0]) ∧ Below W.heap.size W w') ∧
    (∀ v u W, Nums .i64 W v [1, 3] → Nums .i64 W u [1, 2, 3] → Calls Try.prog 43 #[v, u] W fun e w' => e = .returned (.tuple #[.bool true, .int .i64 0]) ∧ Below W.heap.size W w') ∧
    (∀ v W, Nums .i64 W v [1, 3] → Calls Try.prog 44 #[v, .int .i64 2] W fun e w' => (∃ u, e = .returned (.tuple #[u, .int .i64 0]) ∧ Nums .i64 w' u [1, 2, 3]) ∧ Below W.heap.size W w') ∧
    (∀ v W, Nums .i64 W v [1, 2, 3] → Calls Try.prog 45 #[v, .int .i64 2] W fun e w' => (∃ u, e = .returned (.tuple #[u, .int .i64 0]) ∧ Nums .i64 w' u [1, 3]) ∧ Below W.heap.size W w') ∧
    (∀ v u W, Nums .u64 W v [5, 9, 0] → Nums .i64 W u [1, 2, 3] → Calls Try.prog 46 #[v, u] W fun e w' => e = .returned (.tuple #[.int .u64 5, .int .i64 0]) ∧ Below W.heap.size W w') := by
  have m3 : may [1, 2, 3] = true := by decide
  refine ⟨fun v W h => ?_, fun v u W h h2 => ?_, fun v u W h h2 => ?_, fun v W h => ?_, fun v W h => ?_, fun v u W h h2 => ?_⟩
  · have := Majority_calls v [1, 2, 3] W h
    rw [m3, if_pos rfl] at this
    exact this
  · have := Quorum_calls v u [1, 1, 4] [1, 2, 3] W h h2 m3
    rw [show quorum [1, 1, 4] [1, 2, 3] = false by decide] at this
    exact this
  · have := Quorum_calls v u [1, 3] [1, 2, 3] W h h2 m3
    rw [show quorum [1, 3] [1, 2, 3] = true by decide] at this
    exact this
  · have := Add_calls v [1, 3] 2 W h (by decide)
    rw [show addE [1, 3] 2 = 0 by decide, show addL [1, 3] 2 = [1, 2, 3] by decide] at this
    exact this
  · have := Remove_calls v [1, 2, 3] 2 W h
    rw [show remE [1, 2, 3] 2 = 0 by decide, show remL [1, 2, 3] 2 = [1, 3] by decide] at this
    exact this
  · refine (Agreed_calls v u [5, 9, 0] [1, 2, 3] W h h2).mono ?_
    rintro e w' ⟨⟨x, rfl, hx⟩, hb⟩
    rw [if_pos ⟨m3, rfl⟩] at hx
    rw [agreed_three x hx.1 hx.2.1 hx.2.2, if_pos ⟨m3, rfl⟩]
    exact ⟨rfl, hb⟩

set_option maxRecDepth 100000 in
set_option maxHeartbeats 2000000 in
theorem works24_calls (w : World) : Calls Try.prog 41 #[] w fun e w' => e = .returned (.bool true) ∧ Below w.heap.size w w' := by
  obtain ⟨g1, g2, g3, g4, g5, g6⟩ := works24_parts
  have S1 := Lib.hid (fun v u W h hu => rSame_calls v u [1, 2, 3] [1, 2, 3] W h hu)
  have S2 := Lib.hid (fun v u W h hu => rSame_calls v u [1, 3] [1, 3] W h hu)
  have M1 := Lib.hid (fun v W h => May_calls v [1, 2, 3] W h)
  have A1 := Lib.hid (fun v W h => Has_calls v [1, 2, 3] 3 W h)
  have N1 := Lib.hid (fun v u W h hu => Near_calls v u [1, 2, 3] [1, 3] W h hu)
  rw [show decide (([1, 2, 3] : List Int) = [1, 2, 3]) = true by decide] at S1
  rw [show decide (([1, 3] : List Int) = [1, 3]) = true by decide] at S2
  rw [show may [1, 2, 3] = true by decide] at M1
  rw [show decide ((3 : Int) ∈ ([1, 2, 3] : List Int)) = true by decide] at A1
  rw [show near [1, 2, 3] [1, 3] = true by decide] at N1
  have L3 : ∀ W : World, Nums .i64 (W.alloc (.cells #[.int .i64 1, .int .i64 2, .int .i64 3] 3)) (.slice (some ⟨W.heap.size, 0, none⟩) 3 3) [1, 2, 3] := fun W => nums_lit .i64 W [1, 2, 3] _ (by decide) (by decide)
  have L1 : ∀ W : World, Nums .i64 (W.alloc (.cells #[.int .i64 1, .int .i64 1, .int .i64 4] 3)) (.slice (some ⟨W.heap.size, 0, none⟩) 3 3) [1, 1, 4] := fun W => nums_lit .i64 W [1, 1, 4] _ (by decide) (by decide)
  have L2 : ∀ W : World, Nums .i64 (W.alloc (.cells #[.int .i64 1, .int .i64 3] 3)) (.slice (some ⟨W.heap.size, 0, none⟩) 2 2) [1, 3] := fun W => nums_lit .i64 W [1, 3] _ (by decide) (by decide)
  have L4 : ∀ W : World, Nums .u64 (W.alloc (.cells #[.int .u64 5, .int .u64 9, .int .u64 0] 32)) (.slice (some ⟨W.heap.size, 0, none⟩) 3 3) [5, 9, 0] := fun W => nums_lit .u64 W [5, 9, 0] _ (by decide) (by decide)
  have hL := Lib.hid (L3 w)
  have hB : Below w.heap.size w (w.alloc (.cells #[.int .i64 1, .int .i64 2, .int .i64 3] 3)) := (Below.refl _ _).alloc (Nat.le_refl _) _
  replace g1 := Lib.hid g1
  replace g2 := Lib.hid g2
  replace g3 := Lib.hid g3
  replace g4 := Lib.hid g4
  replace g5 := Lib.hid g5
  replace g6 := Lib.hid g6
  replace L1 := Lib.hid L1
  replace L2 := Lib.hid L2
  replace L3 := Lib.hid L3
  replace L4 := Lib.hid L4
  replace hB := Lib.hid hB
  go_enter Try.func41, Try.ntmps41
  go_wp2_with fail
  generalize w.alloc (.cells #[.int .i64 1, .int .i64 2, .int .i64 3] 3) = w0 at *
  refine (g1.out _ _ hL.out).mono ?_
  rintro e w1 ⟨rfl, hb⟩
  replace hb : Below w0.heap.size w0 w1 := Lx.bstep (by repeat (first | exact Below.refl _ _ | exact Lx.Ext.below _ | refine Below.drew ?_ | refine below_drewN ?_ _ | (refine Below.alloc ?_ (by first | exact Nat.le_refl _ | (simp; done) | (simp; omega)) _) | (refine Below.setCell ?_ (by first | exact Nat.le_refl _ | (simp; done) | (simp; omega)) _))) (Nat.le_refl _) hb
  replace hL := Lib.hid (hL.out.below hb)
  replace hB := Lib.hid (Lx.bstep hB.out (Nat.le_refl _) hb)
  clear hb
  go_wp2_with fail
  refine (g2.out _ _ _ (L1.out w1) (hL.out.below (by repeat (first | exact Below.refl _ _ | exact Lx.Ext.below _ | refine Below.drew ?_ | refine below_drewN ?_ _ | (refine Below.alloc ?_ (by first | exact Nat.le_refl _ | (simp; done) | (simp; omega)) _) | (refine Below.setCell ?_ (by first | exact Nat.le_refl _ | (simp; done) | (simp; omega)) _))))).mono ?_
  rintro e w2 ⟨rfl, hb⟩
  replace hb : Below w1.heap.size w1 w2 := Lx.bstep (by repeat (first | exact Below.refl _ _ | exact Lx.Ext.below _ | refine Below.drew ?_ | refine below_drewN ?_ _ | (refine Below.alloc ?_ (by first | exact Nat.le_refl _ | (simp; done) | (simp; omega)) _) | (refine Below.setCell ?_ (by first | exact Nat.le_refl _ | (simp; done) | (simp; omega)) _))) (Nat.le_refl _) hb
  replace hL := Lib.hid (hL.out.below hb)
  replace hB := Lib.hid (Lx.bstep hB.out (Nat.le_refl _) hb)
  clear hb
  go_wp2_with fail
  refine (g3.out _ _ _ (L2.out w2) (hL.out.below (by repeat (first | exact Below.refl _ _ | exact Lx.Ext.below _ | refine Below.drew ?_ | refine below_drewN ?_ _ | (refine Below.alloc ?_ (by first | exact Nat.le_refl _ | (simp; done) | (simp; omega)) _) | (refine Below.setCell ?_ (by first | exact Nat.le_refl _ | (simp; done) | (simp; omega)) _))))).mono ?_
  rintro e w3 ⟨rfl, hb⟩
  replace hb : Below w2.heap.size w2 w3 := Lx.bstep (by repeat (first | exact Below.refl _ _ | exact Lx.Ext.below _ | refine Below.drew ?_ | refine below_drewN ?_ _ | (refine Below.alloc ?_ (by first | exact Nat.le_refl _ | (simp; done) | (simp; omega)) _) | (refine Below.setCell ?_ (by first | exact Nat.le_refl _ | (simp; done) | (simp; omega)) _))) (Nat.le_refl _) hb
  replace hL := Lib.hid (hL.out.below hb)
  replace hB := Lib.hid (Lx.bstep hB.out (Nat.le_refl _) hb)
  clear hb
  go_wp2_with fail
  refine (g4.out _ _ (L2.out w3)).mono ?_
  rintro e w4 ⟨⟨u4, rfl, hA⟩, hb⟩
  replace hA := Lib.hid hA
  replace hb : Below w3.heap.size w3 w4 := Lx.bstep (by repeat (first | exact Below.refl _ _ | exact Lx.Ext.below _ | refine Below.drew ?_ | refine below_drewN ?_ _ | (refine Below.alloc ?_ (by first | exact Nat.le_refl _ | (simp; done) | (simp; omega)) _) | (refine Below.setCell ?_ (by first | exact Nat.le_refl _ | (simp; done) | (simp; omega)) _))) (Nat.le_refl _) hb
  replace hL := Lib.hid (hL.out.below hb)
  replace hB := Lib.hid (Lx.bstep hB.out (Nat.le_refl _) hb)
  clear hb
  go_wp2_with fail
  refine (g5.out _ _ hL.out).mono ?_
  rintro e w5 ⟨⟨u5, rfl, hR⟩, hb⟩
  replace hR := Lib.hid hR
  replace hb : Below w4.heap.size w4 w5 := Lx.bstep (by repeat (first | exact Below.refl _ _ | exact Lx.Ext.below _ | refine Below.drew ?_ | refine below_drewN ?_ _ | (refine Below.alloc ?_ (by first | exact Nat.le_refl _ | (simp; done) | (simp; omega)) _) | (refine Below.setCell ?_ (by first | exact Nat.le_refl _ | (simp; done) | (simp; omega)) _))) (Nat.le_refl _) hb
  replace hL := Lib.hid (hL.out.below hb)
  replace hA := Lib.hid (hA.out.below hb)
  replace hB := Lib.hid (Lx.bstep hB.out (Nat.le_refl _) hb)
  clear hb
  go_wp2_with fail
  refine (g6.out _ _ _ (L4.out w5) (hL.out.below (by repeat (first | exact Below.refl _ _ | exact Lx.Ext.below _ | refine Below.drew ?_ | refine below_drewN ?_ _ | (refine Below.alloc ?_ (by first | exact Nat.le_refl _ | (simp; done) | (simp; omega)) _) | (refine Below.setCell ?_ (by first | exact Nat.le_refl _ | (simp; done) | (simp; omega)) _))))).mono ?_
  rintro e w6 ⟨rfl, hb⟩
  replace hb : Below w5.heap.size w5 w6 := Lx.bstep (by repeat (first | exact Below.refl _ _ | exact Lx.Ext.below _ | refine Below.drew ?_ | refine below_drewN ?_ _ | (refine Below.alloc ?_ (by first | exact Nat.le_refl _ | (simp; done) | (simp; omega)) _) | (refine Below.setCell ?_ (by first | exact Nat.le_refl _ | (simp; done) | (simp; omega)) _))) (Nat.le_refl _) hb
  replace hL := Lib.hid (hL.out.below hb)
  replace hA := Lib.hid (hA.out.below hb)
  replace hR := Lib.hid (hR.out.below hb)
  replace hB := Lib.hid (Lx.bstep hB.out (Nat.le_refl _) hb)
  clear hb
  go_wp2_with fail
  refine (S1.out _ _ _ hA.out hL.out).mono ?_
  rintro e w7 ⟨rfl, hb⟩
  replace hb : Below w6.heap.size w6 w7 := Lx.bstep (by repeat (first | exact Below.refl _ _ | exact Lx.Ext.below _ | refine Below.drew ?_ | refine below_drewN ?_ _ | (refine Below.alloc ?_ (by first | exact Nat.le_refl _ | (simp; done) | (simp; omega)) _) | (refine Below.setCell ?_ (by first | exact Nat.le_refl _ | (simp; done) | (simp; omega)) _))) (Nat.le_refl _) hb
  replace hL := Lib.hid (hL.out.below hb)
  replace hR := Lib.hid (hR.out.below hb)
  replace hB := Lib.hid (Lx.bstep hB.out (Nat.le_refl _) hb)
  clear hb
  go_wp2_with fail
  refine (S2.out _ _ _ (hR.out.below (by repeat (first | exact Below.refl _ _ | exact Lx.Ext.below _ | refine Below.drew ?_ | refine below_drewN ?_ _ | (refine Below.alloc ?_ (by first | exact Nat.le_refl _ | (simp; done) | (simp; omega)) _) | (refine Below.setCell ?_ (by first | exact Nat.le_refl _ | (simp; done) | (simp; omega)) _)))) (L2.out w7)).mono ?_
  rintro e w8 ⟨rfl, hb⟩
  replace hb : Below w7.heap.size w7 w8 := Lx.bstep (by repeat (first | exact Below.refl _ _ | exact Lx.Ext.below _ | refine Below.drew ?_ | refine below_drewN ?_ _ | (refine Below.alloc ?_ (by first | exact Nat.le_refl _ | (simp; done) | (simp; omega)) _) | (refine Below.setCell ?_ (by first | exact Nat.le_refl _ | (simp; done) | (simp; omega)) _))) (Nat.le_refl _) hb
  replace hL := Lib.hid (hL.out.below hb)
  replace hR := Lib.hid (hR.out.below hb)
  replace hB := Lib.hid (Lx.bstep hB.out (Nat.le_refl _) hb)
  clear hb
  go_wp2_with fail
  refine (M1.out _ _ hL.out).mono ?_
  rintro e w9 ⟨rfl, hb⟩
  replace hb : Below w8.heap.size w8 w9 := Lx.bstep (by repeat (first | exact Below.refl _ _ | exact Lx.Ext.below _ | refine Below.drew ?_ | refine below_drewN ?_ _ | (refine Below.alloc ?_ (by first | exact Nat.le_refl _ | (simp; done) | (simp; omega)) _) | (refine Below.setCell ?_ (by first | exact Nat.le_refl _ | (simp; done) | (simp; omega)) _))) (Nat.le_refl _) hb
  replace hL := Lib.hid (hL.out.below hb)
  replace hR := Lib.hid (hR.out.below hb)
  replace hB := Lib.hid (Lx.bstep hB.out (Nat.le_refl _) hb)
  clear hb
  go_wp2_with fail
  refine (A1.out _ _ hL.out).mono ?_
  rintro e w10 ⟨rfl, hb⟩
  replace hb : Below w9.heap.size w9 w10 := Lx.bstep (by repeat (first | exact Below.refl _ _ | exact Lx.Ext.below _ | refine Below.drew ?_ | refine below_drewN ?_ _ | (refine Below.alloc ?_ (by first | exact Nat.le_refl _ | (simp; done) | (simp; omega)) _) | (refine Below.setCell ?_ (by first | exact Nat.le_refl _ | (simp; done) | (simp; omega)) _))) (Nat.le_refl _) hb
  replace hL := Lib.hid (hL.out.below hb)
  replace hR := Lib.hid (hR.out.below hb)
  replace hB := Lib.hid (Lx.bstep hB.out (Nat.le_refl _) hb)
  clear hb
  go_wp2_with fail
  refine (N1.out _ _ _ hL.out hR.out).mono ?_
  rintro e w11 ⟨rfl, hb⟩
  replace hb : Below w10.heap.size w10 w11 := Lx.bstep (by repeat (first | exact Below.refl _ _ | exact Lx.Ext.below _ | refine Below.drew ?_ | refine below_drewN ?_ _ | (refine Below.alloc ?_ (by first | exact Nat.le_refl _ | (simp; done) | (simp; omega)) _) | (refine Below.setCell ?_ (by first | exact Nat.le_refl _ | (simp; done) | (simp; omega)) _))) (Nat.le_refl _) hb
  replace hB := Lib.hid (Lx.bstep hB.out (Nat.le_refl _) hb)
  clear hb
  go_wp2_with fail
  go_ret
  exact ⟨rfl, hB.out⟩
end Go.Proofs.Ytjjdfhokmiaekaa
