/-
  The law's files: all files are the same.
-/
import Derived.Test.YtenjllkhbpoffaaDoorDrTwo
import Derived.Test.YtenjllkhbpoffaaDoorDskEnds
namespace Go.Proofs.YtenjllkhbpoffaaDoor
open Go Go.Maps Go.WideMaps Go.Dsk Go.Lx Go.Lst Go.RowKit

theorem names_row {B : Nat} {w : World} {v : Value} {F : Files} (h : w.ownsRow B 9 1 v F.length (F.map fun p => .string p.1)) : RRow (fun p : ByteArray × ByteArray => [Value.string p.1]) 1 9 B w v F := by
  unfold RRow
  have e : F.flatMap (fun p : ByteArray × ByteArray => [Value.string p.1]) = F.map fun p => .string p.1 := by
    clear h
    induction F with
    | nil => rfl
    | cons x F ih => rw [List.flatMap_cons, ih]; rfl
  rw [e]
  exact h
theorem names_get {B : Nat} {w : World} {v : Value} {F : Files} (h : RRow (fun p : ByteArray × ByteArray => [Value.string p.1]) 1 9 B w v F) (j : Nat) (hj : j < F.length) : ∃ g c, v = .slice (some ⟨g, 0, none⟩) F.length c ∧ w.cell? ⟨g, j, none⟩ = some (.string F[j].1) := by
  obtain ⟨g, c, e, hc⟩ := RRow.cells (f := fun p : ByteArray × ByteArray => [Value.string p.1]) (k := 1) (fun _ => rfl) h j hj
  refine ⟨g, c, e, ?_⟩
  have := hc 0 (by omega)
  simpa using this
set_option maxRecDepth 100000 in
set_option maxHeartbeats 4000000 in
theorem files_calls {w0 A : World} {d r : Nat} {M : DM} (h : Pl w0 A (fun _ => False) d r M M) :
    Calls Tryd.prog 24 #[.pointer (some ⟨d, 0, none⟩), .pointer (some ⟨r, 0, none⟩)] A fun e w' => e = .returned (.bool true) ∧ Below A.heap.size A w' := by
  obtain ⟨Od, Or, h1, h2, -⟩ := h
  obtain ⟨-, hnm, -⟩ := h1.rise
  obtain ⟨n, hn⟩ : ∃ n, M.now.length = n := ⟨_, rfl⟩
  have hn64 : n ≤ 64 := by have := (tot_now h1.ok).2; omega
  have hC := Lib.hid (Names_calls h1)
  rw [hn] at hC
  have hD := Lib.hid h1
  have hR := Lib.hid h2
  replace hnm := Lib.hid hnm
  replace hn := Lib.hid hn
  clear h1 h2
  go_enter Tryd.func24, Tryd.ntmps24
  go_wp2_with fail
  refine hC.out.mono ?_
  rintro e w1 ⟨v1, rfl, hv1, hb1⟩
  rw [← hn.out] at hv1
  have hv1' := names_row hv1
  obtain ⟨p1, c1, e1, -, -⟩ := hv1'.parts
  rw [hn.out] at e1
  subst e1
  have hN := Lib.hid (rnow_calls (hR.out.below hb1))
  replace hv1' := Lib.hid hv1'
  have hb1' := Lib.hid hb1
  clear hv1 hC hb1
  go_wp2_with fail
  refine hN.out.mono ?_
  rintro e w2 ⟨v2, rfl, hr2, hb2, -⟩
  obtain ⟨p2, c2, e2, -, -⟩ := hr2.parts
  rw [hn.out] at e2
  subst e2
  have hrow := Lib.hid (hv1'.out.below hb2)
  have hD2 := Lib.hid (hD.out.below (Lx.bstep hb1'.out (Nat.le_refl _) hb2))
  have hR2 := Lib.hid (hR.out.below (Lx.bstep hb1'.out (Nat.le_refl _) hb2))
  have hbb := Lib.hid (Lx.bstep hb1'.out (Nat.le_refl _) hb2)
  replace hr2 := Lib.hid hr2
  clear hN hb2 hb1' hv1' hD hR
  go_wp2_with fail
  go_loopg [7, 8, 9, 10, 11] (n + 1) (fun g v7 v8 v9 v10 v11 W => ∃ j : Nat, j ≤ n ∧ n < j + g ∧ v7 = .int .i64 (j : Int) ∧ Below w2.heap.size w2 W)
  case atStart => exact ⟨0, by omega, by omega, rfl, Below.refl _ _⟩
  case round =>
    obtain ⟨j, hj, hg, rfl, hb⟩ := hrel
    cases gk with
    | zero => omega
    | succ g =>
    by_cases hlt : j < n
    case neg =>
      as_aux_lemma =>
      obtain rfl : j = n := by omega
      have hd : decide (j < j) = false := decide_eq_false hlt
      have hC1 := Read_calls (hD2.out.below hb) ⟨#[110, 111, 110, 101]⟩ (by decide)
      have hC2 := rRead_calls (hR2.out.below hb) ⟨#[110, 111, 110, 101]⟩
      generalize readE M ⟨#[110, 111, 110, 101]⟩ = E at *
      generalize readS M ⟨#[110, 111, 110, 101]⟩ = Z at *
      replace hC1 := Lib.hid hC1
      replace hC2 := Lib.hid hC2
      replace hb := Lib.hid hb
      clear hg hj
      go_wp2_with fail
      refine hC1.out.mono ?_
      rintro e w4 ⟨rfl, rfl⟩
      go_wp2_with fail
      refine hC2.out.mono ?_
      rintro e w5 ⟨rfl, hb5⟩
      have hfin := Lib.hid (Lx.bstep (Lx.bstep hbb.out (Nat.le_refl _) hb.out) (Nat.le_refl _) hb5)
      clear hC1 hC2 hb5 hb
      go_wp2_with fail
      go_ret
      exact ⟨rfl, hfin.out⟩
    case pos =>
      as_aux_lemma =>
      have hd : decide (j < n) = true := decide_eq_true hlt
      have hj0 : (0 : Int) ≤ (j : Int) := by omega
      have hj1 : (j : Int) < (n : Int) := by omega
      have hjl : j < M.now.length := by rw [hn.out]; exact hlt
      obtain ⟨g1, c', e, z1⟩ := names_get (hrow.out.below hb) j hjl
      obtain rfl : p1 = some ⟨g1, 0, none⟩ := by injection e
      obtain ⟨g2, c'', e', z2, -⟩ := FRow.get (RRow.below hr2.out hb) j hjl
      obtain rfl : p2 = some ⟨g2, 0, none⟩ := by injection e'
      clear e e'
      have hks : M.now[j].1.size ≤ maxLen := hnm.out _ (List.getElem_mem hjl)
      have hC1 := Read_calls (hD2.out.below hb) M.now[j].1 hks
      have hC2 := rRead_calls (hR2.out.below hb) M.now[j].1
      generalize readE M M.now[j].1 = E at *
      generalize readS M M.now[j].1 = Z at *
      generalize M.now[j].1 = x at *
      obtain ⟨x1, x2⟩ := eqT (rfl : x = x)
      obtain ⟨y1, y2⟩ := eqT (rfl : Z = Z)
      replace hC1 := Lib.hid hC1
      replace hC2 := Lib.hid hC2
      replace hb := Lib.hid hb
      clear hks
      go_wp2_with fail
      refine hC1.out.mono ?_
      rintro e w4 ⟨rfl, rfl⟩
      go_wp2_with fail
      refine hC2.out.mono ?_
      rintro e w5 ⟨rfl, hb5⟩
      replace z1 := below_cell hb5 z1
      replace z2 := below_cell hb5 z2
      have hfin := Lib.hid (Lx.bstep hb.out (Nat.le_refl _) hb5)
      clear hC1 hC2 hb5 hb
      go_wp2_with fail
      go_quiet (fail)
      go_wp2_with fail
      go_roundg g
      case measure => omega
      case rel => exact ⟨j + 1, by omega, by omega, by go_num, below_drewN hfin.out _⟩
end Go.Proofs.YtenjllkhbpoffaaDoor
