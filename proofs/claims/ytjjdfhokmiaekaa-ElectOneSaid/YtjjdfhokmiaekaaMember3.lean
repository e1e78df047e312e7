/-
  The contracts of Near and of the reference's Near.
-/
import Derived.Test.YtjjdfhokmiaekaaMember2
namespace Go.Proofs.Ytjjdfhokmiaekaa
open Go.RowKit Go.Lst Go.Lx

/-- How many of a are not in b. -/
def onl (b a : List Int) : Nat := (a.filter fun x => decide (x ∉ b)).length
theorem onl_take (b a : List Int) (i : Nat) (h : i < a.length) : onl b (a.take (i + 1)) = onl b (a.take i) + (if decide (a.getD i 0 ∈ b) = true then 0 else 1) := by
  unfold onl
  rw [take_snoc a i h, List.filter_append, List.length_append]
  simp only [List.filter_cons, List.filter_nil]
  by_cases hx : a.getD i 0 ∈ b
  · rw [decide_eq_true hx, if_pos rfl]; simp only [not_true_eq_false, decide_false, hx]; rfl
  · rw [decide_eq_false hx]; simp only [hx, not_false_eq_true, decide_true]; rfl
theorem onl_le (b a : List Int) : onl b a ≤ a.length := List.length_filter_le _ _
def near (a b : List Int) : Bool := may a && may b && decide (onl b a + onl a b ≤ 1)

set_option maxRecDepth 100000 in
set_option maxHeartbeats 4000000 in
theorem Near_calls (v u : Value) (xs ys : List Int) (w : World) (h : Nums .i64 w v xs) (hu : Nums .i64 w u ys) :
    Calls Try.prog 48 #[v, u] w fun e w' => e = .returned (.bool (near xs ys)) ∧ Below w.heap.size w w' := by
  have C1 := Lib.hid (fun W h => May_calls v xs W h)
  have C2 := Lib.hid (fun W h => May_calls u ys W h)
  obtain ⟨r, hr⟩ : ∃ r, near xs ys = r := ⟨_, rfl⟩
  rw [hr]
  have hN := Lib.hid h
  have hM := Lib.hid hu
  have hB := Lib.hid (Below.refl w.heap.size w)
  cases hmx : may xs with
  | false =>
    obtain rfl : false = r := by rw [← hr]; unfold near; rw [hmx]; rfl
    rw [hmx] at C1
    clear h hu hr hmx
    go_enter Try.func48, Try.ntmps48
    go_wp2_with fail
    refine (C1.out _ hN.out).mono ?_
    rintro e w1 ⟨rfl, hb1⟩
    go_wp2_with fail
    go_ret
    exact ⟨rfl, hb1⟩
  | true =>
    rw [hmx] at C1
    cases hmy : may ys with
    | false =>
      obtain rfl : false = r := by rw [← hr]; unfold near; rw [hmx, hmy]; rfl
      rw [hmy] at C2
      clear h hu hr hmx hmy
      go_enter Try.func48, Try.ntmps48
      go_wp2_with fail
      refine (C1.out _ hN.out).mono ?_
      rintro e w1 ⟨rfl, hb1⟩
      replace hb1 : Below w.heap.size w w1 := Lx.bstep (by repeat (first | exact Below.refl _ _ | exact Lx.Ext.below _ | refine Below.drew ?_ | refine below_drewN ?_ _ | (refine Below.alloc ?_ (by first | exact Nat.le_refl _ | (simp; done) | (simp; omega)) _) | (refine Below.setCell ?_ (by first | exact Nat.le_refl _ | (simp; done) | (simp; omega)) _))) (Nat.le_refl _) hb1
      replace hN := Lib.hid (hN.out.below hb1)
      replace hM := Lib.hid (hM.out.below hb1)
      replace hB := Lib.hid (Lx.bstep hB.out (Nat.le_refl _) hb1)
      clear hb1
      go_wp2_with fail
      refine (C2.out _ hM.out).mono ?_
      rintro e w2 ⟨rfl, hb2⟩
      replace hb2 : Below w1.heap.size w1 w2 := Lx.bstep (by repeat (first | exact Below.refl _ _ | exact Lx.Ext.below _ | refine Below.drew ?_ | refine below_drewN ?_ _ | (refine Below.alloc ?_ (by first | exact Nat.le_refl _ | (simp; done) | (simp; omega)) _) | (refine Below.setCell ?_ (by first | exact Nat.le_refl _ | (simp; done) | (simp; omega)) _))) (Nat.le_refl _) hb2
      replace hN := Lib.hid (hN.out.below hb2)
      replace hM := Lib.hid (hM.out.below hb2)
      replace hB := Lib.hid (Lx.bstep hB.out (Nat.le_refl _) hb2)
      clear hb2
      go_wp2_with fail
      go_ret
      exact ⟨rfl, hB.out⟩
    | true =>
      rw [hmy] at C2
      have hr2 : r = decide (onl ys xs + onl xs ys ≤ 1) := by rw [← hr]; unfold near; rw [hmx, hmy]; rfl
      have H1 := Lib.hid (fun W x h => Has_calls u ys x W h)
      have H2 := Lib.hid (fun W x h => Has_calls v xs x W h)
      have hx7 := (may_facts hmx).2.2.2
      have hy7 := (may_facts hmy).2.2.2
      obtain ⟨p, c, rfl, hc1, hc2, -⟩ := h.parts
      obtain ⟨q, d, rfl, hd1, hd2, -⟩ := hu.parts
      generalize hm : xs.length = m at *
      generalize hn : ys.length = n at *
      replace hm := Lib.hid hm
      replace hn := Lib.hid hn
      replace hr2 := Lib.hid hr2
      replace hc1 := Lib.hid hc1
      replace hc2 := Lib.hid hc2
      replace hd1 := Lib.hid hd1
      replace hd2 := Lib.hid hd2
      clear h hu hr hmx hmy
      go_enter Try.func48, Try.ntmps48
      go_wp2_with fail
      refine (C1.out _ hN.out).mono ?_
      rintro e w1 ⟨rfl, hb1⟩
      replace hb1 : Below w.heap.size w w1 := Lx.bstep (by repeat (first | exact Below.refl _ _ | exact Lx.Ext.below _ | refine Below.drew ?_ | refine below_drewN ?_ _ | (refine Below.alloc ?_ (by first | exact Nat.le_refl _ | (simp; done) | (simp; omega)) _) | (refine Below.setCell ?_ (by first | exact Nat.le_refl _ | (simp; done) | (simp; omega)) _))) (Nat.le_refl _) hb1
      replace hN := Lib.hid (hN.out.below hb1)
      replace hM := Lib.hid (hM.out.below hb1)
      replace hB := Lib.hid (Lx.bstep hB.out (Nat.le_refl _) hb1)
      clear hb1
      go_wp2_with fail
      refine (C2.out _ hM.out).mono ?_
      rintro e w2 ⟨rfl, hb2⟩
      replace hb2 : Below w1.heap.size w1 w2 := Lx.bstep (by repeat (first | exact Below.refl _ _ | exact Lx.Ext.below _ | refine Below.drew ?_ | refine below_drewN ?_ _ | (refine Below.alloc ?_ (by first | exact Nat.le_refl _ | (simp; done) | (simp; omega)) _) | (refine Below.setCell ?_ (by first | exact Nat.le_refl _ | (simp; done) | (simp; omega)) _))) (Nat.le_refl _) hb2
      replace hN := Lib.hid (hN.out.below hb2)
      replace hM := Lib.hid (hM.out.below hb2)
      replace hB := Lib.hid (Lx.bstep hB.out (Nat.le_refl _) hb2)
      clear hb2
      go_wp2_with fail
      go_loopg [5, 20] (m + 1) (fun k v5 v20 wr => ∃ i : Nat, v20 = .int .i64 (i : Int) ∧ v5 = .int .i64 (onl ys (xs.take i) : Int) ∧ i ≤ m ∧ m < i + k ∧ Below w2.heap.size w2 wr)
      case atStart => exact ⟨0, rfl, rfl, by omega, by omega, Below.refl _ _⟩
      case round =>
        obtain ⟨i, rfl, rfl, hile, hfuel, hb⟩ := hrel
        cases gk with
        | zero => omega
        | succ k =>
          have ho := Lib.hid (onl_le ys (xs.take i))
          have hb' := Lib.hid hb
          by_cases hlt : i < m
          · have hlt1 : (i : Int) < (m : Int) := by omega
            have h0 : (0 : Int) ≤ (i : Int) := by omega
            obtain ⟨p', c', e, -, -, hcell⟩ := hN.out.parts
            obtain ⟨a, ha, hca⟩ := hcell i (by rw [hm.out]; exact hlt)
            injection e with e1 e2 e3
            rw [← e1] at ha
            subst ha
            replace hca := (cell_below hb hca).trans hca
            have ht := Lib.hid (onl_take ys xs i (by rw [hm.out]; exact hlt))
            have hol : (onl ys (xs.take i) : Int) ≤ 7 := by have := ho.out; rw [List.length_take] at this; omega
            have hol0 : (0 : Int) ≤ (onl ys (xs.take i) : Int) := by omega
            generalize hX : xs.getD i 0 = X at *
            generalize hNn : onl ys (xs.take i) = N at *
            have H3 := Lib.hid (fun W h => H1.out W X h)
            replace hX := Lib.hid hX
            replace hNn := Lib.hid hNn
            clear hb hcell e1 e2 e3
            by_cases hin : X ∈ ys
            · rw [decide_eq_true hin] at H3 ht
              clear hin
              go_wp2_with fail
              refine (H3.out _ (hM.out.below hb'.out)).mono ?_
              rintro e w4 ⟨rfl, hb4⟩
              replace hb' := Lib.hid (Lx.bstep hb'.out (Nat.le_refl _) hb4)
              clear hca
              go_wp2_with fail
              go_roundg k
              case measure => omega
              case rel => exact ⟨i + 1, by first | rfl | go_num, by rw [ht.out]; simp, by omega, by omega, hb'.out⟩
            · rw [decide_eq_false hin] at H3 ht
              clear hin
              go_wp2_with fail
              refine (H3.out _ (hM.out.below hb'.out)).mono ?_
              rintro e w4 ⟨rfl, hb4⟩
              replace hb' := Lib.hid (Lx.bstep hb'.out (Nat.le_refl _) hb4)
              clear hca
              go_wp2_with fail
              go_roundg k
              case measure => omega
              case rel => exact ⟨i + 1, by first | rfl | go_num, by rw [ht.out]; simp, by omega, by omega, hb'.out⟩
          · have hd : decide ((i : Int) < (m : Int)) = false := by simp; omega
            have e1 : xs.take i = xs := List.take_of_length_le (by have := hm.out; omega)
            rw [e1] at ho ⊢
            have hol : (onl ys xs : Int) ≤ 7 := by have := ho.out; have := hm.out; omega
            have hol0 : (0 : Int) ≤ (onl ys xs : Int) := by omega
            generalize hNn : onl ys xs = N at *
            clear e1 hb hfuel
            replace hNn := Lib.hid hNn
            go_wp2_with fail
            go_loopg [5, 33] (n + 1) (fun k v5 v33 wr2 => ∃ j : Nat, v33 = .int .i64 (j : Int) ∧ v5 = .int .i64 (((N + onl xs (ys.take j) : Nat)) : Int) ∧ j ≤ n ∧ n < j + k ∧ Below w2.heap.size w2 wr2)
            case atStart => exact ⟨0, rfl, rfl, by omega, by omega, hb'.out⟩
            case round =>
              clear hb'
              obtain ⟨j, rfl, rfl, hjle, hfuel, hb⟩ := hrel
              cases gk with
              | zero => omega
              | succ k2 =>
                have ho2 := Lib.hid (onl_le xs (ys.take j))
                have hb' := Lib.hid hb
                by_cases hlt2 : j < n
                · have hlt3 : (j : Int) < (n : Int) := by omega
                  have h0 : (0 : Int) ≤ (j : Int) := by omega
                  obtain ⟨p', c', e, -, -, hcell⟩ := hM.out.parts
                  obtain ⟨a, ha, hca⟩ := hcell j (by rw [hn.out]; exact hlt2)
                  injection e with e1 e2 e3
                  rw [← e1] at ha
                  subst ha
                  replace hca := (cell_below hb hca).trans hca
                  have ht := Lib.hid (onl_take xs ys j (by rw [hn.out]; exact hlt2))
                  have hol2 : onl xs (ys.take j) ≤ 7 := by have := ho2.out; rw [List.length_take] at this; omega
                  generalize hX : ys.getD j 0 = X at *
                  obtain ⟨M, hMm⟩ : ∃ M : Nat, N + onl xs (ys.take j) = M := ⟨_, rfl⟩
                  rw [hMm]
                  have hM14 : (M : Int) ≤ 14 := by omega
                  have hM0 : (0 : Int) ≤ (M : Int) := by omega
                  have H3 := Lib.hid (fun W h => H2.out W X h)
                  replace hX := Lib.hid hX
                  replace hMm := Lib.hid hMm
                  clear hb hcell e1 e2 e3
                  by_cases hin : X ∈ xs
                  · rw [decide_eq_true hin] at H3 ht
                    clear hin
                    go_wp2_with fail
                    refine (H3.out _ (hN.out.below hb'.out)).mono ?_
                    rintro e w4 ⟨rfl, hb4⟩
                    replace hb' := Lib.hid (Lx.bstep hb'.out (Nat.le_refl _) hb4)
                    clear hca
                    go_wp2_with fail
                    go_roundg k2
                    case measure => omega
                    case rel => exact ⟨j + 1, by first | rfl | go_num, by rw [ht.out, ← hMm.out]; simp, by omega, by omega, hb'.out⟩
                  · rw [decide_eq_false hin] at H3 ht
                    clear hin
                    go_wp2_with fail
                    refine (H3.out _ (hN.out.below hb'.out)).mono ?_
                    rintro e w4 ⟨rfl, hb4⟩
                    replace hb' := Lib.hid (Lx.bstep hb'.out (Nat.le_refl _) hb4)
                    clear hca
                    go_wp2_with fail
                    go_roundg k2
                    case measure => omega
                    case rel => exact ⟨j + 1, by first | rfl | go_num, by rw [ht.out, ← hMm.out]; simp; omega, by omega, by omega, hb'.out⟩
                · have hd2 : decide ((j : Int) < (n : Int)) = false := by simp; omega
                  have e1 : ys.take j = ys := List.take_of_length_le (by have := hn.out; omega)
                  rw [e1]
                  have hfin := Lib.hid (show decide (((N + onl xs ys : Nat) : Int) ≤ 1) = r by rw [hr2.out, Bool.eq_iff_iff]; simp; omega)
                  generalize N + onl xs ys = M at *
                  clear e1 hb ho2
                  go_wp2_with fail
                  go_ret
                  refine ⟨?_, Lx.bstep hB.out (Nat.le_refl _) hb'.out⟩
                  rw [← hfin.out]
                  first | rfl | (congr 2; rw [Bool.eq_iff_iff]; simp; omega)
end Go.Proofs.Ytjjdfhokmiaekaa
