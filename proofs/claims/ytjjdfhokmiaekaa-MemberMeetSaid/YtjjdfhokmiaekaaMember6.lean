/-
  The contract of the reference's Agreed.
-/
import Derived.Test.YtjjdfhokmiaekaaMember5
namespace Go.Proofs.Ytjjdfhokmiaekaa
open Go.RowKit Go.Lst Go.Lx

theorem cntG_le (ms : List Int) (x : Int) : cntG ms x ≤ ms.length := List.length_filter_le _ _

set_option maxRecDepth 100000 in
set_option maxHeartbeats 2000000 in
theorem rAgreed_calls (v u : Value) (ms cs : List Int) (w : World) (h : Nums .u64 w v ms) (hu : Nums .i64 w u cs) (hl : ms.length ≤ 100) (hcl : cs.length ≤ 100) :
    Calls Try.prog 55 #[v, u] w fun e w' => e = .returned (.int .u64 (agr ms cs.length ms)) ∧ Below w.heap.size w w' := by
  obtain ⟨p, c, rfl, hc1, hc2, hcell⟩ := h.parts
  obtain ⟨q, d, rfl, hd1, hd2, -⟩ := hu.parts
  have hwf := Lib.hid h.2
  have hN := Lib.hid h
  clear h hu
  generalize cs.length = n at *
  obtain ⟨m, hm⟩ : ∃ m, ms.length = m := ⟨_, rfl⟩
  rw [hm] at hcell hc1 hl hN ⊢
  obtain ⟨R, hR⟩ : ∃ R, agr ms n ms = R := ⟨_, rfl⟩
  rw [hR]
  have hm1 : (m : Int) ≤ 100 := by omega
  have hn1 : (n : Int) ≤ 100 := by omega
  have hn0 : (0 : Int) ≤ (n : Int) := by omega
  replace hR := Lib.hid hR
  replace hm := Lib.hid hm
  replace hc1 := Lib.hid hc1
  replace hc2 := Lib.hid hc2
  replace hd1 := Lib.hid hd1
  replace hd2 := Lib.hid hd2
  replace hcell := Lib.hid hcell
  clear hl hcl
  go_enter Try.func55, Try.ntmps55
  go_wp2_with fail
  go_wp2_with fail
  go_loopg [5, 6] (m + 1) (fun k v5 v6 wr => ∃ i : Nat, v6 = .int .i64 (i : Int) ∧ v5 = .int .u64 (agr ms n (ms.take i)) ∧ i ≤ m ∧ m < i + k ∧ Below w.heap.size w wr)
  case atStart => exact ⟨0, rfl, rfl, by omega, by omega, Below.refl _ _⟩
  case round =>
    obtain ⟨i, rfl, rfl, hile, hfuel, hB⟩ := hrel
    cases gk with
    | zero => omega
    | succ k =>
      by_cases hlt : i < m
      · have hlt1 : (i : Int) < (m : Int) := by omega
        have h0 : (0 : Int) ≤ (i : Int) := by omega
        obtain ⟨a, rfl, hca⟩ := hcell.out i hlt
        replace hca := Lib.hid hca
        replace hB := Lib.hid hB
        have ht := Lib.hid (agr_snoc ms n i (by rw [hm.out]; exact hlt))
        have hX2 := Lib.hid (show ms.getD i 0 ∈ ms by rw [List.getD_eq_getElem?_getD, List.getElem?_eq_getElem (by rw [hm.out]; exact hlt)]; exact List.getElem_mem _)
        generalize hX : ms.getD i 0 = X at *
        generalize hBB : agr ms n (ms.take i) = B at *
        have hX3 := Lib.hid (hwf.out X hX2.out)
        replace hX := Lib.hid hX
        replace hBB := Lib.hid hBB
        go_wp2_with fail
        go_loopg [7, 8] (m + 1) (fun k v7 v8 wr2 => ∃ j : Nat, v8 = .int .i64 (j : Int) ∧ v7 = .int .i64 ((cntG (ms.take j) X : Nat) : Int) ∧ j ≤ m ∧ m < j + k ∧ Below w.heap.size w wr2)
        case atStart => exact ⟨0, rfl, rfl, by omega, by omega, hB.out⟩
        case round =>
          have hfu := hfuel
          clear hfuel hB
          obtain ⟨j, rfl, rfl, hjle, hfuel, hB⟩ := hrel
          cases gk with
          | zero => omega
          | succ k2 =>
            by_cases hlt2 : j < m
            · have hlt3 : (j : Int) < (m : Int) := by omega
              have h02 : (0 : Int) ≤ (j : Int) := by omega
              obtain ⟨a2, e, hcb⟩ := hcell.out j hlt2
              injection e with e
              subst e
              replace hcb := (cell_below hB hcb).trans hcb
              have hca2 := (cell_below hB hca.out).trans hca.out
              replace hB := Lib.hid hB
              clear hN
              have ht2 := Lib.hid (cntG_snoc ms X j (by rw [hm.out]; exact hlt2))
              generalize hY : ms.getD j 0 = Y at *
              have hco := Lib.hid (cntG_le (ms.take j) X)
              have hC : ((cntG (ms.take j) X : Nat) : Int) ≤ 100 := by have := hco.out; rw [List.length_take] at this; omega
              have hC0 : (0 : Int) ≤ ((cntG (ms.take j) X : Nat) : Int) := by omega
              generalize hCC : cntG (ms.take j) X = C at *
              replace hY := Lib.hid hY
              replace hCC := Lib.hid hCC
              by_cases hge : X ≤ Y
              · rw [decide_eq_true hge] at ht2
                have hge2 : Y ≥ X := hge
                go_wp2_with fail
                go_quiet (fail)
                go_wp2_with fail
                go_roundg k2
                case measure => omega
                case rel => exact ⟨j + 1, by first | rfl | go_num, by rw [ht2.out]; simp, by omega, by omega, below_drewN hB.out _⟩
              · rw [decide_eq_false hge] at ht2
                have hge2 : decide (Y ≥ X) = false := by simp; omega
                go_wp2_with fail
                go_quiet (fail)
                go_wp2_with fail
                go_roundg k2
                case measure => omega
                case rel => exact ⟨j + 1, by first | rfl | go_num, by rw [ht2.out]; simp, by omega, by omega, below_drewN hB.out _⟩
            · have hd2 : decide ((j : Int) < (m : Int)) = false := by simp; omega
              have e1 : ms.take j = ms := List.take_of_length_le (by have := hm.out; omega)
              rw [e1]
              have hco := Lib.hid (cntG_le ms X)
              replace hca := (cell_below hB hca.out).trans hca.out
              replace hB := Lib.hid hB
              have hC : ((cntG ms X : Nat) : Int) ≤ 100 := by have := hco.out; have := hm.out; omega
              have hC0 : (0 : Int) ≤ ((cntG ms X : Nat) : Int) := by omega
              generalize hCC : cntG ms X = C at *
              replace hCC := Lib.hid hCC
              clear e1
              by_cases hgt : n < 2 * C
              · have hgt2 : (n : Int) < 2 * (C : Int) := by omega
                replace ht := Lib.hid (ht.out.trans (if_pos hgt))
                by_cases hmx : B < X
                · rw [Int.max_eq_right (Int.le_of_lt hmx)] at ht
                  go_wp2_with fail
                  go_roundg k
                  case measure => omega
                  case rel => exact ⟨i + 1, by first | rfl | go_num, by rw [ht.out], by omega, by omega, hB.out⟩
                · rw [Int.max_eq_left (by omega)] at ht
                  go_wp2_with fail
                  go_roundg k
                  case measure => omega
                  case rel => exact ⟨i + 1, by first | rfl | go_num, by rw [ht.out], by omega, by omega, hB.out⟩
              · have hgt2 : decide ((n : Int) < 2 * (C : Int)) = false := by simp; omega
                replace ht := Lib.hid (ht.out.trans (if_neg hgt))
                go_wp2_with fail
                go_roundg k
                case measure => omega
                case rel => exact ⟨i + 1, by first | rfl | go_num, by rw [ht.out], by omega, by omega, hB.out⟩
      · have hd : decide ((i : Int) < (m : Int)) = false := by simp; omega
        have e1 : ms.take i = ms := List.take_of_length_le (by have := hm.out; omega)
        rw [e1, hR.out]
        clear e1
        go_wp2_with fail
        go_ret
        exact ⟨rfl, hB⟩
end Go.Proofs.Ytjjdfhokmiaekaa
