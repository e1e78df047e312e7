/-
  The contracts of the reference's Add and Remove (of a conf that may be).
-/
import Derived.Test.YtjjdfhokmiaekaaMember2
namespace Go.Proofs.Ytjjdfhokmiaekaa
open Go.RowKit Go.Lst Go.Lx

theorem rem_take (xs : List Int) (n : Int) (i : Nat) (h : i < xs.length) : rem (xs.take (i + 1)) n = rem (xs.take i) n ++ (if decide (xs.getD i 0 = n) = true then [] else [xs.getD i 0]) := by
  unfold rem
  rw [take_snoc xs i h, List.filter_append]
  simp only [List.filter_cons, List.filter_nil]
  by_cases hx : xs.getD i 0 = n
  · simp [hx]
  · simp [hx]
theorem rem_le (xs : List Int) (n : Int) : (rem xs n).length ≤ xs.length := List.length_filter_le _ _
theorem own_nil (w : World) (B : Nat) (t : TypeId) : w.ownsRow B t 1 (.slice none 0 0) 0 [] := ⟨rfl, .inl ⟨rfl, rfl⟩⟩

set_option maxRecDepth 100000 in
set_option maxHeartbeats 2000000 in
theorem rRemove_calls (v : Value) (xs : List Int) (n : Int) (w : World) (h : Nums .i64 w v xs) (hm : may xs = true) :
    Calls Try.prog 53 #[v, .int .i64 n] w fun e w' => (∃ u, e = .returned (.tuple #[u, .int .i64 (remE xs n : Int)]) ∧ Nums .i64 w' u (remL xs n)) ∧ Below w.heap.size w w' := by
  obtain ⟨E, hE⟩ : ∃ E, remE xs n = E := ⟨_, rfl⟩
  obtain ⟨R, hR⟩ : ∃ R, remL xs n = R := ⟨_, rfl⟩
  have bad : ∀ {w'}, E ≠ 0 → Nums .i64 w' (.slice none 0 0) R := fun h0 => by
    rw [← hR]; unfold remL; rw [hE, if_neg h0]; exact Nums.nil _ _
  rw [hE, hR]
  have hm' : ¬ may xs = false := by rw [hm]; simp
  have C2 := Lib.hid (fun W h => rHas_calls v xs n W h)
  have hN := Lib.hid h
  have hB := Lib.hid (Below.refl w.heap.size w)
  have hmf := may_facts hm
  by_cases h3 : n ∈ xs
  case neg =>
    obtain rfl : 5 = E := by rw [← hE]; unfold remE; rw [if_neg hm', if_pos h3]
    rw [decide_eq_false h3] at C2
    replace bad := @Lib.hid _ @bad
    clear h hE hR hm hm' h3 hmf
    go_enter Try.func53, Try.ntmps53
    go_wp2_with fail
    refine (C2.out _ hN.out).mono ?_
    rintro e w1 ⟨rfl, hb1⟩
    go_wp2_with fail
    go_ret2
    exact ⟨⟨_, rfl, bad.out (by decide)⟩, hb1⟩
  rw [decide_eq_true h3] at C2
  obtain ⟨p, c, rfl, hc1, hc2, hcell⟩ := h.parts
  by_cases h4 : xs.length = 1
  · obtain rfl : 2 = E := by rw [← hE]; unfold remE; rw [if_neg hm', if_neg (fun h => h h3), if_pos h4]
    rw [h4] at C2 hN
    replace bad := @Lib.hid _ @bad
    clear h hE hR hm hm' h3 hmf hcell hc1 hc2
    rw [h4]
    clear h4
    go_enter Try.func53, Try.ntmps53
    go_wp2_with fail
    refine (C2.out _ hN.out).mono ?_
    rintro e w1 ⟨rfl, hb1⟩
    go_wp2_with fail
    go_ret2
    exact ⟨⟨_, rfl, bad.out (by decide)⟩, hb1⟩
  obtain rfl : 0 = E := by rw [← hE]; unfold remE; rw [if_neg hm', if_neg (fun h => h h3), if_neg h4]
  have hR2 : R = rem xs n := by rw [← hR]; unfold remL; rw [hE, if_pos rfl]
  clear bad hE hR hm hm' h3 h
  obtain ⟨hl1, hl7⟩ := hmf.2.2
  clear hmf
  obtain ⟨m, hm0⟩ : ∃ m, xs.length = m := ⟨_, rfl⟩
  rw [hm0] at C2 hN hc1 hl1 hl7 h4 hcell ⊢
  have hm1 : ¬ (m : Int) = 1 := by omega
  have hd1 : ((m : Int) == 1) = false := by simp; omega
  have hm7 : (m : Int) ≤ 7 := by omega
  have hxw := Lib.hid hN.out.2
  obtain ⟨i0, hi, hz0, hz1, hz2⟩ := info_parts infoInt
  replace hm0 := Lib.hid hm0
  replace hR2 := Lib.hid hR2
  replace hc1 := Lib.hid hc1
  replace hc2 := Lib.hid hc2
  replace hl1 := Lib.hid hl1
  replace hcell := Lib.hid hcell
  clear h4
  go_enter Try.func53, Try.ntmps53
  go_wp2_with fail
  refine (C2.out _ hN.out).mono ?_
  rintro e w1 ⟨rfl, hb1⟩
  replace hcell := Lib.hid (fun i h => by obtain ⟨a, ha, hc⟩ := hcell.out i h; exact ⟨a, ha, (cell_below hb1 hc).trans hc⟩ : ∀ i, i < m → ∃ a, p = some a ∧ w1.cell? (a.add i) = some (.int .i64 (xs.getD i 0)))
  replace hb1 : Below w.heap.size w w1 := Lx.bstep (by repeat (first | exact Below.refl _ _ | exact Lx.Ext.below _ | refine Below.drew ?_ | refine below_drewN ?_ _ | (refine Below.alloc ?_ (by first | exact Nat.le_refl _ | (simp; done) | (simp; omega)) _) | (refine Below.setCell ?_ (by first | exact Nat.le_refl _ | (simp; done) | (simp; omega)) _))) (Nat.le_refl _) hb1
  replace hN := Lib.hid (hN.out.below hb1)
  replace hB := Lib.hid (Lx.bstep hB.out (Nat.le_refl _) hb1)
  clear hb1
  go_wp2_with fail
  go_loopg [6, 7] (m + 1) (fun k v6 v7 wr => ∃ i : Nat, v7 = .int .i64 (i : Int) ∧ wr.ownsRow w1.heap.size 3 1 v6 (rem (xs.take i) n).length ((rem (xs.take i) n).map fun x => .int .i64 x) ∧ i ≤ m ∧ m < i + k ∧ Below w1.heap.size w1 wr)
  case atStart => exact ⟨0, rfl, own_nil _ _ _, by omega, by omega, Below.refl _ _⟩
  case round =>
    obtain ⟨i, rfl, hown, hile, hfuel, hb⟩ := hrel
    cases gk with
    | zero => omega
    | succ k =>
      obtain ⟨p6, l6, c6, rfl⟩ := own_slice hown
      have hb' := Lib.hid hb
      have hbs := hb.size
      by_cases hlt : i < m
      · have hlt1 : (i : Int) < (m : Int) := by omega
        have h0 : (0 : Int) ≤ (i : Int) := by omega
        obtain ⟨a, rfl, hca⟩ := hcell.out i hlt
        replace hca := (cell_below hb hca).trans hca
        have ht := Lib.hid (rem_take xs n i (by rw [hm0.out]; exact hlt))
        have hle := rem_le (xs.take i) n
        have hll : (xs.take i).length = i := by rw [List.length_take, hm0.out]; omega
        rw [hll] at hle
        generalize hX : xs.getD i 0 = X at *
        generalize hL : rem (xs.take i) n = L at *
        replace hX := Lib.hid hX
        replace hL := Lib.hid hL
        replace hll := Lib.hid hll
        clear hb
        by_cases hx : X = n
        · rw [decide_eq_true hx] at ht
          rw [hx] at hca ht
          clear hx
          have hb0 : (n != n) = false := by simp
          replace hown := Lib.hid hown
          go_wp2_with fail
          go_roundg k
          case measure => omega
          case rel => exact ⟨i + 1, by first | rfl | go_num, by rw [ht.out]; simpa using hown.out, by omega, by omega, hb'.out⟩
        · rw [decide_eq_false hx] at ht
          have hb0 : (X != n) = true := by simpa using hx
          clear hx
          go_wp2_with (at_builtin; go_loud (refine wpList_append_own _ rfl (.tmp 27) (.tmp 32) 33 rfl w1.heap.size 3 i0 (.int .i64 0) 1 8 Try.underlying33 hi hz0 hz1 hz2 rfl (by decide) _ _ _ rfl (hown.alloc _) ⟨wr.heap.size, 0, none⟩ 1 1 [.int .i64 X] rfl rfl (cell_one_new _ _ _) (by simp [Value.oneCell']) (by unfold maxLen; omega) (by omega) (by simp; omega) ?_; intro v' w2 hown' hgrow _; obtain ⟨g', l', cap', rfl⟩ := own_slice hown'; replace hb' := Lib.hid ((hb'.out.alloc hb'.out.size _).grown hgrow (by have := hb'.out.size; simp; omega) (fun k e => by have := (own_block hown e).1; omega)); replace hown' := Lib.hid hown'; clear hown hgrow))
          go_roundg k
          case measure => omega
          case rel => exact ⟨i + 1, by first | rfl | go_num, by rw [ht.out, List.length_append, List.map_append]; simpa using hown'.out, by omega, by omega, hb'.out⟩
      · have hd : decide ((i : Int) < (m : Int)) = false := by simp; omega
        have e1 : xs.take i = xs := List.take_of_length_le (by have := hm0.out; omega)
        rw [e1, ← hR2.out] at hown
        have hown' := Lib.hid hown
        clear e1 hb hown
        go_wp2_with fail
        go_ret2
        exact ⟨⟨_, rfl, Nums.own hown'.out (fun x hx => hxw.out x (by rw [hR2.out] at hx; exact (List.mem_filter.1 hx).1))⟩, Lx.bstep hB.out (Nat.le_refl _) hb'.out⟩
end Go.Proofs.Ytjjdfhokmiaekaa
