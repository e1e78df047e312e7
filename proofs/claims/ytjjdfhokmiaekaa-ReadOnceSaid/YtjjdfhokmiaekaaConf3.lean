/-
  member.Majority, member.Quorum (a map that the call makes).
-/
import Derived.Test.YtjjdfhokmiaekaaConf2
import Derived.Maps.OwnOps
import Derived.Maps.Views
import Derived.Carry
namespace Go.Proofs.Ytjjdfhokmiaekaa
open Go.RowKit Go.Lst Go.Maps

set_option maxRecDepth 100000 in
theorem Majority_calls (v : Value) (xs : List Int) (w : World) (h : Nums .i64 w v xs) :
    Calls Try.prog 42 #[v] w fun e w' => e = .returned (if may xs then .tuple #[.int .i64 ((xs.length / 2 + 1 : Nat) : Int), .int .i64 0] else .tuple #[.int .i64 0, .int .i64 2]) ∧ Below w.heap.size w w' := by
  have C1 := Lib.hid (May_calls v xs w h)
  obtain ⟨p, c, rfl, hc1, hc2, _⟩ := h.parts
  clear h
  cases hm : may xs with
  | true =>
    have hl : xs.length ≤ 7 := by simp [may] at hm; omega
    have hl1 : (xs.length : Int) ≤ 7 := by omega
    rw [hm] at C1
    clear hm
    go_enter Try.func42, Try.ntmps42
    go_wp2_with fail
    refine C1.out.mono ?_
    rintro e w1 ⟨rfl, hb1⟩
    go_wp2_with fail
    go_ret2
    exact ⟨by simp, hb1⟩
  | false =>
    rw [hm] at C1
    clear hm
    go_enter Try.func42, Try.ntmps42
    go_wp2_with fail
    refine C1.out.mono ?_
    rintro e w1 ⟨rfl, hb1⟩
    go_wp2_with fail
    go_ret2
    exact ⟨by simp, hb1⟩

/-- Block b is the map of those who voted. -/
def Voted (w : World) (b n : Nat) (ys : List Int) : Prop := ∃ D : DataW Unit, w.ownsMap Try.prog 3 (plainElem Try.prog 3) b n D ∧ IsMap D ∧
  ∀ x : Int, D.atKey (.int .i64 x) (.lit (.int .i64 0)) = .lit (.int .i64 (if x ∈ ys then 1 else 0))
theorem Voted.made (w : World) : Voted (w.alloc (.map #[] 0)) w.heap.size 0 [] := ⟨_, World.ownsMap_made _ _ _ _, ⟨_, rfl⟩, fun x => rfl⟩
theorem isMap_put {D : DataW Unit} (h : IsMap D) (k : Lit) (d : DataW Unit) : IsMap (D.put k d) := by
  obtain ⟨es, rfl⟩ := h
  exact ⟨_, rfl⟩
theorem Voted.kept {w w' : World} {b n : Nat} {ys : List Int} (h : Voted w b n ys) (hb : Below w.heap.size w w') : Voted w' b n ys := by
  obtain ⟨D, h1, h2, h3⟩ := h
  obtain ⟨es, cl, e1, e2, e3, e4⟩ := h1
  exact ⟨D, ⟨es, cl, (hb.block b (Array.getElem?_eq_some_iff.1 e1).1).trans e1, e2, e3, e4⟩, h2, h3⟩
theorem law3 : Keyed Try.prog 3 := int_keyed Try.underlying3
theorem zero3 (w : World) : (zeroValue 3).run Try.prog w = .ok (.int .i64 0) w := by kernel_rfl

set_option maxRecDepth 100000 in
set_option maxHeartbeats 2000000 in
theorem Quorum_calls (v u : Value) (xs ys : List Int) (w : World) (h : Nums .i64 w v xs) (hu : Nums .i64 w u ys) (hm : may ys = true) :
    Calls Try.prog 43 #[v, u] w fun e w' => e = .returned (.tuple #[.bool (quorum xs ys), .int .i64 0]) ∧ Below w.heap.size w w' := by
  have C1 := Lib.hid (Majority_calls u ys w hu)
  rw [hm, if_pos rfl] at C1
  have hl : ys.length ≤ 7 := by simp [may] at hm; omega
  have hwx := Lib.hid h.wf
  have hwy := Lib.hid hu.wf
  obtain ⟨p, c, rfl, hc1, hc2, hcell⟩ := h.parts
  obtain ⟨q, d, rfl, hd1, hd2, hdell⟩ := hu.parts
  clear h hu hm
  have hmm := @run_makeMap Try.prog
  go_enter Try.func43, Try.ntmps43
  go_wp2_with fail
  refine C1.out.mono ?_
  rintro e w1 ⟨rfl, hb1⟩
  clear C1
  go_wp2_with fail
  go_loopg [24] (xs.length + 1) (fun k v24 wr => ∃ i : Nat, v24 = .int .i64 (i : Int) ∧ i ≤ xs.length ∧ xs.length < i + k ∧ Voted wr w1.heap.size i (xs.take i) ∧ Below w1.heap.size w1 wr)
  case atStart => exact ⟨0, rfl, by omega, by omega, Voted.made _, (Below.refl _ _).alloc (Nat.le_refl _) _⟩
  case round =>
    obtain ⟨i, rfl, hile, hfuel, hV, hB⟩ := hrel
    cases gk with
    | zero => omega
    | succ k =>
      by_cases hlt : i < xs.length
      · have hlt1 : (i : Int) < (xs.length : Int) := by omega
        have h0 : (0 : Int) ≤ (i : Int) := by omega
        obtain ⟨a, rfl, hca⟩ := hcell i hlt
        replace hca := (cell_below (Lx.bstep hb1 (Nat.le_refl _) hB) hca).trans hca
        have hmt := Lib.hid (mem_take xs i hlt)
        have hkey : keyOf Try.prog 3 (.int .i64 (xs.getD i 0)) = some (.int .i64 (xs.getD i 0)) := keyOf_int_mk Try.underlying3 (hwx.out i hlt)
        generalize xs.getD i 0 = X at *
        obtain ⟨D, hown, hD, hat⟩ := hV
        have hD' := Lib.hid hD
        have hat' := Lib.hid hat
        clear hD hat
        go_wp2_with (at_mapUpdate; refine wpList_mapUpdate_own _ rfl _ _ _ 101 rfl 3 3 law3 Try.underlying101 _ w1.heap.size i _ rfl hown (by unfold maxLen at *; omega) _ _ _ rfl rfl hkey _ [] (plainElem_int Try.underlying3 (by decide)) ?_; intro w2 hown2 hgrow2)
        go_roundg k
        case measure => omega
        case rel =>
          refine ⟨i + 1, by rw [IntWalk.wrap64_in _ (by unfold maxLen at *; omega)]; rfl, by omega, by omega, ⟨_, hown2, isMap_put hD'.out _ _, fun x => ?_⟩, hB.grown hgrow2 hB.size (fun j hj => by cases hj; exact Nat.le_refl _)⟩
          by_cases hx : x = X
          · subst hx
            rw [atKey_put_same hD'.out (by trivial), if_pos ((hmt.out x).2 (.inr rfl))]
          · rw [atKey_put_other (by simpa using hx), hat'.out x]
            have := hmt.out x
            by_cases hx2 : x ∈ xs.take i
            · rw [if_pos hx2, if_pos (this.2 (.inl hx2))]
            · rw [if_neg hx2, if_neg (fun h => (this.1 h).elim hx2 hx)]
      · have hd : decide ((i : Int) < (xs.length : Int)) = false := by simp; omega
        have e : xs.take i = xs := List.take_of_length_le (by omega)
        rw [e] at hV
        clear hfuel e
        go_wp2_with fail
        go_loopg [6, 33] (ys.length + 1) (fun k v6 v33 wr => ∃ j : Nat, v33 = .int .i64 (j : Int) ∧ v6 = .int .i64 (((ys.length / 2 + 1 : Nat) : Int) - (cnt xs (ys.take j) : Int)) ∧ j ≤ ys.length ∧ ys.length < j + k ∧ Voted wr w1.heap.size i xs ∧ Below w1.heap.size w1 wr)
        case atStart => exact ⟨0, rfl, by simp [cnt], by omega, by omega, hV, hB⟩
        case round =>
          clear hV hB
          obtain ⟨j, rfl, rfl, hjle, hjfuel, hV, hB⟩ := hrel
          have hcl := cnt_le xs (ys.take j)
          rw [List.length_take] at hcl
          have hcl1 : (cnt xs (ys.take j) : Int) ≤ 7 := by omega
          have hcl0 : (0 : Int) ≤ (cnt xs (ys.take j) : Int) := by omega
          have hm7 : ((ys.length / 2 + 1 : Nat) : Int) ≤ 4 := by omega
          have hm0 : (0 : Int) ≤ ((ys.length / 2 + 1 : Nat) : Int) := by omega
          have hq : quorum xs ys = decide (((ys.length / 2 + 1 : Nat) : Int) - (cnt xs ys : Int) ≤ 0) := by
            unfold quorum; rw [Bool.eq_iff_iff]; simp; omega
          have hq' := Lib.hid hq
          clear hq hcl
          generalize ((ys.length / 2 + 1 : Nat) : Int) = M at *
          cases gk with
          | zero => omega
          | succ k2 =>
            by_cases hlt2 : j < ys.length
            · have hlt3 : (j : Int) < (ys.length : Int) := by omega
              have h0 : (0 : Int) ≤ (j : Int) := by omega
              obtain ⟨a, rfl, hca⟩ := hdell j hlt2
              replace hca := (cell_below (Lx.bstep hb1 (Nat.le_refl _) hB) hca).trans hca
              have hct := Lib.hid (cnt_take xs ys j hlt2)
              have hkey : keyOf Try.prog 3 (.int .i64 (ys.getD j 0)) = some (.int .i64 (ys.getD j 0)) := keyOf_int_mk Try.underlying3 (hwy.out j hlt2)
              generalize ys.getD j 0 = X at *
              have hV' := Lib.hid hV
              obtain ⟨D, hown, hD, hat⟩ := hV
              have hatX := Lib.hid (hat X)
              clear hat hD
              have hone : ∀ c : Int, D.atKey (.int .i64 X) (.lit (.int .i64 0)) = .lit (.int .i64 c) → c = if decide (X ∈ xs) = true then 1 else 0 := by
                intro c hc
                rw [hatX.out] at hc
                by_cases hx : X ∈ xs
                · rw [if_pos hx] at hc; rw [if_pos (by simpa using hx)]; injection hc with hc; injection hc with _ hc; exact hc.symm
                · rw [if_neg hx] at hc; rw [if_neg (by simpa using hx)]; injection hc with hc; injection hc with _ hc; exact hc.symm
              have hone' := Lib.hid hone
              clear hone
              go_wp2_with (at_lookup; refine wpList_lookup_own_int _ rfl _ _ 101 rfl 3 3 .i64 law3 Try.underlying101 Try.underlying3 (zero3 _) w1.heap.size i _ rfl hown _ _ rfl hkey ?_; intro c hc hwc; have hc2 := Lib.hid (hone'.out c hc); have hc3 : 0 ≤ c ∧ c ≤ 1 := (by have := hc2.out; split at this <;> omega); clear hc hwc)
              go_roundg k2
              case measure => omega
              case rel =>
                refine ⟨j + 1, by go_num, ?_, by omega, by omega, hV'.out, hB⟩
                rw [hct.out]
                congr 1
                have := hc2.out
                rw [this]
                split <;> omega
            · have hd : decide ((j : Int) < (ys.length : Int)) = false := by simp; omega
              have e : ys.take j = ys := List.take_of_length_le (by omega)
              rw [e] at *
              clear e
              go_wp2_with fail
              go_ret2
              exact ⟨by rw [hq'.out]; rfl, Lx.bstep hb1 (Nat.le_refl _) hB⟩
end Go.Proofs.Ytjjdfhokmiaekaa
