/-
  More of the confs' functions: slices.Index, Contains, member.Has, Majority, Quorum; the reference's Has, Quorum.
-/
import Derived.Test.YtjjdfhokmiaekaaConf
import Derived.Maps.Own
namespace Go.Proofs.Ytjjdfhokmiaekaa
open Go.RowKit Go.Lst

theorem take_snoc (xs : List Int) (i : Nat) (h : i < xs.length) : xs.take (i + 1) = xs.take i ++ [xs.getD i 0] := by
  rw [List.take_add_one, List.getElem?_eq_getElem h, List.getD_eq_getElem?_getD, List.getElem?_eq_getElem h]; rfl
theorem mem_take (xs : List Int) (i : Nat) (h : i < xs.length) (n : Int) : n ∈ xs.take (i + 1) ↔ n ∈ xs.take i ∨ n = xs.getD i 0 := by
  rw [take_snoc xs i h]; simp
theorem getD_mem (xs : List Int) (i : Nat) (h : i < xs.length) : xs.getD i 0 ∈ xs := by
  rw [List.getD_eq_getElem?_getD, List.getElem?_eq_getElem h]; exact List.getElem_mem h

set_option maxRecDepth 100000 in
set_option maxHeartbeats 1000000 in
theorem Index_calls (v : Value) (xs : List Int) (n : Int) (w : World) (h : Nums .i64 w v xs) :
    Calls Try.prog 69 #[v, .int .i64 n] w fun e w' => (∃ i : Int, e = .returned (.int .i64 i) ∧ ((n ∉ xs ∧ i = -1) ∨ (∃ k : Nat, i = (k : Int) ∧ k < xs.length ∧ xs.getD k 0 = n ∧ n ∉ xs.take k))) ∧ Below w.heap.size w w' := by
  obtain ⟨p, c, rfl, hc1, hc2, hcell⟩ := h.parts
  clear h
  go_enter Try.func69, Try.ntmps69
  go_wp2_with fail
  go_loopg [8] (xs.length + 1) (fun k v8 wr => ∃ i : Nat, v8 = .int .i64 (i : Int) ∧ i ≤ xs.length ∧ xs.length < i + k ∧ n ∉ xs.take i ∧ Below w.heap.size w wr)
  case atStart => exact ⟨0, rfl, by omega, by omega, by simp, Below.refl _ _⟩
  case round =>
    obtain ⟨i, rfl, hile, hfuel, hup, hB⟩ := hrel
    cases gk with
    | zero => omega
    | succ k =>
      have hup' := Lib.hid hup
      clear hup
      by_cases hlt : i < xs.length
      · have hlt1 : (i : Int) < (xs.length : Int) := by omega
        have h0 : (0 : Int) ≤ (i : Int) := by omega
        obtain ⟨a, rfl, hca⟩ := hcell i hlt
        replace hca := (cell_below hB hca).trans hca
        have hmt := Lib.hid (mem_take xs i hlt n)
        generalize hX : xs.getD i 0 = X at *
        have hX' := Lib.hid hX
        clear hX
        by_cases hx : n = X
        · have hxb : (n == X) = true := by simp [hx]
          have hx' := Lib.hid hx
          clear hx
          go_wp2_with fail
          go_ret
          exact ⟨⟨_, rfl, .inr ⟨i, rfl, hlt, by rw [hX'.out, hx'.out], hup'.out⟩⟩, hB⟩
        · have hxb : (n == X) = false := beq_eq_false_iff_ne.2 hx
          have hx' := Lib.hid hx
          clear hx
          go_wp2_with fail
          go_roundg k
          case measure => omega
          case rel => exact ⟨i + 1, by rw [IntWalk.wrap64_in _ (by unfold maxLen at *; omega)]; rfl, by omega, by omega, fun h => (hmt.out.1 h).elim hup'.out hx'.out, hB⟩
      · have hd : decide ((i : Int) < (xs.length : Int)) = false := by simp; omega
        have hn : n ∉ xs := by have := hup'.out; rwa [List.take_of_length_le (by omega)] at this
        have hn' := Lib.hid hn
        clear hn
        go_wp2_with fail
        go_ret
        exact ⟨⟨_, rfl, .inl ⟨hn'.out, rfl⟩⟩, hB⟩

set_option maxRecDepth 100000 in
theorem Contains_calls (v : Value) (xs : List Int) (n : Int) (w : World) (h : Nums .i64 w v xs) :
    Calls Try.prog 72 #[v, .int .i64 n] w fun e w' => e = .returned (.bool (decide (n ∈ xs))) ∧ Below w.heap.size w w' := by
  have C1 := Lib.hid (Index_calls v xs n w h)
  clear h
  go_enter Try.func72, Try.ntmps72
  go_wp2_with fail
  refine C1.out.mono ?_
  rintro e w1 ⟨⟨i, rfl, hi⟩, hb1⟩
  have hr : decide (0 ≤ i) = decide (n ∈ xs) := by
    rcases hi with ⟨h1, h2⟩ | ⟨k, h1, h2, h3, _⟩
    · rw [h2, decide_eq_false h1]; rfl
    · have hm : n ∈ xs := h3 ▸ getD_mem xs k h2
      rw [h1, decide_eq_true hm]; simp
  have hr' := Lib.hid hr
  clear hr hi
  go_wp2_with fail
  go_ret
  exact ⟨by rw [← hr'.out]; rfl, hb1⟩
set_option maxRecDepth 100000 in
theorem Has_calls (v : Value) (xs : List Int) (n : Int) (w : World) (h : Nums .i64 w v xs) :
    Calls Try.prog 50 #[v, .int .i64 n] w fun e w' => e = .returned (.bool (decide (n ∈ xs))) ∧ Below w.heap.size w w' := by
  have C1 := Lib.hid (Contains_calls v xs n w h)
  clear h
  generalize decide (n ∈ xs) = r at *
  go_enter Try.func50, Try.ntmps50
  go_wp2_with fail
  refine C1.out.mono ?_
  rintro e w1 ⟨rfl, hb1⟩
  clear C1
  go_wp2_with fail
  go_ret
  exact ⟨rfl, hb1⟩

set_option maxRecDepth 100000 in
set_option maxHeartbeats 1000000 in
theorem rHas_calls (v : Value) (xs : List Int) (n : Int) (w : World) (h : Nums .i64 w v xs) :
    Calls Try.prog 51 #[v, .int .i64 n] w fun e w' => e = .returned (.bool (decide (n ∈ xs))) ∧ Below w.heap.size w w' := by
  obtain ⟨p, c, rfl, hc1, hc2, hcell⟩ := h.parts
  clear h
  obtain ⟨r, hr⟩ : ∃ r, decide (n ∈ xs) = r := ⟨_, rfl⟩
  rw [hr]
  have hr' := Lib.hid hr
  clear hr
  go_enter Try.func51, Try.ntmps51
  go_wp2_with fail
  go_loopg [5] (xs.length + 1) (fun k v5 wr => ∃ i : Nat, v5 = .int .i64 (i : Int) ∧ i ≤ xs.length ∧ xs.length < i + k ∧ n ∉ xs.take i ∧ Below w.heap.size w wr)
  case atStart => exact ⟨0, rfl, by omega, by omega, by simp, Below.refl _ _⟩
  case round =>
    obtain ⟨i, rfl, hile, hfuel, hup, hB⟩ := hrel
    cases gk with
    | zero => omega
    | succ k =>
      have hup' := Lib.hid hup
      clear hup
      by_cases hlt : i < xs.length
      · have hlt1 : (i : Int) < (xs.length : Int) := by omega
        have h0 : (0 : Int) ≤ (i : Int) := by omega
        obtain ⟨a, rfl, hca⟩ := hcell i hlt
        replace hca := (cell_below hB hca).trans hca
        have hmt := Lib.hid (mem_take xs i hlt n)
        generalize hX : xs.getD i 0 = X at *
        have hX' := Lib.hid hX
        clear hX
        by_cases hx : X = n
        · have hxb : (X == n) = true := by simp [hx]
          have hr2 : r = true := by rw [← hr'.out]; exact decide_eq_true (by rw [← hx, ← hX'.out]; exact getD_mem xs i hlt)
          have hr3 := Lib.hid hr2
          clear hx hr2
          go_wp2_with fail
          go_ret
          exact ⟨by rw [hr3.out]; rfl, hB⟩
        · have hxb : (X == n) = false := beq_eq_false_iff_ne.2 hx
          have hx' := Lib.hid hx
          clear hx
          go_wp2_with fail
          go_roundg k
          case measure => omega
          case rel => exact ⟨i + 1, by rw [IntWalk.wrap64_in _ (by unfold maxLen at *; omega)]; rfl, by omega, by omega, fun h => (hmt.out.1 h).elim hup'.out (fun h => hx'.out h.symm), hB⟩
      · have hd : decide ((i : Int) < (xs.length : Int)) = false := by simp; omega
        have hn : r = false := by
          rw [← hr'.out]; refine decide_eq_false ?_
          have := hup'.out; rwa [List.take_of_length_le (by omega)] at this
        have hn' := Lib.hid hn
        clear hn
        go_wp2_with fail
        go_ret
        exact ⟨by rw [hn'.out]; rfl, hB⟩

/-- How many of a conf voted. -/
def cnt (votes conf : List Int) : Nat := (conf.filter fun x => decide (x ∈ votes)).length
theorem cnt_take (votes conf : List Int) (i : Nat) (h : i < conf.length) : cnt votes (conf.take (i + 1)) = cnt votes (conf.take i) + (if decide (conf.getD i 0 ∈ votes) = true then 1 else 0) := by
  unfold cnt
  rw [take_snoc conf i h, List.filter_append, List.length_append]
  simp only [List.filter_cons, List.filter_nil]
  split <;> simp
theorem cnt_le (votes conf : List Int) : cnt votes conf ≤ conf.length := List.length_filter_le _ _
def quorum (votes conf : List Int) : Bool := decide (conf.length < 2 * cnt votes conf)

set_option maxRecDepth 100000 in
set_option maxHeartbeats 1000000 in
theorem rQuorum_calls (v u : Value) (xs ys : List Int) (w : World) (h : Nums .i64 w v xs) (hu : Nums .i64 w u ys) (hy : ys.length ≤ 100000) :
    Calls Try.prog 19 #[v, u] w fun e w' => e = .returned (.bool (quorum xs ys)) ∧ Below w.heap.size w w' := by
  obtain ⟨p, c, rfl, hc1, hc2, hcell⟩ := hu.parts
  clear hu
  have hy1 : (ys.length : Int) ≤ 100000 := by omega
  go_enter Try.func19, Try.ntmps19
  go_wp2_with fail
  go_loopg [5, 6] (ys.length + 1) (fun k v5 v6 wr => ∃ i : Nat, v6 = .int .i64 (i : Int) ∧ v5 = .int .i64 (cnt xs (ys.take i) : Int) ∧ i ≤ ys.length ∧ ys.length < i + k ∧ Below w.heap.size w wr)
  case atStart => exact ⟨0, rfl, rfl, by omega, by omega, Below.refl _ _⟩
  case round =>
    obtain ⟨i, rfl, rfl, hile, hfuel, hB⟩ := hrel
    cases gk with
    | zero => omega
    | succ k =>
      have hcl := cnt_le xs (ys.take i)
      rw [List.length_take] at hcl
      have hcl1 : (cnt xs (ys.take i) : Int) ≤ (i : Int) := by omega
      by_cases hlt : i < ys.length
      · have hlt1 : (i : Int) < (ys.length : Int) := by omega
        have h0 : (0 : Int) ≤ (i : Int) := by omega
        obtain ⟨a, rfl, hca⟩ := hcell i hlt
        replace hca := (cell_below hB hca).trans hca
        have hct := Lib.hid (cnt_take xs ys i hlt)
        have C1 := Lib.hid (rHas_calls v xs (ys.getD i 0) wr (h.below hB))
        generalize ys.getD i 0 = X at *
        generalize decide (X ∈ xs) = t at *
        clear hcl
        go_wp2_with fail
        refine C1.out.mono ?_
        rintro e w1 ⟨rfl, hb1⟩
        clear C1
        cases t with
        | true =>
          go_wp2_with fail
          go_roundg k
          case measure => omega
          case rel => exact ⟨i + 1, by go_num, by rw [hct.out]; simp, by omega, by omega, Lx.bstep hB (Nat.le_refl _) hb1⟩
        | false =>
          go_wp2_with fail
          go_roundg k
          case measure => omega
          case rel => exact ⟨i + 1, by go_num, by rw [hct.out]; simp, by omega, by omega, Lx.bstep hB (Nat.le_refl _) hb1⟩
      · have hd : decide ((i : Int) < (ys.length : Int)) = false := by simp; omega
        have e : ys.take i = ys := List.take_of_length_le (by omega)
        have hq : decide ((ys.length : Int) < 2 * (cnt xs ys : Int)) = quorum xs ys := by
          unfold quorum; rw [Bool.eq_iff_iff]; simp; omega
        have hq' := Lib.hid hq
        rw [e] at *
        have hc3 : (cnt xs ys : Int) ≤ 100000 := by have := cnt_le xs ys; omega
        clear hq e
        go_wp2_with fail
        go_ret
        exact ⟨by rw [← hq'.out]; rfl, hB⟩
end Go.Proofs.Ytjjdfhokmiaekaa
