/-
  The contracts of member's BinarySearch, Add, Remove, and of the reference's Same.
-/
import Derived.Test.YtjjdfhokmiaekaaApp
import Derived.Test.YtjjdfhokmiaekaaChain
import Derived.Test.YtjjdfhokmiaekaaAgree
import Derived.WalkSmall
namespace Go.Proofs.Ytjjdfhokmiaekaa
open Go.RowKit Go.Lst Go.Lx

set_option maxRecDepth 100000 in
set_option maxHeartbeats 1000000 in
theorem rSame_calls (v u : Value) (xs ys : List Int) (w : World) (h : Nums .i64 w v xs) (hu : Nums .i64 w u ys) :
    Calls Try.prog 54 #[v, u] w fun e w' => e = .returned (.bool (decide (xs = ys))) ∧ Below w.heap.size w w' := by
  obtain ⟨p, c, rfl, hc1, hc2, hcell⟩ := h.parts
  obtain ⟨q, d, rfl, hd1, hd2, hdell⟩ := hu.parts
  clear h hu
  by_cases hl : xs.length = ys.length
  · obtain ⟨n, hn⟩ : ∃ n, xs.length = n := ⟨_, rfl⟩
    rw [← hl] at hd1 ⊢
    obtain ⟨r, hr⟩ : ∃ r, decide (xs = ys) = r := ⟨_, rfl⟩
    rw [hr]
    rw [hn] at hc1 ⊢
    have hnm : n ≤ maxLen := by omega
    unfold maxLen at hnm
    replace hcell := Lib.hid hcell
    replace hdell := Lib.hid hdell
    replace hl := Lib.hid hl
    replace hn := Lib.hid hn
    replace hr := Lib.hid hr
    replace hc1 := Lib.hid hc1
    replace hc2 := Lib.hid hc2
    replace hd1 := Lib.hid hd1
    replace hd2 := Lib.hid hd2
    have hne : ((n : Int) != (n : Int)) = false := by simp
    go_enter Try.func54, Try.ntmps54
    go_wp2_with fail
    go_loopg [5] (n + 1) (fun k v5 wr => ∃ i : Nat, v5 = .int .i64 (i : Int) ∧ i ≤ n ∧ n < i + k ∧ (∀ j, j < i → xs.getD j 0 = ys.getD j 0) ∧ Below w.heap.size w wr)
    case atStart => exact ⟨0, rfl, by omega, by omega, fun j hj => by omega, Below.refl _ _⟩
    case round =>
      obtain ⟨i, rfl, hile, hfuel, hE, hB⟩ := hrel
      cases gk with
      | zero => omega
      | succ k =>
        by_cases hlt : i < n
        · have hlt1 : (i : Int) < (n : Int) := by omega
          have h0 : (0 : Int) ≤ (i : Int) := by omega
          obtain ⟨a, rfl, hca⟩ := hcell.out i (by rw [hn.out]; exact hlt)
          obtain ⟨b, rfl, hcb⟩ := hdell.out i (by rw [← hl.out, hn.out]; exact hlt)
          replace hca := (cell_below hB hca).trans hca
          replace hcb := (cell_below hB hcb).trans hcb
          have hE' := Lib.hid hE
          replace hB := Lib.hid hB
          clear hE
          by_cases hxy : xs.getD i 0 = ys.getD i 0
          · obtain ⟨X, hX⟩ : ∃ X, xs.getD i 0 = X := ⟨_, rfl⟩
            rw [← hxy] at hcb
            rw [hX] at hca hcb
            have hXY := Lib.hid hxy
            clear hxy hX
            have hb : (X != X) = false := by simp
            go_wp2_with fail
            go_quiet (fail)
            go_wp2_with fail
            go_roundg k
            case measure => omega
            case rel => exact ⟨i + 1, by first | rfl | go_num, by omega, by omega, fun j hj => by
              by_cases e : j = i
              · subst e; exact hXY.out
              · exact hE'.out j (by omega), below_drewN hB.out _⟩
          · have hrf : r = false := by rw [← hr.out]; exact decide_eq_false (fun e => hxy (by rw [e]))
            subst hrf
            have hb : (xs.getD i 0 != ys.getD i 0) = true := by simpa using hxy
            clear hxy
            generalize xs.getD i 0 = X at *
            generalize ys.getD i 0 = Y at *
            go_wp2_with fail
            go_quiet (fail)
            go_wp2_with fail
            go_ret
            exact ⟨rfl, below_drewN hB.out _⟩
        · have hd : decide ((i : Int) < (n : Int)) = false := by simp; omega
          have hrt : r = true := by
            rw [← hr.out]
            refine decide_eq_true (List.ext_getElem hl.out fun j h1 h2 => ?_)
            have := hE j (by have := hn.out; omega)
            rw [List.getD_eq_getElem?_getD, List.getD_eq_getElem?_getD, List.getElem?_eq_getElem h1, List.getElem?_eq_getElem h2] at this
            exact this
          subst hrt
          replace hB := Lib.hid hB
          clear hE
          go_wp2_with fail
          go_ret
          exact ⟨rfl, hB.out⟩
  · have hr : decide (xs = ys) = false := decide_eq_false (fun e => hl (by rw [e]))
    rw [hr]
    have hb : ((xs.length : Int) != (ys.length : Int)) = true := by rw [bne_iff_ne]; omega
    clear hr hcell hdell
    go_enter Try.func54, Try.ntmps54
    go_wp2_with fail
    go_ret
    exact ⟨rfl, Below.refl _ _⟩

set_option maxRecDepth 100000 in
theorem isNaNInt_calls (x : Int) (w : World) : Calls Try.prog 76 #[.int .i64 x] w fun e w' => e = .returned (.bool false) ∧ w = w' := by
  go_enter Try.func76, Try.ntmps76
  go_wp2_with fail
  go_ret
  exact ⟨by simp, rfl⟩
set_option maxRecDepth 100000 in
theorem isNaNInt2_calls (x : Int) (w : World) : Calls Try.prog 80 #[.int .i64 x] w fun e w' => e = .returned (.bool false) ∧ w = w' := by
  go_enter Try.func80, Try.ntmps80
  go_wp2_with fail
  go_ret
  exact ⟨by simp, rfl⟩
set_option maxRecDepth 100000 in
theorem LessInt_calls (x y : Int) (w : World) : Calls Try.prog 75 #[.int .i64 x, .int .i64 y] w fun e w' => e = .returned (.bool (decide (x < y))) ∧ w = w' := by
  obtain ⟨r, hr⟩ : ∃ r, decide (x < y) = r := ⟨_, rfl⟩
  rw [hr]
  go_enter Try.func75, Try.ntmps75
  go_wp2_with (go_at_call 80; refine (isNaNInt2_calls _ _).mono ?_; rintro e w1 ⟨rfl, rfl⟩)
  go_ret
  exact ⟨rfl, rfl⟩

set_option maxRecDepth 100000 in
set_option maxHeartbeats 2000000 in
/-- Where a number that is not there would stand. -/
theorem BinarySearch_calls (v : Value) (xs : List Int) (n : Int) (w : World) (h : Nums .i64 w v xs) (hs : xs.Pairwise (· < ·)) (hn : n ∉ xs) (hl : xs.length ≤ 100) :
    Calls Try.prog 68 #[v, .int .i64 n] w fun e w' => (∃ (at_ : Nat) (b : Bool), e = .returned (.tuple #[.int .i64 (at_ : Int), .bool b]) ∧ at_ ≤ xs.length ∧ (∀ k, k < at_ → xs.getD k 0 < n) ∧ (∀ k, at_ ≤ k → k < xs.length → n < xs.getD k 0)) ∧ Below w.heap.size w w' := by
  obtain ⟨p, c, rfl, hc1, hc2, hcell⟩ := h.parts
  have hord : ∀ i j, i < j → j < xs.length → xs.getD i 0 < xs.getD j 0 := fun i j h1 h2 => by
    have := List.pairwise_iff_getElem.1 hs i j (by omega) h2 h1
    rw [List.getD_eq_getElem?_getD, List.getD_eq_getElem?_getD, List.getElem?_eq_getElem h2, List.getElem?_eq_getElem (show i < xs.length by omega)]
    exact this
  have hnot : ∀ k, k < xs.length → xs.getD k 0 ≠ n := fun k hk e => hn (by
    rw [← e, List.getD_eq_getElem?_getD, List.getElem?_eq_getElem hk]; exact List.getElem_mem hk)
  obtain ⟨m, hm⟩ : ∃ m, xs.length = m := ⟨_, rfl⟩
  rw [hm] at hl hc1 hord hnot hcell ⊢
  have hl0 : (m : Int) ≤ 100 := by omega
  replace hord := Lib.hid hord
  replace hnot := Lib.hid hnot
  replace hcell := Lib.hid hcell
  replace hm := Lib.hid hm
  replace hc1 := Lib.hid hc1
  replace hc2 := Lib.hid hc2
  clear h hs hn
  go_enter Try.func68, Try.ntmps68
  go_wp2_with fail
  go_loopg [7, 8] (m + 1) (fun k v7 v8 wr => ∃ i j : Nat, v7 = .int .i64 (i : Int) ∧ v8 = .int .i64 (j : Int) ∧ i ≤ j ∧ j ≤ m ∧ j - i < k ∧ (∀ q, q < i → xs.getD q 0 < n) ∧ (∀ q, j ≤ q → q < m → n < xs.getD q 0) ∧ Below w.heap.size w wr)
  case atStart => exact ⟨0, m, rfl, rfl, by omega, by omega, by omega, fun q hq => by omega, fun q h1 h2 => by omega, Below.refl _ _⟩
  case round =>
    obtain ⟨i, j, rfl, rfl, hij, hjm, hfuel, hlo, hhi, hB⟩ := hrel
    cases gk with
    | zero => omega
    | succ k =>
      by_cases hlt : i < j
      · have hlt1 : (i : Int) < (j : Int) := by omega
        have hj100 : (j : Int) ≤ 100 := by omega
        have hi0 : (0 : Int) ≤ (i : Int) := by omega
        have hh : ((i : Int) + (j : Int)) / 2 = (((i + j) / 2 : Nat) : Int) := by omega
        have h1 : i ≤ (i + j) / 2 := by omega
        have h2 : (i + j) / 2 < j := by omega
        generalize (i + j) / 2 = q at *
        have hq1 : (q : Int) < (m : Int) := by omega
        have hq0 : (0 : Int) ≤ (q : Int) := by omega
        obtain ⟨a, rfl, hca⟩ := hcell.out q (by omega)
        replace hca := (cell_below hB hca).trans hca
        have ho1 := Lib.hid (fun r (h : r < q) => hord.out r q h (by omega))
        have ho2 := Lib.hid (fun r (h : q < r) (h' : r < m) => hord.out q r h h')
        have hnq := Lib.hid (hnot.out q (by omega))
        obtain ⟨X, hX⟩ : ∃ X, xs.getD q 0 = X := ⟨_, rfl⟩
        rw [hX] at hca ho1 ho2 hnq
        replace hX := Lib.hid hX
        replace hlo := Lib.hid hlo
        replace hhi := Lib.hid hhi
        replace hB := Lib.hid hB
        have LC := Lib.hid (fun W => LessInt_calls X n W)
        by_cases hx : X < n
        · rw [decide_eq_true hx] at LC
          have hx' := Lib.hid hx
          clear hx
          go_wp2_with fail
          refine (LC.out _).mono ?_
          rintro e w1 ⟨rfl, rfl⟩
          go_wp2_with fail
          go_roundg k
          case measure => omega
          case rel => exact ⟨q + 1, j, by first | rfl | go_num, rfl, by omega, by omega, by omega, fun r hr => by
            by_cases e : r = q
            · subst e; rw [hX.out]; exact hx'.out
            · exact Int.lt_trans (ho1.out r (by omega)) hx'.out, hhi.out, hB.out⟩
        · rw [decide_eq_false hx] at LC
          have hx' := Lib.hid hx
          clear hx
          go_wp2_with fail
          refine (LC.out _).mono ?_
          rintro e w1 ⟨rfl, rfl⟩
          go_wp2_with fail
          go_roundg k
          case measure => omega
          case rel => exact ⟨i, q, rfl, rfl, by omega, by omega, by omega, hlo.out, fun r hr hr' => by
            have h7 : n < X := by have := hx'.out; have := hnq.out; omega
            by_cases e : r = q
            · subst e; rw [hX.out]; exact h7
            · exact Int.lt_trans h7 (ho2.out r (by omega) hr'), hB.out⟩
      · have hd : decide ((i : Int) < (j : Int)) = false := by simp; omega
        have e : i = j := by omega
        subst e
        replace hlo := Lib.hid hlo; replace hhi := Lib.hid hhi; replace hB := Lib.hid hB
        by_cases him : i < m
        · have him1 : (i : Int) < (m : Int) := by omega
          have hi0 : (0 : Int) ≤ (i : Int) := by omega
          obtain ⟨a, rfl, hca⟩ := hcell.out i (by omega)
          replace hca := (cell_below hB.out hca).trans hca
          have hne : (xs.getD i 0 == n) = false := beq_eq_false_iff_ne.2 (hnot.out i him)
          generalize xs.getD i 0 = X at *
          go_wp2_with (go_at_call 76; refine (isNaNInt_calls _ _).mono ?_; rintro e w1 ⟨rfl, rfl⟩)
          go_ret2
          exact ⟨⟨i, _, rfl, hjm, hlo.out, hhi.out⟩, hB.out⟩
        · have hd2 : decide ((i : Int) < (m : Int)) = false := by simp; omega
          go_wp2_with fail
          go_ret2
          exact ⟨⟨i, _, rfl, hjm, hlo.out, hhi.out⟩, hB.out⟩

def addE (conf : List Int) (n : Int) : Nat := if may conf = false ∨ n < 1 ∨ 64 < n then 2 else if n ∈ conf then 7 else if 7 ≤ conf.length then 6 else 0
def ins (conf : List Int) (n : Int) : List Int := conf.filter (fun x => decide (x < n)) ++ [n] ++ conf.filter (fun x => decide (n < x))
def addL (conf : List Int) (n : Int) : List Int := if addE conf n = 0 then ins conf n else []
theorem ins_at {xs : List Int} {n : Int} {k : Nat} (h1 : ∀ i, i < k → xs.getD i 0 < n) (h2 : ∀ i, k ≤ i → i < xs.length → n < xs.getD i 0) (hk : k ≤ xs.length) : ins xs n = xs.take k ++ [n] ++ xs.drop k := by
  have ht : ∀ x ∈ xs.take k, x < n := fun x hx => by
    obtain ⟨i, hi, rfl⟩ := List.mem_iff_getElem.1 hx
    rw [List.length_take] at hi
    have := h1 i (by omega)
    rw [List.getD_eq_getElem?_getD, List.getElem?_eq_getElem (by omega)] at this
    simpa using this
  have hd : ∀ x ∈ xs.drop k, n < x := fun x hx => by
    obtain ⟨i, hi, rfl⟩ := List.mem_iff_getElem.1 hx
    rw [List.length_drop] at hi
    have := h2 (k + i) (by omega) (by omega)
    rw [List.getD_eq_getElem?_getD, List.getElem?_eq_getElem (by omega)] at this
    simpa using this
  have e : xs = xs.take k ++ xs.drop k := (List.take_append_drop k xs).symm
  unfold ins
  have f1 : xs.filter (fun x => decide (x < n)) = xs.take k := by
    conv => lhs; rw [e]
    rw [List.filter_append, List.filter_eq_self.2 (fun x hx => by simpa using ht x hx), List.filter_eq_nil_iff.2 (fun x hx => by have := hd x hx; simp; omega), List.append_nil]
  have f2 : xs.filter (fun x => decide (n < x)) = xs.drop k := by
    conv => lhs; rw [e]
    rw [List.filter_append, List.filter_eq_nil_iff.2 (fun x hx => by have := ht x hx; simp; omega), List.filter_eq_self.2 (fun x hx => by simpa using hd x hx), List.nil_append]
  rw [f1, f2]
theorem nums_upto {k : IntKind} {w : World} {p : Option Addr} {xs : List Int} {n c : Nat} (h : Nums k w (.slice p n c) xs) (j : Nat) (hj : j ≤ xs.length) : Nums k w (.slice p j j) (xs.take j) := by
  obtain ⟨q, d, e, h1, h2, h3⟩ := h.1
  injection e with e1 e2 e3
  subst e1 e3
  rw [List.length_map] at h1
  have el : (xs.take j).length = j := by rw [List.length_take]; omega
  refine ⟨⟨p, j, by rw [List.length_map, el], by rw [List.length_map, el]; exact Nat.le_refl _, by omega, fun i hi => ?_⟩, fun x hx => h.2 x (List.mem_of_mem_take hx)⟩
  rw [List.length_map, el] at hi
  obtain ⟨a, ha, hc⟩ := h3 i (by rw [List.length_map]; omega)
  exact ⟨a, ha, by rw [hc]; simp⟩
theorem nums_from {k : IntKind} {w : World} {a : Addr} {xs : List Int} {n c : Nat} (h : Nums k w (.slice (some a) n c) xs) (j : Nat) (hj : j ≤ xs.length) : Nums k w (.slice (some (a.add j)) (xs.length - j) (c - j)) (xs.drop j) := by
  obtain ⟨q, d, e, h1, h2, h3⟩ := h.1
  injection e with e1 e2 e3
  subst e1 e3
  rw [List.length_map] at h1
  refine ⟨⟨some (a.add j), c - j, by rw [List.length_map, List.length_drop], by rw [List.length_map, List.length_drop]; omega, by omega, fun i hi => ⟨_, rfl, ?_⟩⟩, fun x hx => h.2 x (List.mem_of_mem_drop hx)⟩
  rw [List.length_map, List.length_drop] at hi
  obtain ⟨b, hb, hc⟩ := h3 (j + i) (by rw [List.length_map]; omega)
  cases hb
  rw [Lst.add_add, hc]; simp
end Go.Proofs.Ytjjdfhokmiaekaa
