/-
  The contracts of Agreed and of the reference's Agreed.
-/
import Derived.Test.YtjjdfhokmiaekaaMember3
import Derived.Test.YtjjdfhokmiaekaaConf3
import Derived.Test.YtjjdfhokmiaekaaSorted
namespace Go.Proofs.Ytjjdfhokmiaekaa
open Go.RowKit Go.Lst Go.Lx Go.Srt

/-- How many of a list are at least x. -/
def cntG (ms : List Int) (x : Int) : Nat := (ms.filter fun y => decide (x ≤ y)).length
def agr (ms : List Int) (n : Nat) (l : List Int) : Int := l.foldl (fun b x => if n < 2 * cntG ms x then max b x else b) 0
theorem agr_snoc (ms : List Int) (n : Nat) (i : Nat) (h : i < ms.length) : agr ms n (ms.take (i + 1)) = if n < 2 * cntG ms (ms.getD i 0) then max (agr ms n (ms.take i)) (ms.getD i 0) else agr ms n (ms.take i) := by
  unfold agr; rw [take_snoc ms i h, List.foldl_append]; rfl
theorem cntG_snoc (ms : List Int) (x : Int) (j : Nat) (h : j < ms.length) : cntG (ms.take (j + 1)) x = cntG (ms.take j) x + if decide (x ≤ ms.getD j 0) = true then 1 else 0 := by
  unfold cntG; rw [take_snoc ms j h, List.filter_append, List.length_append]
  simp only [List.filter_cons, List.filter_nil]
  by_cases hx : x ≤ ms.getD j 0
  · simp only [decide_eq_true hx, if_true]; rfl
  · simp only [decide_eq_false hx]; rfl
theorem agr_le {ms : List Int} {n : Nat} {x : Int} (h0 : 0 ≤ x) : ∀ l : List Int, (∀ y ∈ l, x < y → 2 * cntG ms y ≤ n) → agr ms n l ≤ x ∧ 0 ≤ agr ms n l := by
  intro l
  suffices ∀ (l : List Int) (b : Int), 0 ≤ b → b ≤ x → (∀ y ∈ l, x < y → 2 * cntG ms y ≤ n) → l.foldl (fun b x => if n < 2 * cntG ms x then max b x else b) b ≤ x ∧ 0 ≤ l.foldl (fun b x => if n < 2 * cntG ms x then max b x else b) b from this l 0 (Int.le_refl _) h0
  intro l
  induction l with
  | nil => exact fun b h1 h2 _ => ⟨h2, h1⟩
  | cons y l ih =>
    intro b h1 h2 h3
    simp only [List.foldl_cons]
    have h4 := h3 y (List.mem_cons_self)
    split
    · rename_i h
      have : y ≤ x := by by_cases hh : x < y; · have := h4 hh; omega
                         · omega
      exact ih _ (by omega) (by omega) (fun z hz => h3 z (List.mem_cons_of_mem _ hz))
    · exact ih _ h1 h2 (fun z hz => h3 z (List.mem_cons_of_mem _ hz))
theorem agr_ge {ms : List Int} {n : Nat} {x : Int} (hx : n < 2 * cntG ms x) : ∀ l : List Int, x ∈ l → x ≤ agr ms n l := by
  have mono : ∀ (l : List Int) (b : Int), b ≤ l.foldl (fun b x => if n < 2 * cntG ms x then max b x else b) b := by
    intro l
    induction l with
    | nil => exact fun b => Int.le_refl _
    | cons y l ih =>
      intro b
      simp only [List.foldl_cons]
      refine Int.le_trans ?_ (ih _)
      split <;> omega
  suffices ∀ (l : List Int) (b : Int), x ∈ l → x ≤ l.foldl (fun b x => if n < 2 * cntG ms x then max b x else b) b from fun l => this l 0
  intro l
  induction l with
  | nil => exact fun b h => by cases h
  | cons y l ih =>
    intro b h
    simp only [List.foldl_cons]
    rcases List.mem_cons.1 h with rfl | h
    · rw [if_pos hx]; exact Int.le_trans (by omega) (mono _ _)
    · exact ih _ h
theorem agr_eq {ms : List Int} {n : Nat} {x : Int} (h0 : ∀ y ∈ ms, 0 ≤ y) (h1 : x ∈ ms) (h2 : n < 2 * cntG ms x) (h3 : ∀ y ∈ ms, x < y → 2 * cntG ms y ≤ n) : agr ms n ms = x :=
  Int.le_antisymm (agr_le (h0 x h1) ms h3).1 (agr_ge h2 ms h1)

/-- How many are greater. -/
def cntM (ms : List Int) (x : Int) : Nat := (ms.filter fun y => decide (x < y)).length
theorem cntG_le_cntM (ms : List Int) {x y : Int} (h : x < y) : cntG ms y ≤ cntM ms x := by
  unfold cntG cntM
  rw [← List.countP_eq_length_filter, ← List.countP_eq_length_filter]
  exact List.countP_mono_left fun z _ hz => by simp at hz ⊢; omega
theorem sorted_counts {ms ys : List Int} (hp : ys.Perm ms) (hs : Sorted ys ys.length) {k : Nat} (hk : k < ys.length) : ys.length - k ≤ cntG ms (ys.getD k 0) ∧ cntM ms (ys.getD k 0) ≤ ys.length - k - 1 := by
  have hge : ∀ z ∈ ys.drop k, ys.getD k 0 ≤ z := fun z hz => by
    obtain ⟨i, hi, rfl⟩ := List.mem_iff_getElem.1 hz
    rw [List.length_drop] at hi
    rw [List.getElem_drop]
    by_cases h : i = 0
    · subst h; rw [List.getD_eq_getElem?_getD, List.getElem?_eq_getElem hk]; exact Int.le_refl _
    · have := hs k (k + i) (by omega) (by omega)
      rw [List.getD_eq_getElem?_getD (i := k + i), List.getElem?_eq_getElem (by omega)] at this
      exact this
  have hle : ∀ z ∈ ys.take (k + 1), z ≤ ys.getD k 0 := fun z hz => by
    obtain ⟨i, hi, rfl⟩ := List.mem_iff_getElem.1 hz
    rw [List.length_take] at hi
    rw [List.getElem_take]
    by_cases h : i = k
    · subst h; rw [List.getD_eq_getElem?_getD, List.getElem?_eq_getElem hk]; exact Int.le_refl _
    · have := hs i k (by omega) (by omega)
      rw [List.getD_eq_getElem?_getD (i := i), List.getElem?_eq_getElem (by omega)] at this
      exact this
  have e1 : cntG ms (ys.getD k 0) = cntG ys (ys.getD k 0) := by unfold cntG; exact (hp.filter _).length_eq.symm
  have e2 : cntM ms (ys.getD k 0) = cntM ys (ys.getD k 0) := by unfold cntM; exact (hp.filter _).length_eq.symm
  rw [e1, e2]
  generalize ys.getD k 0 = x at *
  constructor
  · unfold cntG
    conv => rhs; rw [← List.take_append_drop k ys]
    rw [List.filter_append, List.length_append, List.filter_eq_self.2 (fun z hz => decide_eq_true (hge z hz)), List.length_drop]
    omega
  · unfold cntM
    conv => lhs; rw [← List.take_append_drop (k + 1) ys]
    rw [List.filter_append, List.length_append, List.filter_eq_nil_iff.2 (fun z hz => by have := hle z hz; simp; omega)]
    have := List.length_filter_le (fun y => decide (x < y)) (ys.drop (k + 1))
    rw [List.length_drop] at this
    simp
    omega

set_option maxRecDepth 100000 in
set_option maxHeartbeats 2000000 in
theorem Agreed_calls (v u : Value) (ms cs : List Int) (w : World) (h : Nums .u64 w v ms) (hu : Nums .i64 w u cs) :
    Calls Try.prog 46 #[v, u] w fun e w' => (∃ x : Int, e = .returned (.tuple #[.int .u64 x, .int .i64 (if may cs = true ∧ ms.length = cs.length then 0 else 2)]) ∧ (if may cs = true ∧ ms.length = cs.length then x ∈ ms ∧ cs.length < 2 * cntG ms x ∧ 2 * cntM ms x ≤ cs.length else x = 0)) ∧ Below w.heap.size w w' := by
  have C1 := Lib.hid (Majority_calls u cs w hu)
  have hN := Lib.hid h
  cases hm : may cs with
  | false =>
    rw [hm] at C1
    replace C1 : Hid (Calls Try.prog 42 #[u] w fun e w' => e = .returned (.tuple #[.int .i64 0, .int .i64 2]) ∧ Below w.heap.size w w') := Lib.hid (by simpa using C1.out)
    simp only [Bool.false_eq_true, false_and, if_false]
    clear h hu hm
    go_enter Try.func46, Try.ntmps46
    go_wp2_with fail
    refine C1.out.mono ?_
    rintro e w1 ⟨rfl, hb1⟩
    go_wp2_with fail
    go_ret2
    exact ⟨⟨_, rfl, rfl⟩, hb1⟩
  | true =>
    have hl7 := (may_facts hm).2.2.2
    have hl1 := (may_facts hm).2.2.1
    rw [hm] at C1
    simp only [true_and]
    obtain ⟨p, c, rfl, hc1, hc2, -⟩ := h.parts
    obtain ⟨q, d, rfl, hd1, hd2, -⟩ := hu.parts
    clear h hu hm
    generalize hn : cs.length = n at *
    replace C1 : Hid (Calls Try.prog 42 #[.slice q n d] w fun e w' => e = .returned (.tuple #[.int .i64 ((n / 2 + 1 : Nat) : Int), .int .i64 0]) ∧ Below w.heap.size w w') := Lib.hid (by simpa using C1.out)
    obtain ⟨M, hM⟩ : ∃ M : Nat, n / 2 + 1 = M := ⟨_, rfl⟩
    rw [hM] at C1
    by_cases hl : ms.length = n
    case neg =>
      simp only [hl, if_false]
      generalize hk : ms.length = k at *
      have hkn : ¬ (k : Int) = (n : Int) := by omega
      have hd0 : decide ((k : Int) = (n : Int)) = false := decide_eq_false hkn
      clear hl
      replace hc1 := Lib.hid hc1
      replace hc2 := Lib.hid hc2
      replace hd1 := Lib.hid hd1
      replace hd2 := Lib.hid hd2
      replace hM := Lib.hid hM
      replace hk := Lib.hid hk
      replace hn := Lib.hid hn
      go_enter Try.func46, Try.ntmps46
      go_wp2_with fail
      refine C1.out.mono ?_
      rintro e w1 ⟨rfl, hb1⟩
      go_wp2_with fail
      go_ret2
      exact ⟨⟨_, rfl, rfl⟩, hb1⟩
    case pos =>
      simp only [hl, if_true]
      have C2 := Lib.hid (fun W => Values_calls (.slice p n c) rfl rfl W)
      have C3 := Lib.hid (fun W hx => Sorted_calls ms (.slice p n c) W hx (by omega) (by omega))
      rw [hl] at hN hc1
      have hM4 : (M : Int) ≤ n := by omega
      have hM1 : (1 : Int) ≤ (M : Int) := by omega
      replace hc1 := Lib.hid hc1
      replace hc2 := Lib.hid hc2
      replace hd1 := Lib.hid hd1
      replace hd2 := Lib.hid hd2
      replace hM := Lib.hid hM
      replace hn := Lib.hid hn
      replace hl := Lib.hid hl
      go_enter Try.func46, Try.ntmps46
      go_wp2_with fail
      refine C1.out.mono ?_
      rintro e w1 ⟨rfl, hb1⟩
      have hB := Lib.hid (Below.refl w.heap.size w)
      replace hb1 : Below w.heap.size w w1 := Lx.bstep (by repeat (first | exact Below.refl _ _ | exact Lx.Ext.below _ | refine Below.drew ?_ | refine below_drewN ?_ _ | (refine Below.alloc ?_ (by first | exact Nat.le_refl _ | (simp; done) | (simp; omega)) _) | (refine Below.setCell ?_ (by first | exact Nat.le_refl _ | (simp; done) | (simp; omega)) _))) (Nat.le_refl _) hb1
      replace hN := Lib.hid (hN.out.below hb1)
      replace hB := Lib.hid (Lx.bstep hB.out (Nat.le_refl _) hb1)
      clear hb1
      go_wp2_with fail
      refine (C2.out _).mono ?_
      rintro e w2 ⟨rfl, rfl⟩
      go_wp2_with fail
      refine (C3.out _ hN.out).mono ?_
      rintro e w2 ⟨u, ys, rfl, hy, hP, hS, hb2⟩
      replace hb2 : Below w1.heap.size w1 w2 := Lx.bstep (by repeat (first | exact Below.refl _ _ | exact Lx.Ext.below _ | refine Below.drew ?_ | refine below_drewN ?_ _ | (refine Below.alloc ?_ (by first | exact Nat.le_refl _ | (simp; done) | (simp; omega)) _) | (refine Below.setCell ?_ (by first | exact Nat.le_refl _ | (simp; done) | (simp; omega)) _))) (Nat.le_refl _) hb2
      replace hB := Lib.hid (Lx.bstep hB.out (Nat.le_refl _) hb2)
      clear hb2
      obtain ⟨g, cap, rfl, k1, k2, hcell⟩ := hy.parts
      have hyl : ys.length = n := by rw [hP.length_eq]; exact hl.out
      rw [hyl] at k1 hcell ⊢
      obtain ⟨a, ha, hca⟩ := hcell (n - M) (by omega)
      have hfin := Lib.hid (sorted_counts hP hS (k := n - M) (by omega))
      have hmem : ys.getD (n - M) 0 ∈ ms := hP.mem_iff.1 (by rw [List.getD_eq_getElem?_getD, List.getElem?_eq_getElem (by omega)]; exact List.getElem_mem _)
      subst ha
      obtain ⟨K, hK⟩ : ∃ K : Nat, n - M = K := ⟨_, rfl⟩
      rw [hK] at hca hfin hmem
      have hKn : (n : Int) - (M : Int) = (K : Int) := by omega
      have hK1 : (K : Int) < (n : Int) := by omega
      have hK0 : (0 : Int) ≤ (K : Int) := by omega
      replace hP := Lib.hid hP
      replace hS := Lib.hid hS
      replace hyl := Lib.hid hyl
      replace hK := Lib.hid hK
      replace hmem := Lib.hid hmem
      replace k1 := Lib.hid k1
      replace k2 := Lib.hid k2
      replace hy := Lib.hid hy
      clear hcell
      generalize hX : ys.getD K 0 = X at *
      go_wp2_with fail
      go_ret2
      refine ⟨⟨X, rfl, hmem.out, ?_, ?_⟩, hB.out⟩
      · have := hfin.out.1; have := hyl.out; have := hK.out; have := hM.out; omega
      · have := hfin.out.2; have := hyl.out; have := hK.out; have := hM.out; omega
end Go.Proofs.Ytjjdfhokmiaekaa
