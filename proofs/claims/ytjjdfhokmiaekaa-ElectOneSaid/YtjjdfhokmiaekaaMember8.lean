/-
  The contract of the reference's Add (of a conf that may be).
-/
import Derived.Test.YtjjdfhokmiaekaaMember7
namespace Go.Proofs.Ytjjdfhokmiaekaa
open Go.RowKit Go.Lst Go.Lx

theorem mem_ins {xs : List Int} {n x : Int} (hn : n ∉ xs) : x ∈ ins xs n ↔ x = n ∨ x ∈ xs := by
  unfold ins
  simp only [List.mem_append, List.mem_filter, List.mem_singleton, decide_eq_true_eq]
  constructor
  · rintro ((⟨h, _⟩ | h) | ⟨h, _⟩)
    · exact .inr h
    · exact .inl h
    · exact .inr h
  · rintro (h | h)
    · exact .inl (.inr h)
    · rcases Int.lt_trichotomy x n with h1 | h1 | h1
      · exact .inl (.inl ⟨h, h1⟩)
      · exact absurd (h1 ▸ h) hn
      · exact .inr ⟨h, h1⟩
theorem ins_pairwise {xs : List Int} (h : xs.Pairwise (· < ·)) (n : Int) : (ins xs n).Pairwise (· < ·) := by
  unfold ins
  rw [List.pairwise_append, List.pairwise_append]
  refine ⟨⟨h.filter _, List.pairwise_singleton _ _, fun a ha b hb => ?_⟩, h.filter _, fun a ha b hb => ?_⟩
  · simp at ha hb; omega
  · simp at ha hb; omega
theorem below_snoc {l : List Int} (h : l.Pairwise (· < ·)) (K : Int) : l.filter (fun x => decide (x < K + 1)) = l.filter (fun x => decide (x < K)) ++ if K ∈ l then [K] else [] := by
  induction l with
  | nil => rfl
  | cons a l ih =>
    obtain ⟨h1, h2⟩ := List.pairwise_cons.1 h
    have ih := ih h2
    simp only [List.filter_cons]
    rcases Int.lt_trichotomy a K with h3 | h3 | h3
    · rw [if_pos (by simp; omega), if_pos (by simpa using h3), ih]
      have : (K ∈ a :: l) ↔ K ∈ l := by simp; omega
      simp only [this, List.cons_append]
    · have e1 : l.filter (fun x => decide (x < K + 1)) = [] := List.filter_eq_nil_iff.2 (fun x hx => by have := h1 x hx; simp; omega)
      have e2 : l.filter (fun x => decide (x < K)) = [] := List.filter_eq_nil_iff.2 (fun x hx => by have := h1 x hx; simp; omega)
      rw [if_pos (by simp; omega), if_neg (by simp; omega), e1, e2, if_pos (by simp [h3])]
      simp [h3]
    · have e1 : l.filter (fun x => decide (x < K + 1)) = [] := List.filter_eq_nil_iff.2 (fun x hx => by have := h1 x hx; simp; omega)
      have e2 : l.filter (fun x => decide (x < K)) = [] := List.filter_eq_nil_iff.2 (fun x hx => by have := h1 x hx; simp; omega)
      rw [if_neg (by simp; omega), if_neg (by simp; omega), e1, e2, if_neg]
      · rfl
      · intro hm
        rcases List.mem_cons.1 hm with h4 | h4
        · omega
        · have := h1 K h4; omega
theorem ins_length (xs : List Int) (n : Int) : (ins xs n).length ≤ 2 * xs.length + 1 := by
  unfold ins
  have h1 := List.length_filter_le (fun x => decide (x < n)) xs
  have h2 := List.length_filter_le (fun x => decide (n < x)) xs
  simp only [List.length_append, List.length_singleton]
  omega
/-- What the reference has gathered ahead of i. -/
def pre (xs : List Int) (n : Int) (i : Nat) : List Int := (ins xs n).filter fun x => decide (x < (i : Int))
theorem pre_length (xs : List Int) (n : Int) (i : Nat) : (pre xs n i).length ≤ 2 * xs.length + 1 := Nat.le_trans (List.length_filter_le _ _) (ins_length xs n)
theorem pre_succ {xs : List Int} {n : Int} (h : xs.Pairwise (· < ·)) (hn : n ∉ xs) (i : Nat) : pre xs n (i + 1) = pre xs n i ++ if (i : Int) = n ∨ (i : Int) ∈ xs then [(i : Int)] else [] := by
  unfold pre
  have e : ((i + 1 : Nat) : Int) = (i : Int) + 1 := by omega
  rw [e, below_snoc (ins_pairwise h n)]
  simp only [mem_ins hn]

set_option maxRecDepth 100000 in
set_option maxHeartbeats 2000000 in
theorem rAdd_calls (v : Value) (xs : List Int) (n : Int) (w : World) (h : Nums .i64 w v xs) (hm : may xs = true) (hn : (Lit.int .i64 n).wf = true) :
    Calls Try.prog 52 #[v, .int .i64 n] w fun e w' => (∃ u, e = .returned (.tuple #[u, .int .i64 (addE xs n : Int)]) ∧ Nums .i64 w' u (addL xs n)) ∧ Below w.heap.size w w' := by
  obtain ⟨E, hE⟩ : ∃ E, addE xs n = E := ⟨_, rfl⟩
  obtain ⟨R, hR⟩ : ∃ R, addL xs n = R := ⟨_, rfl⟩
  have bad : ∀ {w'}, E ≠ 0 → Nums .i64 w' (.slice none 0 0) R := fun h0 => by
    rw [← hR]; unfold addL; rw [hE, if_neg h0]; exact Nums.nil _ _
  rw [hE, hR]
  have hmf := may_facts hm
  have hN := Lib.hid h
  by_cases h1 : n < 1
  · obtain rfl : 2 = E := by rw [← hE]; unfold addE; rw [if_pos (.inr (.inl h1))]
    replace bad := @Lib.hid _ @bad
    clear h hE hR hm hmf
    go_enter Try.func52, Try.ntmps52
    go_wp2_with fail
    go_wp2_with fail
    go_ret2
    exact ⟨⟨_, rfl, bad.out (by decide)⟩, Below.refl _ _⟩
  by_cases h2 : 64 < n
  · obtain rfl : 2 = E := by rw [← hE]; unfold addE; rw [if_pos (.inr (.inr h2))]
    replace bad := @Lib.hid _ @bad
    clear h hE hR hm hmf
    go_enter Try.func52, Try.ntmps52
    go_wp2_with fail
    go_wp2_with fail
    go_ret2
    exact ⟨⟨_, rfl, bad.out (by decide)⟩, Below.refl _ _⟩
  have h12 : ¬(may xs = false ∨ n < 1 ∨ 64 < n) := by rw [hm]; simp; omega
  have C2 := Lib.hid (fun W h => rHas_calls v xs n W h)
  by_cases h3 : n ∈ xs
  · obtain rfl : 7 = E := by rw [← hE]; unfold addE; rw [if_neg h12, if_pos h3]
    rw [decide_eq_true h3] at C2
    replace bad := @Lib.hid _ @bad
    clear h hE hR hm h12 h3 hmf
    go_enter Try.func52, Try.ntmps52
    go_wp2_with fail
    refine (C2.out _ hN.out).mono ?_
    rintro e w1 ⟨rfl, hb1⟩
    go_wp2_with fail
    go_ret2
    exact ⟨⟨_, rfl, bad.out (by decide)⟩, hb1⟩
  rw [decide_eq_false h3] at C2
  obtain ⟨p, c, rfl, hc1, hc2, -⟩ := h.parts
  by_cases h4 : 7 ≤ xs.length
  · obtain rfl : 6 = E := by rw [← hE]; unfold addE; rw [if_neg h12, if_neg h3, if_pos h4]
    replace bad := @Lib.hid _ @bad
    obtain ⟨m, hm0⟩ : ∃ m, xs.length = m := ⟨_, rfl⟩
    rw [hm0] at C2 hN h4 ⊢
    have h41 : (7 : Int) ≤ (m : Int) := by omega
    clear h hE hR hm h12 h3 hmf hm0 hc1 hc2 h4
    go_enter Try.func52, Try.ntmps52
    go_wp2_with fail
    refine (C2.out _ hN.out).mono ?_
    rintro e w1 ⟨rfl, hb1⟩
    go_wp2_with fail
    go_ret2
    exact ⟨⟨_, rfl, bad.out (by decide)⟩, hb1⟩
  obtain rfl : 0 = E := by rw [← hE]; unfold addE; rw [if_neg h12, if_neg h3, if_neg h4]
  have hR2 : R = ins xs n := by rw [← hR]; unfold addL; rw [hE, if_pos rfl]
  have hst : pre xs n 1 = [] := List.filter_eq_nil_iff.2 (fun x hx => by
    rcases (mem_ins h3).1 hx with e | e
    · simp; omega
    · have := (hmf.2.1 x e).1; simp; omega)
  have hfi : pre xs n 65 = ins xs n := List.filter_eq_self.2 (fun x hx => by
    rcases (mem_ins h3).1 hx with e | e
    · simp; omega
    · have := (hmf.2.1 x e).2; simp; omega)
  have hstep := Lib.hid (fun i => pre_succ hmf.1 h3 i)
  have hlen := Lib.hid (fun i => pre_length xs n i)
  have hxw := Lib.hid (fun (x : Int) hx => ((mem_ins h3).1 hx).elim (fun e : x = n => e ▸ hn) (h.2 x))
  have C3 := Lib.hid (fun W (x : Int) h => rHas_calls (.slice p xs.length c) xs x W h)
  have hB := Lib.hid (Below.refl w.heap.size w)
  clear bad hE hR hm h3 h h12 hn
  obtain ⟨m, hm0⟩ : ∃ m, xs.length = m := ⟨_, rfl⟩
  rw [hm0] at C2 C3 hN hc1 h4 hlen ⊢
  have hm7 : (m : Int) < 7 := by omega
  have hd1 : ¬ (7 : Int) ≤ (m : Int) := by omega
  obtain ⟨i0, hi, hz0, hz1, hz2⟩ := info_parts infoInt
  replace hm0 := Lib.hid hm0
  replace hR2 := Lib.hid hR2
  replace hc1 := Lib.hid hc1
  replace hc2 := Lib.hid hc2
  replace hmf := Lib.hid hmf
  replace hst := Lib.hid hst
  replace hfi := Lib.hid hfi
  clear h4
  go_enter Try.func52, Try.ntmps52
  go_wp2_with fail
  refine (C2.out _ hN.out).mono ?_
  rintro e w1 ⟨rfl, hb1⟩
  replace hb1 : Below w.heap.size w w1 := Lx.bstep (by repeat (first | exact Below.refl _ _ | exact Lx.Ext.below _ | refine Below.drew ?_ | refine below_drewN ?_ _ | (refine Below.alloc ?_ (by first | exact Nat.le_refl _ | (simp; done) | (simp; omega)) _) | (refine Below.setCell ?_ (by first | exact Nat.le_refl _ | (simp; done) | (simp; omega)) _))) (Nat.le_refl _) hb1
  replace hN := Lib.hid (hN.out.below hb1)
  replace hB := Lib.hid (Lx.bstep hB.out (Nat.le_refl _) hb1)
  clear hb1
  go_wp2_with fail
  go_loopg [6, 7] 66 (fun k v6 v7 wr => ∃ i : Nat, v7 = .int .i64 (i : Int) ∧ wr.ownsRow w1.heap.size 3 1 v6 (pre xs n i).length ((pre xs n i).map fun x => .int .i64 x) ∧ 1 ≤ i ∧ i ≤ 65 ∧ 66 ≤ i + k ∧ Below w1.heap.size w1 wr)
  case atStart => exact ⟨1, rfl, by rw [hst.out]; exact own_nil _ _ _, by omega, by omega, by omega, Below.refl _ _⟩
  case round =>
    obtain ⟨i, rfl, hown, hi1, hile, hfuel, hb⟩ := hrel
    cases gk with
    | zero => omega
    | succ k =>
      obtain ⟨p6, l6, c6, rfl⟩ := own_slice hown
      have hb' := Lib.hid hb
      have hbs := hb.size
      by_cases hlt : i ≤ 64
      · have hlt1 : (i : Int) ≤ 64 := by omega
        have h0 : (0 : Int) ≤ (i : Int) := by omega
        have ht := Lib.hid (hstep.out i)
        have hle := hlen.out i
        generalize hL : pre xs n i = L at *
        replace hL := Lib.hid hL
        clear hb
        by_cases hx : (i : Int) = n
        · replace ht := Lib.hid (ht.out.trans (by rw [if_pos (.inl hx)]))
          have hb0 : ((i : Int) == n) = true := by simpa using hx
          clear hx
          go_wp2_with (at_builtin; refine wpList_append_own _ rfl (.tmp 32) (.tmp 34) 33 rfl w1.heap.size 3 i0 (.int .i64 0) 1 8 Try.underlying33 hi hz0 hz1 hz2 rfl (by decide) _ _ _ rfl (hown.alloc _) ⟨wr.heap.size, 0, none⟩ 1 1 [.int .i64 i] rfl rfl (cell_one_new _ _ _) (by simp [Value.oneCell']) (by unfold maxLen; omega) (by omega) (by simp; omega) ?_; intro v' w2 hown' hgrow _; obtain ⟨g', l', cap', rfl⟩ := own_slice hown'; replace hb' := Lib.hid ((hb'.out.alloc hb'.out.size _).grown hgrow (by have := hb'.out.size; simp; omega) (fun k e => by have := (own_block hown e).1; omega)); replace hown' := Lib.hid hown'; clear hown hgrow)
          go_roundg k
          case measure => omega
          case rel => exact ⟨i + 1, by first | rfl | go_num, by rw [ht.out, List.length_append, List.map_append]; simpa using hown'.out, by omega, by omega, by omega, hb'.out⟩
        · have hb0 : ((i : Int) == n) = false := by simpa using hx
          have C4 := Lib.hid (fun W h => C3.out W (i : Int) h)
          by_cases hin : (i : Int) ∈ xs
          · replace ht := Lib.hid (ht.out.trans (by rw [if_pos (.inr hin)]))
            rw [decide_eq_true hin] at C4
            clear hx hin
            replace hown := Lib.hid hown
            go_wp2_with fail
            refine (C4.out _ (hN.out.below hb'.out)).mono ?_
            rintro e w4 ⟨rfl, hb4⟩
            replace hb' := Lib.hid (Lx.bstep hb'.out (Nat.le_refl _) hb4)
            replace hown := own_below hown.out hb4
            have hbs := hb'.out.size
            clear hb4
            go_wp2_with (at_builtin; refine wpList_append_own _ rfl (.tmp 32) (.tmp 34) 33 rfl w1.heap.size 3 i0 (.int .i64 0) 1 8 Try.underlying33 hi hz0 hz1 hz2 rfl (by decide) _ _ _ rfl (hown.alloc _) ⟨w4.heap.size, 0, none⟩ 1 1 [.int .i64 i] rfl rfl (cell_one_new _ _ _) (by simp [Value.oneCell']) (by unfold maxLen; omega) (by omega) (by simp; omega) ?_; intro v' w2 hown' hgrow _; obtain ⟨g', l', cap', rfl⟩ := own_slice hown'; replace hb' := Lib.hid ((hb'.out.alloc hb'.out.size _).grown hgrow (by have := hb'.out.size; simp; omega) (fun k e => by have := (own_block hown e).1; omega)); replace hown' := Lib.hid hown'; clear hown hgrow)
            go_roundg k
            case measure => omega
            case rel => exact ⟨i + 1, by first | rfl | go_num, by rw [ht.out, List.length_append, List.map_append]; simpa using hown'.out, by omega, by omega, by omega, hb'.out⟩
          · replace ht := Lib.hid (ht.out.trans (by rw [if_neg (by simp [hx, hin])]))
            rw [decide_eq_false hin] at C4
            clear hx hin
            replace hown := Lib.hid hown
            go_wp2_with fail
            refine (C4.out _ (hN.out.below hb'.out)).mono ?_
            rintro e w4 ⟨rfl, hb4⟩
            replace hb' := Lib.hid (Lx.bstep hb'.out (Nat.le_refl _) hb4)
            replace hown := Lib.hid (own_below hown.out hb4)
            clear hb4
            go_wp2_with fail
            go_roundg k
            case measure => omega
            case rel => exact ⟨i + 1, by first | rfl | go_num, by rw [ht.out]; simpa using hown.out, by omega, by omega, by omega, hb'.out⟩
      · obtain rfl : i = 65 := by omega
        rw [hfi.out, ← hR2.out] at hown
        have hown' := Lib.hid hown
        clear hb hown
        go_wp2_with fail
        go_ret2
        exact ⟨⟨_, rfl, Nums.own hown'.out (fun x hx => hxw.out x (by rw [hR2.out] at hx; exact hx))⟩, Lx.bstep hB.out (Nat.le_refl _) hb'.out⟩
end Go.Proofs.Ytjjdfhokmiaekaa
