/-
  Confs, their changes, their quorums: plain laws (no project text).
-/
import Derived.Test.YtjjdfhokmiaekaaMember8
import Derived.Test.YtjjdfhokmiaekaaMember5
namespace Go.Proofs.Ytjjdfhokmiaekaa
open Go.Lst

theorem up_of : ∀ (l : List Int), l.Pairwise (· < ·) → (∀ x ∈ l, 1 ≤ x ∧ x ≤ 64) → up l = true
  | [], _, _ => rfl
  | [x], _, h => by simp only [up, decide_eq_true_eq]; exact h x (by simp)
  | x :: y :: l, hp, h => by
    obtain ⟨h1, h2⟩ := List.pairwise_cons.1 hp
    simp only [up, Bool.and_eq_true, decide_eq_true_eq]
    exact ⟨⟨h x (by simp), h1 y (by simp)⟩, up_of (y :: l) h2 (fun z hz => h z (List.mem_cons_of_mem _ hz))⟩
theorem may_of {l : List Int} (hp : l.Pairwise (· < ·)) (h : ∀ x ∈ l, 1 ≤ x ∧ x ≤ 64) (h1 : 1 ≤ l.length) (h7 : l.length ≤ 7) : may l = true := by
  unfold may; rw [up_of l hp h]; simp [h1, h7]
theorem sorted_ext : ∀ (a b : List Int), a.Pairwise (· < ·) → b.Pairwise (· < ·) → (∀ x, x ∈ a ↔ x ∈ b) → a = b
  | [], [], _, _, _ => rfl
  | [], y :: b, _, _, h => by have := (h y).2 (by simp); cases this
  | x :: a, [], _, _, h => by have := (h x).1 (by simp); cases this
  | x :: a, y :: b, ha, hb, h => by
    obtain ⟨a1, a2⟩ := List.pairwise_cons.1 ha
    obtain ⟨b1, b2⟩ := List.pairwise_cons.1 hb
    have hxy : x = y := by
      rcases List.mem_cons.1 ((h x).1 (by simp)) with e | e
      · exact e
      · rcases List.mem_cons.1 ((h y).2 (by simp)) with e' | e'
        · exact e'.symm
        · have := b1 x e; have := a1 y e'; omega
    subst hxy
    rw [sorted_ext a b a2 b2 (fun z => ?_)]
    constructor
    · intro hz
      rcases List.mem_cons.1 ((h z).1 (List.mem_cons_of_mem _ hz)) with e | e
      · subst e; have := a1 z hz; omega
      · exact e
    · intro hz
      rcases List.mem_cons.1 ((h z).2 (List.mem_cons_of_mem _ hz)) with e | e
      · subst e; have := b1 z hz; omega
      · exact e
theorem mem_rem {xs : List Int} {n x : Int} : x ∈ rem xs n ↔ x ∈ xs ∧ x ≠ n := by unfold rem; simp
theorem rem_pairwise {xs : List Int} (h : xs.Pairwise (· < ·)) (n : Int) : (rem xs n).Pairwise (· < ·) := h.filter _
theorem rem_ins {xs : List Int} {n : Int} (h : xs.Pairwise (· < ·)) (hn : n ∉ xs) : rem (ins xs n) n = xs := by
  refine sorted_ext _ _ (rem_pairwise (ins_pairwise h n) n) h fun x => ?_
  rw [mem_rem, mem_ins hn]
  constructor
  · rintro ⟨e | e, h2⟩
    · exact absurd e h2
    · exact e
  · exact fun e => ⟨.inr e, fun e2 => hn (e2 ▸ e)⟩
theorem ins_rem {xs : List Int} {n : Int} (h : xs.Pairwise (· < ·)) (hn : n ∈ xs) : ins (rem xs n) n = xs := by
  refine sorted_ext _ _ (ins_pairwise (rem_pairwise h n) n) h fun x => ?_
  rw [mem_ins (fun e => (mem_rem.1 e).2 rfl), mem_rem]
  constructor
  · rintro (e | e)
    · exact e ▸ hn
    · exact e.1
  · exact fun e => by
      by_cases h2 : x = n
      · exact .inl h2
      · exact .inr ⟨e, h2⟩
theorem split_length (n : Int) : ∀ (l : List Int), n ∉ l → (l.filter fun x => decide (x < n)).length + (l.filter fun x => decide (n < x)).length = l.length
  | [], _ => rfl
  | x :: l, h => by
    have ih := split_length n l (fun e => h (List.mem_cons_of_mem _ e))
    have hx : x ≠ n := fun e => h (by simp [e])
    simp only [List.filter_cons]
    by_cases h1 : x < n
    · rw [if_pos (by simpa using h1), if_neg (by simp; omega)]; simp; omega
    · rw [if_neg (by simpa using h1), if_pos (by simp; omega)]; simp; omega
theorem ins_len {xs : List Int} {n : Int} (hn : n ∉ xs) : (ins xs n).length = xs.length + 1 := by
  have := split_length n xs hn
  unfold ins; simp only [List.length_append, List.length_singleton]; omega
theorem rem_len {xs : List Int} {n : Int} (h : xs.Pairwise (· < ·)) (hn : n ∈ xs) : (rem xs n).length + 1 = xs.length := by
  have := ins_len (xs := rem xs n) (n := n) (fun e => (mem_rem.1 e).2 rfl)
  rw [ins_rem h hn] at this; omega
theorem addE_zero {xs : List Int} {n : Int} : addE xs n = 0 ↔ may xs = true ∧ 1 ≤ n ∧ n ≤ 64 ∧ n ∉ xs ∧ xs.length < 7 := by
  unfold addE
  cases hm : may xs with
  | false => simp
  | true =>
    simp only [Bool.true_eq_false, false_or, true_and]
    by_cases h1 : n < 1 ∨ 64 < n
    · rw [if_pos h1]; constructor
      · intro h; cases h
      · rintro ⟨a, b, -⟩; omega
    · rw [if_neg h1]
      by_cases h2 : n ∈ xs
      · rw [if_pos h2]; simp [h2]
      · rw [if_neg h2]
        by_cases h3 : 7 ≤ xs.length
        · rw [if_pos h3]; constructor
          · intro h; cases h
          · rintro ⟨-, -, -, h⟩; omega
        · rw [if_neg h3]; simp only [true_iff]; exact ⟨by omega, by omega, h2, by omega⟩
theorem remE_zero {xs : List Int} {n : Int} : remE xs n = 0 ↔ may xs = true ∧ n ∈ xs ∧ xs.length ≠ 1 := by
  unfold remE
  cases hm : may xs with
  | false => simp
  | true =>
    simp only [Bool.true_eq_false, if_false, true_and]
    by_cases h2 : n ∈ xs
    · rw [if_neg (by simpa using h2)]
      by_cases h3 : xs.length = 1
      · rw [if_pos h3]; simp [h3]
      · rw [if_neg h3]; simp [h2, h3]
    · rw [if_pos h2]; simp [h2]
theorem add_may {xs : List Int} {n : Int} (h : addE xs n = 0) : may (ins xs n) = true := by
  obtain ⟨hm, h1, h2, h3, h4⟩ := addE_zero.1 h
  obtain ⟨f1, f2, f3, f4⟩ := may_facts hm
  refine may_of (ins_pairwise f1 n) (fun x hx => ?_) (by rw [ins_len h3]; omega) (by rw [ins_len h3]; omega)
  rcases (mem_ins h3).1 hx with e | e
  · omega
  · exact f2 x e
theorem rem_may {xs : List Int} {n : Int} (h : remE xs n = 0) : may (rem xs n) = true := by
  obtain ⟨hm, h1, h2⟩ := remE_zero.1 h
  obtain ⟨f1, f2, f3, f4⟩ := may_facts hm
  have := rem_len f1 h1
  exact may_of (rem_pairwise f1 n) (fun x hx => f2 x (mem_rem.1 hx).1) (by omega) (by omega)
theorem onl_self (xs : List Int) : onl xs xs = 0 := by
  unfold onl; rw [List.filter_eq_nil_iff.2 (fun x hx => by simpa using hx)]; rfl
theorem onl_ins {xs : List Int} {n : Int} (hn : n ∉ xs) : onl (ins xs n) xs = 0 ∧ onl xs (ins xs n) ≤ 1 := by
  constructor
  · unfold onl; rw [List.filter_eq_nil_iff.2 (fun x hx => by simp [(mem_ins hn).2 (.inr hx)])]; rfl
  · unfold onl ins
    have e1 : (xs.filter (fun x => decide (x < n))).filter (fun x => decide (x ∉ xs)) = [] := List.filter_eq_nil_iff.2 (fun x hx => by have := (List.mem_filter.1 hx).1; simpa using this)
    have e2 : (xs.filter (fun x => decide (n < x))).filter (fun x => decide (x ∉ xs)) = [] := List.filter_eq_nil_iff.2 (fun x hx => by have := (List.mem_filter.1 hx).1; simpa using this)
    rw [List.filter_append, List.filter_append, e1, e2, List.nil_append, List.append_nil]
    exact Nat.le_trans (List.length_filter_le _ _) (Nat.le_refl _)
theorem near_ins {xs : List Int} {n : Int} (hm : may xs = true) (hm2 : may (ins xs n) = true) (hn : n ∉ xs) : near xs (ins xs n) = true ∧ near (ins xs n) xs = true := by
  have := onl_ins hn
  unfold near; rw [hm, hm2]; simp; omega
theorem near_self {xs : List Int} (hm : may xs = true) : near xs xs = true := by unfold near; rw [hm, onl_self]; rfl
theorem add_near {xs : List Int} {n : Int} (h : addE xs n = 0) : near xs (ins xs n) = true ∧ near (ins xs n) xs = true :=
  near_ins (addE_zero.1 h).1 (add_may h) (addE_zero.1 h).2.2.2.1
theorem rem_near {xs : List Int} {n : Int} (h : remE xs n = 0) : near xs (rem xs n) = true ∧ near (rem xs n) xs = true := by
  obtain ⟨hm, h1, h2⟩ := remE_zero.1 h
  have e := ins_rem (may_facts hm).1 h1
  have := near_ins (xs := rem xs n) (n := n) (rem_may h) (by rw [e]; exact hm) (fun e => (mem_rem.1 e).2 rfl)
  rw [e] at this
  exact ⟨this.2, this.1⟩
theorem both_in (P R : Int → Bool) : ∀ (U : List Int), U.length < (U.filter P).length + (U.filter R).length → ∃ x ∈ U, P x = true ∧ R x = true
  | [], h => by simp at h
  | x :: U, h => by
    by_cases hx : P x = true ∧ R x = true
    · exact ⟨x, by simp, hx⟩
    · have : U.length < (U.filter P).length + (U.filter R).length := by
        simp only [List.filter_cons, List.length_cons] at h
        cases h1 : P x <;> cases h2 : R x <;> simp [h1, h2] at h hx <;> omega
      obtain ⟨y, hy, h1⟩ := both_in P R U this
      exact ⟨y, List.mem_cons_of_mem _ hy, h1⟩
theorem quorum_len {a U : List Int} (h : quorum a U = true) : U.length < 2 * (U.filter fun x => decide (x ∈ a)).length := by
  unfold quorum cnt at h; simpa using h
theorem meet_self {U a b : List Int} (ha : quorum a U = true) (hb : quorum b U = true) : ∃ x ∈ a, x ∈ b ∧ x ∈ U := by
  obtain ⟨x, h1, h2, h3⟩ := both_in (fun x => decide (x ∈ a)) (fun x => decide (x ∈ b)) U (by have := quorum_len ha; have := quorum_len hb; omega)
  exact ⟨x, by simpa using h2, by simpa using h3, h1⟩
theorem meet_rem {U a b : List Int} {n : Int} (hp : U.Pairwise (· < ·)) (hn : n ∈ U) (ha : quorum a (rem U n) = true) (hb : quorum b U = true) : ∃ x ∈ a, x ∈ b ∧ x ∈ U ∧ x ∈ rem U n := by
  have h1 := quorum_len ha
  have h2 := quorum_len hb
  have h3 := rem_len hp hn
  have e : ((rem U n).filter fun x => decide (x ∈ a)) = U.filter fun x => decide (x ∈ a) && decide (x ≠ n) := by unfold rem; rw [List.filter_filter]
  rw [e] at h1
  obtain ⟨x, k1, k2, k3⟩ := both_in (fun x => decide (x ∈ a) && decide (x ≠ n)) (fun x => decide (x ∈ b)) U (by omega)
  simp at k2 k3
  exact ⟨x, k2.1, k3, k1, mem_rem.2 ⟨k1, k2.2⟩⟩
/-- What MemberMeet goes on with. -/
def nextE (conf : List Int) (n : Int) (adds : Bool) : Nat := if adds = true then addE conf n else remE conf n
def nextL (conf : List Int) (n : Int) (adds : Bool) : List Int := if nextE conf n adds = 0 then (if adds = true then addL conf n else remL conf n) else conf
theorem next_may {conf : List Int} {n : Int} {adds : Bool} (h : may conf = true) : may (nextL conf n adds) = true ∧ near conf (nextL conf n adds) = true ∧ near (nextL conf n adds) conf = true := by
  unfold nextL
  by_cases he : nextE conf n adds = 0
  · rw [if_pos he]
    unfold nextE at he
    cases adds with
    | true =>
      simp only [if_true] at he ⊢
      unfold addL; rw [if_pos he]
      exact ⟨add_may he, add_near he⟩
    | false =>
      simp only [Bool.false_eq_true, if_false] at he ⊢
      unfold remL; rw [if_pos he]
      exact ⟨rem_may he, rem_near he⟩
  · rw [if_neg he]; exact ⟨h, near_self h, near_self h⟩
theorem next_meet {conf a b : List Int} {n : Int} {adds : Bool} (ha : quorum a conf = true) (hb : quorum b (nextL conf n adds) = true) : ∃ x ∈ a, x ∈ b ∧ x ∈ conf ∧ x ∈ nextL conf n adds := by
  unfold nextL at hb ⊢
  by_cases he : nextE conf n adds = 0
  · rw [if_pos he] at hb ⊢
    unfold nextE at he
    cases adds with
    | true =>
      simp only [if_true] at he hb ⊢
      unfold addL at hb ⊢; rw [if_pos he] at hb ⊢
      obtain ⟨hm, h1, h2, h3, h4⟩ := addE_zero.1 he
      have f := (may_facts hm).1
      obtain ⟨x, k1, k2, k3, k4⟩ := meet_rem (U := ins conf n) (n := n) (a := a) (b := b) (ins_pairwise f n) ((mem_ins h3).2 (.inl rfl)) (by rw [rem_ins f h3]; exact ha) hb
      rw [rem_ins f h3] at k4
      exact ⟨x, k1, k2, k4, k3⟩
    | false =>
      simp only [Bool.false_eq_true, if_false] at he hb ⊢
      unfold remL at hb ⊢; rw [if_pos he] at hb ⊢
      obtain ⟨hm, h1, h2⟩ := remE_zero.1 he
      obtain ⟨x, k1, k2, k3, k4⟩ := meet_rem (U := conf) (n := n) (a := b) (b := a) (may_facts hm).1 h1 hb ha
      exact ⟨x, k2, k1, k3, k4⟩
  · rw [if_neg he] at hb ⊢
    obtain ⟨x, k1, k2, k3⟩ := meet_self ha hb
    exact ⟨x, k1, k2, k3, k3⟩
/-! MemberBack. -/
theorem back_add {conf : List Int} {n : Int} (h : addE conf n = 0) : remE (ins conf n) n = 0 ∧ rem (ins conf n) n = conf ∧ (ins conf n).length = conf.length + 1 := by
  obtain ⟨hm, h1, h2, h3, h4⟩ := addE_zero.1 h
  have f := may_facts hm
  have hl := ins_len h3
  exact ⟨remE_zero.2 ⟨add_may h, (mem_ins h3).2 (.inl rfl), by omega⟩, rem_ins f.1 h3, hl⟩
theorem back_rem {conf : List Int} {n : Int} (h : remE conf n = 0) : addE (rem conf n) n = 0 ∧ ins (rem conf n) n = conf ∧ (rem conf n).length + 1 = conf.length := by
  obtain ⟨hm, h1, h2⟩ := remE_zero.1 h
  have f := may_facts hm
  have hl := rem_len f.1 h1
  have := f.2.1 n h1
  exact ⟨addE_zero.2 ⟨rem_may h, by omega, by omega, fun e => (mem_rem.1 e).2 rfl, by omega⟩, ins_rem f.1 h1, hl⟩
/-- Those of conf whose number holds. -/
def sel (P : Int → Bool) (conf ms : List Int) (i : Nat) : List Int := ((List.range i).filter fun k => P (ms.getD k 0)).map fun k => conf.getD k 0
theorem sel_succ (P : Int → Bool) (conf ms : List Int) (i : Nat) : sel P conf ms (i + 1) = sel P conf ms i ++ if P (ms.getD i 0) = true then [conf.getD i 0] else [] := by
  unfold sel
  rw [List.range_succ, List.filter_append, List.map_append]
  simp only [List.filter_cons, List.filter_nil]
  split <;> rfl
theorem sel_length (P : Int → Bool) (conf ms : List Int) (i : Nat) : (sel P conf ms i).length ≤ i := by
  unfold sel; rw [List.length_map]; exact Nat.le_trans (List.length_filter_le _ _) (by simp)
theorem as_range (l : List Int) : (List.range l.length).map (fun k => l.getD k 0) = l := by
  refine List.ext_getElem (by simp) fun i h1 h2 => ?_
  simp [List.getElem?_eq_getElem h2]
theorem sel_mem {P : Int → Bool} {conf ms : List Int} (i : Nat) (hi : i ≤ conf.length) : ∀ x ∈ sel P conf ms i, x ∈ conf := by
  intro x hx
  unfold sel at hx
  obtain ⟨k, hk, rfl⟩ := List.mem_map.1 hx
  have hk2 := List.mem_range.1 (List.mem_filter.1 hk).1
  rw [List.getD_eq_getElem?_getD, List.getElem?_eq_getElem (by omega)]
  exact List.getElem_mem _
theorem sel_cnt (P : Int → Bool) {conf ms : List Int} (hd : conf.Nodup) (hl : ms.length = conf.length) : cnt (sel P conf ms conf.length) conf = (ms.filter P).length := by
  have hin : ∀ k, k < conf.length → (decide (conf.getD k 0 ∈ sel P conf ms conf.length) = P (ms.getD k 0)) := by
    intro k hk
    rw [Bool.eq_iff_iff, decide_eq_true_eq]
    unfold sel
    constructor
    · intro h
      obtain ⟨j, hj, e⟩ := List.mem_map.1 h
      obtain ⟨hj1, hj2⟩ := List.mem_filter.1 hj
      have hj3 := List.mem_range.1 hj1
      rw [List.getD_eq_getElem?_getD, List.getElem?_eq_getElem hj3, List.getD_eq_getElem?_getD, List.getElem?_eq_getElem hk] at e
      have := (List.getElem_inj hd).1 e
      rw [← this]; exact hj2
    · exact fun h => List.mem_map.2 ⟨k, List.mem_filter.2 ⟨List.mem_range.2 hk, h⟩, rfl⟩
  unfold cnt
  generalize hL : sel P conf ms conf.length = L at *
  conv => lhs; rw [← as_range conf]
  conv => rhs; rw [← as_range ms]
  rw [List.filter_map, List.filter_map, List.length_map, List.length_map, hl]
  congr 1
  refine List.filter_congr fun k hk => ?_
  exact hin k (List.mem_range.1 hk)
theorem sel_quorum {conf ms : List Int} {x : Int} (hm : may conf = true) (hl : ms.length = conf.length) (h1 : conf.length < 2 * cntG ms x) (h2 : 2 * cntM ms x ≤ conf.length) :
    quorum (sel (fun y => decide (x ≤ y)) conf ms conf.length) conf = true ∧ quorum (sel (fun y => decide (x < y)) conf ms conf.length) conf = false := by
  unfold quorum
  rw [sel_cnt _ (may_nodup hm) hl, sel_cnt _ (may_nodup hm) hl]
  unfold cntG at h1; unfold cntM at h2
  exact ⟨decide_eq_true h1, decide_eq_false (by omega)⟩
end Go.Proofs.Ytjjdfhokmiaekaa
