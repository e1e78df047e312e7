/-
  A tally and its reference agree: plain lists.
-/
import Derived.Test.YtjjdfhokmiaekaaRTal
namespace Go.Proofs.Ytjjdfhokmiaekaa
open Go.RowKit Go.Lst

theorem up_pairwise : ∀ (l : List Int), up l = true → l.Pairwise (· < ·) ∧ ∀ x ∈ l, 1 ≤ x ∧ x ≤ 64
  | [], _ => ⟨.nil, fun x hx => by cases hx⟩
  | [x], h => by
    simp [up] at h
    exact ⟨List.pairwise_singleton _ _, fun y hy => by simp at hy; omega⟩
  | x :: y :: l, h => by
    simp only [up, Bool.and_eq_true, decide_eq_true_eq] at h
    obtain ⟨⟨h1, h2⟩, h3⟩ := h
    obtain ⟨h4, h5⟩ := up_pairwise (y :: l) h3
    refine ⟨List.pairwise_cons.2 ⟨fun z hz => ?_, h4⟩, fun z hz => ?_⟩
    · rcases List.mem_cons.1 hz with rfl | hz
      · exact h2
      · have := (List.pairwise_cons.1 h4).1 z hz; omega
    · rcases List.mem_cons.1 hz with rfl | hz
      · exact h1
      · exact h5 z hz
theorem may_facts {l : List Int} (h : may l = true) : l.Pairwise (· < ·) ∧ (∀ x ∈ l, 1 ≤ x ∧ x ≤ 64) ∧ 1 ≤ l.length ∧ l.length ≤ 7 := by
  unfold may at h
  simp only [Bool.and_eq_true, decide_eq_true_eq] at h
  exact ⟨(up_pairwise l h.1).1, (up_pairwise l h.1).2, h.2.1, h.2.2⟩
theorem may_nodup {l : List Int} (h : may l = true) : l.Nodup := (may_facts h).1.imp (fun h => by omega)

structure Agree (conf : List Int) (said : List Nat) (ys ns : List Int) : Prop where
  y : ∀ x ∈ conf, (said.getD x.toNat 0 = 1 ↔ x ∈ ys)
  n : ∀ x ∈ conf, (said.getD x.toNat 0 = 2 ↔ x ∈ ns)
  z : ∀ x ∈ conf, said.getD x.toNat 0 ≤ 2
  sy : ∀ x ∈ ys, x ∈ conf
  sn : ∀ x ∈ ns, x ∈ conf
  dy : ys.Nodup
  dn : ns.Nodup
theorem agree_start (conf : List Int) : Agree conf (List.replicate 65 0) [] [] :=
  ⟨fun x _ => by rw [zero_at]; simp, fun x _ => by rw [zero_at]; simp, fun x _ => by rw [zero_at]; simp, fun x hx => (by cases hx), fun x hx => (by cases hx), List.nodup_nil, List.nodup_nil⟩
theorem agree_vote {T : Int} {conf : List Int} {said : List Nat} {ys ns : List Int} (hm : may conf = true) (hl : said.length = 65) (h : Agree conf said ys ns) (who term : Int) (is : Bool) :
    (vote T conf said who term is).1 = (rvote T conf ys ns who term is).1 ∧ Agree conf (vote T conf said who term is).2 (rvote T conf ys ns who term is).2.1 (rvote T conf ys ns who term is).2.2 := by
  unfold vote rvote
  by_cases c1 : who < 1 ∨ 64 < who
  · rw [if_pos c1, if_pos c1]; exact ⟨rfl, h⟩
  rw [if_neg c1, if_neg c1]
  by_cases c2 : term ≠ T ∨ who ∉ conf ∨ said.getD who.toNat 0 ≠ 0
  · have c3 : term ≠ T ∨ who ∉ conf ∨ who ∈ ys ∨ who ∈ ns := by
      rcases c2 with c2 | c2 | c2
      · exact .inl c2
      · exact .inr (.inl c2)
      · by_cases c4 : who ∈ conf
        · have h1 := h.y who c4; have h2 := h.n who c4; have h3 := h.z who c4
          by_cases c5 : said.getD who.toNat 0 = 1
          · exact .inr (.inr (.inl (h1.1 c5)))
          · exact .inr (.inr (.inr (h2.1 (by omega))))
        · exact .inr (.inl c4)
    rw [if_pos c2, if_pos c3]; exact ⟨rfl, h⟩
  · have c2' : term = T ∧ who ∈ conf ∧ said.getD who.toNat 0 = 0 := by
      refine ⟨Classical.byContradiction fun hh => c2 (.inl hh), Classical.byContradiction fun hh => c2 (.inr (.inl hh)), Classical.byContradiction fun hh => c2 (.inr (.inr hh))⟩
    obtain ⟨t1, t2, t3⟩ := c2'
    have ny : who ∉ ys := fun hh => by have := (h.y who t2).2 hh; omega
    have nn : who ∉ ns := fun hh => by have := (h.n who t2).2 hh; omega
    have c3 : ¬(term ≠ T ∨ who ∉ conf ∨ who ∈ ys ∨ who ∈ ns) := by
      rintro (h | h | h | h)
      · exact h t1
      · exact h t2
      · exact ny h
      · exact nn h
    rw [if_neg c2, if_neg c3]
    have hset : ∀ v x, x ∈ conf → (said.set who.toNat v).getD x.toNat 0 = if x = who then v else said.getD x.toNat 0 := by
      intro v x hx
      have hx1 := (may_facts hm).2.1 x hx
      have hw1 := (may_facts hm).2.1 who t2
      by_cases e : x = who
      · subst e
        rw [if_pos rfl, List.getD_eq_getElem?_getD, List.getElem?_set_self (by omega)]; rfl
      · rw [if_neg e, List.getD_eq_getElem?_getD, List.getElem?_set_ne (by omega), ← List.getD_eq_getElem?_getD]
    cases is with
    | true =>
      refine ⟨rfl, ⟨fun x hx => ?_, fun x hx => ?_, fun x hx => ?_, fun x hx => ?_, h.sn, ?_, h.dn⟩⟩
      · simp only [if_true]
        rw [hset _ x hx, List.mem_append]
        by_cases e : x = who
        · subst e; simp
        · rw [if_neg e, h.y x hx]; simp [e]
      · simp only [if_true]
        rw [hset _ x hx]
        by_cases e : x = who
        · subst e; simp [nn]
        · rw [if_neg e]; exact h.n x hx
      · simp only [if_true]
        rw [hset _ x hx]
        by_cases e : x = who
        · rw [if_pos e]; omega
        · rw [if_neg e]; exact h.z x hx
      · rcases List.mem_append.1 hx with hx | hx
        · exact h.sy x hx
        · simp at hx; rw [hx]; exact t2
      · refine List.nodup_append.2 ⟨h.dy, by simp, fun a ha b hb => ?_⟩
        simp at hb; subst hb; intro e; subst e; exact ny ha
    | false =>
      refine ⟨rfl, ⟨fun x hx => ?_, fun x hx => ?_, fun x hx => ?_, h.sy, fun x hx => ?_, h.dy, ?_⟩⟩
      · simp only [Bool.false_eq_true, if_false]
        rw [hset _ x hx]
        by_cases e : x = who
        · subst e; simp [ny]
        · rw [if_neg e]; exact h.y x hx
      · simp only [Bool.false_eq_true, if_false]
        rw [hset _ x hx, List.mem_append]
        by_cases e : x = who
        · subst e; simp
        · rw [if_neg e, h.n x hx]; simp [e]
      · simp only [Bool.false_eq_true, if_false]
        rw [hset _ x hx]
        by_cases e : x = who
        · rw [if_pos e]; omega
        · rw [if_neg e]; exact h.z x hx
      · rcases List.mem_append.1 hx with hx | hx
        · exact h.sn x hx
        · simp at hx; rw [hx]; exact t2
      · refine List.nodup_append.2 ⟨h.dn, by simp, fun a ha b hb => ?_⟩
        simp at hb; subst hb; intro e; subst e; exact nn ha

theorem cnt_congr {v v' conf : List Int} (h : ∀ x ∈ conf, (x ∈ v ↔ x ∈ v')) : cnt v conf = cnt v' conf := by
  unfold cnt
  have e : conf.filter (fun x => decide (x ∈ v)) = conf.filter (fun x => decide (x ∈ v')) := List.filter_congr (fun x hx => by rw [Bool.eq_iff_iff]; simp [h x hx])
  rw [e]
theorem agree_won {conf : List Int} {said : List Nat} {ys ns : List Int} (h : Agree conf said ys ns) : won said conf = quorum ys conf := by
  unfold won quorum
  rw [cnt_congr (v' := ys) fun x hx => ?_]
  unfold so
  rw [List.mem_filter, ← h.y x hx]
  constructor
  · rintro ⟨_, h2⟩; have h3 := beq_iff_eq.1 h2; omega
  · intro h2; refine ⟨hx, ?_⟩; rw [h2]; rfl
theorem cnt_nodup {ns conf : List Int} (hd : ns.Nodup) (hc : conf.Nodup) (hs : ∀ x ∈ ns, x ∈ conf) : cnt ns conf = ns.length := by
  unfold cnt
  refine List.Perm.length_eq ((List.perm_ext_iff_of_nodup (hc.filter _) hd).2 fun x => ?_)
  rw [List.mem_filter]
  constructor
  · rintro ⟨_, h⟩; simpa using h
  · intro h; exact ⟨hs x h, by simpa using h⟩
theorem cnt_not (p q : List Int) (conf : List Int) (h : ∀ x ∈ conf, (x ∈ p ↔ x ∉ q)) : cnt p conf + cnt q conf = conf.length := by
  unfold cnt
  induction conf with
  | nil => rfl
  | cons x l ih =>
    have h1 := h x (by simp)
    have h2 := ih fun y hy => h y (by simp [hy])
    by_cases e : x ∈ q
    · have e2 : x ∉ p := fun hh => (h1.1 hh) e
      simp [List.filter_cons, e, e2]; omega
    · have e2 : x ∈ p := h1.2 e
      simp [List.filter_cons, e, e2]; omega
theorem agree_lost {conf : List Int} {said : List Nat} {ys ns : List Int} (hm : may conf = true) (h : Agree conf said ys ns) : lost said conf = decide (2 * ((conf.length : Int) - (ns.length : Int)) ≤ (conf.length : Int)) := by
  unfold lost quorum
  have h1 := cnt_not (so (fun x => x != 2) said conf) ns conf fun x hx => by
    unfold so
    rw [List.mem_filter, ← h.n x hx]
    constructor
    · rintro ⟨_, h2⟩ h3; rw [h3] at h2; simp at h2
    · intro h2; refine ⟨hx, ?_⟩; rw [bne_iff_ne]; omega
  rw [cnt_nodup h.dn (may_nodup hm) h.sn] at h1
  rw [Bool.eq_iff_iff]
  simp
  omega
theorem agree_one {conf : List Int} {said : List Nat} {ys ns : List Int} (hm : may conf = true) (h : Agree conf said ys ns) : ¬(won said conf = true ∧ lost said conf = true) := by
  rw [agree_won h, agree_lost hm h]
  rintro ⟨h1, h2⟩
  unfold quorum at h1
  simp at h1 h2
  have h3 : cnt ys conf + cnt ns conf ≤ conf.length := by
    have : ∀ l : List Int, (∀ x ∈ l, x ∈ conf) → cnt ys l + cnt ns l ≤ l.length := by
      intro l
      induction l with
      | nil => intro _; exact Nat.le_refl _
      | cons x l ih =>
        intro hl
        have h4 := ih fun y hy => hl y (by simp [hy])
        have h5 : ¬(x ∈ ys ∧ x ∈ ns) := fun ⟨a, b⟩ => by
          have := (h.y x (hl x (by simp))).2 a
          have := (h.n x (hl x (by simp))).2 b
          omega
        unfold cnt at *
        by_cases a : x ∈ ys <;> by_cases b : x ∈ ns
        · exact absurd ⟨a, b⟩ h5
        all_goals simp [List.filter_cons, a, b]; omega
    exact this conf fun x hx => hx
  rw [cnt_nodup h.dn (may_nodup hm) h.sn] at h3
  omega
theorem agree_len {conf : List Int} {said : List Nat} {ys ns : List Int} (hm : may conf = true) (h : Agree conf said ys ns) : ys.length ≤ 7 ∧ ns.length ≤ 7 := by
  have h1 := cnt_nodup h.dy (may_nodup hm) h.sy
  have h2 := cnt_nodup h.dn (may_nodup hm) h.sn
  have h3 : ∀ v : List Int, cnt v conf ≤ conf.length := fun v => List.length_filter_le _ _
  have := (may_facts hm).2.2.2
  have := h3 ys; have := h3 ns
  omega
end Go.Proofs.Ytjjdfhokmiaekaa
