/-
  In one term at most one wins: the plain law (no project text).
-/
import Derived.Test.YtjjdfhokmiaekaaMemMath
import Derived.Test.YtjjdfhokmiaekaaElect6
import Derived.Test.YtjjdfhokmiaekaaElCounts
namespace Go.Proofs.Ytjjdfhokmiaekaa
open Go.Lst

def upd {α : Type} (f : Nat → α) (j : Nat) (x : α) : Nat → α := fun k => if k = j then x else f k
theorem upd_same {α : Type} (f : Nat → α) (j : Nat) (x : α) : upd f j x j = x := if_pos rfl
theorem upd_other {α : Type} (f : Nat → α) {j k : Nat} (x : α) (h : k ≠ j) : upd f j x k = f k := if_neg h
structure OneInv (n : Nat) (conf : List Int) (V : Nat → Int × Int) (T : Nat → Int) (S : Nat → List Nat) : Prop where
  vt : ∀ k, k < n → 0 ≤ (V k).1 ∧ (V k).1 ≤ 20 ∧ 0 ≤ (V k).2 ∧ (V k).2 ≤ 64 ∧ (0 < (V k).1 ∨ (V k).2 = 0)
  tt : ∀ k, k < n → 0 ≤ T k ∧ T k ≤ 20
  yes : ∀ c, c < n → T c ≠ 0 → ∀ v, v < n → (S c).getD (conf.getD v 0).toNat 0 = 1 → T c < (V v).1 ∨ (T c = (V v).1 ∧ (V v).2 = conf.getD c 0)
  one : ∀ c, c < n → ∀ c', c' < n → c ≠ c' → T c = T c' → T c ≠ 0 → ∀ v, v < n → ¬((S c).getD (conf.getD v 0).toNat 0 = 1 ∧ (S c').getD (conf.getD v 0).toNat 0 = 1)
theorem getD_of {conf : List Int} {v : Nat} (h : v < conf.length) : conf.getD v 0 = conf[v] := by rw [List.getD_eq_getElem?_getD, List.getElem?_eq_getElem h]; rfl
theorem conf_at {conf : List Int} (hm : may conf = true) {v : Nat} (hv : v < conf.length) : conf.getD v 0 ∈ conf ∧ 1 ≤ conf.getD v 0 ∧ conf.getD v 0 ≤ 64 := by
  have h : conf.getD v 0 ∈ conf := by rw [getD_of hv]; exact List.getElem_mem _
  exact ⟨h, (may_facts hm).2.1 _ h⟩
theorem conf_inj {conf : List Int} (hm : may conf = true) {v u : Nat} (hv : v < conf.length) (hu : u < conf.length) (e : conf.getD v 0 = conf.getD u 0) : v = u := by
  rw [getD_of hv, getD_of hu] at e
  exact (List.getElem_inj (may_nodup hm)).1 e
theorem conf_nat {conf : List Int} (hm : may conf = true) {v u : Nat} (hv : v < conf.length) (hu : u < conf.length) (e : (conf.getD v 0).toNat = (conf.getD u 0).toNat) : v = u := by
  have := (conf_at hm hv).2; have := (conf_at hm hu).2
  exact conf_inj hm hv hu (by omega)
theorem set_getD (l : List Nat) (i j x : Nat) (hi : i < l.length) : (l.set i x).getD j 0 = if j = i then x else l.getD j 0 := by
  by_cases h : j = i
  · subst h; rw [if_pos rfl, List.getD_eq_getElem?_getD, List.getElem?_set_self hi]; rfl
  · rw [if_neg h, List.getD_eq_getElem?_getD, List.getElem?_set_ne (Ne.symm h), List.getD_eq_getElem?_getD]
/-- What a vote of a node of the conf leaves. -/
theorem vote_at {conf : List Int} (hm : may conf = true) {T : Int} {said : List Nat} (hl : said.length = 65) {v : Nat} (hv : v < conf.length) (y : Bool) :
    (vote T conf said (conf.getD v 0) T y).1 = 0 ∧ (vote T conf said (conf.getD v 0) T y).2.length = 65 ∧
    (∀ j, j ≠ (conf.getD v 0).toNat → (vote T conf said (conf.getD v 0) T y).2.getD j 0 = said.getD j 0) ∧
    (vote T conf said (conf.getD v 0) T y).2.getD (conf.getD v 0).toNat 0 = (if said.getD (conf.getD v 0).toNat 0 = 0 then (if y then 1 else 2) else said.getD (conf.getD v 0).toNat 0) := by
  obtain ⟨h1, h2, h3⟩ := conf_at hm hv
  unfold vote
  rw [if_neg (by omega)]
  by_cases h0 : said.getD (conf.getD v 0).toNat 0 = 0
  · rw [if_neg (fun hh => hh.elim (fun e => e rfl) (fun hh => hh.elim (fun e => e h1) (fun e => e h0)))]
    refine ⟨rfl, by simp [hl], fun j hj => ?_, ?_⟩
    · rw [set_getD _ _ _ _ (by omega), if_neg hj]
    · rw [set_getD _ _ _ _ (by omega), if_pos rfl, if_pos h0]
  · rw [if_pos (.inr (.inr h0))]
    exact ⟨rfl, hl, fun _ _ => rfl, by rw [if_neg h0]⟩
theorem vote_twice {conf : List Int} (hm : may conf = true) {T : Int} {said : List Nat} (hl : said.length = 65) {v : Nat} (hv : v < conf.length) (y z : Bool) :
    (vote T conf (vote T conf said (conf.getD v 0) T y).2 (conf.getD v 0) T z).2 = (vote T conf said (conf.getD v 0) T y).2 := by
  have h := (vote_at (T := T) hm hl hv y).2.2.2
  have hne : (vote T conf said (conf.getD v 0) T y).2.getD (conf.getD v 0).toNat 0 ≠ 0 := by
    rw [h]; split
    · cases y <;> simp
    · assumption
  generalize (vote T conf said (conf.getD v 0) T y).2 = s at *
  unfold vote
  split
  · rfl
  · rw [if_pos (.inr (.inr hne))]
theorem inv_start (n : Nat) (conf : List Int) (S : Nat → List Nat) : OneInv n conf (fun _ => (0, 0)) (fun _ => 0) S :=
  ⟨fun _ _ => by simp, fun _ _ => by simp, fun _ _ h => absurd rfl h, fun _ _ _ _ _ _ h => absurd rfl h⟩
theorem zeros_getD (n i : Nat) : (List.replicate n 0).getD i 0 = 0 := by rw [List.getD_eq_getElem?_getD, List.getElem?_replicate]; split <;> rfl
theorem inv_stand {conf : List Int} {V : Nat → Int × Int} {T : Nat → Int} {S : Nat → List Nat} (hm : may conf = true) (h : OneInv conf.length conf V T S) {who : Nat} (hw : who < conf.length) {term : Int} (h1 : 1 ≤ term) (h2 : term ≤ 20) (hv : (V who).1 < term) :
    OneInv conf.length conf (upd V who (term, conf.getD who 0)) (upd T who term) (upd S who (vote term conf (List.replicate 65 0) (conf.getD who 0) term true).2) := by
  obtain ⟨-, -, a3, -⟩ := vote_at hm (T := term) (said := List.replicate 65 0) (by simp) hw true
  generalize (vote term conf (List.replicate 65 0) (conf.getD who 0) term true).2 = s at *
  have hs : ∀ v, v < conf.length → s.getD (conf.getD v 0).toNat 0 = 1 → v = who := fun v hv hh => by
    by_cases e : (conf.getD v 0).toNat = (conf.getD who 0).toNat
    · exact conf_nat hm hv hw e
    · rw [a3 _ e, zeros_getD] at hh; cases hh
  obtain ⟨c1, c2, c3⟩ := conf_at hm hw
  refine ⟨fun k hk => ?_, fun k hk => ?_, fun c hc hT v hvn hy => ?_, fun c hc c' hc' hne hT hT0 v hvn hy => ?_⟩
  · by_cases e : k = who
    · subst e; rw [upd_same]; dsimp only; omega
    · rw [upd_other _ _ e]; exact h.vt k hk
  · by_cases e : k = who
    · subst e; rw [upd_same]; omega
    · rw [upd_other _ _ e]; exact h.tt k hk
  · by_cases e : c = who
    · subst e
      rw [upd_same] at hy ⊢
      obtain rfl := hs v hvn hy
      rw [upd_same]; exact .inr ⟨rfl, rfl⟩
    · rw [upd_other _ _ e] at hy hT ⊢
      have := h.yes c hc hT v hvn hy
      by_cases e2 : v = who
      · subst e2; rw [upd_same]; left; dsimp only; omega
      · rw [upd_other _ _ e2]; exact this
  · by_cases e : c = who
    · subst e
      rw [upd_same] at hy hT hT0
      rw [upd_other _ _ (Ne.symm hne)] at hT hy
      obtain rfl := hs v hvn hy.1
      have := h.yes c' hc' (by omega) v hvn hy.2
      omega
    · rw [upd_other _ _ e] at hy hT hT0
      by_cases e2 : c' = who
      · subst e2
        rw [upd_same] at hy hT
        obtain rfl := hs v hvn hy.2
        have := h.yes c hc hT0 v hvn hy.1
        omega
      · rw [upd_other _ _ e2] at hy hT
        exact h.one c hc c' hc' hne hT hT0 v hvn hy
/-- What a grant leaves. -/
theorem grant_facts (v : Int × Int) (term who i t i' t' : Int) : v.1 ≤ (grant v term who i t i' t').1.1 ∧ ((grant v term who i t i' t').1.1 = v.1 → v.2 ≠ 0 → (grant v term who i t i' t').1.2 = v.2) ∧
    ((grant v term who i t i' t').2 = true → (grant v term who i t i' t').1.1 = term ∧ (grant v term who i t i' t').1.2 = who ∧ newer t i t' i' = true) ∧
    ((grant v term who i t i' t').1.1 = v.1 ∨ (grant v term who i t i' t').1.1 = term) ∧ ((grant v term who i t i' t').1.2 = v.2 ∨ (grant v term who i t i' t').1.2 = 0 ∨ (grant v term who i t i' t').1.2 = who) ∧
    term ≤ (grant v term who i t i' t').1.1 := by
  obtain ⟨a, b⟩ := v
  unfold grant
  dsimp only
  by_cases h : a < term
  · simp only [if_pos h]
    split
    · dsimp only; exact ⟨by omega, fun e => by omega, fun e => (by cases e), .inr rfl, .inr (.inl rfl), by omega⟩
    · rename_i hh
      dsimp only
      refine ⟨by omega, fun e => by omega, fun _ => ⟨rfl, rfl, ?_⟩, .inr rfl, .inr (.inr rfl), by omega⟩
      cases hn : newer t i t' i' with
      | true => rfl
      | false => exact absurd (.inr (.inr hn)) hh
  · simp only [if_neg h]
    split
    · dsimp only; exact ⟨by omega, fun _ _ => rfl, fun e => (by cases e), .inl rfl, .inl rfl, by omega⟩
    · rename_i hh
      dsimp only at hh ⊢
      refine ⟨by omega, fun _ hb => ?_, fun _ => ⟨by omega, rfl, ?_⟩, .inl rfl, .inr (.inr rfl), by omega⟩
      · by_cases e : b = who
        · exact e.symm
        · exact absurd (.inr (.inl ⟨hb, e⟩)) hh
      · cases hn : newer t i t' i' with
        | true => rfl
        | false => exact absurd (.inr (.inr hn)) hh
theorem inv_grant {conf : List Int} {V : Nat → Int × Int} {T : Nat → Int} {S : Nat → List Nat} (hm : may conf = true) (h : OneInv conf.length conf V T S) {who to : Nat} (hw : who < conf.length) (ht : to < conf.length) (hl : (S who).length = 65) {term : Int} (h1 : 1 ≤ term) (h2 : term ≤ 20) (hT : T who = term) (i t i' t' : Int) :
    OneInv conf.length conf (upd V to (grant (V to) term (conf.getD who 0) i t i' t').1) T (upd S who (vote term conf (S who) (conf.getD to 0) term (grant (V to) term (conf.getD who 0) i t i' t').2).2) := by
  obtain ⟨g1, g2, g3, g4, g5, g6⟩ := grant_facts (V to) term (conf.getD who 0) i t i' t'
  obtain ⟨c1, c2, c3⟩ := conf_at hm hw
  have hvt := h.vt to ht
  obtain ⟨⟨x, y⟩, hxy⟩ : ∃ g, grant (V to) term (conf.getD who 0) i t i' t' = g := ⟨_, rfl⟩
  rw [hxy] at g1 g2 g3 g4 g5 g6 ⊢
  obtain ⟨a1, a2, a3, a4⟩ := vote_at hm (T := term) (said := S who) hl ht y
  dsimp only at *
  generalize (vote term conf (S who) (conf.getD to 0) term y).2 = s at *
  -- who says yes behind it
  have hs : ∀ v, v < conf.length → s.getD (conf.getD v 0).toNat 0 = 1 → (S who).getD (conf.getD v 0).toNat 0 = 1 ∨ (v = to ∧ y = true) := fun v hv hh => by
    by_cases e : (conf.getD v 0).toNat = (conf.getD to 0).toNat
    · have e2 := conf_nat hm hv ht e
      subst e2
      rw [a4] at hh
      split at hh
      · right; refine ⟨rfl, ?_⟩; cases y
        · simp at hh
        · rfl
      · exact .inl hh
    · rw [a3 _ e] at hh; exact .inl hh
  have hyes : ∀ c, c < conf.length → T c ≠ 0 → ∀ v, v < conf.length → (S c).getD (conf.getD v 0).toNat 0 = 1 → T c < (upd V to x v).1 ∨ (T c = (upd V to x v).1 ∧ (upd V to x v).2 = conf.getD c 0) := fun c hc hT0 v hv hy => by
    have := h.yes c hc hT0 v hv hy
    by_cases e : v = to
    · subst e
      rw [upd_same]
      have hcc := conf_at hm hc
      rcases this with h3 | ⟨h3, h4⟩
      · left; omega
      · by_cases e3 : x.1 = (V v).1
        · right; exact ⟨by omega, by rw [g2 e3 (by omega)]; exact h4⟩
        · left; omega
    · rw [upd_other _ _ e]; exact this
  refine ⟨fun k hk => ?_, h.tt, fun c hc hT0 v hv hy => ?_, fun c hc c' hc' hne hTT hT0 v hvn hy => ?_⟩
  · by_cases e : k = to
    · subst e; rw [upd_same]
      refine ⟨by omega, by omega, by omega, by omega, by omega⟩
    · rw [upd_other _ _ e]; exact h.vt k hk
  · by_cases e : c = who
    · subst e
      rw [upd_same] at hy
      rcases hs v hv hy with h3 | ⟨rfl, h3⟩
      · exact hyes c hc hT0 v hv h3
      · rw [upd_same]; have := g3 h3; right; exact ⟨by omega, this.2.1⟩
    · rw [upd_other _ _ e] at hy
      exact hyes c hc hT0 v hv hy
  · have key : ∀ c', c' < conf.length → c' ≠ who → T c' = term → ∀ v, v < conf.length → s.getD (conf.getD v 0).toNat 0 = 1 → (S c').getD (conf.getD v 0).toNat 0 = 1 → False := fun c' hc' hne hT' v hvn k1 k2 => by
      rcases hs v hvn k1 with h3 | ⟨rfl, h3⟩
      · exact h.one who hw c' hc' (Ne.symm hne) (by omega) (by omega) v hvn ⟨h3, k2⟩
      · have h4 := g3 h3
        have hcc := conf_at hm hc'
        rcases h.yes c' hc' (by omega) v hvn k2 with h5 | ⟨h5, h6⟩
        · omega
        · have h7 := g2 (by omega) (by omega)
          exact hne (conf_inj hm hc' hw (by omega))
    by_cases e : c = who
    · subst e
      rw [upd_same, upd_other _ _ (Ne.symm hne)] at hy
      exact key c' hc' (Ne.symm hne) (by omega) v hvn hy.1 hy.2
    · rw [upd_other _ _ e] at hy
      by_cases e2 : c' = who
      · subst e2
        rw [upd_same] at hy
        exact key c hc e (by omega) v hvn hy.2 hy.1
      · rw [upd_other _ _ e2] at hy
        exact h.one c hc c' hc' hne hTT hT0 v hvn hy
/-- Of one term at most one wins. -/
theorem inv_won {conf : List Int} {V : Nat → Int × Int} {T : Nat → Int} {S : Nat → List Nat} (h : OneInv conf.length conf V T S) {c c' : Nat} (hc : c < conf.length) (hc' : c' < conf.length) (hT : T c = T c') (hT0 : T c ≠ 0) (w1 : won (S c) conf = true) (w2 : won (S c') conf = true) : c = c' := by
  by_cases e : c = c'
  · exact e
  · obtain ⟨x, h1, h2, h3⟩ := meet_self w1 w2
    obtain ⟨v, hv, rfl⟩ := List.mem_iff_getElem.1 h3
    have k1 := (List.mem_filter.1 h1).2
    have k2 := (List.mem_filter.1 h2).2
    rw [← getD_of hv] at k1 k2
    refine absurd ⟨?_, ?_⟩ (h.one c hc c' hc' e hT hT0 v hv)
    · have := beq_iff_eq.1 k1; omega
    · have := beq_iff_eq.1 k2; omega
def tallyN (W : Nat → Bool) (k : Nat) : Nat := ((List.range k).filter W).length
theorem tallyN_succ (W : Nat → Bool) (k : Nat) : tallyN W (k + 1) = tallyN W k + (if W k = true then 1 else 0) := by
  unfold tallyN
  rw [List.range_succ, List.filter_append, List.length_append]
  simp only [List.filter_cons, List.filter_nil]
  split <;> rfl
theorem tallyN_le {W : Nat → Bool} : ∀ {n : Nat}, (∀ i, i < n → ∀ j, j < n → W i = true → W j = true → i = j) → tallyN W n ≤ 1
  | 0, _ => by simp [tallyN]
  | n + 1, h => by
    rw [tallyN_succ]
    by_cases hw : W n = true
    · rw [if_pos hw]
      have : tallyN W n = 0 := by
        unfold tallyN
        rw [List.filter_eq_nil_iff.2 (fun x hx => fun h2 => by
          have hx := List.mem_range.1 hx
          have := h x (by omega) n (by omega) h2 hw
          omega)]
        rfl
      omega
    · rw [if_neg hw]
      exact tallyN_le (fun i hi j hj => h i (by omega) j (by omega))
theorem tallyN_len (W : Nat → Bool) (n : Nat) : tallyN W n ≤ n := by unfold tallyN; exact Nat.le_trans (List.length_filter_le _ _) (by simp)
end Go.Proofs.Ytjjdfhokmiaekaa
