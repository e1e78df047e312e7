/-
  What holds of the waits all along (plain).
-/
import Derived.Test.YtjjdfhokmiaekaaRdWorks
namespace Go.Proofs.Ytjjdfhokmiaekaa
open Go Go.RowKit Go.Lst Go.Lx Go.Maps

def hasB (l : List Wt) (x : Int) : Bool := l.any fun e => e.id == x
theorem hasB_iff {l : List Wt} {x : Int} : hasB l x = true ↔ ∃ e ∈ l, e.id = x := by
  unfold hasB
  rw [List.any_eq_true]
  constructor
  · rintro ⟨e, h1, h2⟩; exact ⟨e, h1, by simpa using h2⟩
  · rintro ⟨e, h1, h2⟩; exact ⟨e, h1, by simpa using h2⟩
structure SOk (S : RS) (i : Nat) : Prop where
  rd : 0 ≤ S.rd ∧ S.rd ≤ i
  ln : S.l.length ≤ 256
  my : ∀ e ∈ S.l, may e.c = true
  wf : ∀ e ∈ S.l, (Lit.int .u64 e.id).wf = true
  rs : ∀ e ∈ S.l, 1 ≤ e.r ∧ e.r ≤ S.rd
  up : S.l.Pairwise (fun a b => a.r < b.r)
  ne : S.l.Pairwise (fun a b => a.id ≠ b.id)
theorem SOk.mono {S : RS} {i j : Nat} (h : SOk S i) (hij : i ≤ j) : SOk S j := ⟨⟨h.rd.1, by have := h.rd.2; omega⟩, h.ln, h.my, h.wf, h.rs, h.up, h.ne⟩
theorem ask_ok {S : RS} {id cm : Int} {c : List Int} (h : askE S id cm c = 0) : may c = true ∧ hasB S.l id = false ∧ S.l.length < 256 ∧ askS S id cm c = { S with rd := S.rd + 1, l := S.l ++ [⟨id, cm, S.rd + 1, c⟩] } ∧ askR S id cm c = S.rd + 1 := by
  have h0 := h
  unfold askE at h
  split at h
  · cases h
  · rename_i h1
    split at h
    · cases h
    · rename_i h2
      split at h
      · cases h
      · rename_i h3
        refine ⟨?_, by simpa [hasB] using h2, by omega, by unfold askS; rw [if_pos h0], by unfold askR; rw [if_pos h0]⟩
        cases hm : may c with
        | true => rfl
        | false => exact absurd (.inl hm) h1
theorem SOk.ask {S : RS} {i : Nat} (h : SOk S i) (id cm : Int) (c : List Int) (hid : (Lit.int .u64 id).wf = true) : SOk (askS S id cm c) (i + 1) := by
  by_cases h0 : askE S id cm c = 0
  · obtain ⟨h1, h2, h3, h4, -⟩ := ask_ok h0
    rw [h4]
    refine ⟨⟨by have := h.rd; dsimp only; omega, by have := h.rd; dsimp only; omega⟩, by simp; omega, fun e he => ?_, fun e he => ?_, fun e he => ?_, ?_, ?_⟩
    · rcases List.mem_append.1 he with he | he
      · exact h.my e he
      · simp at he; subst he; exact h1
    · rcases List.mem_append.1 he with he | he
      · exact h.wf e he
      · simp at he; subst he; exact hid
    · rcases List.mem_append.1 he with he | he
      · have := h.rs e he; dsimp only; omega
      · simp at he; subst he; have := h.rd; dsimp only; omega
    · rw [List.pairwise_append]
      refine ⟨h.up, List.pairwise_singleton _ _, fun a ha b hb => ?_⟩
      simp at hb; subst hb
      have := h.rs a ha; dsimp only; omega
    · rw [List.pairwise_append]
      refine ⟨h.ne, List.pairwise_singleton _ _, fun a ha b hb => ?_⟩
      simp at hb; subst hb
      intro e
      have := hasB_iff.2 ⟨a, ha, e⟩
      rw [h2] at this; cases this
  · have : askS S id cm c = S := by unfold askS; rw [if_neg h0]
    rw [this]
    exact h.mono (by omega)
theorem SOk.ack {S : RS} {i : Nat} (h : SOk S i) (f r : Int) : SOk (ackS S f r) (i + 1) := by
  unfold ackS
  split
  · exact ⟨⟨h.rd.1, by have := h.rd.2; dsimp only; omega⟩, h.ln, h.my, h.wf, h.rs, h.up, h.ne⟩
  · exact h.mono (by omega)
theorem SOk.ready {S : RS} {i : Nat} (h : SOk S i) (ap : Int) : SOk (readyS S ap) (i + 1) := by
  unfold readyS
  have hs : (S.l.filter fun e => !goesB S ap e).Sublist S.l := List.filter_sublist
  exact ⟨⟨h.rd.1, by have := h.rd.2; dsimp only; omega⟩, Nat.le_trans hs.length_le h.ln, fun e he => h.my e (hs.subset he), fun e he => h.wf e (hs.subset he), fun e he => h.rs e (hs.subset he), h.up.sublist hs, h.ne.sublist hs⟩
theorem SOk.drop {S : RS} {i : Nat} (h : SOk S i) : SOk (dropS S) (i + 1) := by
  unfold dropS
  exact ⟨⟨h.rd.1, by have := h.rd.2; dsimp only; omega⟩, by simp, fun e he => by simp at he, fun e he => by simp at he, fun e he => by simp at he, List.Pairwise.nil, List.Pairwise.nil⟩
/-- What stands behind an ask. -/
theorem has_ask (l : List Wt) (e : Wt) : (fun y => if y = e.id then true else hasB l y) = hasB (l ++ [e]) := by
  funext y
  unfold hasB
  rw [List.any_append]
  by_cases h : y = e.id
  · subst h; simp
  · have : (e.id == y) = false := by simpa using fun h' => h h'.symm
    simp [h, this]
/-- What is left while the first k of those that go are struck. -/
def leftB (l out : List Wt) (k : Nat) (x : Int) : Bool := hasB l x && !hasB (out.take k) x
theorem left_zero (l out : List Wt) : leftB l out 0 = hasB l := by funext x; unfold leftB hasB; simp
theorem left_step (l out : List Wt) (k : Nat) (hk : k < out.length) : (fun y => if y = out[k].id then false else leftB l out k y) = leftB l out (k + 1) := by
  funext y
  unfold leftB hasB
  rw [List.take_succ_eq_append_getElem hk, List.any_append]
  by_cases h : y = out[k].id
  · subst h; simp
  · have : (out[k].id == y) = false := by simpa using fun h' => h h'.symm
    simp [h, this]
theorem pair_id {l : List Wt} (h : l.Pairwise (fun a b => a.id ≠ b.id)) {a b : Wt} (ha : a ∈ l) (hb : b ∈ l) (e : a.id = b.id) : a = b := by
  obtain ⟨i, hi, rfl⟩ := List.getElem_of_mem ha
  obtain ⟨j, hj, rfl⟩ := List.getElem_of_mem hb
  rw [List.pairwise_iff_getElem] at h
  rcases Nat.lt_trichotomy i j with h1 | h1 | h1
  · exact absurd e (h i j hi hj h1)
  · subst h1; rfl
  · exact absurd e.symm (h j i hj hi h1)
theorem left_at {S : RS} {i : Nat} (h : SOk S i) (ap : Int) (k : Nat) (hk : k < (readyO S ap).length) : leftB S.l (readyO S ap) k (readyO S ap)[k].id = true := by
  have hs : (readyO S ap).Sublist S.l := List.filter_sublist
  have hn := h.ne.sublist hs
  have h1 : hasB S.l (readyO S ap)[k].id = true := hasB_iff.2 ⟨_, hs.subset (List.getElem_mem hk), rfl⟩
  have h2 : hasB ((readyO S ap).take k) (readyO S ap)[k].id = false := by
    cases hb : hasB ((readyO S ap).take k) (readyO S ap)[k].id with
    | false => rfl
    | true =>
      obtain ⟨e, he, heq⟩ := hasB_iff.1 hb
      obtain ⟨j, hj, rfl⟩ := List.getElem_of_mem he
      rw [List.length_take] at hj
      rw [List.getElem_take] at heq
      rw [List.pairwise_iff_getElem] at hn
      exact absurd heq (hn j k (by omega) hk (by omega))
  unfold leftB
  rw [h1, h2]; rfl
theorem left_end {S : RS} {i : Nat} (h : SOk S i) (ap : Int) : leftB S.l (readyO S ap) (readyO S ap).length = hasB (readyS S ap).l := by
  funext x
  unfold leftB
  rw [List.take_length, Bool.eq_iff_iff]
  simp only [Bool.and_eq_true, Bool.not_eq_true', readyS]
  constructor
  · rintro ⟨h1, h2⟩
    obtain ⟨e, he, rfl⟩ := hasB_iff.1 h1
    refine hasB_iff.2 ⟨e, List.mem_filter.2 ⟨he, ?_⟩, rfl⟩
    cases hg : goesB S ap e with
    | false => rfl
    | true =>
      have := hasB_iff.2 ⟨e, List.mem_filter.2 ⟨he, hg⟩, rfl⟩
      unfold readyO at h2
      rw [this] at h2; cases h2
  · intro h1
    obtain ⟨e, he, rfl⟩ := hasB_iff.1 h1
    obtain ⟨he1, he2⟩ := List.mem_filter.1 he
    refine ⟨hasB_iff.2 ⟨e, he1, rfl⟩, ?_⟩
    cases hb : hasB (readyO S ap) e.id with
    | false => rfl
    | true =>
      obtain ⟨e', he', heq⟩ := hasB_iff.1 hb
      obtain ⟨h3, h4⟩ := List.mem_filter.1 he'
      have := pair_id h.ne h3 he1 heq
      subst this
      rw [h4] at he2; simp at he2
theorem ready_len (S : RS) (ap : Int) : (readyS S ap).l.length + (readyO S ap).length = S.l.length := by
  unfold readyS readyO
  have : ∀ l : List Wt, (l.filter fun e => !goesB S ap e).length + (l.filter fun e => goesB S ap e).length = l.length := fun l => by
    induction l with
    | nil => rfl
    | cons a l ih =>
      cases hg : goesB S ap a <;> simp [List.filter_cons, hg] <;> omega
  exact this S.l
/-- The law's own votes are enough where the leader's are. -/
theorem votes_enough {S : RS} {e : Wt} (h : sureB S e = true) : quorum (S.me :: e.c.filter fun n => decide (e.r ≤ S.h n)) e.c = true := by
  unfold sureB quorum at h
  unfold quorum
  rw [decide_eq_true_eq] at h ⊢
  have : cnt (e.c.filter fun n => decide (n = S.me) || decide (e.r ≤ S.h n)) e.c = cnt (S.me :: e.c.filter fun n => decide (e.r ≤ S.h n)) e.c := by
    unfold cnt
    congr 1
    refine List.filter_congr fun x hx => ?_
    rw [Bool.eq_iff_iff]
    simp only [decide_eq_true_eq, List.mem_cons, List.mem_filter, Bool.or_eq_true]
    constructor
    · rintro ⟨_, h1 | h1⟩
      · exact .inl h1
      · exact .inr ⟨hx, h1⟩
    · rintro (h1 | ⟨_, h1⟩)
      · exact ⟨hx, .inl h1⟩
      · exact ⟨hx, .inr h1⟩
  rwa [this] at h
theorem goes_parts {S : RS} {ap : Int} {e : Wt} (h : e ∈ readyO S ap) : e ∈ S.l ∧ e.ix ≤ ap ∧ sureB S e = true := by
  obtain ⟨h1, h2⟩ := List.mem_filter.1 h
  unfold goesB at h2
  rw [Bool.and_eq_true, decide_eq_true_eq] at h2
  exact ⟨h1, h2⟩
end Go.Proofs.Ytjjdfhokmiaekaa
