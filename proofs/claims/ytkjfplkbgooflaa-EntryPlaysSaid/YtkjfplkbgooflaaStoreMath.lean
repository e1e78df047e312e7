/-
  What a log holds behind Store: plain laws.
-/
import Derived.Test.YtkjfplkbgooflaaMay26
namespace Go.Proofs.Ytkjfplkbgooflaa
open Go Go.RowKit Go.Lst Go.Lx

def skipE (L : LogS) : List Ent → List Ent
  | [] => []
  | e :: es => if e.i ≤ L.i ∨ fitsB L e.i e.t = true then skipE L es else e :: es
def clashB (L : LogS) (i t : Int) : Bool := ((termAt L i).2 == 5) || (((termAt L i).2 == 0) && ((termAt L i).1 != t))
def storeE (L : LogS) (i t : Int) (es : List Ent) : Int :=
  if mayEs i t es = false then 2 else if clashB L i t = true then 261 else
  match skipE L es with
  | [] => 0
  | e :: r => if 4096 < (e.i - L.i - 1) + ((r.length : Int) + 1) then 6 else 0
def storePut (L : LogS) (i t : Int) (es : List Ent) : List Ent := if storeE L i t es = 0 then skipE L es else []
def storeAt (L : LogS) (i t : Int) (es : List Ent) : Int := match storePut L i t es with | [] => 0 | e :: _ => e.i
def storeL (L : LogS) (i t : Int) (es : List Ent) : LogS := match storePut L i t es with | [] => L | e :: r => { L with l := L.l.take (e.i - L.i - 1).toNat ++ (e :: r) }
theorem mayE_bounds {e : Ent} (h : mayE e = true) : 1 ≤ e.i ∧ e.i ≤ 281474976710656 ∧ 1 ≤ e.t ∧ e.t ≤ 281474976710656 := by
  unfold mayE at h
  rw [Bool.and_eq_true, decide_eq_true_eq] at h
  exact h.1
theorem fitsB_le {L : LogS} {x t : Int} (h : fitsB L x t = true) : L.i ≤ x ∧ x ≤ (lastOf L).1 := by
  unfold fitsB termAt at h
  by_cases c1 : x < L.i
  · rw [if_pos c1] at h; simp at h
  · rw [if_neg c1] at h
    by_cases c2 : (lastOf L).1 < x
    · rw [if_pos c2] at h; simp at h
    · omega
theorem wrap_le {x : Int} (h0 : 0 ≤ x) (h1 : x ≤ 300000000000000) : IntKind.u64.wrap (x + 1) = x + 1 := by rw [IntKind.wrap_u64]; omega
theorem skipE_spec {L : LogS} (ok : LogOk L) (hl : L.l.length ≤ 4096) : ∀ (es : List Ent) (i t : Int), 0 ≤ i → i ≤ L.i + L.l.length → mayEs i t es = true → ∀ e r, skipE L es = e :: r → L.i < e.i ∧ e.i ≤ L.i + L.l.length + 1 ∧ ∃ i' t', 0 ≤ i' ∧ i' ≤ L.i + L.l.length ∧ mayEs i' t' (e :: r) = true
  | [], _, _, _, _, _, _, _, h => by cases h
  | x :: es, i, t, h0, hi, hm, e, r, h => by
    have hi0 := ok.i0
    have hlast := ok.last
    have hm' := hm
    rw [mayEs_cons] at hm
    simp only [Bool.and_eq_true, decide_eq_true_eq] at hm
    obtain ⟨⟨⟨m1, m2⟩, m3⟩, m4⟩ := hm
    rw [wrap_le h0 (by omega)] at m2
    unfold skipE at h
    split at h
    · rename_i hd
      have hx : x.i ≤ L.i + L.l.length := by
        rcases hd with h1 | h1
        · omega
        · have := fitsB_le h1; omega
      exact skipE_spec ok hl es x.i x.t (by omega) hx m4 e r h
    · rename_i hd
      injection h with h1 h2
      subst h1 h2
      exact ⟨by omega, by omega, i, t, h0, hi, hm'⟩
theorem mayEs_at : ∀ (es : List Ent) (i t : Int), 0 ≤ i → i + es.length ≤ 300000000000000 → mayEs i t es = true → ∀ j (h : j < es.length), es[j].i = i + j + 1 ∧ mayE es[j] = true
  | [], _, _, _, _, _, j, h => by simp at h
  | x :: es, i, t, h0, hi, hm, j, h => by
    rw [mayEs_cons] at hm
    simp only [Bool.and_eq_true, decide_eq_true_eq] at hm
    obtain ⟨⟨⟨m1, m2⟩, m3⟩, m4⟩ := hm
    simp only [List.length_cons] at hi
    rw [wrap_le h0 (by omega)] at m2
    cases j with
    | zero => exact ⟨by simpa using m2, m1⟩
    | succ j =>
      have := mayEs_at es x.i x.t (by omega) (by omega) m4 j (by simpa using h)
      refine ⟨?_, by simpa using this.2⟩
      have h1 := this.1
      simp only [List.getElem_cons_succ]
      push_cast
      omega
theorem clashB_le {L : LogS} (ok : LogOk L) {i t : Int} (h : clashB L i t = false) : i ≤ L.i + L.l.length := by
  have hlast := ok.last
  unfold clashB termAt at h
  by_cases c1 : i < L.i
  · omega
  · rw [if_neg c1] at h
    by_cases c2 : (lastOf L).1 < i
    · rw [if_pos c2] at h; simp at h
    · omega
/-- What Store puts, where it puts something. -/
theorem storePut_spec {L : LogS} (ok : LogOk L) (hl : L.l.length ≤ 4096) {i t : Int} (h0 : 0 ≤ i) {es : List Ent} {e : Ent} {r : List Ent} (h : storePut L i t es = e :: r) :
    storeE L i t es = 0 ∧ skipE L es = e :: r ∧ L.i < e.i ∧ e.i ≤ L.i + L.l.length + 1 ∧ (e.i - L.i - 1) + ((r.length : Int) + 1) ≤ 4096 ∧ (∃ i' t', 0 ≤ i' ∧ i' ≤ L.i + L.l.length ∧ mayEs i' t' (e :: r) = true) ∧ mayEs i t es = true ∧ clashB L i t = false := by
  unfold storePut at h
  split at h
  · rename_i hE
    have hE' := hE
    unfold storeE at hE
    split at hE
    · cases hE
    · rename_i c1
      split at hE
      · cases hE
      · rename_i c2
        have hm : mayEs i t es = true := by simpa using c1
        have hc : clashB L i t = false := by simpa using c2
        obtain ⟨g1, g2, g3⟩ := skipE_spec ok hl es i t h0 (clashB_le ok hc) hm e r h
        rw [h] at hE
        dsimp only at hE
        split at hE
        · cases hE
        · exact ⟨hE', h, g1, g2, by omega, g3, hm, hc⟩
  · cases h
theorem storeL_ok {L : LogS} (ok : LogOk L) (hl : L.l.length ≤ 4096) {i t : Int} (h0 : 0 ≤ i) (es : List Ent) : LogOk (storeL L i t es) ∧ (storeL L i t es).l.length ≤ 4096 := by
  unfold storeL
  rcases h : storePut L i t es with _ | ⟨e, r⟩
  · exact ⟨ok, hl⟩
  · obtain ⟨h1, h2, h3, h4, h5, ⟨i', t', m1, m2, m3⟩, h6, h7⟩ := storePut_spec ok hl h0 h
    have hi0 := ok.i0
    obtain ⟨n, hn⟩ : ∃ n : Nat, (e.i - L.i - 1).toNat = n := ⟨_, rfl⟩
    have hn' : e.i = L.i + n + 1 := by omega
    have hei := (mayEs_at (e :: r) i' t' m1 (by simp only [List.length_cons]; push_cast; omega) m3)
    have he0 := (hei 0 (by simp)).1
    simp only [List.getElem_cons_zero] at he0
    dsimp only
    rw [hn]
    refine ⟨⟨ok.i0, ok.t0, ok.cm, fun j hj => ?_⟩, ?_⟩
    · dsimp only at hj ⊢
      have hj2 : j < n + (r.length + 1) := by
        simp only [List.length_append, List.length_take, List.length_cons] at hj
        omega
      by_cases hjn : j < n
      · have hjl : j < L.l.length := by omega
        have e1 : (List.take n L.l ++ e :: r)[j] = L.l[j] := by
          rw [List.getElem_append_left (by rw [List.length_take]; omega), List.getElem_take]
        rw [e1]
        exact ok.at' j hjl
      · have e1 : (List.take n L.l ++ e :: r)[j] = (e :: r)[j - n]'(by simp; omega) := by
          rw [List.getElem_append_right (by rw [List.length_take]; omega)]
          congr 1
          rw [List.length_take]
          omega
        rw [e1]
        have := hei (j - n) (by simp; omega)
        refine ⟨?_, this.2⟩
        rw [this.1]
        push_cast at *
        omega
    · simp only [List.length_append, List.length_take, List.length_cons]
      omega
theorem appendL_ok {L : LogS} (ok : LogOk L) (hl : L.l.length ≤ 4096) (e : Ent) : LogOk (appendL L e) ∧ (appendL L e).l.length ≤ 4096 := by
  unfold appendL
  split
  · rename_i h
    unfold appendE at h
    split at h
    · cases h
    rename_i c1
    split at h
    · cases h
    rename_i c2
    split at h
    · cases h
    rename_i c3
    have hlast := ok.last
    have hei : e.i = L.i + L.l.length + 1 := by
      by_cases c : e.i = (lastOf L).1 + 1
      · omega
      · exact absurd (.inl c) c2
    refine ⟨⟨ok.i0, ok.t0, ok.cm, fun j hj => ?_⟩, by simp; omega⟩
    dsimp only at hj ⊢
    by_cases hjl : j < L.l.length
    · rw [List.getElem_append_left hjl]; exact ok.at' j hjl
    · have : j = L.l.length := by simp at hj; omega
      subst this
      rw [List.getElem_append_right (by omega)]
      simp only [Nat.sub_self, List.getElem_cons_zero]
      exact ⟨hei, by simpa using c1⟩
  · exact ⟨ok, hl⟩
theorem Ents.take {B : Nat} {w : World} {p : Option Addr} {n c : Nat} {es : List Ent} (h : Ents B w (.slice p n c) es) (N : Nat) (hN : N ≤ es.length) : Ents B w (.slice p N N) (es.take N) := by
  obtain ⟨p', c', e, h1, h2, h3⟩ := h
  injection e with e1 e2 e3
  subst e1 e2 e3
  have hl : (es.take N).length = N := by rw [List.length_take]; omega
  refine ⟨p, N, by rw [hl], by rw [hl]; omega, by omega, fun j hj => ?_⟩
  obtain ⟨a, cv, ha, h4, h5⟩ := h3 j (by omega)
  refine ⟨a, cv, ha, fun m hm => ?_, ?_⟩
  · rw [List.getElem_take]; exact h4 m hm
  · rw [List.getElem_take]; exact h5
theorem Ents.rest {B : Nat} {w : World} {a : Addr} {n c : Nat} {e : Ent} {es : List Ent} (h : Ents B w (.slice (some a) n c) (e :: es)) (hc : 0 < c - 1) : Ents B w (.slice (some (a.add 5)) (n - 1) (c - 1)) es := by
  obtain ⟨p', c', e', h1, h2, h3⟩ := h
  injection e' with e1 e2 e3
  subst e2 e3
  simp only [List.length_cons] at *
  refine ⟨some (a.add 5), c - 1, by simp, by omega, by omega, fun j hj => ?_⟩
  obtain ⟨a', cv, ha, h4, h5⟩ := h3 (j + 1) (by omega)
  rw [← e1] at ha
  cases ha
  refine ⟨_, cv, rfl, fun m hm => ?_, by simpa using h5⟩
  have := h4 m hm
  rw [Lst.add_add, show 5 + (j * 5 + m) = (j + 1) * 5 + m by omega]
  simpa using this
theorem Ents.none {B : Nat} {w : World} (p : Option Addr) (c : Nat) (h : c ≤ maxLen) : Ents B w (.slice p 0 c) [] := ⟨p, c, rfl, Nat.zero_le _, h, fun j hj => by simp at hj⟩
end Go.Proofs.Ytkjfplkbgooflaa
