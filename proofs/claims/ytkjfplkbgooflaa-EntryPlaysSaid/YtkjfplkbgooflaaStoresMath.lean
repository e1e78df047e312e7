/-
  EntryStores: plain laws.
-/
import Derived.Test.YtkjfplkbgooflaaCopied
namespace Go.Proofs.Ytkjfplkbgooflaa
open Go Go.RowKit Go.Lst Go.Lx

theorem mayEs_at' : ∀ (es : List Ent) (i t : Int), 0 ≤ i → i ≤ 290000000000000 → mayEs i t es = true → ∀ j (h : j < es.length), es[j].i = i + j + 1 ∧ mayE es[j] = true
  | [], _, _, _, _, _, j, h => by simp at h
  | x :: es, i, t, h0, hi, hm, j, h => by
    rw [mayEs_cons] at hm
    simp only [Bool.and_eq_true, decide_eq_true_eq] at hm
    obtain ⟨⟨⟨m1, m2⟩, m3⟩, m4⟩ := hm
    have hb := mayE_bounds m1
    rw [wrap_le h0 (by omega)] at m2
    cases j with
    | zero => exact ⟨by simpa using m2, m1⟩
    | succ j =>
      have := mayEs_at' es x.i x.t (by omega) (by omega) m4 j (by simpa using h)
      refine ⟨?_, by simpa using this.2⟩
      have h1 := this.1
      simp only [List.getElem_cons_succ]
      push_cast
      omega
theorem skipE_split {L : LogS} : ∀ (es : List Ent) (e : Ent) (r : List Ent), skipE L es = e :: r → ∃ D, es = D ++ e :: r ∧ ∀ x ∈ D, x.i ≤ L.i ∨ fitsB L x.i x.t = true
  | [], _, _, h => by cases h
  | x :: es, e, r, h => by
    unfold skipE at h
    split at h
    · rename_i hd
      obtain ⟨D, h1, h2⟩ := skipE_split es e r h
      refine ⟨x :: D, by rw [h1]; rfl, fun y hy => ?_⟩
      rcases List.mem_cons.1 hy with rfl | hy
      · exact hd
      · exact h2 y hy
    · injection h with h1 h2
      subst h1 h2
      exact ⟨[], rfl, fun y hy => by cases hy⟩
theorem skipE_nil {L : LogS} : ∀ (es : List Ent), (∀ x ∈ es, x.i ≤ L.i ∨ fitsB L x.i x.t = true) → skipE L es = []
  | [], _ => rfl
  | x :: es, h => by
    unfold skipE
    rw [if_pos (h x (by simp))]
    exact skipE_nil es (fun y hy => h y (by simp [hy]))
theorem entAt_get {L : LogS} {k : Nat} (hk : k < L.l.length) : entAt L (L.i + k + 1) = L.l[k] := by
  unfold entAt
  rw [show (L.i + k + 1 - L.i - 1).toNat = k by omega, List.getD_eq_getElem?_getD, List.getElem?_eq_getElem hk]
  rfl
theorem termAt_get {L : LogS} (ok : LogOk L) {k : Nat} (hk : k < L.l.length) : termAt L (L.i + k + 1) = (L.l[k].t, 0) := by
  have hlast := ok.last
  unfold termAt
  rw [if_neg (by omega), if_neg (by omega), if_neg (by omega), entAt_get hk]
theorem fits_get {L : LogS} (ok : LogOk L) {x t : Int} (h : fitsB L x t = true) (hx : L.i < x) : ∃ k, ∃ hk : k < L.l.length, x = L.i + k + 1 ∧ L.l[k].t = t := by
  have hlast := ok.last
  have hle := fitsB_le h
  refine ⟨(x - L.i - 1).toNat, by omega, by omega, ?_⟩
  have ht := termAt_get ok (k := (x - L.i - 1).toNat) (by omega)
  rw [show L.i + ((x - L.i - 1).toNat : Int) + 1 = x by omega] at ht
  unfold fitsB at h
  rw [ht] at h
  simpa using h
theorem fits_of {L : LogS} (ok : LogOk L) {k : Nat} (hk : k < L.l.length) : fitsB L (L.i + k + 1) L.l[k].t = true := by
  unfold fitsB
  rw [termAt_get ok hk]
  simp
theorem stores_law {L : LogS} (ok : LogOk L) (hl : L.l.length ≤ 4096) {i t : Int} (h0 : 0 ≤ i) {es : List Ent} {e : Ent} {r : List Ent} (h : storePut L i t es = e :: r) :
    storeE L i t es = 0 ∧ storeAt L i t es = e.i ∧ L.i < e.i ∧ (∃ N : Nat, e.i = L.i + N + 1 ∧ N ≤ L.l.length ∧ storeL L i t es = { L with l := L.l.take N ++ (e :: r) }) ∧
      (∀ p (hp : p < es.length), L.i < es[p].i → ∃ k, ∃ hk : k < (storeL L i t es).l.length, es[p].i = L.i + k + 1 ∧ (storeL L i t es).l[k].t = es[p].t ∧ (e.i ≤ es[p].i → (storeL L i t es).l[k] = es[p])) ∧
      (∃ hp : es.length - 1 < es.length, es[es.length - 1].i = (lastOf (storeL L i t es)).1) ∧ storeE (storeL L i t es) i t es = 0 ∧ storePut (storeL L i t es) i t es = [] := by
  obtain ⟨h1, h2, h3, h4, h5, -, h6, h7⟩ := storePut_spec ok hl h0 h
  have hi0 := ok.i0
  have hlast := ok.last
  obtain ⟨D, hes, hD⟩ := skipE_split es e r h2
  have hil := clashB_le ok h7
  have hidx := mayEs_at' es i t h0 (by omega) h6
  have hat : storeAt L i t es = e.i := by unfold storeAt; rw [h]
  obtain ⟨N, hN⟩ : ∃ N : Nat, e.i = L.i + N + 1 := ⟨(e.i - L.i - 1).toNat, by omega⟩
  have hsl : storeL L i t es = { L with l := L.l.take N ++ (e :: r) } := by
    unfold storeL
    rw [h]
    dsimp only
    rw [show (e.i - L.i - 1).toNat = N by omega]
  obtain ⟨ok', hl'⟩ := storeL_ok ok hl h0 (t := t) es
  have hlast' := ok'.last
  rw [hsl] at ok' hlast' hl' ⊢
  have hlen : (L.l.take N ++ (e :: r)).length = N + (r.length + 1) := by simp only [List.length_append, List.length_take, List.length_cons]; omega
  have hesl : es.length = D.length + (r.length + 1) := by rw [hes]; simp
  have heD : e.i = i + D.length + 1 := by
    have := (hidx D.length (by omega)).1
    simp only [hes] at this
    rw [List.getElem_append_right (by omega)] at this
    simpa using this
  have two : ∀ p (hp : p < es.length), L.i < es[p].i → ∃ k, ∃ hk : k < (L.l.take N ++ (e :: r)).length, es[p].i = L.i + k + 1 ∧ (L.l.take N ++ (e :: r))[k].t = es[p].t ∧ (e.i ≤ es[p].i → (L.l.take N ++ (e :: r))[k] = es[p]) := fun p hp hx => by
    have hpi := (hidx p hp).1
    by_cases hpD : p < D.length
    · have hxD : es[p] = D[p] := by simp only [hes]; exact List.getElem_append_left hpD
      have hf := (hD D[p] (List.getElem_mem hpD)).resolve_left (by rw [← hxD]; omega)
      rw [← hxD] at hf
      obtain ⟨k, hk, k1, k2⟩ := fits_get ok hf hx
      refine ⟨k, by rw [hlen]; omega, k1, ?_, fun h => by omega⟩
      rw [List.getElem_append_left (by rw [List.length_take]; omega), List.getElem_take]
      exact k2
    · have hxR : es[p] = (e :: r)[p - D.length]'(by simp; omega) := by simp only [hes]; exact List.getElem_append_right (by omega)
      have hk : (L.l.take N ++ (e :: r))[N + (p - D.length)]'(by rw [hlen]; omega) = es[p] := by
        rw [List.getElem_append_right (by rw [List.length_take]; omega), hxR]
        congr 1
        rw [List.length_take]
        omega
      exact ⟨N + (p - D.length), by rw [hlen]; omega, by omega, by rw [hk], fun _ => hk⟩
  have hskip : skipE { L with l := L.l.take N ++ (e :: r) } es = [] := skipE_nil es fun x hx => by
    obtain ⟨p, hp, rfl⟩ := List.getElem_of_mem hx
    by_cases hle : es[p].i ≤ L.i
    · exact .inl hle
    · obtain ⟨k, hk, k1, k2, -⟩ := two p hp (by omega)
      refine .inr ?_
      have := fits_of ok' (k := k) hk
      dsimp only at this
      rw [k2, ← k1] at this
      exact this
  have hterm : termAt { L with l := L.l.take N ++ (e :: r) } i = termAt L i := by
    unfold termAt
    rw [hlast', hlast]
    dsimp only
    rw [hlen]
    by_cases c1 : i < L.i
    · rw [if_pos c1, if_pos c1]
    have a1 : ¬ (L.i + ((N + (r.length + 1) : Nat) : Int) < i) := by omega
    have a2 : ¬ (L.i + (L.l.length : Int) < i) := by omega
    rw [if_neg c1, if_neg c1, if_neg a1, if_neg a2]
    by_cases c3 : i = L.i
    · rw [if_pos c3, if_pos c3]
    rw [if_neg c3, if_neg c3]
    obtain ⟨k, hk⟩ : ∃ k : Nat, i = L.i + k + 1 := ⟨(i - L.i - 1).toNat, by omega⟩
    have e1 := entAt_get (L := L) (k := k) (by omega)
    have e2 := entAt_get (L := { L with l := L.l.take N ++ (e :: r) }) (k := k) (by dsimp only; rw [hlen]; omega)
    dsimp only at e2
    rw [← hk] at e1 e2
    rw [e1, e2, List.getElem_append_left (by rw [List.length_take]; omega), List.getElem_take]
  have hE2 : storeE { L with l := L.l.take N ++ (e :: r) } i t es = 0 := by
    unfold storeE clashB
    rw [h6, if_neg (by decide), hterm]
    have h7' := h7
    unfold clashB at h7'
    rw [h7', if_neg (by decide), hskip]
  refine ⟨h1, hat, h3, ⟨N, hN, by omega, rfl⟩, two, ⟨by omega, ?_⟩, hE2, by unfold storePut; rw [hE2, if_pos rfl, hskip]⟩
  rw [(hidx (es.length - 1) (by omega)).1, hlast']
  dsimp only
  rw [hlen]
  omega
/-- Where Store puts nothing the log is as it was. -/
theorem store_none {L : LogS} {i t : Int} {es : List Ent} (h : storePut L i t es = []) : storeL L i t es = L ∧ storeAt L i t es = 0 := by
  unfold storeL storeAt
  rw [h]
  exact ⟨rfl, rfl⟩
end Go.Proofs.Ytkjfplkbgooflaa
