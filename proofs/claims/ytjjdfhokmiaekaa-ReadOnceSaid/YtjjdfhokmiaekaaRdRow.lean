/-
  A row of waits: a wait is put anew; what lies behind is cleared.
-/
import Derived.Test.YtjjdfhokmiaekaaRdGoes
namespace Go.Proofs.Ytjjdfhokmiaekaa
open Go Go.RowKit Go.Lst Go.Lx Go.Maps

theorem rowW_set : ∀ (es : List Wt) (cvs : List Value) (i : Nat) (e : Wt) (cv : Value), cvs.length = es.length → i < es.length →
    rowW (es.set i e) (cvs.set i cv) = ((((rowW es cvs).set (i * 4) (.int .u64 e.id)).set (i * 4 + 1) (.int .u64 e.ix)).set (i * 4 + 2) (.int .u64 e.r)).set (i * 4 + 3) cv
  | [], _, i, _, _, _, h => by simp at h
  | _ :: _, [], _, _, _, h, _ => by simp at h
  | x :: es, y :: cvs, 0, e, cv, _, _ => by simp [rowW, wtC]
  | x :: es, y :: cvs, i + 1, e, cv, h, hi => by
    have ih := rowW_set es cvs i e cv (by simpa using h) (by simpa using hi)
    have hs : ∀ (R : List Value) (m : Nat) (v : Value), (wtC x y ++ R).set ((i + 1) * 4 + m) v = wtC x y ++ R.set (i * 4 + m) v := fun R m v => by
      rw [List.set_append_right _ _ (by simp [wtC]; omega)]
      congr 2
      simp [wtC]; omega
    have hs0 := hs (rowW es cvs) 0 (.int .u64 e.id)
    simp only [Nat.add_zero] at hs0
    simp only [List.set_cons_succ, rowW, ih, hs0, hs]
theorem WRow.addr {B0 : Nat} {w : World} {a : Addr} {m c : Nat} {l : List Wt} (h : WRow B0 w (.slice (some a) m c) l) : a = ⟨a.block, 0, none⟩ ∧ l.length = m := by
  obtain ⟨cvs, hl, hown, hc⟩ := h
  rcases hown.2 with ⟨e, _⟩ | ⟨g, cap, cur, e, r⟩
  · cases e
  · cases e; exact ⟨rfl, rfl⟩
theorem WRow.set4 {B0 : Nat} {w : World} {g m c : Nat} {M : List Wt} (h : WRow B0 w (.slice (some ⟨g, 0, none⟩) m c) M) (i : Nat) (hi : i < m) (e : Wt) (cv : Value) (hcf : Cf 0 w cv e.c) :
    WRow B0 ((((w.setCell ⟨g, i * 4, none⟩ (.int .u64 e.id)).setCell ⟨g, i * 4 + 1, none⟩ (.int .u64 e.ix)).setCell ⟨g, i * 4 + 2, none⟩ (.int .u64 e.r)).setCell ⟨g, i * 4 + 3, none⟩ cv) (.slice (some ⟨g, 0, none⟩) m c) (M.set i e) ∧ w.grownBy ((((w.setCell ⟨g, i * 4, none⟩ (.int .u64 e.id)).setCell ⟨g, i * 4 + 1, none⟩ (.int .u64 e.ix)).setCell ⟨g, i * 4 + 2, none⟩ (.int .u64 e.r)).setCell ⟨g, i * 4 + 3, none⟩ cv) (some g) := by
  have hM := h.addr.2
  have hlo := h.loud (g := g) rfl
  obtain ⟨cvs, hl, hown, hc⟩ := h
  rw [hM] at hown
  obtain ⟨h1, g1⟩ := hown.stored (i * 4) (.int .u64 e.id)
  obtain ⟨h2, g2⟩ := h1.stored (i * 4 + 1) (.int .u64 e.ix)
  obtain ⟨h3, g3⟩ := h2.stored (i * 4 + 2) (.int .u64 e.r)
  obtain ⟨h4, g4⟩ := h3.stored (i * 4 + 3) cv
  have hg : w.grownBy ((((w.setCell ⟨g, i * 4, none⟩ (.int .u64 e.id)).setCell ⟨g, i * 4 + 1, none⟩ (.int .u64 e.ix)).setCell ⟨g, i * 4 + 2, none⟩ (.int .u64 e.r)).setCell ⟨g, i * 4 + 3, none⟩ cv) (some g) :=
    ⟨rfl, rfl, rfl, by simp, fun k hk hn => by
      have hkg : k ≠ g := fun e => hn (by rw [e])
      rw [Below.heap_setCell _ _ _ _ (by dsimp only; omega), Below.heap_setCell _ _ _ _ (by dsimp only; omega), Below.heap_setCell _ _ _ _ (by dsimp only; omega), Below.heap_setCell _ _ _ _ (by dsimp only; omega)]⟩
  have hcm : Calms 0 w ((((w.setCell ⟨g, i * 4, none⟩ (.int .u64 e.id)).setCell ⟨g, i * 4 + 1, none⟩ (.int .u64 e.ix)).setCell ⟨g, i * 4 + 2, none⟩ (.int .u64 e.r)).setCell ⟨g, i * 4 + 3, none⟩ cv) := ⟨hg.size, fun k hlt hc => hg.block k hlt (fun e => by cases e; exact hlo hc)⟩
  refine ⟨⟨cvs.set i cv, by simp [hl], ?_, fun j h1 h2 => ?_⟩, hg⟩
  · rw [rowW_set M cvs i e cv hl (by omega), List.length_set, hM]
    exact h4
  · by_cases hj : j = i
    · subst hj
      have e1 : (cvs.set j cv)[j]'h2 = cv := by simp
      have e2 : (M.set j e)[j]'h1 = e := by simp
      rw [e1, e2]
      exact hcf.keep hcm
    · have e1 : (cvs.set i cv)[j]'h2 = cvs[j]'(by simpa using h2) := List.getElem_set_ne (Ne.symm hj) _
      have e2 : (M.set i e)[j]'h1 = M[j]'(by simpa using h1) := List.getElem_set_ne (Ne.symm hj) _
      rw [e1, e2]
      exact (hc j (by simpa using h1) (by simpa using h2)).keep hcm
theorem rowW_take : ∀ (es : List Wt) (cvs : List Value) (i : Nat), cvs.length = es.length → i ≤ es.length → rowW (es.take i) (cvs.take i) = (rowW es cvs).take (i * 4)
  | es, cvs, 0, _, _ => by simp [rowW]
  | [], _, i + 1, _, h => by simp at h
  | _ :: _, [], _ + 1, h, _ => by simp at h
  | x :: es, y :: cvs, i + 1, h, hi => by
    have ih := rowW_take es cvs i (by simpa using h) (by simpa using hi)
    simp only [List.take_succ_cons, rowW, ih]
    have e4 : (wtC x y).length = 4 := rfl
    rw [List.take_append, List.take_of_length_le (l := wtC x y) (by rw [e4]; omega), e4]
    rw [show (i + 1) * 4 - 4 = i * 4 by omega]
theorem zeroWait (w : World) : (zeroValue 109).run Try.prog w = .ok (.agg #[.int .u64 0, .int .u64 0, .int .u64 0, .slice none 0 0]) w := by kernel_rfl
theorem WRow.clear {B0 : Nat} {w : World} {g m c : Nat} {M : List Wt} (h : WRow B0 w (.slice (some ⟨g, 0, none⟩) m c) M) (i : Nat) (hi : i < m) :
    ∃ w', (∀ ty c', (Builtin.clear_ #[104] ty #[.slice (some ⟨g, i * 4, none⟩) (m - i) c']).run Try.prog w = .ok (.tuple #[]) w') ∧ WRow B0 w' (.slice (some ⟨g, 0, none⟩) i c) (M.take i) ∧ w.grownBy w' (some g) := by
  have hM := h.addr.2
  have hlo := h.loud (g := g) rfl
  obtain ⟨cvs, hl, hown, hc⟩ := h
  have hown0 := hown
  rcases hown.2 with ⟨e, _⟩ | ⟨g', cap, cur, e, hB, hh, hn, hmx, hsz, htk⟩
  · cases e
  injection e with e1 e2 e3
  injection e1 with e1
  injection e1 with e1
  subst e1 e3
  rw [hM] at hn htk
  have hz : (Builtin.zeroCells (Value.agg #[.int .u64 0, .int .u64 0, .int .u64 0, .slice none 0 0]).cells (m - i)).toList.length = (m - i) * 4 := by
    rw [Array.length_toList, size_zeroCells]
    rfl
  have h1 : ∀ u ∈ (Builtin.zeroCells (Value.agg #[.int .u64 0, .int .u64 0, .int .u64 0, .slice none 0 0]).cells (m - i)).toList, u.oneCell' = true := fun u hu => by
    simp only [Builtin.zeroCells, Array.toList_map, List.mem_map] at hu
    obtain ⟨k, _, rfl⟩ := hu
    have h4 : k % (Value.agg #[.int .u64 0, .int .u64 0, .int .u64 0, .slice none 0 0]).cells.size < 4 := Nat.mod_lt _ (by decide)
    generalize k % (Value.agg #[.int .u64 0, .int .u64 0, .int .u64 0, .slice none 0 0]).cells.size = z at *
    rcases z with _ | _ | _ | _ | z
    · rfl
    · rfl
    · rfl
    · rfl
    · omega
  generalize hZ : (Builtin.zeroCells (Value.agg #[.int .u64 0, .int .u64 0, .int .u64 0, .slice none 0 0]).cells (m - i)).toList = Z at *
  have hst := run_storeCells_at Try.prog g (i * 4) 109 Z 0 cur w hh (by rw [hz, hsz]; omega) h1
  simp only [Nat.add_zero] at hst
  obtain ⟨k, hk⟩ : ∃ k, m - i = k + 1 := ⟨m - i - 1, by omega⟩
  have hcl : cur.toList.length = cur.size := Array.length_toList
  have hgr : w.grownBy (w.setRow g (cur.toList.take (i * 4) ++ Z ++ cur.toList.drop (i * 4 + Z.length)).toArray) (some g) := ⟨rfl, rfl, rfl, by simp, fun k _ hk => setRow_other w g k _ (fun e => hk (by simp [e]))⟩
  refine ⟨w.setRow g (cur.toList.take (i * 4) ++ Z ++ cur.toList.drop (i * 4 + Z.length)).toArray, fun ty c' => ?_, ⟨cvs.take i, by rw [List.length_take, List.length_take, hl], ?_, fun j h1 h2 => ?_⟩, ?_⟩
  · rw [hk] at hZ ⊢
    simp [Builtin.clear_, run_underlying Try.underlying104, zeroWait, hZ, hst, Result.andThen]
  · rw [List.length_take, Nat.min_eq_left (by omega)]
    refine ⟨by rw [rowW_take M cvs i hl (by omega), List.length_take, rowW_length M cvs hl]; omega, .inr ⟨g, c, _, rfl, hB, setRow_heap w g cur _ _ (0, 0) hh, by omega, hmx, ?_, ?_⟩⟩
    · simp only [List.size_toArray, List.length_append, List.length_take, List.length_drop, Array.length_toList]
      omega
    · rw [rowW_take M cvs i hl (by omega), ← htk, List.take_take, Nat.min_eq_left (by omega)]
      simp only [List.append_assoc]
      rw [List.take_left' (by rw [List.length_take, hcl]; omega)]
  · have hc' := hc j (by rw [List.length_take] at h1; omega) (by rw [List.length_take] at h2; omega)
    rw [List.getElem_take, List.getElem_take]
    exact hc'.keep ⟨hgr.size, fun k hlt hck => hgr.block k hlt (fun e => by cases e; exact hlo hck)⟩
  · exact hgr
end Go.Proofs.Ytjjdfhokmiaekaa
