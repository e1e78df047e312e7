/-
  slices.Backward over entries: its function, at the loop's own invariant.
-/
import Derived.Test.YtkjfplkbgooflaaStoreMath
import Derived.Test.YtkjfplkbgooflaaRange2
import Derived.OwnWalkIn
import Derived.TacticsInMore
import Derived.LoopNIn
import Derived.LoopIn
import Derived.Shelf.Abstract
import Derived.Shelf.RegionOpen
namespace Go.Proofs.Ytkjfplkbgooflaa
open Go Go.RowKit Go.Lst Go.Lx Go.Shelf
attribute [local go_sem] Oper.semAt_some

/-- The entries that a value shows, cell by cell: the confs' values are named. -/
def RowAt (w : World) (v : Value) (es : List Ent) (cvs : List Value) : Prop :=
  cvs.length = es.length ∧ (∃ p c, v = .slice p es.length c ∧ c ≤ maxLen ∧ ∀ j (h : j < es.length) (h' : j < cvs.length), ∃ a, p = some a ∧ ∀ m, m < 5 → w.cell? (a.add (j * 5 + m)) = (entC es[j] cvs[j])[m]?) ∧ ∀ g, v.ownBlock = some g → g < w.heap.size
theorem RowAt.same {w w' : World} {v : Value} {es : List Ent} {cvs : List Value} (h : RowAt w v es cvs) (hs : w.heap.size ≤ w'.heap.size) (hk : ∀ g, v.ownBlock = some g → w'.heap[g]? = w.heap[g]?) : RowAt w' v es cvs := by
  obtain ⟨h1, ⟨p, c, rfl, h2, h3⟩, h4⟩ := h
  refine ⟨h1, ⟨p, c, rfl, h2, fun j hj hj' => ?_⟩, fun g hg => Nat.lt_of_lt_of_le (h4 g hg) hs⟩
  obtain ⟨a, rfl, h5⟩ := h3 j hj hj'
  refine ⟨a, rfl, fun m hm => ?_⟩
  rw [← h5 m hm]
  refine cell_same ?_
  have e : (a.add (j * 5 + m)).block = a.block := by unfold Addr.add; split <;> rfl
  rw [e]
  exact hk a.block rfl
theorem RowAt.get {w : World} {v : Value} {es : List Ent} {cvs : List Value} (h : RowAt w v es cvs) (j : Nat) (hj : j < es.length) (hj' : j < cvs.length) : ∃ a c, v = .slice (some a) es.length c ∧ w.cell? (a.add (j * 5)) = some (.int .u64 es[j].i) ∧ w.cell? ⟨(a.add (j * 5)).block, (a.add (j * 5)).off + 1, none⟩ = some (.int .u64 es[j].t) ∧
    w.cell? ⟨(a.add (j * 5)).block, (a.add (j * 5)).off + 2, none⟩ = some (.int .u8 es[j].k) ∧ w.cell? ⟨(a.add (j * 5)).block, (a.add (j * 5)).off + 3, none⟩ = some (.string es[j].s) ∧ w.cell? ⟨(a.add (j * 5)).block, (a.add (j * 5)).off + 4, none⟩ = some cvs[j] := by
  obtain ⟨h1, ⟨p, c, rfl, h2, h3⟩, -⟩ := h
  obtain ⟨a, rfl, h4⟩ := h3 j hj hj'
  have g := fun m hm => (h4 m hm)
  have e : ∀ m, m < 5 → m ≠ 0 → a.add (j * 5 + m) = ⟨(a.add (j * 5)).block, (a.add (j * 5)).off + m, none⟩ := fun m hm h0 => by rw [← Lst.add_add]; unfold Addr.add; simp only [h0, if_false]
  refine ⟨a, c, rfl, g 0 (by omega), ?_, ?_, ?_, ?_⟩
  · rw [← e 1 (by omega) (by omega)]; exact g 1 (by omega)
  · rw [← e 2 (by omega) (by omega)]; exact g 2 (by omega)
  · rw [← e 3 (by omega) (by omega)]; exact g 3 (by omega)
  · rw [← e 4 (by omega) (by omega)]; exact g 4 (by omega)
theorem Rw.rowAt {B B0 : Nat} {w : World} {v : Value} {es : List Ent} (h : Rw B B0 w v es) : ∃ cvs, RowAt w v es cvs ∧ ∀ j (h : j < es.length) (h' : j < cvs.length), Cf B w cvs[j] es[j].c := by
  obtain ⟨p, c, rfl, h1, h2, h3⟩ := h.ents
  have hlt := h.lt
  cases p with
  | none =>
    have e0 : es = [] := by
      cases es with
      | nil => rfl
      | cons x xs => obtain ⟨a, _, e2, _⟩ := h3 0 (by simp); cases e2
    subst e0
    exact ⟨[], ⟨rfl, ⟨none, c, rfl, h2, fun j hj => by simp at hj⟩, hlt⟩, fun j hj => by simp at hj⟩
  | some a =>
    obtain ⟨cvs, g1, g2, g3⟩ := h.ents.row
    refine ⟨cvs, ⟨g1, ⟨some a, c, rfl, h2, fun j hj hj' => ⟨a, rfl, fun m hm => ?_⟩⟩, hlt⟩, g3⟩
    rw [← rowC_at es cvs g1 j hj m hm]
    have hlen : j * 5 + m < (rowC es cvs).length := by rw [rowC_length es cvs g1]; omega
    rw [List.getElem?_eq_getElem hlen]
    exact g2 _ _ (List.getElem?_eq_getElem hlen)
theorem Backward_calls (v : Value) (hv : ∃ p n c, v = .slice p n c) (w : World) :
    Calls Try.prog 52 #[v] w fun e w' => e = .returned (.func (.func 53) #[] #[.pointer (some ⟨w.heap.size, 0, none⟩)]) ∧ w' = w.alloc (.cells #[v] 33) := by
  obtain ⟨p, n, c, rfl⟩ := hv
  go_enter Try.func52, Try.ntmps52
  go_wp2_with fail
  go_ret
  exact ⟨rfl, rfl⟩
def e0 : Ent := ⟨0, 0, 0, ⟨#[]⟩, []⟩
def encE (es : List Ent) (cvs : List Value) (x : Nat) : Value := entV (es.getD x e0) (cvs.getD x (.slice none 0 0))
set_option maxRecDepth 100000 in
set_option maxHeartbeats 2000000 in
theorem bwd_in (es : List Ent) (cvs : List Value) (lv : Value) (bs : Nat) (hl : es.length ≤ 4096) (K : World → World → Prop) (m l : Nat) (J Jx : List Nat → World → Prop) (W : World)
    (hJb : ∀ pre A, J pre A → A.cell? ⟨bs, 0, none⟩ = some lv ∧ RowAt A lv es cvs)
    (hY : ∀ pre x A, J pre A → x + pre.length + 1 = es.length → YieldAt Fence.wide (m - 1) Try.prog l #[.int .i64 (x : Int), encE es cvs x] A fun e B => K A B ∧ ((e = .returned (.bool true) ∧ J (pre ++ [x]) B) ∨ (e = .returned (.bool false) ∧ Jx (pre ++ [x]) B)))
    (h0 : J [] W) :
    CallsIn Fence.wide m Try.prog 53 (#[.func (.yield l) #[] #[]] ++ #[.pointer (some ⟨bs, 0, none⟩)]) W fun e W' => (∃ v, e = .returned v) ∧ ((∃ xs, xs.length = es.length ∧ J xs W') ∨ (∃ pre, Jx pre W')) := by
  refine callsIn_of_wp Try.func53 rfl trivial ?_ rfl
  simp only [Try.ntmps53, List.size_toArray, List.length_cons, List.length_nil, Nat.reduceAdd, Nat.reduceSub, Array.replicate_succ, Array.replicate_zero, List.push_toArray, List.append_toArray, List.nil_append, List.cons_append]
  obtain ⟨hb0, hr0⟩ := hJb _ _ h0
  obtain ⟨-, ⟨p0, c0, hlv, hcm, -⟩, -⟩ := hr0
  rw [hlv] at hb0
  obtain ⟨n, hn⟩ : ∃ n, es.length = n := ⟨_, rfl⟩
  rw [hn] at hb0 hl
  have hn1 : wrap64 ((n : Int) - 1) = (n : Int) - 1 := IntWalk.wrap64_in _ (by omega)
  replace hcm := Lib.hid hcm
  replace hlv := Lib.hid hlv
  gi_wp2_with fail
  gi_loopw [3] (fun v3 wr => ∃ (pre : List Nat) (k : Nat), v3 = .int .i64 ((k : Int) - 1) ∧ k + pre.length = n ∧ J pre wr) (fun v3 _ => (intOf v3 + 1).toNat)
  case atStart => exact ⟨[], n, rfl, by simp, h0⟩
  case round =>
    clear h0 hb0 hn1
    obtain ⟨pre, k, rfl, hk, hj⟩ := hrel
    obtain ⟨hb, hr⟩ := hJb _ _ hj
    rw [hlv.out] at hb
    cases k with
    | zero =>
      have hk0 : decide ((0 : Int) ≤ ((0 : Nat) : Int) - 1) = false := by simp
      clear hY hJb
      gi_wp2_with fail
      go_end0
      exact ⟨⟨_, rfl⟩, .inl ⟨pre, by omega, hj⟩⟩
    | succ k =>
      have hkl : k < es.length := by omega
      have hcl : cvs.length = es.length := hr.1
      obtain ⟨a, c', ev, g0, g1, g2, g3, g4⟩ := hr.get k hkl (by omega)
      obtain ⟨e1, e3⟩ : p0 = some a ∧ c0 = c' := by
        have := hlv.out.symm.trans ev
        injection this with e1 e2 e3
        exact ⟨e1, e3⟩
      subst e1 e3
      have hen : es.getD k e0 = es[k] := by rw [List.getD_eq_getElem?_getD, List.getElem?_eq_getElem hkl]; rfl
      have hcn : cvs.getD k (.slice none 0 0) = cvs[k] := by rw [List.getD_eq_getElem?_getD, List.getElem?_eq_getElem (by omega)]; rfl
      obtain ⟨fn, tmps, assign, body, hy, hR⟩ := hY pre k wr hj (by omega)
      unfold encE at hy
      rw [hen, hcn] at hy
      unfold entV at hy
      generalize es[k] = en at *
      generalize cvs[k] = cw at *
      obtain ⟨ei, et, ek, s, ec⟩ := en
      dsimp only at hy g0 g1 g2 g3
      have k1 : ((k + 1 : Nat) : Int) - 1 = (k : Int) := by omega
      have k2 : decide ((0 : Int) ≤ (k : Int)) = true := by simp
      have k3 : (0 : Int) ≤ (k : Int) := by omega
      have k4 : (k : Int) < (n : Int) := by omega
      have k5 : wrap64 ((k : Int) - 1) = (k : Int) - 1 := IntWalk.wrap64_in _ (by omega)
      rw [k1]
      clear hY hJb hr ev hen hcn k1
      replace hkl := Lib.hid hkl
      replace hcl := Lib.hid hcl
      replace hn := Lib.hid hn
      replace hk := Lib.hid hk
      gi_wp2_with fail
      refine ⟨(fun h => (by cases h)), ?_⟩
      refine hR.mono ?_
      rintro e W3 ⟨-, ⟨rfl, hJ3⟩ | ⟨rfl, hJx3⟩⟩
      · gi_wp2_with fail
        go_roundw
        case rel => exact ⟨_, k, rfl, by have := hk.out; simp; omega, hJ3⟩
        case measure => simp [intOf]
      · gi_wp2_with fail
        refine bodyPost_ret (results_none rfl _ _ _) rfl ?_
        exact ⟨⟨_, rfl⟩, .inr ⟨_, hJx3⟩⟩
end Go.Proofs.Ytkjfplkbgooflaa
