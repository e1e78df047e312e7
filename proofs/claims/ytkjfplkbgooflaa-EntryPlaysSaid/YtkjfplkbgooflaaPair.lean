/-
  Two logs of the call's own, apart from each other.
-/
import Derived.Test.YtkjfplkbgooflaaAppend2
import Derived.Test.YtkjfplkbgooflaaWorks26
namespace Go.Proofs.Ytkjfplkbgooflaa
open Go Go.RowKit Go.Lst Go.Lx

structure Pair (w0 w : World) (b1 : Nat) (cv1 lv1 : Value) (L1 : LogS) (b2 : Nat) (cv2 lv2 : Value) (L2 : LogS) : Prop where
  m1 : Mine w0 w b1 cv1 lv1 L1
  m2 : Mine w0 w b2 cv2 lv2 L2
  ne : b1 ≠ b2
  o1 : lv1.ownBlock ≠ some b2
  o2 : lv2.ownBlock ≠ some b1
  ap : ∀ k, lv1.ownBlock = some k → lv2.ownBlock ≠ some k
section
variable {w0 w w' : World} {b1 b2 : Nat} {cv1 lv1 cv2 lv2 cv1' lv1' cv2' lv2' : Value} {L1 L2 L1' L2' : LogS}
theorem Pair.swap (h : Pair w0 w b1 cv1 lv1 L1 b2 cv2 lv2 L2) : Pair w0 w b2 cv2 lv2 L2 b1 cv1 lv1 L1 := ⟨h.m2, h.m1, h.ne.symm, h.o2, h.o1, fun k h2 h1 => h.ap k h1 h2⟩
theorem Pair.then (h : Pair w0 w b1 cv1 lv1 L1 b2 cv2 lv2 L2) (hb : Below w.heap.size w w') : Pair w0 w' b1 cv1 lv1 L1 b2 cv2 lv2 L2 := ⟨h.m1.then hb, h.m2.then hb, h.ne, h.o1, h.o2, h.ap⟩
theorem Pair.step (h : Pair w0 w b1 cv1 lv1 L1 b2 cv2 lv2 L2) (h' : Mine w0 w' b1 cv1' lv1' L1') (hs : Stays (fun k => k = b1 ∨ lv1.ownBlock = some k) w w') (hc : Calms w0.heap.size w w') (ho : ∀ k, lv1'.ownBlock = some k → lv1.ownBlock = some k ∨ w.heap.size ≤ k) : Pair w0 w' b1 cv1' lv1' L1' b2 cv2 lv2 L2 := by
  have k2 : ∀ k, k < w.heap.size → k ≠ b1 → lv1.ownBlock ≠ some k → w'.heap[k]? = w.heap[k]? := fun k h1 h2 h3 => hs.block k h1 (fun e => e.elim h2 h3)
  have l2 := h.m2.log.row.lt
  refine ⟨h', ⟨h.m2.log.keep (k2 b2 h.m2.log.lt h.ne.symm h.o1) hc (fun k hk => k2 k (l2 k hk) (fun e => h.o2 (e ▸ hk)) (fun e => h.ap k e hk)), h.m2.ok, h.m2.lo, h.m2.own, h'.below⟩, h.ne, fun e => ?_, h.o2, fun k hk e => ?_⟩
  · rcases ho _ e with h1 | h1
    · exact h.o1 h1
    · have := h.m2.log.lt; omega
  · rcases ho _ hk with h1 | h1
    · exact h.ap k h1 e
    · have := l2 k e; omega
theorem Append_pair (h : Pair w0 w b1 cv1 lv1 L1 b2 cv2 lv2 L2) (e : Ent) (ev : Value) (he : Nums .i64 w ev e.c) :
    Calls Try.prog 9 #[.pointer (some ⟨b1, 0, none⟩), entV e ev] w fun y w' => y = .returned (.int .i64 (appendE L1 e)) ∧ ∃ lv1', Pair w0 w' b1 cv1 lv1' (appendL L1 e) b2 cv2 lv2 L2 ∧ Stays (fun k => k = b1 ∨ lv1.ownBlock = some k) w w' ∧ Calms w0.heap.size w w' ∧ (∀ k, lv1'.ownBlock = some k → lv1.ownBlock = some k ∨ w.heap.size ≤ k) := by
  refine (Append_calls2 h.m1.log h.m1.ok e ev he).mono ?_
  rintro y w' ⟨rfl, lv', h1, h2, h3, h4, -⟩
  exact ⟨rfl, lv', h.step (h.m1.stays h1 (appendL_ok h.m1.ok h.m1.log.sz _).1 h2 h4) h2 h3 h4, h2, h3, h4⟩
theorem Store_pair (h : Pair w0 w b1 cv1 lv1 L1 b2 cv2 lv2 L2) (i t : Int) (hi : 0 ≤ i) (v : Value) (es : List Ent) (he : Ents w0.heap.size w v es) (hvb : ∀ k, v.ownBlock = some k → k < w.heap.size ∧ k ≠ b1) :
    Calls Try.prog 11 #[.pointer (some ⟨b1, 0, none⟩), .int .u64 i, .int .u64 t, v] w fun y w' => ∃ pv lv1', y = .returned (.tuple #[.int .u64 (storeAt L1 i t es), pv, .int .i64 (storeE L1 i t es)]) ∧ Pair w0 w' b1 cv1 lv1' (storeL L1 i t es) b2 cv2 lv2 L2 ∧ Stays (fun k => k = b1) w w' := by
  refine (Store_mine h.m1 i t hi v es he hvb).mono ?_
  rintro y w' ⟨pv, lv', rfl, -, h1, h2, h3, -⟩
  exact ⟨pv, lv', rfl, h.step h1 (stays_or h2) (h.m1.calms h2) h3, h2⟩
theorem Compact_pair (h : Pair w0 w b1 cv1 lv1 L1 b2 cv2 lv2 L2) (x : Int) (hx : 0 ≤ x) :
    Calls Try.prog 12 #[.pointer (some ⟨b1, 0, none⟩), .int .u64 x] w fun y w' => y = .returned (.int .i64 (termAt L1 x).2) ∧ ∃ cv1' lv1', Pair w0 w' b1 cv1' lv1' (compactL L1 x) b2 cv2 lv2 L2 := by
  refine (Compact_mine h.m1 x hx).mono ?_
  rintro y w' ⟨rfl, cv', lv', h1, h2, h3⟩
  exact ⟨rfl, cv', lv', h.step h1 (stays_or h2) (h.m1.calms h2) h3⟩
end
/-- Two logs alike, that were never compacted. -/
def Twins (w0 w : World) (b1 b2 : Nat) : Prop := ∃ cv1 lv1 cv2 lv2 L, Pair w0 w b1 cv1 lv1 L b2 cv2 lv2 L ∧ L.i = 0
theorem Twins.then {w0 w w' : World} {b1 b2 : Nat} (h : Twins w0 w b1 b2) (hb : Below w.heap.size w w') : Twins w0 w' b1 b2 := by
  obtain ⟨cv1, lv1, cv2, lv2, L, h, h0⟩ := h
  exact ⟨cv1, lv1, cv2, lv2, L, h.then hb, h0⟩
theorem appendL_i (L : LogS) (e : Ent) : (appendL L e).i = L.i := by unfold appendL; split <;> rfl
theorem storeL_i (L : LogS) (i t : Int) (es : List Ent) : (storeL L i t es).i = L.i := by unfold storeL; split <;> rfl
theorem compactL_i (L : LogS) (x : Int) (h : (termAt L x).2 = 0) : (compactL L x).i = x := by unfold compactL; rw [if_pos h]
end Go.Proofs.Ytkjfplkbgooflaa
