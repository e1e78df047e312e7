/-
  (*Log).Store: what holds while entries are put.
-/
import Derived.Test.YtkjfplkbgooflaaStoreMath
namespace Go.Proofs.Ytkjfplkbgooflaa
open Go Go.RowKit Go.Lst Go.Lx

theorem LogAt.keep {B B0 : Nat} {w w' : World} {b : Nat} {cv lv : Value} {L : LogS} (h : LogAt B B0 w b cv lv L) (hb : w'.heap[b]? = w.heap[b]?) (hc : Calms B w w') (hl : ∀ k, lv.ownBlock = some k → w'.heap[k]? = w.heap[k]?) : LogAt B B0 w' b cv lv L :=
  ⟨hb.trans h.blk, h.cf.keep hc, h.row.keep hc hl, h.nb, h.lo, h.sz, h.nn⟩
structure Put (B B0 : Nat) (w wr : World) (b : Nat) (cv lv lvj pv v3 : Value) (L : LogS) (N : Nat) (R : List Ent) (j j' : Nat) : Prop where
  log : LogAt B B0 wr b cv lvj { L with l := L.l.take N ++ R.take j }
  row : Rw B w.heap.size wr lvj (L.l.take N ++ R.take j)
  put : Row B w.heap.size wr pv (R.take j')
  apart : ∀ k, pv.ownBlock = some k → lvj.ownBlock ≠ some k ∧ k ≠ b
  src : Ents B wr v3 R
  stays : Stays (fun k => k = b) w wr
  own : ∀ k, lvj.ownBlock = some k → lv.ownBlock = some k ∨ w.heap.size ≤ k
  bl : b < w.heap.size
  sl : ∀ k, v3.ownBlock = some k → k < w.heap.size ∧ k ≠ b
section
variable {B B0 : Nat} {w wr w' : World} {b : Nat} {cv lv lvj pv v3 : Value} {L : LogS} {N : Nat} {R : List Ent} {j j' : Nat}
theorem Put.size (P : Put B B0 w wr b cv lv lvj pv v3 L N R j j') : w.heap.size ≤ wr.heap.size := P.stays.size
theorem Put.below (P : Put B B0 w wr b cv lv lvj pv v3 L N R j j') (hb : Below wr.heap.size wr w') : Put B B0 w w' b cv lv lvj pv v3 L N R j j' :=
  ⟨P.log.below hb, P.row.below hb, P.put.below hb, P.apart, P.src.keep (Calms.below hb) (fun g hg => hb.block g (Nat.lt_of_lt_of_le (P.sl g hg).1 P.size)), P.stays.trans (Stays.of_below (O := fun _ => False) hb) (fun i _ hf => hf.elim), P.own, P.bl, P.sl⟩
theorem stays_then {a c d : World} {b : Nat} (h : Stays (fun k => k = b) a c) (hb : Below a.heap.size c d) : Stays (fun k => k = b) a d :=
  ⟨hb.os.trans h.os, hb.tape.trans h.tape, hb.output.trans h.output, Nat.le_trans h.size (by have := hb.size; have := h.size; first | omega | exact Nat.le_trans this hb.size), fun k hk hn => (hb.block k hk).trans (h.block k hk hn)⟩
theorem Put.log_step (P : Put B B0 w wr b cv lv lvj pv v3 L N R j j') (hj : j < R.length) (hN : N + R.length ≤ 4096) {v : Value} (hs : OnlyRow lvj wr w') (hb : Below w.heap.size wr w') (hc : Calms B wr w')
    (hr : Row B w.heap.size w' v (L.l.take N ++ R.take j ++ [R[j]])) (hv : ∀ k, v.ownBlock = some k → lvj.ownBlock = some k ∨ wr.heap.size ≤ k) : Put B B0 w (w'.setCell ⟨b, 3, none⟩ v) b cv lv v pv v3 L N R (j + 1) j' := by
  have hbw := P.bl
  have hsz := P.size
  have e1 : L.l.take N ++ R.take j ++ [R[j]] = L.l.take N ++ R.take (j + 1) := by rw [List.append_assoc, List.take_succ_eq_append_getElem hj]
  rw [e1] at hr
  have hbb : w'.heap[b]? = wr.heap[b]? := hs.block b P.log.lt P.log.nb
  have hn : ¬ Calm B w' b := fun hc' => P.log.loud (hc'.keep hbb.symm)
  have nb : ∀ k, v.ownBlock = some k → k ≠ b := fun k hk => by
    rcases hv k hk with h1 | h1
    · rintro rfl; exact P.log.nb h1
    · omega
  have hsc : Calms B w' (w'.setCell ⟨b, 3, none⟩ v) := Calms.set hn v
  refine ⟨?_, .inl (hr.keep hsc fun g hg => Below.heap_setCell _ _ _ _ (nb g hg)), ?_, fun k hk => ⟨fun e => ?_, (P.apart k hk).2⟩, ?_, ?_, fun k hk => ?_, hbw, P.sl⟩
  · exact P.log.put hs hc (.inl (hr.mono (by have := P.log.lo; omega))) hv (by simp only [List.length_append, List.length_take]; omega)
  · refine (P.put.keep hc fun g hg => hs.block g (P.put.block hg).2 (P.apart g hg).1).keep hsc fun g hg => Below.heap_setCell _ _ _ _ (P.apart g hg).2
  · rcases hv k e with h1 | h1
    · exact (P.apart k hk).1 h1
    · have := (P.put.block hk).2; omega
  · refine (P.src.keep hc fun g hg => hb.block g (P.sl g hg).1).keep hsc fun g hg => Below.heap_setCell _ _ _ _ (P.sl g hg).2
  · exact (stays_then P.stays hb).setCell (fun _ => rfl) v
  · rcases hv k hk with h1 | h1
    · exact P.own k h1
    · exact .inr (by omega)
theorem Put.put_step (P : Put B B0 w wr b cv lv lvj pv v3 L N R j j') (hj : j' < R.length) {v : Value} (hg : wr.grownBy w' pv.ownBlock) (hb : Below w.heap.size wr w') (hc : Calms B wr w')
    (hr : Row B w.heap.size w' v (R.take j' ++ [R[j']])) (hv : v.ownBlock = pv.ownBlock ∨ v.ownBlock = some wr.heap.size) : Put B B0 w w' b cv lv lvj v v3 L N R j (j' + 1) := by
  have hbw := P.bl
  have hsz := P.size
  rw [← List.take_succ_eq_append_getElem hj] at hr
  have hbb : w'.heap[b]? = wr.heap[b]? := hg.block b P.log.lt (fun e => (P.apart b e.symm).2 rfl)
  have hlv : ∀ k, lvj.ownBlock = some k → w'.heap[k]? = wr.heap[k]? := fun k hk => hg.block k (P.row.lt k hk) (fun e => (P.apart k e.symm).1 hk)
  refine ⟨P.log.keep hbb hc hlv, P.row.keep hc hlv, hr, fun k hk => ?_, P.src.keep hc fun g hg => hb.block g (P.sl g hg).1, stays_then P.stays hb, P.own, hbw, P.sl⟩
  rcases hv with h1 | h1
  · exact P.apart k (h1 ▸ hk)
  · rw [h1] at hk
    cases hk
    exact ⟨fun e => by have := P.row.lt _ e; omega, by omega⟩
/-- The entries are cut off: what is put begins. -/
theorem Put.start {B B0 : Nat} {w w4 : World} {b : Nat} {cv lv v3 : Value} {L : LogS} {R : List Ent} {p : Option Addr} {c : Nat} (h : LogAt B B0 w4 b cv lv L) (hlv : lv = .slice p L.l.length c) (N : Nat) (hN : N ≤ L.l.length) (hb : Below w.heap.size w w4) (hbl : b < w.heap.size) (he : Ents B w4 v3 R) (hs : ∀ k, v3.ownBlock = some k → k < w.heap.size ∧ k ≠ b) :
    Put B B0 w (w4.setCell ⟨b, 3, none⟩ (.slice p N N)) b cv lv (.slice p N N) (.slice none 0 0) v3 L N R 0 0 := by
  have hl : (L.l.take N).length = N := by rw [List.length_take]; omega
  have hown : ∀ k, (Value.slice p N N).ownBlock = some k → lv.ownBlock = some k := fun k hk => by
    rw [hlv]
    cases p with
    | none => cases hk
    | some a => exact hk
  have hfull : Full B w4 (.slice p N N) (L.l.take N) := ⟨⟨p, by rw [hl]⟩, by have := h.row.ents; rw [hlv] at this; exact this.take N hN, fun g hg => h.row.lt g (hown g hg)⟩
  have hn : ¬ Calm B w4 b := h.loud
  have e0 : L.l.take N ++ R.take 0 = L.l.take N := by simp
  refine ⟨?_, ?_, Row.nil _ _ _, fun k hk => (by cases hk), ?_, ?_, fun k hk => .inl (hown k hk), hbl, hs⟩
  · rw [e0]
    exact h.put (OnlyRow.refl _ _) (Calms.refl _ _) (.inr hfull) (fun k hk => .inl (hown k hk)) (by rw [hl]; have := h.sz; omega)
  · rw [e0]
    exact .inr (hfull.keep (Calms.set hn _) fun g hg => Below.heap_setCell _ _ _ _ (fun e => h.nb (by have := hown g hg; rw [e] at this; exact this)))
  · exact he.keep (Calms.set hn _) fun g hg => Below.heap_setCell _ _ _ _ (hs g hg).2
  · exact (Stays.of_below (O := fun k => k = b) hb).setCell (fun _ => rfl) _
end
end Go.Proofs.Ytkjfplkbgooflaa
