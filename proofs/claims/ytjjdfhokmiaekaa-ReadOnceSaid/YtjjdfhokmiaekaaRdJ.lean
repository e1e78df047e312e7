/-
  ReadOnce: what holds at each round.
-/
import Derived.Test.YtjjdfhokmiaekaaRdMaps
import Derived.Test.YtjjdfhokmiaekaaRdLaw
namespace Go.Proofs.Ytjjdfhokmiaekaa
open Go Go.RowKit Go.Lst Go.Lx Go.Maps

theorem MineR.map {w0 w w' : World} {b hb n : Nat} {wv : Value} {S : RS} (h : MineR w0 w b hb n wv S) {m : Nat} (hg : w.grownBy w' (some m)) (hm : ∃ es cl, w.heap[m]? = some (.map es cl)) (hne : hb ≠ m) (hlo : w0.heap.size ≤ m) : MineR w0 w' b hb n wv S := by
  obtain ⟨es, cl, hm⟩ := hm
  have hbm : b ≠ m := fun e => by have := h.rd.blk; rw [e, hm] at this; cases this
  have hwm : ∀ k, wv.ownBlock = some k → k ≠ m := fun k hk e => by
    obtain ⟨cvs, hl, hown, hc⟩ := h.rd.row
    rcases hown.2 with ⟨rfl, _⟩ | ⟨g, cap, cur, rfl, hB, hh, r⟩
    · cases hk
    · cases hk
      dsimp only at e
      rw [e, hm] at hh
      cases hh
  refine ⟨h.rd.keep (hg.block b h.rd.lt (fun e => hbm (by cases e; rfl))) (fun k hk => hg.block k (h.rd.row.block hk).2 (fun e => hwm k hk (by cases e; rfl))) (hg.block hb h.rd.hlt (fun e => hne (by cases e; rfl))) ⟨hg.size, fun g hlt hc => hg.block g hlt (fun e => ?_)⟩, h.below.grown hg h.below.size (fun k hk => by cases hk; exact hlo)⟩
  cases e
  rcases hc with hc | ⟨cs, fr, e1⟩
  · omega
  · rw [hm] at e1; cases e1
/-- What a reader's call leaves: a map that is none of its blocks. -/
theorem MineR.far {w0 w w' : World} {b hb n : Nat} {wv : Value} {S : RS} (h : MineR w0 w b hb n wv S) {O : Nat → Prop} (hs : Stays O w w') (ho : ∀ k, O k → k = b ∨ k = hb ∨ wv.ownBlock = some k) {m : Nat} (hm : ∃ es cl, w.heap[m]? = some (.map es cl)) (hne : hb ≠ m) : w'.heap[m]? = w.heap[m]? := by
  obtain ⟨es, cl, hm⟩ := hm
  refine hs.block m (heap_lt' hm) (fun hO => ?_)
  rcases ho m hO with e | e | e
  · have := h.rd.blk; rw [← e, hm] at this; cases this
  · exact hne e.symm
  · obtain ⟨cvs, hl, hown, hc⟩ := h.rd.row
    rcases hown.2 with ⟨rfl, _⟩ | ⟨g, cap, cur, rfl, hB, hh, r⟩
    · cases e
    · cases e
      dsimp only at hm
      rw [hm] at hh
      cases hh
structure JJ (w0 w : World) (b hb nH : Nat) (wv : Value) (S : RS) (mw n1 : Nat) (val : Int → Value) (mr n2 : Nat) (ro : Int → Int) (mh n3 : Nat) (i : Nat) : Prop where
  rd : MineR w0 w b hb nH wv S
  ok : SOk S i
  sm : SMap w mw n1 S.l.length (hasB S.l) val
  rm : RMap w mr n2 ro
  hm : HMap w mh n3 S.h
  vl : ∀ e ∈ S.l, ∃ d f cv, val e.id = .agg #[.int .i64 d, .int .u64 e.id, .int .u64 e.ix, .int .i64 f, cv] ∧ Nums .i64 w0 cv e.c
  rl : ∀ e ∈ S.l, ro e.id = e.r
  nb : nH ≤ i ∧ n1 ≤ 2 * i ∧ n2 ≤ i ∧ n3 ≤ i
  ne : hb ≠ mw ∧ hb ≠ mr ∧ hb ≠ mh ∧ mw ≠ mr ∧ mw ≠ mh ∧ mr ≠ mh
  lo : w0.heap.size ≤ mw ∧ w0.heap.size ≤ mr ∧ w0.heap.size ≤ mh
section
variable {w0 w w' : World} {b hb nH : Nat} {wv : Value} {S : RS} {mw n1 : Nat} {val : Int → Value} {mr n2 : Nat} {ro : Int → Int} {mh n3 i : Nat}
theorem JJ.then (h : JJ w0 w b hb nH wv S mw n1 val mr n2 ro mh n3 i) (hl : Below w.heap.size w w') : JJ w0 w' b hb nH wv S mw n1 val mr n2 ro mh n3 i := by
  obtain ⟨_, _, e1⟩ := h.sm.isMap
  obtain ⟨_, _, e2⟩ := h.rm.isMap
  obtain ⟨_, _, e3⟩ := h.hm.isMap
  exact ⟨h.rd.then hl, h.ok, h.sm.keep (hl.block _ (heap_lt' e1)), h.rm.keep (hl.block _ (heap_lt' e2)), h.hm.keep (hl.block _ (heap_lt' e3)), h.vl, h.rl, h.nb, h.ne, h.lo⟩
theorem JJ.mono (h : JJ w0 w b hb nH wv S mw n1 val mr n2 ro mh n3 i) : JJ w0 w b hb nH wv S mw n1 val mr n2 ro mh n3 (i + 1) :=
  ⟨h.rd, h.ok.mono (Nat.le_succ i), h.sm, h.rm, h.hm, h.vl, h.rl, by have := h.nb; omega, h.ne, h.lo⟩
/-- A reader's call that leaves its waits and who was heard as they are named. -/
theorem JJ.maps (h : JJ w0 w b hb nH wv S mw n1 val mr n2 ro mh n3 i) {O : Nat → Prop} (hs : Stays O w w') (ho : ∀ k, O k → k = b ∨ k = hb ∨ wv.ownBlock = some k) : SMap w' mw n1 S.l.length (hasB S.l) val ∧ RMap w' mr n2 ro ∧ HMap w' mh n3 S.h :=
  ⟨h.sm.keep (h.rd.far hs ho h.sm.isMap h.ne.1), h.rm.keep (h.rd.far hs ho h.rm.isMap h.ne.2.1), h.hm.keep (h.rd.far hs ho h.hm.isMap h.ne.2.2.1)⟩
end
theorem JJ.start {w0 w : World} {b hb : Nat} {wv : Value} {me : Int} (h : MineR w0 w b hb 0 wv ⟨me, 0, [], fun _ => 0⟩) : JJ w0 (((w.alloc (.map #[] 0)).alloc (.map #[] 0)).alloc (.map #[] 0)) b hb 0 wv ⟨me, 0, [], fun _ => 0⟩ w.heap.size 0 (fun _ => zStep) (w.heap.size + 1) 0 (fun _ => 0) (w.heap.size + 1 + 1) 0 0 := by
  have hb1 : Below w.heap.size w (((w.alloc (.map #[] 0)).alloc (.map #[] 0)).alloc (.map #[] 0)) := (((Below.refl _ _).alloc (Nat.le_refl _) _).alloc (by simp) _).alloc (by simp; omega) _
  have hr := RMap.made (w.alloc (.map #[] 0))
  have hh := HMap.made ((w.alloc (.map #[] 0)).alloc (.map #[] 0))
  rw [show (w.alloc (Obj.map #[] 0)).heap.size = w.heap.size + 1 by simp] at hr
  rw [show ((w.alloc (Obj.map #[] 0)).alloc (Obj.map #[] 0)).heap.size = w.heap.size + 1 + 1 by simp] at hh
  have hl := h.rd.hlt
  have hz := h.below.size
  refine ⟨h.then hb1, ⟨⟨Int.le_refl _, by simp⟩, by simp, fun e he => by simp at he, fun e he => by simp at he, fun e he => by simp at he, List.Pairwise.nil, List.Pairwise.nil⟩, ?_, hr.keep (heap_alloc_old _ _ (by simp)), hh, fun e he => by simp at he, fun e he => by simp at he, by omega, by omega, by omega⟩
  exact ((SMap.made w (fun _ => zStep)).keep (heap_alloc_old _ _ (by simp))).keep (heap_alloc_old _ _ (by simp; omega))
theorem askS_no {S : RS} {id cm : Int} {c : List Int} (h : askE S id cm c ≠ 0) : askS S id cm c = S := by unfold askS; rw [if_neg h]
end Go.Proofs.Ytjjdfhokmiaekaa
