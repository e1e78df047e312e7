/-
  Disks beside rows of the law's own; rows of texts; what DiskEnds and DiskKeeps need of files (plain).
-/
import Derived.Test.YtenjllkhbpoffaaDoorDskScript
namespace Go.Proofs.YtenjllkhbpoffaaDoor
open Go Go.Maps Go.WideMaps Go.Dsk Go.Lx Go.Lst Go.RowKit

/-- A disk, and blocks X that it does not own. -/
structure One (w0 A : World) (O X : Nat → Prop) (b : Nat) (M : DM) : Prop where
  dk : Dk A O b M
  x : ∀ k, X k → ¬ O k ∧ k < A.heap.size
  lo : ∀ k, O k → w0.heap.size ≤ k
  below : Below w0.heap.size w0 A
theorem _root_.Go.Lst.Stays.under {O : Nat → Prop} {w0 A A' : World} (h : Stays O A A') (hB : Below w0.heap.size w0 A) (hO : ∀ k, O k → w0.heap.size ≤ k) : Below w0.heap.size w0 A' := by
  have a1 := hB.size
  exact hB.trans ⟨h.os, h.tape, h.output, h.size, fun k hk => h.block k (by omega) (fun e => by have := hO k e; omega)⟩
section
variable {w0 A A' : World} {O O' X X' : Nat → Prop} {b : Nat} {M M' : DM}
theorem One.op (h : One w0 A O X b M) (h1 : Dk A' (Gr O A A') b M') (h2 : Stays O A A') : One w0 A' (Gr O A A') X b M' ∧ ∀ k, X k → A'.heap[k]? = A.heap[k]? := by
  have a1 := h2.size
  have a2 := h.below.size
  refine ⟨⟨h1, fun k hk => ?_, fun k hk => ?_, h2.under h.below h.lo⟩, fun k hk => h2.block k (h.x k hk).2 (h.x k hk).1⟩
  · obtain ⟨x1, x2⟩ := h.x k hk
    exact ⟨fun hg => hg.elim x1 (fun e => by omega), by omega⟩
  · exact hk.elim (h.lo k) (fun e => by omega)
/-- Worlds in which the disk's blocks are as they were. -/
theorem One.keep (h : One w0 A O X b M) (hk : ∀ k, O k → A'.heap[k]? = A.heap[k]?) (hs : A.heap.size ≤ A'.heap.size) (hB : Below w0.heap.size w0 A') : One w0 A' O X b M :=
  ⟨h.dk.keep hk hs, fun k hx => ⟨(h.x k hx).1, Nat.lt_of_lt_of_le (h.x k hx).2 hs⟩, h.lo, hB⟩
theorem One.then (h : One w0 A O X b M) (hb : Below A.heap.size A A') : One w0 A' O X b M :=
  h.keep (fun k hO => hb.block k (h.dk.lo k hO)) hb.size (Lx.bstep h.below (Nat.le_refl _) hb)
/-- One more block. -/
theorem One.add (h : One w0 A O X b M) (hX : ∀ k, X' k → X k ∨ (¬ O k ∧ k < A.heap.size)) : One w0 A O X' b M :=
  ⟨h.dk, fun k hk => (hX k hk).elim (h.x k) id, h.lo, h.below⟩
end
section
variable {w0 A A' : World} {Oa Ob X X' : Nat → Prop} {ba bb : Nat} {Ma Mb M' : DM}
structure Two (w0 A : World) (Oa Ob X : Nat → Prop) (ba bb : Nat) (Ma Mb : DM) : Prop where
  a : One w0 A Oa (fun k => X k ∨ Ob k) ba Ma
  b : One w0 A Ob (fun k => X k ∨ Oa k) bb Mb
theorem Two.opa (h : Two w0 A Oa Ob X ba bb Ma Mb) (h1 : Dk A' (Gr Oa A A') ba M') (h2 : Stays Oa A A') : Two w0 A' (Gr Oa A A') Ob X ba bb M' Mb ∧ ∀ k, X k → A'.heap[k]? = A.heap[k]? := by
  obtain ⟨g1, g2⟩ := h.a.op h1 h2
  refine ⟨⟨g1, ?_⟩, fun k hk => g2 k (.inl hk)⟩
  have hb := h.b.keep (A' := A') (fun k hO => g2 k (.inr hO)) h2.size g1.below
  refine ⟨hb.dk, fun k hk => ?_, hb.lo, hb.below⟩
  rcases hk with hk | hk | hk
  · exact hb.x k (.inl hk)
  · exact hb.x k (.inr hk)
  · exact ⟨fun e => by have := h.b.dk.lo k e; omega, hk.2⟩
theorem Two.symm (h : Two w0 A Oa Ob X ba bb Ma Mb) : Two w0 A Ob Oa X bb ba Mb Ma := ⟨h.b, h.a⟩
theorem Two.opb (h : Two w0 A Oa Ob X ba bb Ma Mb) (h1 : Dk A' (Gr Ob A A') bb M') (h2 : Stays Ob A A') : Two w0 A' Oa (Gr Ob A A') X ba bb Ma M' ∧ ∀ k, X k → A'.heap[k]? = A.heap[k]? :=
  ⟨(h.symm.opa h1 h2).1.symm, (h.symm.opa h1 h2).2⟩
theorem Two.then (h : Two w0 A Oa Ob X ba bb Ma Mb) (hb : Below A.heap.size A A') : Two w0 A' Oa Ob X ba bb Ma Mb := ⟨h.a.then hb, h.b.then hb⟩
theorem Two.keep (h : Two w0 A Oa Ob X ba bb Ma Mb) (hk : ∀ k, k < A.heap.size → ¬ X k → A'.heap[k]? = A.heap[k]?) (hs : A.heap.size ≤ A'.heap.size) (hB : Below w0.heap.size w0 A') : Two w0 A' Oa Ob X ba bb Ma Mb :=
  ⟨h.a.keep (fun k hO => hk k (h.a.dk.lo k hO) (fun hX => (h.a.x k (.inl hX)).1 hO)) hs hB, h.b.keep (fun k hO => hk k (h.b.dk.lo k hO) (fun hX => (h.b.x k (.inl hX)).1 hO)) hs hB⟩
theorem Two.add (h : Two w0 A Oa Ob X ba bb Ma Mb) (hX : ∀ k, X' k → X k ∨ (¬ Oa k ∧ ¬ Ob k ∧ k < A.heap.size)) : Two w0 A Oa Ob X' ba bb Ma Mb :=
  ⟨h.a.add (fun k hk => hk.elim (fun h => (hX k h).elim (fun h => .inl (.inl h)) (fun h => .inr ⟨h.1, h.2.2⟩)) (fun h => .inl (.inr h))), h.b.add (fun k hk => hk.elim (fun h => (hX k h).elim (fun h => .inl (.inl h)) (fun h => .inr ⟨h.2.1, h.2.2⟩)) (fun h => .inl (.inr h)))⟩
theorem Two.new (h : Two w0 A Oa Ob X ba bb Ma Mb) (hb : Below A.heap.size A A') (hX : ∀ k, X' k → X k ∨ (A.heap.size ≤ k ∧ k < A'.heap.size)) : Two w0 A' Oa Ob X' ba bb Ma Mb :=
  (h.then hb).add (fun k hk => (hX k hk).elim .inl (fun e => .inr ⟨fun hO => by have := h.a.dk.lo k hO; omega, fun hO => by have := h.b.dk.lo k hO; omega, e.2⟩))
end
/-- A row of texts of the law's own. -/
def Txts (w : World) (v : Value) (l : List ByteArray) : Prop := w.ownsRow 0 9 1 v l.length (l.map Value.string)
theorem Txts.keep {w w' : World} {v : Value} {l : List ByteArray} (h : Txts w v l) (hk : ∀ k, v.ownBlock = some k → w'.heap[k]? = w.heap[k]?) : Txts w' v l := own_keep h hk
theorem Txts.lt {w : World} {v : Value} {l : List ByteArray} (h : Txts w v l) {k : Nat} (hk : v.ownBlock = some k) : k < w.heap.size := (own_block h hk).2
theorem Txts.nil (w : World) : Txts w (.slice none 0 0) [] := own_nil _ _ _
theorem Txts.get {w : World} {v : Value} {l : List ByteArray} (h : Txts w v l) (i : Nat) (hi : i < l.length) : ∃ a c, v = .slice (some a) l.length c ∧ w.cell? (a.add i) = some (.string l[i]) := by
  obtain ⟨p, c, e, _, _, h3⟩ := Lst.own h
  obtain ⟨a, rfl, hc⟩ := h3 i (by simpa using hi)
  refine ⟨a, c, by simpa using e, ?_⟩
  simpa using hc
theorem Txts.parts {w : World} {v : Value} {l : List ByteArray} (h : Txts w v l) : ∃ p c, v = .slice p l.length c := by
  obtain ⟨p, c, e, _, _, _⟩ := Lst.own h
  exact ⟨p, c, by simpa using e⟩
theorem infoS : (Tryd.prog.info? 9).map (fun i => (i.zero, i.size, i.bytes)) = some (some (.string ⟨#[]⟩), 1, 16) := by kernel_rfl
theorem Txts.append {w : World} {v : Value} {l : List ByteArray} (h : Txts w v l) (s : ByteArray) (hl : l.length < 1000000) (ty : TypeId) :
    ∃ p n d w2, (Builtin.append_ #[29, 29] ty #[v, .slice (some ⟨w.heap.size, 0, none⟩) 1 1]).run Tryd.prog (w.alloc (.cells #[.string s] 9)) = .ok (.slice p n d) w2 ∧ Txts w2 (.slice p n d) (l ++ [s]) ∧
      (∀ k, k < w.heap.size → v.ownBlock ≠ some k → w2.heap[k]? = w.heap[k]?) ∧ w.heap.size ≤ w2.heap.size ∧ w2.os = w.os ∧ w2.tape = w.tape ∧ w2.output = w.output ∧ (∀ k, (Value.slice p n d).ownBlock = some k → v.ownBlock = some k ∨ w.heap.size ≤ k) := by
  obtain ⟨i0, hi, hz0, hz1, hz2⟩ := info_parts infoS
  have hbl : Below w.heap.size w (w.alloc (.cells #[.string s] 9)) := (Below.refl _ _).alloc (Nat.le_refl _) _
  have hrow : (w.alloc (.cells #[.string s] 9)).ownsRow 0 9 1 v l.length (l.map Value.string) := own_keep h (fun k hk => hbl.block k (own_block h hk).2)
  obtain ⟨v', w2, hr, h2, h3, -, h5⟩ := run_append_own_at (P := Tryd.prog) (w.alloc (.cells #[.string s] 9)) 0 29 ty 9 i0 _ 1 16 Tryd.underlying29 hi hz0 hz1 hz2 rfl (by decide) v l.length _ hrow ⟨w.heap.size, 0, none⟩ 1 1 [.string s] rfl (blkc (Blk.new w #[.string s] _)) (by simp [Value.oneCell']) (by unfold maxLen; omega) (by omega) (Nat.zero_le _)
  obtain ⟨p, n, d, rfl⟩ := own_slice h2
  have hsz : (w.alloc (.cells #[.string s] 9)).heap.size = w.heap.size + 1 := by simp
  refine ⟨p, n, d, w2, hr, ?_, fun k hk hn => (h3.block k (by omega) (fun e => hn e.symm)).trans (hbl.block k hk), by have := h3.size; omega, h3.os, h3.tape, h3.output, fun k hk => ?_⟩
  · unfold Txts
    rw [List.length_append, List.map_append]
    exact h2
  · rcases h5 with h5 | h5
    · exact .inl (h5 ▸ hk)
    · rw [h5] at hk; cases hk; exact .inr (by omega)
theorem Names_txts {w : World} {O : Nat → Prop} {b : Nat} {M : DM} (h : Dk w O b M) : Calls Tryd.prog 16 #[.pointer (some ⟨b, 0, none⟩)] w fun y w' => ∃ p c, y = .returned (.slice p M.now.length c) ∧ Txts w' (.slice p M.now.length c) (M.now.map (·.1)) ∧ (∀ k, (Value.slice p M.now.length c).ownBlock = some k → w.heap.size ≤ k ∧ k < w'.heap.size) ∧ Below w.heap.size w w' :=
  (Names_calls h).mono fun _ w' ⟨v, he, h1, h2⟩ => by
    obtain ⟨p, c, hv, -, -⟩ := Lst.own h1
    rw [List.length_map] at hv
    subst hv
    have h3 : Txts w' (.slice p M.now.length c) (M.now.map (·.1)) := by
      unfold Txts
      rw [List.length_map, List.map_map]
      exact own_mono h1 (Nat.zero_le _)
    exact ⟨p, c, he, h3, fun k hk => own_block h1 hk, h2⟩
/-- Rows of the law's own, none in another's block. -/
structure Rws (A : World) (X : Nat → Prop) (rs : List (Value × List ByteArray)) : Prop where
  t : ∀ p ∈ rs, Txts A p.1 p.2
  x : ∀ p ∈ rs, ∀ k, p.1.ownBlock = some k → X k
  d : rs.Pairwise fun p q => ∀ k, p.1.ownBlock = some k → q.1.ownBlock ≠ some k
section
variable {w0 A A' : World} {Oa Ob O X X' : Nat → Prop} {ba bb b : Nat} {Ma Mb M : DM} {rs : List (Value × List ByteArray)} {tv : Value} {l : List ByteArray}
theorem Rws.keep (h : Rws A X rs) (hk : ∀ k, X k → A'.heap[k]? = A.heap[k]?) : Rws A' X rs := ⟨fun p hp => (h.t p hp).keep (fun k hv => hk k (h.x p hp k hv)), h.x, h.d⟩
theorem Rws.then (h : Rws A X rs) (hb : Below A.heap.size A A') : Rws A' X rs := ⟨fun p hp => (h.t p hp).keep (fun k hv => hb.block k ((h.t p hp).lt hv)), h.x, h.d⟩
theorem Rws.wide (h : Rws A X rs) (hX : ∀ k, X k → X' k) : Rws A X' rs := ⟨h.t, fun p hp k hv => hX k (h.x p hp k hv), h.d⟩
theorem Rws.tail {p : Value × List ByteArray} (h : Rws A X (p :: rs)) : Rws A X rs := ⟨fun q hq => h.t q (List.mem_cons_of_mem _ hq), fun q hq => h.x q (List.mem_cons_of_mem _ hq), (List.pairwise_cons.1 h.d).2⟩
theorem Rws.head {v : Value} {l : List ByteArray} (h : Rws A X ((v, l) :: rs)) : Txts A v l := h.t _ (List.mem_cons_self)
theorem Rws.empty0 (A : World) (X : Nat → Prop) : Rws A X [] := ⟨fun p hp => by simp at hp, fun p hp => by simp at hp, List.Pairwise.nil⟩
/-- One more row, in a new block (or none). -/
theorem Rws.cons (h : Rws A X rs) (hb : Below A.heap.size A A') {v : Value} {l : List ByteArray} (ht : Txts A' v l) (hv : ∀ k, v.ownBlock = some k → A.heap.size ≤ k ∧ k < A'.heap.size) : Rws A' (fun k => X k ∨ (A.heap.size ≤ k ∧ k < A'.heap.size)) ((v, l) :: rs) := by
  have h' := h.then hb
  refine ⟨fun p hp => ?_, fun p hp k hk => ?_, List.pairwise_cons.2 ⟨fun p hp k hk e => ?_, h.d⟩⟩
  · rcases List.mem_cons.1 hp with rfl | hp
    · exact ht
    · exact h'.t p hp
  · rcases List.mem_cons.1 hp with rfl | hp
    · exact .inr (hv k hk)
    · exact .inl (h.x p hp k hk)
  · have := (h.t p hp).lt e
    have := (hv k hk).1
    omega
theorem Rws.nil (h : Rws A X rs) : Rws A X ((.slice none 0 0, []) :: rs) :=
  ⟨fun p hp => by rcases List.mem_cons.1 hp with rfl | hp; exact Txts.nil _; exact h.t p hp, fun p hp k hk => by rcases List.mem_cons.1 hp with rfl | hp; cases hk; exact h.x p hp k hk, List.pairwise_cons.2 ⟨fun p _ k hk => (by cases hk), h.d⟩⟩
set_option maxRecDepth 100000 in
theorem Rws.append (h : Rws A X ((tv, l) :: rs)) (hX : ∀ k, X k → k < A.heap.size) (s : ByteArray) (hl : l.length < 1000000) (ty : TypeId) :
    ∃ p d w2, (Builtin.append_ #[29, 29] ty #[tv, .slice (some ⟨A.heap.size, 0, none⟩) 1 1]).run Tryd.prog (A.alloc (.cells #[.string s] 9)) = .ok (.slice p (l.length + 1) d) w2 ∧
      Rws w2 (fun k => X k ∨ (A.heap.size ≤ k ∧ k < w2.heap.size)) ((.slice p (l.length + 1) d, l ++ [s]) :: rs) ∧ (∀ k, k < A.heap.size → ¬ X k → w2.heap[k]? = A.heap[k]?) ∧ A.heap.size ≤ w2.heap.size ∧ w2.os = A.os ∧ w2.tape = A.tape ∧ w2.output = A.output := by
  obtain ⟨p, n, d, w2, hr, ht, hk, hs, o1, o2, o3, hv⟩ := h.head.append s hl ty
  obtain ⟨p', c', e⟩ := ht.parts
  have hn : n = l.length + 1 := by injection e with _ e2 _; rw [List.length_append, List.length_singleton] at e2; exact e2
  subst hn
  obtain ⟨d1, d2⟩ := List.pairwise_cons.1 h.d
  refine ⟨p, d, w2, hr, ⟨fun q hq => ?_, fun q hq k hq2 => ?_, List.pairwise_cons.2 ⟨fun q hq k hk2 e => ?_, d2⟩⟩, fun k h1 h2 => hk k h1 (fun e => h2 (h.x _ (List.mem_cons_self) k e)), hs, o1, o2, o3⟩
  · rcases List.mem_cons.1 hq with rfl | hq
    · exact ht
    · exact (h.t q (List.mem_cons_of_mem _ hq)).keep (fun k hv' => hk k ((h.t q (List.mem_cons_of_mem _ hq)).lt hv') (fun e => d1 q hq k e hv'))
  · rcases List.mem_cons.1 hq with rfl | hq
    · rcases hv k hq2 with h1 | h1
      · exact .inl (h.x _ (List.mem_cons_self) k h1)
      · exact .inr ⟨h1, ht.lt hq2⟩
    · exact .inl (h.x q (List.mem_cons_of_mem _ hq) k hq2)
  · rcases hv k hk2 with h1 | h1
    · exact d1 q hq k h1 e
    · have := (h.t q (List.mem_cons_of_mem _ hq)).lt e; omega
theorem Two.xlt (h : Two w0 A Oa Ob X ba bb Ma Mb) : ∀ k, X k → k < A.heap.size := fun k hk => (h.a.x k (.inl hk)).2
/-- A text is appended to the first row. -/
theorem Two.append (hT : Two w0 A Oa Ob X ba bb Ma Mb) (hXl : ∀ k, X k → w0.heap.size ≤ k) (h : Rws A X ((tv, l) :: rs)) (s : ByteArray) (hl : l.length < 1000000) (ty : TypeId) :
    ∃ p d w2, (Builtin.append_ #[29, 29] ty #[tv, .slice (some ⟨A.heap.size, 0, none⟩) 1 1]).run Tryd.prog (A.alloc (.cells #[.string s] 9)) = .ok (.slice p (l.length + 1) d) w2 ∧
      Rws w2 (fun k => X k ∨ (A.heap.size ≤ k ∧ k < w2.heap.size)) ((.slice p (l.length + 1) d, l ++ [s]) :: rs) ∧ Two w0 w2 Oa Ob (fun k => X k ∨ (A.heap.size ≤ k ∧ k < w2.heap.size)) ba bb Ma Mb := by
  obtain ⟨p, d, w2, hr, h1, hk, hs, o1, o2, o3⟩ := h.append hT.xlt s hl ty
  have hst : Stays X A w2 := ⟨o1, o2, o3, hs, hk⟩
  refine ⟨p, d, w2, hr, h1, (hT.keep hk hs (hst.under hT.a.below hXl)).add (fun k hx => hx.elim .inl (fun e => .inr ⟨fun hO => ?_, fun hO => ?_, e.2⟩))⟩
  · have := hT.a.dk.lo k hO; omega
  · have := hT.b.dk.lo k hO; omega
theorem op_a {P : Program} {f : FuncId} {args : Array Value} {e : Value} {M' : DM} (h : Two w0 A Oa Ob X ba bb Ma Mb) (hr : Rws A X rs) (hc : Calls P f args A fun y w' => y = .returned e ∧ Dk w' (Gr Oa A w') ba M' ∧ Stays Oa A w') :
    Calls P f args A fun y w' => y = .returned e ∧ (∃ O', Two w0 w' O' Ob X ba bb M' Mb) ∧ Rws w' X rs ∧ (∀ k, k < A.heap.size → ¬ Oa k → w'.heap[k]? = A.heap[k]?) :=
  hc.mono fun _ _ ⟨he, h1, h2⟩ => ⟨he, ⟨_, (h.opa h1 h2).1⟩, hr.keep (h.opa h1 h2).2, h2.block⟩
theorem op_b {P : Program} {f : FuncId} {args : Array Value} {e : Value} {M' : DM} (h : Two w0 A Oa Ob X ba bb Ma Mb) (hr : Rws A X rs) (hc : Calls P f args A fun y w' => y = .returned e ∧ Dk w' (Gr Ob A w') bb M' ∧ Stays Ob A w') :
    Calls P f args A fun y w' => y = .returned e ∧ (∃ O', Two w0 w' Oa O' X ba bb Ma M') ∧ Rws w' X rs :=
  hc.mono fun _ _ ⟨he, h1, h2⟩ => ⟨he, ⟨_, (h.opb h1 h2).1⟩, hr.keep (h.opb h1 h2).2⟩
end
end Go.Proofs.YtenjllkhbpoffaaDoor
namespace Go.Dsk
theorem at_get {F : Files} (h : Rise F) (i : Nat) (hi : i < F.length) : atF F F[i].1 = F[i].2 ∧ hasF F F[i].1 = true := by
  refine ⟨?_, List.any_eq_true.2 ⟨F[i], List.getElem_mem hi, by simp⟩⟩
  have hp := h.apart
  unfold atF
  have : F.find? (fun p => decide (p.1 = F[i].1)) = some F[i] := by
    rw [List.find?_eq_some_iff_getElem]
    refine ⟨by simp, i, hi, rfl, fun j hj => ?_⟩
    have := (List.pairwise_iff_getElem.1 hp) j i (by omega) hi hj
    simpa using this
  rw [this]
theorem crash_all (S : Files) (l : List Lc) (c y : Int) (h : (l.length : Int) ≤ c) : crashN S l c y = all S l := by
  unfold crashN crashAt
  rw [if_pos h, List.take_length]
theorem crash_none (S : Files) (l : List Lc) (c y : Int) (h : c < 0) : crashN S l c y = S := by
  unfold crashN crashAt
  by_cases h0 : (l.length : Int) ≤ c
  · omega
  · rw [if_neg h0, if_pos h]
theorem ext_zero (s : ByteArray) : s.extract 0 0 = ⟨#[]⟩ := by
  apply ByteArray.ext
  simp
theorem app_none (s : ByteArray) : s ++ (⟨#[]⟩ : ByteArray) = s := by
  apply ByteArray.ext
  simp
/-- What nothing of what was loose leaves. -/
theorem crash_first {S : Files} (hS : Rise S) (l : List Lc) : (crashN S l 0 (-1)).length ≤ S.length + 1 ∧ ∀ x, hasF S x = true → hasF (crashN S l 0 (-1)) x = true ∧ atF (crashN S l 0 (-1)) x = atF S x := by
  unfold crashN crashAt
  by_cases h : (l.length : Int) ≤ 0
  · rw [if_pos h]
    have : l = [] := List.eq_nil_of_length_eq_zero (by omega)
    subst this
    exact ⟨by simp [all], fun x hx => ⟨hx, rfl⟩⟩
  · rw [if_neg h, if_neg (by decide)]
    cases l with
    | nil => simp at h
    | cons c l =>
      show (part S (-1) c).length ≤ _ ∧ ∀ x, _ → hasF (part S (-1) c) x = true ∧ atF (part S (-1) c) x = _
      cases c with
      | app k s =>
        unfold part
        dsimp only
        have e : (min (max (-1 : Int) 0) (s.size : Int)).toNat = 0 := by omega
        rw [e, ext_zero, app_none]
        refine ⟨by have := len_put hS k (atF S k); omega, fun x hx => ?_⟩
        rw [has_put, at_put, hx]
        refine ⟨by simp, ?_⟩
        by_cases hxk : x = k
        · subst hxk; rw [if_pos rfl]
        · rw [if_neg hxk]
      | cut k n => exact ⟨Nat.le_succ _, fun x hx => ⟨hx, rfl⟩⟩
      | ren a b => exact ⟨Nat.le_succ _, fun x hx => ⟨hx, rfl⟩⟩
      | rem k => exact ⟨Nat.le_succ _, fun x hx => ⟨hx, rfl⟩⟩
end Go.Dsk
