/-
  What is kept where blocks are as they were: slices that are read, rows that the call owns. No project text.
-/
import Derived.Test.YtenjllkhbpoffaaDoorBlk
import Derived.Maps.AppendAt
namespace Go.Lst
open Go Go.RowKit Go.Lx

theorem Lst.keep {w w' : World} {v : Value} {xs : List Value} (h : Lst w v xs) (hk : ∀ k, v.ownBlock = some k → w'.heap[k]? = w.heap[k]?) : Lst w' v xs := by
  obtain ⟨p, c, rfl, h1, h2, h3⟩ := h
  refine ⟨p, c, rfl, h1, h2, fun i hi => ?_⟩
  obtain ⟨a, rfl, hc⟩ := h3 i hi
  refine ⟨a, rfl, ?_⟩
  have hbk : (a.add i).block = a.block := by unfold Addr.add; split <;> rfl
  rw [World.cell?_of_block (w := w) (by rw [hbk]; exact hk a.block rfl), hc]
theorem Nums.keep {k : IntKind} {w w' : World} {v : Value} {xs : List Int} (h : Nums k w v xs) (hk : ∀ k, v.ownBlock = some k → w'.heap[k]? = w.heap[k]?) : Nums k w' v xs := ⟨h.1.keep hk, h.2⟩
theorem own_keep {w w' : World} {B : Nat} {e : TypeId} {s : Nat} {v : Value} {n : Nat} {xs : List Value} (h : w.ownsRow B e s v n xs) (hk : ∀ k, v.ownBlock = some k → w'.heap[k]? = w.heap[k]?) : w'.ownsRow B e s v n xs := by
  refine ⟨h.1, ?_⟩
  rcases h.2 with h2 | ⟨g, cap, cur, rfl, hg, hh, r⟩
  · exact .inl h2
  · exact .inr ⟨g, cap, cur, rfl, hg, (hk g rfl).trans hh, r⟩
theorem heap_lt' {w : World} {b : Nat} {X : Obj} (h : w.heap[b]? = some X) : b < w.heap.size := by
  rcases Nat.lt_or_ge b w.heap.size with h' | h'
  · exact h'
  · rw [Array.getElem?_eq_none h'] at h; cases h
theorem own_block {w : World} {B : Nat} {e : TypeId} {s : Nat} {v : Value} {n : Nat} {xs : List Value} (h : w.ownsRow B e s v n xs) {k : Nat} (hk : v.ownBlock = some k) : B ≤ k ∧ k < w.heap.size := by
  rcases h.2 with ⟨rfl, _⟩ | ⟨g, cap, cur, rfl, hg, hh, r⟩
  · cases hk
  · cases hk
    exact ⟨hg, heap_lt' hh⟩
theorem own_below {w w' : World} {B : Nat} {e : TypeId} {s : Nat} {v : Value} {n : Nat} {xs : List Value} (h : w.ownsRow B e s v n xs) (hb : Below w.heap.size w w') : w'.ownsRow B e s v n xs :=
  own_keep h fun _ hk => hb.block _ (own_block h hk).2
theorem own_mono {w : World} {B B' : Nat} {e : TypeId} {s : Nat} {v : Value} {n : Nat} {xs : List Value} (h : w.ownsRow B e s v n xs) (hb : B' ≤ B) : w.ownsRow B' e s v n xs := by
  refine ⟨h.1, ?_⟩
  rcases h.2 with h2 | ⟨g, cap, cur, rfl, hg, r⟩
  · exact .inl h2
  · exact .inr ⟨g, cap, cur, rfl, Nat.le_trans hb hg, r⟩
theorem own_slice {w : World} {B : Nat} {e : TypeId} {s : Nat} {v : Value} {n : Nat} {xs : List Value} (h : w.ownsRow B e s v n xs) : ∃ p l c, v = .slice p l c := by
  rcases h.2 with ⟨rfl, _⟩ | ⟨g, cap, cur, rfl, _⟩
  · exact ⟨_, _, _, rfl⟩
  · exact ⟨_, _, _, rfl⟩
theorem own_nil (w : World) (B : Nat) (e : TypeId) : w.ownsRow B e 1 (.slice none 0 0) 0 [] := ⟨rfl, .inl ⟨rfl, rfl⟩⟩
/-- A slice of numbers that is not empty lies in a block that is there. -/
theorem Nums.block_lt {k : IntKind} {w : World} {v : Value} {xs : List Int} (h : Nums k w v xs) (h0 : 0 < xs.length) : ∃ a c, v = .slice (some a) xs.length c ∧ a.block < w.heap.size := by
  obtain ⟨p, c, rfl, _, _, hc⟩ := h.parts
  obtain ⟨a, rfl, hca⟩ := hc 0 h0
  refine ⟨a, c, rfl, ?_⟩
  rcases Nat.lt_or_ge a.block w.heap.size with h' | h'
  · exact h'
  · have e : a.add 0 = a := by simp [Addr.add]
    rw [e] at hca
    simp [World.cell?, Array.getElem?_eq_none h'] at hca
theorem _root_.Go.Lx.Blk.same {w w' : World} {b : Nat} {cs : List Value} (h : Blk w b cs) (hk : w'.heap[b]? = w.heap[b]?) : Blk w' b cs := by
  obtain ⟨T, h⟩ := h
  exact ⟨T, hk.trans h⟩
/-- All blocks that were there are as they were, but those of O. -/
structure Stays (O : Nat → Prop) (w w' : World) : Prop where
  os : w'.os = w.os
  tape : w'.tape = w.tape
  output : w'.output = w.output
  size : w.heap.size ≤ w'.heap.size
  block : ∀ k, k < w.heap.size → ¬ O k → w'.heap[k]? = w.heap[k]?
theorem Stays.of_below {O : Nat → Prop} {w w' : World} (h : Below w.heap.size w w') : Stays O w w' := ⟨h.os, h.tape, h.output, h.size, fun k hk _ => h.block k hk⟩
theorem Stays.of_grown {O : Nat → Prop} {w w' : World} {r : Option Nat} (h : w.grownBy w' r) (hr : ∀ k, r = some k → k < w.heap.size → O k) : Stays O w w' := ⟨h.os, h.tape, h.output, h.size, fun k hk hn => h.block k hk (fun e => hn (hr k e.symm hk))⟩
theorem Stays.trans {O O' : Nat → Prop} {a b c : World} (h : Stays O a b) (k : Stays O' b c) (ho : ∀ i, i < a.heap.size → O' i → O i) : Stays O a c :=
  ⟨k.os.trans h.os, k.tape.trans h.tape, k.output.trans h.output, Nat.le_trans h.size k.size, fun i hi hn => (k.block i (Nat.lt_of_lt_of_le hi h.size) (fun e => hn (ho i hi e))).trans (h.block i hi hn)⟩
theorem Stays.below {O : Nat → Prop} {w w' : World} {B : Nat} (h : Stays O w w') (hB : B ≤ w.heap.size) (ho : ∀ k, O k → B ≤ k) : Below B w w' :=
  ⟨h.os, h.tape, h.output, h.size, fun k hk => h.block k (by omega) (fun e => by have := ho k e; omega)⟩
theorem Stays.setCell {O : Nat → Prop} {w w' : World} (h : Stays O w w') {p : Addr} (hp : p.block < w.heap.size → O p.block) (v : Value) : Stays O w (w'.setCell p v) :=
  ⟨h.os, h.tape, h.output, by simpa using h.size, fun k hk hn => (Below.heap_setCell _ _ _ _ (fun e => hn (by rw [e]; exact hp (by omega)))).trans (h.block k hk hn)⟩
/-! 'append([]T(nil), xs...)': a copy of numbers, whatever they are (none, too). -/
section
variable {P : Program}
theorem run_append_none (w : World) (t ty e : TypeId) (i : TypeInfo) (ht : P.underlying t = some (.slice e)) (hi : P.info? e = some i) (p : Option Addr) (c : Nat) :
    (Builtin.append_ #[t, t] ty #[.slice none 0 0, .slice p 0 c]).run P w = .ok (.slice none 0 0) w := by
  cases p <;> simp [Builtin.append_, run_underlying ht, sizeOf, typeInfo, hi, Builtin.lenOf, Builtin.firstCells, loadCells, loadCellsFrom]
theorem wpList_copied {ops : Array Oper} {rest : List Oper} {o : Oper} {a : Act} {w : World} {Q : Exit → Act → World → Prop} (hgd : o.guard = none) (s x : Operand) (t : TypeId)
    (ho : o.op = .call { callee := .builtin .append, args := #[s, x], argTypes := #[t, t] }) (e : TypeId) (k : IntKind) (bytes : Nat) (ht : P.underlying t = some (.slice e)) (hi : (P.info? e).map (fun i => (i.zero, i.size, i.bytes)) = some (some (.int k 0), 1, bytes))
    (hs : a.eval s = .slice none 0 0) (v : Value) (xs : List Int) (hx : a.eval x = v) (hN : Nums k w v xs) (hb : xs.length * bytes ≤ 140737488355328)
    (h : ∀ v' w', w'.ownsRow w.heap.size e 1 v' xs.length (xs.map fun x => .int k x) → Below w.heap.size w w' → wpList P ops Q rest (a.put o.dst v') w') : wpList P ops Q (o :: rest) a w := by
  obtain ⟨i, hi, hz0, hz1, hz2⟩ := info_parts hi
  obtain ⟨p, c, rfl, hc1, hc2, hcell⟩ := hN.parts
  by_cases h0 : xs.length = 0
  · refine wpList_plain hgd fun K hK => ?_
    have hr := run_append_none (P := P) w t o.type e i ht hi p c
    have h2 := h (.slice none 0 0) w (by rw [h0, List.eq_nil_of_length_eq_zero h0]; exact own_nil _ _ _) (Below.refl _ _)
    unfold Oper.wp execOp
    rw [h0] at hx
    simp only [ho, resolve, invoke, builtin, Sem.run_bind, Sem.run_pure, Result.andThen_ok, List.map_toArray, List.map_cons, List.map_nil, hs, hx, hr]
    exact hK _ _ h2
  · obtain ⟨ad, rfl, _⟩ := hcell 0 (by omega)
    refine wpList_append_own w hgd s x t ho w.heap.size e i (.int k 0) 1 bytes ht hi hz0 hz1 hz2 rfl (by decide) (.slice none 0 0) 0 [] hs (own_nil _ _ _) ad xs.length c (xs.map fun x => .int k x) hx (by simp) (fun j u hj => ?_) (fun u hu => ?_) (by omega) (by rw [Nat.zero_add]; exact hb) (Nat.le_refl _) (fun v' w' hown hg _ => ?_)
    · obtain ⟨hj1, hj2⟩ := List.getElem?_eq_some_iff.1 hj
      obtain ⟨b, hb1, hb2⟩ := hcell j (by simpa using hj1)
      cases hb1
      rw [hb2, ← hj2, List.getElem_map, List.getD_eq_getElem?_getD, List.getElem?_eq_getElem (by simpa using hj1)]
      rfl
    · obtain ⟨x, _, rfl⟩ := List.mem_map.1 hu
      rfl
    · rw [Nat.zero_add, List.nil_append] at hown
      exact h v' w' hown ((Below.refl w.heap.size w).grown hg (Nat.le_refl _) (fun k hk => by cases hk))
end
end Go.Lst
