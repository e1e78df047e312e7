/-
  The reference's disk: its block, its rows.
-/
import Derived.Test.YtenjllkhbpoffaaDoorDrDone
namespace Go.Proofs.YtenjllkhbpoffaaDoor
open Go Go.Maps Go.WideMaps Go.Dsk Go.Lx Go.Lst Go.RowKit

theorem row_ne {α : Type} {f : α → List Value} {k : Nat} {T T' : TypeId} {B g : Nat} {w : World} {v : Value} {l : List α} {cs : Array Value} {fr : Nat × Nat} (h : RRow f k T B w v l) (hb : w.heap[g]? = some (.cells cs T' fr)) (hT : T ≠ T') : ∀ i, v.ownBlock = some i → i ≠ g := fun i hi e => by
  rcases h.2 with ⟨rfl, _⟩ | ⟨g', cap, cur, rfl, _, hh, _⟩
  · cases hi
  · cases hi
    subst e
    dsimp only at hb
    rw [hh] at hb
    injection hb with hb
    injection hb with _ h2 _
    exact hT h2
theorem row_obj {α : Type} {f : α → List Value} {k : Nat} {T : TypeId} {B : Nat} {w : World} {v : Value} {l : List α} (h : RRow f k T B w v l) {g : Nat} (hg : v.ownBlock = some g) : ∃ cs fr, w.heap[g]? = some (.cells cs T fr) := by
  rcases h.2 with ⟨rfl, _⟩ | ⟨g', cap, cur, rfl, _, hh, _⟩
  · cases hg
  · cases hg
    exact ⟨_, _, hh⟩
theorem CRow.get {B : Nat} {w : World} {v : Value} {l : List Lc} (h : CRow B w v l) (j : Nat) (hj : j < l.length) : ∃ g c, v = .slice (some ⟨g, 0, none⟩) l.length c ∧ ∀ m, m < 4 → w.cell? ⟨g, j * 4 + m, none⟩ = (cC l[j])[m]? := RRow.cells cC_len h j hj
theorem CRow.append1 {B : Nat} {w : World} {v : Value} {l : List Lc} (h : CRow B w v l) (hB : B ≤ w.heap.size) (c : Lc) (hn : l.length ≤ 1000000) (ty : TypeId) :
    ∃ q d w', (Builtin.append_ #[49, 49] ty #[v, .slice (some ⟨w.heap.size, 0, none⟩) 1 1]).run Tryd.prog (w.alloc (.cells (cC c).toArray 81)) = .ok (.slice q (l.length + 1) d) w' ∧ CRow B w' (.slice q (l.length + 1) d) (l ++ [c]) ∧ (w.alloc (.cells (cC c).toArray 81)).grownBy w' v.ownBlock ∧ ((Value.slice q (l.length + 1) d).ownBlock = v.ownBlock ∨ (Value.slice q (l.length + 1) d).ownBlock = some (w.heap.size + 1)) := by
  obtain ⟨i0, hi, hz0, hz1, hz2⟩ := info_parts infoCallR
  have hb : Below w.heap.size w (w.alloc (.cells (cC c).toArray 81)) := (Below.refl _ _).alloc (Nat.le_refl _) _
  have hs : (w.alloc (.cells (cC c).toArray 81)).heap.size = w.heap.size + 1 := (made1 w (cC c).toArray 81).2.2.symm
  have hf : [c].flatMap cC = cC c := by simp
  obtain ⟨v', w', hr, h2, h3, -, h5⟩ := run_append_own_at (P := Tryd.prog) (w.alloc (.cells (cC c).toArray 81)) B 49 ty 81 i0 _ 4 48 Tryd.underlying49 hi hz0 hz1 hz2 rfl (by decide) v l.length _ (RRow.below h hb) ⟨w.heap.size, 0, none⟩ 1 1 ([c].flatMap cC) (flat_len cC_len [c]) (fun j u hu => by
    rw [hf] at hu
    exact blkc (Blk.new w (cC c).toArray 81) j u (by simpa using hu)) (fun u hu => by
    rw [hf] at hu
    cases c <;> simp only [cC, List.mem_cons, List.not_mem_nil, or_false] at hu <;> rcases hu with rfl | rfl | rfl | rfl <;> rfl) (by unfold maxLen; omega) (by omega) (by rw [hs]; omega)
  have h2' : CRow B w' v' (l ++ [c]) := by
    unfold CRow RRow
    rw [List.length_append, List.flatMap_append]
    exact h2
  obtain ⟨q, d, e, -, -⟩ := h2'.parts
  rw [List.length_append] at e
  subst e
  rw [hs] at h5
  exact ⟨q, d, w', hr, h2', h3, h5⟩

/-- Block r is a disk of the reference. -/
structure RfAt (w : World) (O : Nat → Prop) (r : Nat) (sv lv : Value) (room : Int) (S : Files) (l : List Lc) (fuse : Int) : Prop where
  blk : w.heap[r]? = some (.cells #[.int .i64 room, sv, lv, .int .i64 fuse] 51 (0, 0))
  sure : FRow 0 w sv S
  loose : CRow 0 w lv l
  own : ∀ k, (k = r ∨ sv.ownBlock = some k ∨ lv.ownBlock = some k) → O k
  lo : ∀ k, O k → k < w.heap.size
section
variable {w w' : World} {O O' : Nat → Prop} {r : Nat} {sv lv : Value} {room fuse : Int} {S : Files} {l : List Lc}
theorem RfAt.isBlk (h : RfAt w O r sv lv room S l fuse) : Blk w r [.int .i64 room, sv, lv, .int .i64 fuse] := ⟨_, h.blk⟩
theorem RfAt.c4 (h : RfAt w O r sv lv room S l fuse) : w.cell? ⟨r, 0, none⟩ = some (.int .i64 room) ∧ w.cell? ⟨r, 1, none⟩ = some sv ∧ w.cell? ⟨r, 2, none⟩ = some lv ∧ w.cell? ⟨r, 3, none⟩ = some (.int .i64 fuse) :=
  ⟨h.isBlk.cell 0 rfl, h.isBlk.cell 1 rfl, h.isBlk.cell 2 rfl, h.isBlk.cell 3 rfl⟩
theorem RfAt.keep (h : RfAt w O r sv lv room S l fuse) (hk : ∀ k, O k → w'.heap[k]? = w.heap[k]?) (hs : w.heap.size ≤ w'.heap.size) : RfAt w' O r sv lv room S l fuse :=
  ⟨(hk r (h.own _ (.inl rfl))).trans h.blk, RRow.keep h.sure (fun k hv => hk k (h.own _ (.inr (.inl hv)))), RRow.keep h.loose (fun k hv => hk k (h.own _ (.inr (.inr hv)))), h.own, fun k hO => Nat.lt_of_lt_of_le (h.lo k hO) hs⟩
theorem RfAt.below (h : RfAt w O r sv lv room S l fuse) (hb : Below w.heap.size w w') : RfAt w' O r sv lv room S l fuse := h.keep (fun k hO => hb.block k (h.lo k hO)) hb.size
theorem RfAt.grow (h : RfAt w O r sv lv room S l fuse) (hO : ∀ k, O k → O' k) (hl : ∀ k, O' k → k < w.heap.size) : RfAt w O' r sv lv room S l fuse :=
  ⟨h.blk, h.sure, h.loose, fun k hk => hO k (h.own k hk), hl⟩
theorem put_ne {w : World} {r i : Nat} {x : Value} (k : Nat) (h : k ≠ r) : (w.setCell ⟨r, i, none⟩ x).heap[k]? = w.heap[k]? := Below.heap_setCell _ _ _ _ h
theorem RfAt.putF (h : RfAt w O r sv lv room S l fuse) (f : Int) : RfAt (w.setCell ⟨r, 3, none⟩ (.int .i64 f)) O r sv lv room S l f :=
  ⟨heap_put h.blk 3 _, RRow.keep h.sure (fun k hk => put_ne k (row_ne h.sure h.blk (by decide) k hk)), RRow.keep h.loose (fun k hk => put_ne k (row_ne h.loose h.blk (by decide) k hk)), h.own, fun k hk => by have := h.lo k hk; simpa using this⟩
theorem RfAt.putL (h : RfAt w O r sv lv room S l fuse) {v' : Value} {l' : List Lc} (hv : CRow 0 w v' l') (ho : ∀ k, v'.ownBlock = some k → O k) : RfAt (w.setCell ⟨r, 2, none⟩ v') O r sv v' room S l' fuse :=
  ⟨heap_put h.blk 2 _, RRow.keep h.sure (fun k hk => put_ne k (row_ne h.sure h.blk (by decide) k hk)), RRow.keep hv (fun k hk => put_ne k (row_ne hv h.blk (by decide) k hk)), fun k hk => by
    rcases hk with hk | hk | hk
    · exact h.own k (.inl hk)
    · exact h.own k (.inr (.inl hk))
    · exact ho k hk, fun k hk => by have := h.lo k hk; simpa using this⟩
theorem RfAt.putS (h : RfAt w O r sv lv room S l fuse) {v' : Value} {S' : Files} (hv : FRow 0 w v' S') (ho : ∀ k, v'.ownBlock = some k → O k) : RfAt (w.setCell ⟨r, 1, none⟩ v') O r v' lv room S' l fuse :=
  ⟨heap_put h.blk 1 _, RRow.keep hv (fun k hk => put_ne k (row_ne hv h.blk (by decide) k hk)), RRow.keep h.loose (fun k hk => put_ne k (row_ne h.loose h.blk (by decide) k hk)), fun k hk => by
    rcases hk with hk | hk | hk
    · exact h.own k (.inl hk)
    · exact ho k hk
    · exact h.own k (.inr (.inr hk)), fun k hk => by have := h.lo k hk; simpa using this⟩
end
/-- What may be played. -/
structure LOk (S : Files) (l : List Lc) : Prop where
  rise : Rise S
  fits : ∀ j c, l[j]? = some c → Fit (all S (l.take j)) c
  small : ∀ j, j ≤ l.length → tot (all S (l.take j)) ≤ 16777216 ∧ (all S (l.take j)).length ≤ 64
theorem DOk.lok {M : DM} (h : DOk M) : LOk M.sure M.loose := ⟨h.rise, h.fit, fun j hj => by have := h.small j hj; have := h.room; omega⟩
def Rf (w : World) (O : Nat → Prop) (r : Nat) (M : DM) : Prop := DOk M ∧ ∃ sv lv, RfAt w O r sv lv M.room M.sure M.loose M.fuse
section
variable {w w' : World} {O O' : Nat → Prop} {r : Nat} {M : DM}
theorem Rf.keep (h : Rf w O r M) (hk : ∀ k, O k → w'.heap[k]? = w.heap[k]?) (hs : w.heap.size ≤ w'.heap.size) : Rf w' O r M := by
  obtain ⟨h1, sv, lv, h2⟩ := h
  exact ⟨h1, sv, lv, h2.keep hk hs⟩
theorem Rf.below (h : Rf w O r M) (hb : Below w.heap.size w w') : Rf w' O r M := by
  obtain ⟨h1, sv, lv, h2⟩ := h
  exact ⟨h1, sv, lv, h2.below hb⟩
theorem Rf.grow (h : Rf w O r M) (hO : ∀ k, O k → O' k) (hl : ∀ k, O' k → k < w.heap.size) : Rf w O' r M := by
  obtain ⟨h1, sv, lv, h2⟩ := h
  exact ⟨h1, sv, lv, h2.grow hO hl⟩
theorem Rf.lo (h : Rf w O r M) : ∀ k, O k → k < w.heap.size := by
  obtain ⟨h1, sv, lv, h2⟩ := h
  exact h2.lo
end

end Go.Proofs.YtenjllkhbpoffaaDoor
