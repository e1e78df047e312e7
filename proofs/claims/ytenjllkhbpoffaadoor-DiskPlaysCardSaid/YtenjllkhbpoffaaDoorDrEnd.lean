/-
  The reference's disk: what its calls share.
-/
import Derived.Test.YtenjllkhbpoffaaDoorDrNow
namespace Go.Proofs.YtenjllkhbpoffaaDoor
open Go Go.Maps Go.WideMaps Go.Dsk Go.Lx Go.Lst Go.RowKit

section
variable {w w1 wX : World} {O : Nat → Prop} {r : Nat} {M M' : DM}
theorem rburn_calls (h : Rf w O r M) : Calls Tryd.prog 53 #[.pointer (some ⟨r, 0, none⟩)] w fun e w' => e = .returned (.bool (decide (M.fuse ≠ 0))) ∧ Rf w' O r (burnM M) ∧ Stays O w w' := by
  obtain ⟨hok, sv, lv, hA⟩ := h
  refine (rburns_calls hA hok.fuse).mono ?_
  rintro e w' ⟨h1, h2, h3⟩
  obtain ⟨b1, b2, b3, b4⟩ := burn_now M
  refine ⟨h1, ⟨burn_ok hok, sv, lv, ?_⟩, ⟨h3.os, h3.tape, h3.output, h3.size, fun k hk hn => h3.block k hk (fun e => hn (by rw [e]; exact hA.own _ (.inl rfl)))⟩⟩
  rw [b2, b3, b4]
  have : (burnM M).fuse = if 0 < M.fuse then M.fuse - 1 else M.fuse := by unfold burnM; split <;> rfl
  rw [this]
  exact h2
theorem rnow_calls (h : Rf w O r M) : Calls Tryd.prog 46 #[.pointer (some ⟨r, 0, none⟩)] w fun e w' => ∃ v', e = .returned v' ∧ FRow 0 w' v' M.now ∧ Below w.heap.size w w' ∧ ∀ k, v'.ownBlock = some k → O k ∨ w.heap.size ≤ k := by
  obtain ⟨hok, sv, lv, hA⟩ := h
  refine (rNow_calls hA (DOk.lok hok)).mono ?_
  rintro e w' ⟨v', h1, h2, h3, h4⟩
  rw [← hok.now] at h2
  exact ⟨v', h1, h2, h3, fun k hk => (h4 k hk).imp_left (fun h => hA.own k (.inr (.inl h)))⟩
theorem rleft_calls (h : Rf w O r M) : Calls Tryd.prog 25 #[.pointer (some ⟨r, 0, none⟩)] w fun e w' => e = .returned (.int .i64 (M.room - tot M.now)) ∧ Below w.heap.size w w' := by
  obtain ⟨hok, sv, lv, hA⟩ := h
  have := rLeft_calls hA (DOk.lok hok) hok.room
  rwa [← hok.now] at this
/-- A call that changes nothing but the fuse. -/
theorem rop_err (hlo : ∀ k, O k → k < w.heap.size) (h : Rf w1 O r M') (hs : Stays O w w1) (hb : Below w1.heap.size w1 wX) : Rf wX (Gr O w wX) r M' ∧ Stays O w wX := by
  have hsX : Stays O w wX := hs.trans (Stays.of_below (O := O) hb) (fun _ _ h => h)
  exact ⟨(h.below hb).grow (fun _ hk => .inl hk) (Gr.lo hlo hsX.size), hsX⟩
theorem rop_add {sv lv : Value} (hlo : ∀ k, O k → k < w.heap.size) (h : RfAt w1 O r sv lv M.room M.sure M.loose M.fuse) (hok : DOk M) (hs : Stays O w w1) (c : Lc) (hf : Fit M.now c) (ht : (tot (Dsk.done M.now c) : Int) ≤ M.room ∧ (Dsk.done M.now c).length ≤ 64) (hn : M.loose.length < 1000000) (ty : TypeId) :
    ∃ q d w', (Builtin.append_ #[49, 49] ty #[lv, .slice (some ⟨w1.heap.size, 0, none⟩) 1 1]).run Tryd.prog (w1.alloc (.cells (cC c).toArray 81)) = .ok (.slice q (M.loose.length + 1) d) w' ∧ Blk w' r [.int .i64 M.room, sv, lv, .int .i64 M.fuse] ∧ Rf (w'.setCell ⟨r, 2, none⟩ (.slice q (M.loose.length + 1) d)) (Gr O w (w'.setCell ⟨r, 2, none⟩ (.slice q (M.loose.length + 1) d))) r (doesM M c) ∧ Stays O w (w'.setCell ⟨r, 2, none⟩ (.slice q (M.loose.length + 1) d)) := by
  obtain ⟨q, d, w', hrun, hr, hg, ho⟩ := h.loose.append1 (Nat.zero_le _) c (by omega) ty
  have hb : Below w1.heap.size w1 (w1.alloc (.cells (cC c).toArray 81)) := (Below.refl _ _).alloc (Nat.le_refl _) _
  have hA := h.below hb
  have hkeep : ∀ k, k < (w1.alloc (.cells (cC c).toArray 81)).heap.size → lv.ownBlock ≠ some k → w'.heap[k]? = (w1.alloc (.cells (cC c).toArray 81)).heap[k]? := fun k hk hne => hg.block k hk (fun e => hne e.symm)
  have hblk : w'.heap[r]? = some (.cells #[.int .i64 M.room, sv, lv, .int .i64 M.fuse] 51 (0, 0)) := by
    rw [hkeep r (hA.lo r (hA.own r (.inl rfl))) (fun e => row_ne hA.loose hA.blk (by decide) r e rfl)]
    exact hA.blk
  have hst1 : Stays O w w' := (hs.trans (Stays.of_below (O := O) hb) (fun _ _ h => h)).trans (Stays.of_grown (O := O) hg (fun k hk _ => hA.own k (.inr (.inr hk)))) (fun _ _ h => h)
  have hst : Stays O w (w'.setCell ⟨r, 2, none⟩ (.slice q (M.loose.length + 1) d)) := hst1.setCell (p := ⟨r, 2, none⟩) (fun _ => hA.own r (.inl rfl)) _
  refine ⟨q, d, w', hrun, ⟨_, hblk⟩, ⟨hok.does c hf ht, sv, _, ⟨heap_put hblk 2 _, RRow.keep hA.sure (fun k hk => ?_), RRow.keep hr (fun k hk => put_ne k (row_ne hr hblk (by decide) k hk)), fun k hk => ?_, Gr.lo hlo hst.size⟩⟩, hst⟩
  · rw [put_ne k (row_ne hA.sure hA.blk (by decide) k hk)]
    refine hkeep k (hA.lo k (hA.own k (.inr (.inl hk)))) (fun e => ?_)
    obtain ⟨cs, fr, hcs⟩ := row_obj hA.sure hk
    exact row_ne hA.loose hcs (by decide) k e rfl
  · rcases hk with hk | hk | hk
    · exact .inl (hA.own k (.inl hk))
    · exact .inl (hA.own k (.inr (.inl hk)))
    · rcases ho with e | e
      · exact .inl (hA.own k (.inr (.inr (e ▸ hk))))
      · have hk2 := hr.block hk
        rw [e] at hk
        cases hk
        have := hs.size
        exact .inr ⟨by omega, by simpa using hk2.2⟩
end
end Go.Proofs.YtenjllkhbpoffaaDoor
