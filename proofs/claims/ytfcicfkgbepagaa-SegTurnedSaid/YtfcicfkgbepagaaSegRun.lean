/-
  The contract of seg.Scan: it returns the plain law's value. Strings of at most 2^24 bytes.
-/
import Derived.Test.YtfcicfkgbepagaaSegIter
namespace Go.Proofs.Ytfcicfkgbepagaa
open Go.RowKit Go.Shelf
attribute [local go_sem] Oper.semAt_some

/-! ### The caller -/
def startWorld (s : ByteArray) (w : World) : World :=
  ((((w.alloc (.cells #[.slice none 0 0] 39)).alloc (.cells #[.int .i64 0] 3)).alloc (.cells #[.int .i64 0] 33)).alloc (.cells #[.string s] 9)).alloc (.cells #[endV w.heap.size] 58)
theorem start_size (s : ByteArray) (w : World) : (startWorld s w).heap.size = w.heap.size + 5 := by simp [startWorld]
theorem start_below (s : ByteArray) (w : World) : Below w.heap.size w (startWorld s w) :=
  (((((Below.refl _ _).alloc (Nat.le_refl _) _).alloc (by simp) _).alloc (by simp; omega) _).alloc (by simp; omega) _).alloc (by simp; omega) _
theorem start_heap (s : ByteArray) (w : World) : SHeap s w.heap.size 0 [] 0 (startWorld s w) (.slice none 0 0) := by
  have key : ∀ k : Nat, (startWorld s w).heap[k]? = (((((w.heap.push (.cells #[.slice none 0 0] 39)).push (.cells #[.int .i64 0] 3)).push (.cells #[.int .i64 0] 33)).push (.cells #[.string s] 9)).push (.cells #[endV w.heap.size] 58))[k]? := fun k => rfl
  refine ⟨?_, ?_, ?_, ?_, ?_, World.ownsRow_nil _ _ _ _⟩ <;> (rw [key]; simp only [Array.getElem?_push, Array.size_push]; repeat (first | rw [if_pos trivial] | rw [if_pos (by omega)] | rw [if_neg (by omega)]))
theorem start_SI (s : ByteArray) (w : World) (r : Loop) : SI s (scanAll s.data.toList) w [] (Lx.enteredWorld (startWorld s w) r) := by
  have hb : Below (startWorld s w).heap.size (startWorld s w) (Lx.enteredWorld (startWorld s w) r) := ((Below.refl _ _).alloc (Nat.le_refl _) _).alloc (by simp) _
  exact ⟨⟨_, (start_heap s w).grow hb⟩, ⟨_, SInv.start _⟩, Lx.bstep (start_below s w) (Nat.le_refl _) hb⟩
theorem SI.put {s : ByteArray} {R : List (List UInt8) × Nat × Nat} {w W1 : World} {pre : List Item} {W : World} (hw : w.heap.size ≤ W1.heap.size) {L : Nat} {o o' : Obj} (hL : W1.heap.size ≤ L) (hl : W.heap[L]? = some o) (ho : o.isCells = false) (h : SI s R w pre W) : SI s R w pre (W.putObj L o') := by
  obtain ⟨v, hv⟩ := h.heap
  exact ⟨⟨v, hv.put o' hl ho⟩, h.sum, below_put h.below o' (by omega)⟩
theorem SZ.put {s : ByteArray} {R : List (List UInt8) × Nat × Nat} {w W1 : World} {pre : List Item} {W : World} (hw : w.heap.size ≤ W1.heap.size) {L : Nat} {o o' : Obj} (hL : W1.heap.size ≤ L) (hl : W.heap[L]? = some o) (ho : o.isCells = false) (h : SZ s R w pre W) : SZ s R w pre (W.putObj L o') := by
  obtain ⟨v, hv⟩ := h.heap
  exact ⟨⟨v, hv.put o' hl ho⟩, below_put h.below o' (by omega)⟩

theorem own_ne {w : World} {base : Nat} {e : TypeId} {v : Value} {n : Nat} {xs : List Value} (h : w.ownsRow base e 1 v n xs) {k : Nat} (hk : k < base) : some k ≠ v.ownBlock := by
  intro e'
  have := (h.lt k e'.symm).1
  omega
/-- What the append leaves of the variables' blocks. -/
theorem cells_of_grown {s : ByteArray} {B : Nat} {g : Int} {ts : List (List UInt8)} {x : Int} {W w1 : World} {v : Value} {o : Obj} (h : SHeap s B g ts x W v) (hg : (W.alloc o).grownBy w1 v.ownBlock) :
    w1.cell? ⟨B, 0, none⟩ = some v ∧ w1.frozen? ⟨B, 0, none⟩ = false ∧ w1.cell? ⟨B + 1, 0, none⟩ = some (.int .i64 g) ∧ w1.frozen? ⟨B + 1, 0, none⟩ = false := by
  have k0 : w1.heap[B]? = some (.cells #[v] 39 (0, 0)) := (hg.block _ (by have := lt_of_heap h.h0; simp; omega) (own_ne h.own (by omega))).trans ((Below.heap_alloc _ _ _ (lt_of_heap h.h0)).trans h.h0)
  have k1 : w1.heap[B + 1]? = some (.cells #[.int .i64 g] 3 (0, 0)) := (hg.block _ (by have := lt_of_heap h.h1; simp; omega) (own_ne h.own (by omega))).trans ((Below.heap_alloc _ _ _ (lt_of_heap h.h1)).trans h.h1)
  simp [World.cell?, World.frozen?, k0, k1]
theorem body_SI {s : ByteArray} {R : List (List UInt8) × Nat × Nat} {w W : World} {pre : List Item} {v : Value} {k n : Nat} {t : List UInt8} (hv : SHeap s w.heap.size (gOf pre) (tsOf pre) 0 W v) (hb : Below w.heap.size w W)
    (hk : SInv s.data.toList R k (gOf pre + n) (tsOf pre ++ [t])) (v' : Value) (w1 : World) (hown : w1.ownsRow (w.heap.size + 5) 9 1 v' ((tsOf pre).length + 1) ((tsOf pre).map sv ++ [sv t])) (hg : (W.alloc (.cells #[sv t] 9)).grownBy w1 v.ownBlock) :
    KeepsOthers W ((w1.setCell ⟨w.heap.size, 0, none⟩ v').setCell ⟨w.heap.size + 1, 0, none⟩ (.int .i64 ((gOf pre : Int) + (n : Int)))) ∧ SI s R w (pre ++ [(t, gOf pre + n)]) ((w1.setCell ⟨w.heap.size, 0, none⟩ v').setCell ⟨w.heap.size + 1, 0, none⟩ (.int .i64 ((gOf pre : Int) + (n : Int)))) := by
  have hlt0 := lt_of_heap hv.h0
  have hlt1 := lt_of_heap hv.h1
  have hlt2 := lt_of_heap hv.h2
  have hlt3 := lt_of_heap hv.h3
  have hlt4 := lt_of_heap hv.h4
  have key : ∀ k, k < w.heap.size + 5 → k < W.heap.size → w1.heap[k]? = W.heap[k]? := fun k h1 h2 =>
    (hg.block k (by simp; omega) (own_ne hv.own h1)).trans (Below.heap_alloc _ _ _ h2)
  generalize hw2 : (w1.setCell ⟨w.heap.size, 0, none⟩ v').setCell ⟨w.heap.size + 1, 0, none⟩ (.int .i64 ((gOf pre : Int) + (n : Int))) = w2
  have oth : ∀ k, k ≠ w.heap.size → k ≠ w.heap.size + 1 → w2.heap[k]? = w1.heap[k]? := fun k h1 h2 => by
    rw [← hw2]; exact (heap_setCell_other _ _ _ _ h2).trans (heap_setCell_other _ _ _ _ h1)
  have k0 : w2.heap[w.heap.size]? = some (.cells #[v'] 39 (0, 0)) := by
    rw [← hw2]
    exact (heap_setCell_other _ _ _ _ (by simp)).trans (heap_setCell_same w1 w.heap.size 0 _ _ v' ((key _ (by omega) hlt0).trans hv.h0))
  have k1 : w2.heap[w.heap.size + 1]? = some (.cells #[.int .i64 ((gOf pre : Int) + (n : Int))] 3 (0, 0)) := by
    rw [← hw2]
    exact heap_setCell_same _ (w.heap.size + 1) 0 _ _ _ ((heap_setCell_other _ _ _ _ (by simp)).trans ((key _ (by omega) hlt1).trans hv.h1))
  have hko : KeepsOthers W w2 := by
    rw [← hw2]
    refine (((KeepsOthers.alloc _ _).trans (KeepsOthers.of_grownBy hg fun j o hj ho => ?_)).trans (KeepsOthers.setCell _ _ _)).trans (KeepsOthers.setCell _ _ _)
    rcases hv.own.2 with ⟨e1, _⟩ | ⟨b, cap, cur, e1, e2, e3, _⟩
    · rw [e1] at hj; cases hj
    · rw [e1] at hj
      cases hj
      have := (Below.heap_alloc W (.cells #[sv t] 9) b (lt_of_heap e3)).trans e3
      rw [this] at ho; cases ho; rfl
  have hbl : Below w.heap.size w w2 := by
    rw [← hw2]
    exact (((hb.alloc hb.size _).grown hg (by have := hb.size; simp; omega) (fun k hk => by have := (hv.own.lt k hk).1; omega)).setCell (p := ⟨w.heap.size, 0, none⟩) (by simp) _).setCell (p := ⟨w.heap.size + 1, 0, none⟩) (by simp) _
  have e1 : gOf (pre ++ [(t, gOf pre + n)]) = gOf pre + n := by simp [gOf]
  have e2 : tsOf (pre ++ [(t, gOf pre + n)]) = tsOf pre ++ [t] := by simp [tsOf]
  refine ⟨hko, ⟨v', k0, ?_, (oth _ (by omega) (by omega)).trans ((key _ (by omega) hlt2).trans hv.h2), (oth _ (by omega) (by omega)).trans ((key _ (by omega) hlt3).trans hv.h3), (oth _ (by omega) (by omega)).trans ((key _ (by omega) hlt4).trans hv.h4), ?_⟩, ⟨k, ?_⟩, hbl⟩
  · rw [k1, e1]; simp
  · rw [e2]
    refine ⟨by simp, ?_⟩
    rcases hown.2 with ⟨h, h'⟩ | ⟨b, cap, cur, h1, h2, h3, h4, h5, h6, h7⟩
    · omega
    · refine .inr ⟨b, cap, cur, ?_, h2, (oth _ (by omega) (by omega)).trans h3, ?_, h5, h6, ?_⟩
      · rw [h1]; simp
      · simpa using h4
      · simpa using h7
  · rw [e1, e2]; exact hk

def lastWorld (B : Nat) (v : Value) (a b : Int) (W : World) : World :=
  (((W.setCell ⟨B, 0, none⟩ v).setCell ⟨B + 1, 0, none⟩ (.int .i64 a)).setCell ⟨B + 2, 0, none⟩ (.int .i64 b)).drew
theorem final_world {w W : World} {R : List (List UInt8) × Nat × Nat} {D : Nat} {v : Value} {a b : Int} (own : W.ownsRow (w.heap.size + 5) 9 1 v R.1.length (R.1.map sv)) (hb : Below w.heap.size w W) (hD : W.heap[D]? = some (.deferred (some []))) (hlD : w.heap.size + 5 ≤ D)
    (c0 : W.cell? ⟨w.heap.size, 0, none⟩ = some v) (c1 : W.cell? ⟨w.heap.size + 1, 0, none⟩ = some (.int .i64 a)) (c2 : W.cell? ⟨w.heap.size + 2, 0, none⟩ = some (.int .i64 b)) :
    (lastWorld w.heap.size v a b W).heap[D]? = some (.deferred (some [])) ∧
    ((lastWorld w.heap.size v a b W).putObj D (.deferred none)).cell? ⟨w.heap.size, 0, none⟩ = some v ∧ ((lastWorld w.heap.size v a b W).putObj D (.deferred none)).cell? ⟨w.heap.size + 1, 0, none⟩ = some (.int .i64 a) ∧ ((lastWorld w.heap.size v a b W).putObj D (.deferred none)).cell? ⟨w.heap.size + 2, 0, none⟩ = some (.int .i64 b) ∧
    Texts w.heap.size ((lastWorld w.heap.size v a b W).putObj D (.deferred none)) v R.1 ∧ Below w.heap.size w ((lastWorld w.heap.size v a b W).putObj D (.deferred none)) := by
  have oth : ∀ k, k ≠ w.heap.size → k ≠ w.heap.size + 1 → k ≠ w.heap.size + 2 → (lastWorld w.heap.size v a b W).heap[k]? = W.heap[k]? := fun k h0 h1 h2 =>
    (heap_setCell_other _ _ _ _ h2).trans ((heap_setCell_other _ _ _ _ h1).trans (heap_setCell_other _ _ _ _ h0))
  have e0 : (lastWorld w.heap.size v a b W).cell? ⟨w.heap.size, 0, none⟩ = some v := by
    show (((W.setCell _ _).setCell _ _).setCell _ _).cell? _ = _
    rw [World.cell?_setCell_other _ _ _ _ (by simp), World.cell?_setCell_other _ _ _ _ (by simp)]
    exact World.cell?_setCell_same' _ _ _ (by rw [c0]; rfl)
  have e1 : (lastWorld w.heap.size v a b W).cell? ⟨w.heap.size + 1, 0, none⟩ = some (.int .i64 a) := by
    show (((W.setCell _ _).setCell _ _).setCell _ _).cell? _ = _
    rw [World.cell?_setCell_other _ _ _ _ (by simp)]
    exact World.cell?_setCell_same' _ _ _ (by rw [World.cell?_setCell_other _ _ _ _ (by simp), c1]; rfl)
  have e2 : (lastWorld w.heap.size v a b W).cell? ⟨w.heap.size + 2, 0, none⟩ = some (.int .i64 b) := by
    show (((W.setCell _ _).setCell _ _).setCell _ _).cell? _ = _
    exact World.cell?_setCell_same' _ _ _ (by rw [World.cell?_setCell_other _ _ _ _ (by simp), World.cell?_setCell_other _ _ _ _ (by simp), c2]; rfl)
  have keep : ∀ k : Nat, k ≠ D → ((lastWorld w.heap.size v a b W).putObj D (.deferred none)).heap[k]? = (lastWorld w.heap.size v a b W).heap[k]? := fun k h => World.putObj_heap_other h
  have cl : ∀ k : Nat, k ≠ D → ((lastWorld w.heap.size v a b W).putObj D (.deferred none)).cell? ⟨k, 0, none⟩ = (lastWorld w.heap.size v a b W).cell? ⟨k, 0, none⟩ := fun k h => by
    simp only [World.cell?, keep k h]
  have hB : Below w.heap.size w (lastWorld w.heap.size v a b W) :=
    (((hb.setCell (p := ⟨w.heap.size, 0, none⟩) (by simp) _).setCell (p := ⟨w.heap.size + 1, 0, none⟩) (by simp) _).setCell (p := ⟨w.heap.size + 2, 0, none⟩) (by simp) _).drew
  refine ⟨(oth _ (by omega) (by omega) (by omega)).trans hD, (cl _ (by omega)).trans e0, (cl _ (by omega)).trans e1, (cl _ (by omega)).trans e2, ⟨own.1, ?_⟩, below_put hB _ (by omega)⟩
  rcases own.2 with h | ⟨g, cap, cur, h1, h2, h3, h4⟩
  · exact .inl h
  · have hne : g ≠ D := by intro e; subst e; rw [hD] at h3; cases h3
    exact .inr ⟨g, cap, cur, h1, by omega, (keep g hne).trans ((oth g (by omega) (by omega) (by omega)).trans h3), h4⟩

set_option maxRecDepth 100000 in
set_option maxHeartbeats 4000000 in
theorem Scan_calls (s : ByteArray) (w : World) (hs : s.size ≤ 16777216) :
    Calls Try.prog 22 #[.string s] w (ScanPost w (scanAll s.data.toList)) := by
  refine (callsIn_wide (n := 5)).1 ?_
  obtain ⟨i0, hi, hz0, hz1, hz2⟩ := info_parts infoStr
  refine callsIn_of_wp_marks Try.func22 rfl trivial ?_ rfl
  simp only [Try.ntmps22, List.size_toArray, List.length_cons, List.length_nil, Nat.reduceAdd, Nat.reduceSub, Array.replicate_succ, Array.replicate_zero, List.push_toArray, List.append_toArray, List.nil_append, List.cons_append]
  gi_wp2_with fail
  simp only [Nat.add_assoc, Nat.reduceAdd]
  refine ⟨trivial, ?_⟩
  refine (callsIn_wide.2 (all_calls s (endV w.heap.size) rfl rfl _)).mono ?_
  rintro e w' ⟨rfl, rfl⟩
  gi_wp2_with fail
  simp only [Nat.add_assoc, Nat.reduceAdd]
  refine Lx.rf_law (w := startWorld s w) rfl (by decide) (gf := 36) (lb := #[.pointer (some ⟨w.heap.size + 3, 0, none⟩), .pointer (some ⟨w.heap.size + 4, 0, none⟩)]) rfl trivial (enters_of Try.func36 (by kernel_rfl) rfl)
    encI (fun _ => rfl) (SC s) (SI s (scanAll s.data.toList) w) (fun _ _ _ => False) (SZ s (scanAll s.data.toList) w)
    (fun pre W L o o' hL hl ho h => h.put (by rw [start_size]; omega) hL hl ho) (fun _ _ _ _ _ _ _ _ _ h => h) (fun pre W L o o' hL hl ho h => h.put (by rw [start_size]; omega) hL hl ho)
    (start_SI s w) (fun l J Jx W _ hJI hJ hY h0 => iter_in s _ w hs 4 l J Jx W hJI hJ hY h0)
    (fun x => { tmps := #[.string s, undef, .pointer (some ⟨w.heap.size, 0, none⟩), .pointer (some ⟨w.heap.size + 1, 0, none⟩), .pointer (some ⟨w.heap.size + 2, 0, none⟩), .string (str x.1), .int .i64 (x.2 : Int), .string s,
      .func (.func 35) #[] #[.pointer (some ⟨w.heap.size + 2, 0, none⟩)], .func (.func 36) #[] #[.pointer (some ⟨w.heap.size + 3, 0, none⟩), .pointer (some ⟨w.heap.size + 4, 0, none⟩)], .string (str x.1), .int .i64 (x.2 : Int), undef, undef, undef, undef, undef, undef, undef, undef], defers := [] })
    ?assign ?body ?done (fun _ _ _ _ h => h.elim)
  case assign =>
    intro l x W K hK
    dsimp only [encI]
    gi_wp2
    exact hK
  case body =>
    rintro l pre x W ⟨⟨v, hv⟩, ⟨k, hk⟩, hb⟩ ⟨hlt, hok, rfl⟩
    have hlen : s.data.toList.length = s.size := by simp
    obtain ⟨k', rfl⟩ : ∃ k', k = k' + 1 := ⟨k - 1, by have := hk.fuel; omega⟩
    have hk2 := hk.step (by omega) hok
    have hfew := hk.few
    have hrd := (rd_ok _ hok).2
    rw [List.length_drop] at hrd
    have hts : (tsOf pre).length ≤ 16777216 := by omega
    have hbody := Lib.hid (body_SI (w := w) (R := scanAll s.data.toList) hv hb hk2)
    have c0 : W.cell? ⟨w.heap.size, 0, none⟩ = some v := by simp [World.cell?, hv.h0]
    have c1 : W.cell? ⟨w.heap.size + 1, 0, none⟩ = some (.int .i64 (gOf pre : Int)) := by simp [World.cell?, hv.h1]
    have hown := hv.own
    have hv2 := Lib.hid hv
    generalize (rd (s.data.toList.drop (gOf pre))).1 = t at *
    generalize (rd (s.data.toList.drop (gOf pre))).2.1 = n at *
    have hsz : w.heap.size + 5 ≤ W.heap.size := by have := lt_of_heap hv.h4; omega
    clear hk hk2 hlt hok hrd hfew hlen hv hb
    gi_wp2_with (gi_at_builtin; refine wpListIn_append_own _ rfl (.tmp 12) (.tmp 14) 39 rfl (w.heap.size + 5) 9 i0 (.string ⟨#[]⟩) 1 16 Try.underlying39 hi hz0 hz1 hz2 rfl (by decide) _ _ _ rfl (hown.alloc _) ⟨W.heap.size, 0, none⟩ 1 1 [sv t] rfl rfl (cell_one_new _ _ _) (by simp [sv, Value.oneCell']) (by unfold maxLen; omega) (by omega) (by simp; omega) ?_; intro v' w1 hown' hgrow _; obtain ⟨g', cap', rfl⟩ := ownsRow_succ hown'; obtain ⟨d0, d1, d2, d3⟩ := cells_of_grown hv2.out hgrow)
    exact hbody.out _ w1 hown' hgrow
  case done =>
    rintro D xs W ⟨⟨v, hv⟩, hb⟩ hD hlD
    rw [start_size] at hlD
    have own := hv.own
    obtain ⟨g, n, c, rfl⟩ : ∃ g n c, v = .slice g n c := by
      rcases hv.own.2 with ⟨h, _⟩ | ⟨b, cap, cur, h, _⟩
      · exact ⟨_, _, _, h⟩
      · exact ⟨_, _, _, h⟩
    have c0 : W.cell? ⟨w.heap.size, 0, none⟩ = some (.slice g n c) := by simp [World.cell?, hv.h0]
    have c1 : W.cell? ⟨w.heap.size + 1, 0, none⟩ = some (.int .i64 ((scanAll s.data.toList).2.1 : Int)) := by simp [World.cell?, hv.h1]
    have c2 : W.cell? ⟨w.heap.size + 2, 0, none⟩ = some (.int .i64 ((scanAll s.data.toList).2.2 : Int)) := by simp [World.cell?, hv.h2]
    have f0 : W.frozen? ⟨w.heap.size, 0, none⟩ = false := by simp [World.frozen?, hv.h0]
    have f1 : W.frozen? ⟨w.heap.size + 1, 0, none⟩ = false := by simp [World.frozen?, hv.h1]
    have f2 : W.frozen? ⟨w.heap.size + 2, 0, none⟩ = false := by simp [World.frozen?, hv.h2]
    generalize scanAll s.data.toList = R at *
    clear hv hi hz0 hz1 hz2
    gi_wp2_with fail
    gi_region
    have hfin := Lib.hid (final_world own hb hD hlD c0 c1 c2)
    gi_wp2_with fail
    refine ⟨by simp, .inl ⟨_, _, rfl, run_takeDeferred hfin.out.1, ?_⟩⟩
    obtain ⟨_, d0, d1, d2, ht, hB⟩ := hfin.out
    refine ⟨.tuple #[.slice g n c, .int .i64 (R.2.1 : Int), .int .i64 (R.2.2 : Int)], ?_, ⟨_, rfl, ht, hB⟩⟩
    clear ht hB hfin own hb hD
    unfold lastWorld at d0 d1 d2
    generalize (World.drew _).putObj D _ = W' at *
    simp [results, Try.results22, go_sem, d0, d1, d2]
end Go.Proofs.Ytfcicfkgbepagaa
