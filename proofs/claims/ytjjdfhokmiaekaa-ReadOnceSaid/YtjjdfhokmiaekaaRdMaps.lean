/-
  ReadOnce's own maps: of steps, of rounds.
-/
import Derived.Test.YtjjdfhokmiaekaaRdScript
namespace Go.Proofs.Ytjjdfhokmiaekaa
open Go Go.RowKit Go.Lst Go.Lx Go.Maps

def heldR (v : Value) : Option (DataW Value × List MemPlace) := some (.held v, [])
def zStep : Value := .agg #[.int .i64 0, .int .u64 0, .int .u64 0, .int .i64 0, .slice none 0 0]
theorem keyU : Keyed Try.prog 32 := int_keyed Try.underlying32
theorem zeroStep (w : World) : (zeroValue 35).run Try.prog w = .ok zStep w := by unfold zStep; kernel_rfl
/-- A map of steps. -/
def SMap (w : World) (b n sz : Nat) (hs : Int → Bool) (val : Int → Value) : Prop :=
  ∃ D : DataW Value, w.ownsMap Try.prog 32 heldR b n D ∧ (∀ x : Int, has D (.int .u64 x) = hs x) ∧ (∀ x : Int, hs x = true → ∀ z, D.atKey (.int .u64 x) z = .held (val x)) ∧ size D = sz
theorem SMap.made (w : World) (val : Int → Value) : SMap (w.alloc (.map #[] 0)) w.heap.size 0 0 (fun _ => false) val :=
  ⟨_, World.ownsMap_made _ _ _ _, fun x => rfl, fun x h => (by cases h), rfl⟩
theorem SMap.keep {w w' : World} {b n sz : Nat} {hs : Int → Bool} {val : Int → Value} (h : SMap w b n sz hs val) (hb : w'.heap[b]? = w.heap[b]?) : SMap w' b n sz hs val := by
  obtain ⟨D, h1, h2⟩ := h
  obtain ⟨es, cl, e1, e2, e3, e4⟩ := h1
  exact ⟨D, ⟨es, cl, hb.trans e1, e2, e3, e4⟩, h2⟩
theorem SMap.isMap {w : World} {b n sz : Nat} {hs : Int → Bool} {val : Int → Value} (h : SMap w b n sz hs val) : ∃ es cl, w.heap[b]? = some (.map es cl) := by
  obtain ⟨D, ⟨es, cl, e1, _⟩, _⟩ := h
  exact ⟨es, cl, e1⟩
set_option maxRecDepth 100000 in
theorem SMap.look {w : World} {b n sz : Nat} {hs : Int → Bool} {val : Int → Value} (h : SMap w b n sz hs val) {x : Int} (hx : (Lit.int .u64 x).wf = true) : (Instr.lookup 29 (.map (some b)) (.int .u64 x) true).run Try.prog w = .ok (.tuple #[if hs x then val x else zStep, .bool (hs x)]) w := by
  obtain ⟨D, h1, h2, h3, h4⟩ := h
  obtain ⟨v, ps, hr, hv⟩ := h1.look_ok keyU Try.underlying29 (zeroStep w) (show heldR zStep = some (.held zStep, []) from rfl) (keyOf_int_mk Try.underlying32 hx)
  rw [h2 x] at hr
  have hv2 : v = if hs x then val x else zStep := by
    unfold heldR at hv
    injection hv with hv
    injection hv with hv _
    cases hh : hs x with
    | true =>
      rw [h3 x hh] at hv
      injection hv
    | false =>
      rw [atKey_of_not_has (by rw [h2 x, hh])] at hv
      injection hv
  rw [← hv2]
  exact hr
theorem SMap.store {w : World} {b n sz : Nat} {hs : Int → Bool} {val : Int → Value} (h : SMap w b n sz hs val) (hn : n < maxLen) {x : Int} (hx : (Lit.int .u64 x).wf = true) (v : Value) : ∃ w', (Instr.mapUpdate 29 (.map (some b)) (.int .u64 x) v).run Try.prog w = .ok () w' ∧ SMap w' b (n + 1) (if hs x then sz else sz + 1) (fun y => if y = x then true else hs y) (fun y => if y = x then v else val y) ∧ w.grownBy w' (some b) := by
  obtain ⟨D, h1, h2, h3, h4⟩ := h
  have ht := h1.tidy keyU
  have hm := h1.isMap
  obtain ⟨w', hr, h5, h6⟩ := h1.update (d := .held v) (ps := []) keyU Try.underlying29 hn (keyOf_int_mk Try.underlying32 hx) rfl
  refine ⟨w', hr, ⟨_, h5, fun y => ?_, fun y hy z => ?_, ?_⟩, h6⟩
  · by_cases e : y = x
    · subst e
      rw [has_put_same hm (by trivial)]
      simp
    · rw [has_put_other (by simpa using e), h2 y]
      simp [e]
  · by_cases e : y = x
    · subst e
      rw [atKey_put_same hm (by trivial)]
      simp
    · rw [atKey_put_other (by simpa using e), h3 y (by simpa [e] using hy) z]
      simp [e]
  · rw [size_put ht, h2 x, h4]
theorem SMap.drop {w : World} {b n sz : Nat} {hs : Int → Bool} {val : Int → Value} (h : SMap w b n sz hs val) {x : Int} (hx : (Lit.int .u64 x).wf = true) (hh : hs x = true) : ∃ w', (∀ ty, (Builtin.delete_ #[29, 32] ty #[.map (some b), .int .u64 x]).run Try.prog w = .ok (.tuple #[]) w') ∧ SMap w' b n (sz - 1) (fun y => if y = x then false else hs y) val ∧ w.grownBy w' (some b) := by
  obtain ⟨D, h1, h2, h3, h4⟩ := h
  have ht := h1.tidy keyU
  obtain ⟨w', hr, h5, h6⟩ := h1.drop keyU Try.underlying29 (keyOf_int_mk Try.underlying32 hx) 0
  refine ⟨w', fun ty => hr, ⟨_, h5, fun y => ?_, fun y hy z => ?_, ?_⟩, h6.grown⟩
  · by_cases e : y = x
    · subst e
      rw [has_del_same]
      simp
    · rw [has_del_other (by simpa using e), h2 y]
      simp [e]
  · by_cases e : y = x
    · subst e
      simp at hy
    · rw [atKey_del_other (by simpa using e)]
      exact h3 y (by simpa [e] using hy) z
  · have := size_del (k := .int .u64 x) ht
    rw [h2 x, hh, if_pos rfl, h4] at this
    omega
theorem SMap.len {w : World} {b n sz : Nat} {hs : Int → Bool} {val : Int → Value} (h : SMap w b n sz hs val) (ty : TypeId) : (Builtin.len_ #[29] ty #[.map (some b)]).run Try.prog w = .ok (.int .i64 (sz : Int)) w := by
  obtain ⟨D, h1, h2, h3, h4⟩ := h
  rw [h1.len Try.underlying29 ty, h4]
/-- A map of rounds. -/
def RMap (w : World) (b n : Nat) (h : Int → Int) : Prop := ∃ D : DataW Unit, w.ownsMap Try.prog 32 (plainElem Try.prog 32) b n D ∧ IsMap D ∧
  ∀ x : Int, D.atKey (.int .u64 x) (.lit (.int .u64 0)) = .lit (.int .u64 (h x))
theorem RMap.made (w : World) : RMap (w.alloc (.map #[] 0)) w.heap.size 0 (fun _ => 0) := ⟨_, World.ownsMap_made _ _ _ _, ⟨_, rfl⟩, fun x => rfl⟩
theorem RMap.keep {w w' : World} {b n : Nat} {h : Int → Int} (hm : RMap w b n h) (hb : w'.heap[b]? = w.heap[b]?) : RMap w' b n h := by
  obtain ⟨D, h1, h2, h3⟩ := hm
  obtain ⟨es, cl, e1, e2, e3, e4⟩ := h1
  exact ⟨D, ⟨es, cl, hb.trans e1, e2, e3, e4⟩, h2, h3⟩
theorem RMap.isMap {w : World} {b n : Nat} {h : Int → Int} (hm : RMap w b n h) : ∃ es cl, w.heap[b]? = some (.map es cl) := by
  obtain ⟨D, ⟨es, cl, e1, _⟩, _⟩ := hm
  exact ⟨es, cl, e1⟩
set_option maxRecDepth 100000 in
theorem RMap.look {w : World} {b n : Nat} {h : Int → Int} (hm : RMap w b n h) {x : Int} (hx : (Lit.int .u64 x).wf = true) : (Instr.lookup 30 (.map (some b)) (.int .u64 x) false).run Try.prog w = .ok (.int .u64 (h x)) w := by
  obtain ⟨D, h1, h2, h3⟩ := hm
  obtain ⟨c, hr, ha, hw⟩ := h1.lookup_int keyU Try.underlying30 Try.underlying32 (zeroU w) (keyOf_int_mk Try.underlying32 hx)
  rw [h3 x] at ha
  injection ha with ha
  injection ha with _ ha
  rw [ha]
  exact hr
theorem RMap.store {w : World} {b n : Nat} {h : Int → Int} (hm : RMap w b n h) (hn : n < maxLen) {x y : Int} (hx : (Lit.int .u64 x).wf = true) (hy : (Lit.int .u64 y).wf = true) : ∃ w', (Instr.mapUpdate 30 (.map (some b)) (.int .u64 x) (.int .u64 y)).run Try.prog w = .ok () w' ∧ RMap w' b (n + 1) (fun z => if z = x then y else h z) ∧ w.grownBy w' (some b) := by
  obtain ⟨D, h1, h2, h3⟩ := hm
  obtain ⟨w', hr, h4, h5⟩ := h1.update keyU Try.underlying30 hn (keyOf_int_mk Try.underlying32 hx) (plainElem_int Try.underlying32 hy)
  refine ⟨w', hr, ⟨_, h4, isMap_put h2 _ _, fun z => ?_⟩, h5⟩
  by_cases hz : z = x
  · subst hz
    rw [atKey_put_same h2 (by trivial)]
    simp
  · rw [atKey_put_other (by simpa using hz), h3 z]
    simp [hz]
set_option maxRecDepth 100000 in
/-- 'append([]int(nil), xs...)'. -/
theorem copy_ints {w : World} {v : Value} {xs : List Int} (h : Nums .i64 w v xs) (hb : xs.length * 8 ≤ 140737488355328) (ty : TypeId) : ∃ v' w', (Builtin.append_ #[33, 33] ty #[.slice none 0 0, v]).run Try.prog w = .ok v' w' ∧ w'.ownsRow w.heap.size 3 1 v' xs.length (xs.map fun x => .int .i64 x) ∧ Below w.heap.size w w' := by
  obtain ⟨i0, hi, hz0, hz1, hz2⟩ := info_parts infoInt
  obtain ⟨p, c, rfl, hc1, hc2, hcell⟩ := h.parts
  cases p with
  | none =>
    have h0 : xs = [] := by
      rcases xs with _ | ⟨x, xs⟩
      · rfl
      · obtain ⟨a, ha, _⟩ := hcell 0 (by simp); cases ha
    subst h0
    refine ⟨.slice none 0 0, w, ?_, World.ownsRow_nil _ _ _ _, Below.refl _ _⟩
    simp [Builtin.append_, run_underlying Try.underlying33, sizeOf, typeInfo, hi, Builtin.lenOf, Builtin.firstCells, loadCells, loadCellsFrom]
  | some a =>
    obtain ⟨v', w', hr, h2, h3, -, h5⟩ := run_append_own_at (P := Try.prog) w w.heap.size 33 ty 3 i0 (.int .i64 0) 1 8 Try.underlying33 hi hz0 hz1 hz2 rfl (by decide) (.slice none 0 0) 0 [] (World.ownsRow_nil _ _ _ _) a xs.length c (xs.map fun x => .int .i64 x) (by simp) (fun j u hj => by
      obtain ⟨hj1, hj2⟩ := List.getElem?_eq_some_iff.1 hj
      obtain ⟨a', ha, hcc⟩ := hcell j (by simpa using hj1)
      cases ha
      rw [hcc, ← hj2, List.getElem_map]
      congr 2
      rw [List.getD_eq_getElem?_getD, List.getElem?_eq_getElem (by simpa using hj1)]
      rfl) (fun u hu => by obtain ⟨x, _, rfl⟩ := List.mem_map.1 hu; rfl) (by unfold maxLen; omega) (by omega) (Nat.le_refl _)
    refine ⟨v', w', hr, by simpa using h2, (Below.refl w.heap.size w).grown h3 (Nat.le_refl _) (fun k hk => by cases hk)⟩
end Go.Proofs.Ytjjdfhokmiaekaa
