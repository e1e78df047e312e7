/-
  A block whose cells are known, whole. No project text.
-/
import Derived.Test.YtenjllkhbpoffaaDoorLst
namespace Go.Lx
open Go Go.RowKit

def Blk (w : World) (b : Nat) (cs : List Value) : Prop := ∃ T, w.heap[b]? = some (.cells cs.toArray T (0, 0))
theorem Blk.lt {w : World} {b : Nat} {cs : List Value} (h : Blk w b cs) : b < w.heap.size := by
  obtain ⟨T, h⟩ := h
  by_cases hl : b < w.heap.size
  · exact hl
  · rw [Array.getElem?_eq_none (Nat.le_of_not_lt hl)] at h; cases h
theorem Blk.below {w w' : World} {b : Nat} {cs : List Value} (h : Blk w b cs) (hb : Below w.heap.size w w') : Blk w' b cs := by
  obtain ⟨T, h1⟩ := id h
  exact ⟨T, (hb.block b h.lt).trans h1⟩
theorem Blk.grown {w w' : World} {b g : Nat} {cs : List Value} (h : Blk w b cs) (hb : w.grownBy w' (some g)) (hne : b ≠ g) : Blk w' b cs := by
  obtain ⟨T, h1⟩ := id h
  exact ⟨T, (hb.block b h.lt (fun e => hne (by cases e; rfl))).trans h1⟩
theorem Blk.new (w : World) (cs : Array Value) (T : TypeId) : Blk (w.alloc (.cells cs T)) w.heap.size cs.toList := ⟨T, by show (w.heap.push _)[w.heap.size]? = _; simp⟩
theorem Blk.new' (w : World) (b : Nat) (hb : b = w.heap.size) (cs : Array Value) (T : TypeId) : Blk (w.alloc (.cells cs T)) b cs.toList := hb ▸ Blk.new w cs T
theorem Blk.cell {w : World} {b : Nat} {cs : List Value} (h : Blk w b cs) (i : Nat) {v : Value} (hv : cs[i]? = some v) : w.cell? ⟨b, i, none⟩ = some v := by
  obtain ⟨T, h⟩ := h
  simp [World.cell?, h, hv]
theorem Blk.frz {w : World} {b : Nat} {cs : List Value} (h : Blk w b cs) (i : Nat) : w.frozen? ⟨b, i, none⟩ = false := by
  obtain ⟨T, h⟩ := h
  simp [World.frozen?, h]
theorem Blk.put {w : World} {b : Nat} {cs : List Value} (h : Blk w b cs) (i : Nat) (v : Value) : Blk (w.setCell ⟨b, i, none⟩ v) b (cs.set i v) := by
  obtain ⟨T, h1⟩ := id h
  refine ⟨T, ?_⟩
  have hlt := h.lt
  have h' : w.heap[b] = .cells cs.toArray T (0, 0) := by simpa [Array.getElem?_eq_getElem hlt] using h1
  show (w.heap.modify b _)[b]? = _
  rw [Array.getElem?_eq_getElem (by simpa using hlt), Array.getElem_modify_self, h']
  simp
theorem Blk.keep {w : World} {b b' o : Nat} {cs : List Value} {z : Value} (h : Blk w b cs) (hne : b ≠ b') : Blk (w.setCell ⟨b', o, none⟩ z) b cs := by
  obtain ⟨T, h1⟩ := id h
  exact ⟨T, (Below.heap_setCell _ _ _ _ hne).trans h1⟩
theorem Blk.c2 {w : World} {b : Nat} {x y : Value} (h : Blk w b [x, y]) : w.cell? ⟨b, 0, none⟩ = some x ∧ w.cell? ⟨b, 1, none⟩ = some y ∧ w.frozen? ⟨b, 0, none⟩ = false ∧ w.frozen? ⟨b, 1, none⟩ = false :=
  ⟨h.cell 0 rfl, h.cell 1 rfl, h.frz 0, h.frz 1⟩
theorem Blk.c3 {w : World} {b : Nat} {x y z : Value} (h : Blk w b [x, y, z]) : w.cell? ⟨b, 0, none⟩ = some x ∧ w.cell? ⟨b, 1, none⟩ = some y ∧ w.cell? ⟨b, 2, none⟩ = some z ∧ w.frozen? ⟨b, 0, none⟩ = false ∧ w.frozen? ⟨b, 1, none⟩ = false ∧ w.frozen? ⟨b, 2, none⟩ = false :=
  ⟨h.cell 0 rfl, h.cell 1 rfl, h.cell 2 rfl, h.frz 0, h.frz 1, h.frz 2⟩
theorem Blk.c4 {w : World} {b : Nat} {x y z u : Value} (h : Blk w b [x, y, z, u]) : w.cell? ⟨b, 0, none⟩ = some x ∧ w.cell? ⟨b, 1, none⟩ = some y ∧ w.cell? ⟨b, 2, none⟩ = some z ∧ w.cell? ⟨b, 3, none⟩ = some u ∧
    w.frozen? ⟨b, 0, none⟩ = false ∧ w.frozen? ⟨b, 1, none⟩ = false ∧ w.frozen? ⟨b, 2, none⟩ = false ∧ w.frozen? ⟨b, 3, none⟩ = false :=
  ⟨h.cell 0 rfl, h.cell 1 rfl, h.cell 2 rfl, h.cell 3 rfl, h.frz 0, h.frz 1, h.frz 2, h.frz 3⟩
theorem Blk.c5 {w : World} {b : Nat} {x y z u v : Value} (h : Blk w b [x, y, z, u, v]) : w.cell? ⟨b, 0, none⟩ = some x ∧ w.cell? ⟨b, 1, none⟩ = some y ∧ w.cell? ⟨b, 2, none⟩ = some z ∧ w.cell? ⟨b, 3, none⟩ = some u ∧ w.cell? ⟨b, 4, none⟩ = some v ∧
    w.frozen? ⟨b, 0, none⟩ = false ∧ w.frozen? ⟨b, 1, none⟩ = false ∧ w.frozen? ⟨b, 2, none⟩ = false ∧ w.frozen? ⟨b, 3, none⟩ = false ∧ w.frozen? ⟨b, 4, none⟩ = false :=
  ⟨h.cell 0 rfl, h.cell 1 rfl, h.cell 2 rfl, h.cell 3 rfl, h.cell 4 rfl, h.frz 0, h.frz 1, h.frz 2, h.frz 3, h.frz 4⟩

theorem made1 (w : World) (c1 : Array Value) (T1 : TypeId) : Blk (w.alloc (.cells c1 T1)) w.heap.size c1.toList ∧ Below w.heap.size w (w.alloc (.cells c1 T1)) ∧ w.heap.size + 1 = (w.alloc (.cells c1 T1)).heap.size :=
  ⟨Blk.new _ _ _, (Below.refl _ _).alloc (Nat.le_refl _) _, by simp⟩
theorem made2 (w : World) (c1 c2 : Array Value) (T1 T2 : TypeId) : Blk ((w.alloc (.cells c1 T1)).alloc (.cells c2 T2)) w.heap.size c1.toList ∧ Blk ((w.alloc (.cells c1 T1)).alloc (.cells c2 T2)) (w.heap.size + 1) c2.toList ∧
    Below w.heap.size w ((w.alloc (.cells c1 T1)).alloc (.cells c2 T2)) ∧ w.heap.size + 1 + 1 = ((w.alloc (.cells c1 T1)).alloc (.cells c2 T2)).heap.size :=
  ⟨(Blk.new w _ _).below ((Below.refl _ _).alloc (Nat.le_refl _) _), Blk.new' _ _ (by simp) _ _, ((Below.refl _ _).alloc (Nat.le_refl _) _).alloc (by simp) _, by simp⟩
theorem made3 (w : World) (c1 c2 c3 : Array Value) (T1 T2 T3 : TypeId) : Blk (((w.alloc (.cells c1 T1)).alloc (.cells c2 T2)).alloc (.cells c3 T3)) w.heap.size c1.toList ∧ Blk (((w.alloc (.cells c1 T1)).alloc (.cells c2 T2)).alloc (.cells c3 T3)) (w.heap.size + 1) c2.toList ∧
    Blk (((w.alloc (.cells c1 T1)).alloc (.cells c2 T2)).alloc (.cells c3 T3)) (w.heap.size + 1 + 1) c3.toList ∧
    Below w.heap.size w (((w.alloc (.cells c1 T1)).alloc (.cells c2 T2)).alloc (.cells c3 T3)) ∧ w.heap.size + 1 + 1 + 1 = (((w.alloc (.cells c1 T1)).alloc (.cells c2 T2)).alloc (.cells c3 T3)).heap.size :=
  ⟨(made2 w c1 c2 T1 T2).1.below ((Below.refl _ _).alloc (Nat.le_refl _) _), (made2 w c1 c2 T1 T2).2.1.below ((Below.refl _ _).alloc (Nat.le_refl _) _), Blk.new' _ _ (by simp) _ _, (made2 w c1 c2 T1 T2).2.2.1.alloc (by simp; omega) _, by simp⟩

section
variable {P : Program}
/-- A struct's type, as the loader knows it. -/
def Str (P : Program) (T : TypeId) (n : Nat) : Prop := (∃ d, P.underlying T = some d ∧ (match d with | .struct _ | .array _ _ => true | _ => false) = true) ∧ (P.info? T).map (·.size) = some n
theorem run_loadVar_blk {w : World} {b : Nat} {cs : List Value} {T : TypeId} (hT : Str P T cs.length) (h : Blk w b cs) : (loadVar T ⟨b, 0, none⟩).run P w = .ok (.agg cs.toArray) w := by
  obtain ⟨⟨d, hu, hd⟩, hi⟩ := hT
  obtain ⟨t, hb⟩ := h
  refine run_loadVar_row w b t T cs.toArray (0, 0) d hb hu ?_ (by simpa using hi)
  cases d <;> simp_all
theorem results_blk1 {fn : Func} {t : Tmp} {T : TypeId} (h : fn.results = #[.cell t T]) {tmps : Array Value} {w : World} {b : Nat} {cs : List Value} (hp : tmps.getD t undef = .pointer (some ⟨b, 0, none⟩)) (hT : Str P T cs.length) (hb : Blk w b cs) :
    (results fn tmps).run P w = .ok (.agg cs.toArray) w := by
  have hp' : tmps[t]?.getD undef = .pointer (some ⟨b, 0, none⟩) := by simpa using hp
  have hl := run_loadVar_blk hT hb
  generalize cs.toArray = x at *
  simp [results, h, asAddr, hp', Sem.run_bind, hl]
theorem results_blk2 {fn : Func} {t s : Tmp} {T : TypeId} (h : fn.results = #[.cell t T, .tmp s]) {tmps : Array Value} {w : World} {b : Nat} {cs : List Value} (hp : tmps.getD t undef = .pointer (some ⟨b, 0, none⟩)) (hT : Str P T cs.length) (hb : Blk w b cs) :
    (results fn tmps).run P w = .ok (.tuple #[.agg cs.toArray, tmps.getD s undef]) w := by
  have hp' : tmps[t]?.getD undef = .pointer (some ⟨b, 0, none⟩) := by simpa using hp
  have hl := run_loadVar_blk hT hb
  generalize cs.toArray = x at *
  simp [results, h, asAddr, hp', Sem.run_bind, hl]
theorem results_blk3 {fn : Func} {t s u : Tmp} {T : TypeId} (h : fn.results = #[.cell t T, .tmp s, .tmp u]) {tmps : Array Value} {w : World} {b : Nat} {cs : List Value} (hp : tmps.getD t undef = .pointer (some ⟨b, 0, none⟩)) (hT : Str P T cs.length) (hb : Blk w b cs) :
    (results fn tmps).run P w = .ok (.tuple #[.agg cs.toArray, tmps.getD s undef, tmps.getD u undef]) w := by
  have hp' : tmps[t]?.getD undef = .pointer (some ⟨b, 0, none⟩) := by simpa using hp
  have hl := run_loadVar_blk hT hb
  generalize cs.toArray = x at *
  simp [results, h, asAddr, hp', Sem.run_bind, hl]
end
end Go.Lx
