/-
  append onto a slice without room (xs[:n:n]), of numbers: whatever is appended (nothing, too). No project text.
-/
import Derived.Test.YtjjdfhokmiaekaaOwn
namespace Go.Lst
open Go Go.RowKit Go.Lx
section
variable {P : Program}
theorem nums_cells {k : IntKind} {w : World} {a : Addr} {xs : List Int} {n c : Nat} (h : Nums k w (.slice (some a) n c) xs) : ∀ j v, (xs.map fun x => Value.int k x)[j]? = some v → w.cell? (a.add j) = some v := by
  intro j u hj
  obtain ⟨q, d, e1, _, _, hcc⟩ := h.1
  injection e1 with e1 e2 e3
  subst e1
  obtain ⟨hj1, hj2⟩ := List.getElem?_eq_some_iff.1 hj
  obtain ⟨b, hb, hb2⟩ := hcc j hj1
  cases hb
  rw [← hj2]; exact hb2
theorem run_append_op {o : Oper} {a : Act} {s x : Operand} {t : TypeId} {sv xv : Value} {w w' : World} {v' : Value} (ho : o.op = .call { callee := .builtin .append, args := #[s, x], argTypes := #[t, t] }) (hs : a.eval s = sv) (hx : a.eval x = xv)
    (hr : (Builtin.append_ #[t, t] o.type #[sv, xv]).run P w = .ok v' w') : (execOp a.eval o).run P w = .ok (.value v') w' := by
  unfold execOp
  simp only [ho, resolve, invoke, builtin, Sem.run_bind, Sem.run_pure, Result.andThen_ok, List.map_toArray, List.map_cons, List.map_nil, hs, hx, hr]
theorem run_append_exact (w : World) (t ty e : TypeId) (k : IntKind) (bytes : Nat) (ht : P.underlying t = some (.slice e)) (hi : (P.info? e).map (fun i => (i.zero, i.size, i.bytes)) = some (some (.int k 0), 1, bytes))
    (p : Option Addr) (xs : List Int) (hx : Nums k w (.slice p xs.length xs.length) xs) (v : Value) (ys : List Int) (hy : Nums k w v ys) (hp : p.isSome = true ∨ ys = []) (hb : (xs.length + ys.length) * bytes ≤ 140737488355328) (hm : xs.length + ys.length ≤ maxLen) :
    ∃ v' w', (Builtin.append_ #[t, t] ty #[.slice p xs.length xs.length, v]).run P w = .ok v' w' ∧ Nums k w' v' (xs ++ ys) ∧ Below w.heap.size w w' ∧ (0 < ys.length → w'.ownsRow w.heap.size e 1 v' (xs.length + ys.length) ((xs ++ ys).map fun x => .int k x)) := by
  obtain ⟨i, hi, hz0, hz1, hz2⟩ := info_parts hi
  obtain ⟨q, c, rfl, hc1, hc2, hcell⟩ := hy.parts
  by_cases h0 : ys.length = 0
  · have e0 := List.eq_nil_of_length_eq_zero h0
    subst e0
    refine ⟨.slice p xs.length xs.length, w, ?_, by rw [List.append_nil]; exact hx, Below.refl _ _, fun h => by omega⟩
    cases p <;> cases q <;> simp [Builtin.append_, run_underlying ht, sizeOf, typeInfo, hi, Builtin.lenOf, Builtin.firstCells, loadCells, loadCellsFrom, storeCells]
  · obtain ⟨b, rfl, _⟩ := hcell 0 (by omega)
    obtain ⟨a, rfl⟩ : ∃ a, p = some a := by
      cases p with
      | none => rcases hp with h | h
                · cases h
                · rw [h] at h0; exact absurd rfl h0
      | some a => exact ⟨a, rfl⟩
    have hr := run_append_grow (P := P) w t ty e i (.int k 0) ht hi hz0 a xs.length xs.length (xs.map fun x => .int k x) (by rw [hz1]; simp) (nums_cells hx) b ys.length c (ys.map fun x => .int k x) (by rw [hz1]; simp) (nums_cells hy) (by omega) (by unfold maxLen at hm; omega) (by rw [hz2]; exact growslice_fits (by omega) hb)
    have hge := grownCap_ge w (xs.length + ys.length) xs.length e
    have hcm : grownCap w (xs.length + ys.length) xs.length e ≤ maxLen := grownCap_le_maxLen w (xs.length + ys.length) xs.length e hm
    have hown : (w.drew.alloc (.cells ((xs.map fun x => Value.int k x).toArray ++ (ys.map fun x => Value.int k x).toArray ++ Builtin.zeroCells (Value.int k 0).cells (grownCap w (xs.length + ys.length) xs.length e - (xs.length + ys.length))) e)).ownsRow w.heap.size e 1
        (.slice (some ⟨w.heap.size, 0, none⟩) (xs.length + ys.length) (grownCap w (xs.length + ys.length) xs.length e)) (xs.length + ys.length) ((xs ++ ys).map fun x => .int k x) := by
      refine ⟨by simp, .inr ⟨w.heap.size, _, _, rfl, Nat.le_refl _, heap_alloc_new w.drew _, hge, hcm, ?_, ?_⟩⟩
      · simp only [Array.size_append, List.size_toArray, size_zeroCells, List.length_map, Value.cells]
        simp
        omega
      · simp only [Array.toList_append, List.append_assoc, List.map_append]
        have e1 : (xs.length + ys.length) * 1 = ((xs.map fun x => Value.int k x) ++ (ys.map fun x => Value.int k x)).length := by simp
        rw [e1, ← List.append_assoc]
        exact List.take_left
    refine ⟨_, _, hr, ?_, (Below.refl w.heap.size w).drew.alloc (Nat.le_refl _) _, fun _ => hown⟩
    refine Nums.own (n := (xs ++ ys).length) (by rw [List.length_append]; exact hown) (fun x hx' => ?_)
    rcases List.mem_append.1 hx' with h | h
    · exact hx.2 x h
    · exact hy.2 x h
end
end Go.Lst
