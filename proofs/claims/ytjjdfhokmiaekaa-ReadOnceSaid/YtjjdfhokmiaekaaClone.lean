/-
  slices.Clone of numbers, of whatever length, nil too.
-/
import Derived.Test.YtjjdfhokmiaekaaEnt
import Derived.Laws.Cover3
namespace Go.Proofs.Ytjjdfhokmiaekaa
open Go.RowKit Go.Lst

theorem run_eql_slice_nil {P : Program} (w : World) (t e : TypeId) (a : Option Addr) (l c : Nat) (h : P.underlying t = some (.slice e)) : (binOp .eql t (.slice a l c) (.slice none 0 0)).run P w = .ok (.bool a.isNone) w := by
  unfold binOp
  simp [run_equal_slice_nil w t e a l c h]
attribute [local go_sem] run_eql_slice_nil
theorem infoInt : (Try.prog.info? 3).map (fun i => (i.zero, i.size, i.bytes)) = some (some (.int .i64 0), 1, 8) := by kernel_rfl
set_option maxRecDepth 100000 in
set_option maxHeartbeats 1000000 in
theorem CloneAny_calls (v : Value) (xs : List Int) (w : World) (h : Nums .i64 w v xs) (hl : xs.length ≤ 100000) :
    Calls Try.prog 58 #[v] w fun e w' => ∃ u, e = .returned u ∧ w'.ownsRow w.heap.size 3 1 u xs.length (xs.map fun x => .int .i64 x) ∧ Below w.heap.size w w' := by
  obtain ⟨i0, hi, hz0, hz1, hz2⟩ := info_parts infoInt
  obtain ⟨p, c, rfl, hc1, hc2, hcell⟩ := h.parts
  cases p with
  | none =>
    have h0 : xs = [] := by
      rcases xs with _ | ⟨x, xs⟩
      · rfl
      · obtain ⟨a, ha, _⟩ := hcell 0 (by simp)
        cases ha
    subst h0
    have hnl := run_eql_slice_nil (P := Try.prog) w 33 3 none 0 c Try.underlying33
    clear h hcell
    go_enter Try.func58, Try.ntmps58
    go_wp2_with fail
    go_ret
    exact ⟨_, rfl, ⟨rfl, .inl ⟨rfl, rfl⟩⟩, Below.refl _ _⟩
  | some a =>
  have hnl := run_eql_slice_nil (P := Try.prog) w 33 3 (some a) xs.length c Try.underlying33
  have hown : (w.alloc (.cells #[] 3)).ownsRow w.heap.size 3 1 (.slice (some ⟨w.heap.size, 0, none⟩) 0 0) 0 [] :=
    ⟨rfl, .inr ⟨w.heap.size, 0, #[], rfl, Nat.le_refl _, by show (w.heap.push _)[w.heap.size]? = _; simp, Nat.le_refl _, by unfold maxLen; omega, rfl, rfl⟩⟩
  have hnews : ∀ j u, (xs.map fun x => Value.int .i64 x)[j]? = some u → (w.alloc (.cells #[] 3)).cell? (a.add j) = some u := by
    intro j u hj
    obtain ⟨q, d, e1, _, _, hc⟩ := h.1
    injection e1 with e1 e2 e3
    subst e1
    obtain ⟨hj1, hj2⟩ := List.getElem?_eq_some_iff.1 hj
    obtain ⟨b, hb, hb2⟩ := hc j hj1
    cases hb
    rw [← hj2]
    exact (cell_below ((Below.refl _ _).alloc (Nat.le_refl _) _) hb2).trans hb2
  have hlen : (xs.map fun x => Value.int .i64 x).length = xs.length * 1 := by simp
  have hone : ∀ u ∈ xs.map (fun x => Value.int .i64 x), u.oneCell' = true := by
    intro u hu
    obtain ⟨x, _, rfl⟩ := List.mem_map.1 hu
    rfl
  have h63 : 0 + xs.length ≤ maxLen := by unfold maxLen; omega
  have h64 : (0 + xs.length) * 8 ≤ 140737488355328 := by omega
  clear h hcell hl
  generalize xs.map (fun x => Value.int .i64 x) = ys at *
  generalize xs.length = n at *
  have h63' := Lib.hid h63; have h64' := Lib.hid h64
  clear h63 h64
  go_enter Try.func58, Try.ntmps58
  go_wp2_with (at_builtin; refine wpList_append_own _ rfl (.tmp 5) (.tmp 6) 33 rfl w.heap.size 3 i0 (.int .i64 0) 1 8 Try.underlying33 hi hz0 hz1 hz2 rfl (by decide) _ 0 [] rfl hown a n c ys rfl hlen hnews hone h63'.out h64'.out (by simp) ?_; intro v' w2 hown2 hgrow2 _)
  go_ret
  rw [Nat.zero_add] at hown2
  exact ⟨_, rfl, hown2, ((Below.refl _ _).alloc (Nat.le_refl _) _).grown hgrow2 (by simp) (fun k hk => by cases hk; exact Nat.le_refl _)⟩

end Go.Proofs.Ytjjdfhokmiaekaa
