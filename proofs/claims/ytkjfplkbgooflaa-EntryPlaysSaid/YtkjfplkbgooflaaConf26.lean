/-
  (*Log).Conf, ConfAt; slices.Clone of entries; (*Log).Slice.
-/
import Derived.Test.YtkjfplkbgooflaaSays
import Derived.Test.YtkjfplkbgooflaaStore
namespace Go.Proofs.Ytkjfplkbgooflaa
open Go Go.RowKit Go.Lst Go.Lx

set_option maxRecDepth 100000 in
theorem Conf_calls {B B0 : Nat} {w : World} {b : Nat} {cv lv : Value} {L : LogS} (h : LogAt B B0 w b cv lv L) (ok : LogOk L) :
    Calls Try.prog 28 #[.pointer (some ⟨b, 0, none⟩)] w fun e w' => ∃ v, e = .returned (.tuple #[v, .int .u64 (saysI L (lastOf L).1)]) ∧ Cf B w' v (saysC L (lastOf L).1) ∧ Below w.heap.size w w' ∧ (∃ a n c, v = .slice (some a) n c) := by
  have C1 := Lib.hid (made_calls h)
  have C2 := Lib.hid (Last_calls h)
  have C3 := Lib.hid (fun w' hb => says_calls (h.below (w' := w') hb) ok (lastOf L).1)
  obtain ⟨LA, hLA⟩ : ∃ LA, lastOf L = LA := ⟨_, rfl⟩
  rw [hLA] at C2 C3 ⊢
  clear h ok hLA
  go_enter Try.func28, Try.ntmps28
  go_wp2_with fail
  refine C1.out.mono ?_
  rintro y w2 ⟨rfl, rfl⟩
  go_wp2_with fail
  refine C2.out.mono ?_
  rintro y w1 ⟨rfl, hb⟩
  go_wp2_with fail
  refine (C3.out _ hb).mono ?_
  rintro y w2 ⟨v, rfl, hc, hb2, a, n, c, rfl⟩
  replace hb := Lx.bstep hb (Nat.le_refl _) hb2
  replace hc := Lib.hid hc
  replace hb := Lib.hid hb
  clear hb2
  go_wp2_with fail
  go_ret2
  exact ⟨_, rfl, hc.out, hb.out, _, _, _, rfl⟩
theorem term_errs (L : LogS) (x : Int) : (termAt L x).2 = 0 ∨ (termAt L x).2 ≠ 0 ∧ ((termAt L x).2 != 0) = true ∧ (termAt L x).1 = 0 := by
  unfold termAt
  split
  · exact .inr ⟨by decide, by decide, rfl⟩
  · split
    · exact .inr ⟨by decide, by decide, rfl⟩
    · split <;> exact .inl rfl
def confAt (L : LogS) (x : Int) : List Int := if (termAt L x).2 = 0 then saysC L x else []
set_option maxRecDepth 100000 in
theorem ConfAt_calls {B B0 : Nat} {w : World} {b : Nat} {cv lv : Value} {L : LogS} (h : LogAt B B0 w b cv lv L) (ok : LogOk L) (x : Int) (hx : 0 ≤ x) :
    Calls Try.prog 31 #[.pointer (some ⟨b, 0, none⟩), .int .u64 x] w fun e w' => ∃ v, e = .returned (.tuple #[v, .int .i64 (termAt L x).2]) ∧ Cf B w' v (confAt L x) ∧ Below w.heap.size w w' := by
  have C1 := Lib.hid (Term_calls h ok x hx)
  have C3 := Lib.hid (fun w' hb => says_calls (h.below (w' := w') hb) ok x)
  unfold confAt
  have hE := term_errs L x
  obtain ⟨⟨T, E⟩, hT⟩ : ∃ T, termAt L x = T := ⟨_, rfl⟩
  rw [hT] at C1 hE ⊢
  dsimp only at C1 hE ⊢
  clear h ok hT hx
  rcases hE with h0 | ⟨h0, h1, -⟩
  · subst h0
    rw [if_pos rfl]
    go_enter Try.func31, Try.ntmps31
    go_wp2_with fail
    refine C1.out.mono ?_
    rintro y w1 ⟨rfl, hb⟩
    go_wp2_with fail
    refine (C3.out _ hb).mono ?_
    rintro y w2 ⟨v, rfl, hc, hb2, a, n, c, rfl⟩
    replace hb := Lib.hid (Lx.bstep hb (Nat.le_refl _) hb2)
    replace hc := Lib.hid hc
    clear hb2
    go_wp2_with fail
    go_ret2
    exact ⟨_, rfl, hc.out, hb.out⟩
  · rw [if_neg h0]
    clear h0
    go_enter Try.func31, Try.ntmps31
    go_wp2_with fail
    refine C1.out.mono ?_
    rintro y w1 ⟨rfl, hb⟩
    go_wp2_with fail
    go_ret2
    exact ⟨_, rfl, Cf.nil _ _, hb⟩
theorem wpList_append_run {P : Program} {ops : Array Oper} {rest : List Oper} {o : Oper} {a : Act} {w : World} {Q : Exit → Act → World → Prop} (hgd : o.guard = none) (s x : Operand) {t : TypeId} (ho : o.op = .call { callee := .builtin .append, args := #[s, x], argTypes := #[t, t] }) {sv xv v' : Value} {w' : World} (hs : a.eval s = sv) (hx : a.eval x = xv)
    (hr : (Builtin.append_ #[t, t] o.type #[sv, xv]).run P w = .ok v' w') (hk : wpList P ops Q rest (a.put o.dst v') w') : wpList P ops Q (o :: rest) a w := by
  refine wpList_plain hgd fun K hK => ?_
  have h6 := run_append_op ho hs hx hr
  unfold Oper.wp
  rw [h6]
  exact hK _ _ hk
attribute [local go_sem] run_eql_slice_nil
set_option maxRecDepth 100000 in
set_option maxHeartbeats 1000000 in
theorem CloneE_calls {B : Nat} (v : Value) (es : List Ent) (w : World) (h : Ents B w v es) (hl : es.length ≤ 90000) (hB : B ≤ w.heap.size) (hv : ∀ g, v.ownBlock = some g → g < w.heap.size) :
    Calls Try.prog 41 #[v] w fun e w' => ∃ u, e = .returned u ∧ Row B w.heap.size w' u es ∧ Below w.heap.size w w' := by
  obtain ⟨p, c, rfl, hc1, hc2, hcell⟩ := id h
  cases p with
  | none =>
    have h0 : es = [] := by
      rcases es with _ | ⟨x, xs⟩
      · rfl
      · obtain ⟨a, _, ha, _⟩ := hcell 0 (by simp)
        cases ha
    subst h0
    have hnl := run_eql_slice_nil (P := Try.prog) w 33 31 none 0 c Try.underlying33
    clear h hcell hv
    go_enter Try.func41, Try.ntmps41
    go_wp2_with fail
    go_ret
    exact ⟨_, rfl, Row.nil _ _ _, Below.refl _ _⟩
  | some a =>
  have hnl := run_eql_slice_nil (P := Try.prog) w 33 31 (some a) es.length c Try.underlying33
  have hbl : Below w.heap.size w (w.alloc (.cells #[] 31)) := (Below.refl _ _).alloc (Nat.le_refl _) _
  have hown : Row B w.heap.size (w.alloc (.cells #[] 31)) (.slice (some ⟨w.heap.size, 0, none⟩) 0 0) [] :=
    ⟨[], rfl, ⟨rfl, .inr ⟨w.heap.size, 0, #[], rfl, Nat.le_refl _, by show (w.heap.push _)[w.heap.size]? = _; simp, Nat.le_refl _, by unfold maxLen; omega, rfl, rfl⟩⟩, fun j hj => by simp at hj⟩
  have hx := h.keep (Calms.below hbl) (fun g hg => hbl.block g (hv g hg))
  obtain ⟨v', w', hr, h2, -, -, -, h6⟩ := row_append hown hB (by simp) 33 a c es hx (by simp; omega)
  have hfin := Lib.hid (show Row B w.heap.size w' v' es ∧ Below w.heap.size w w' from ⟨by simpa using h2, hbl.trans h6⟩)
  clear h hcell hv hbl hown hx h2 h6 hl
  replace hr := Lib.hid hr
  replace hc1 := Lib.hid hc1
  replace hc2 := Lib.hid hc2
  replace hB := Lib.hid hB
  obtain ⟨n, hn⟩ : ∃ n, es.length = n := ⟨_, rfl⟩
  rw [hn] at hr hnl ⊢
  clear hn
  go_enter Try.func41, Try.ntmps41
  go_wp2_with (at_builtin; (refine wpList_append_run (sv := .slice (some ⟨w.heap.size, 0, none⟩) 0 0) (xv := .slice (some a) n c) rfl (.tmp 5) (.tmp 6) rfl rfl rfl hr.out ?_))
  go_ret
  exact ⟨_, rfl, hfin.out⟩
/-- What Slice answers. -/
def sliceE (L : LogS) (x : Int) (most : Int) : Int := if most < 1 ∨ 4096 < most then 2 else if x ≤ L.i then 260 else 0
def sliceL (L : LogS) (x : Int) (most : Int) : List Ent := if sliceE L x most = 0 then (L.l.drop (x - L.i - 1).toNat).take most.toNat else []
end Go.Proofs.Ytkjfplkbgooflaa
