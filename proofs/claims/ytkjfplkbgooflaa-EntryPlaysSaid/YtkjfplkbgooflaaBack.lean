/-
  (*Log).back: its function, at the loop's own invariant.
-/
import Derived.Test.YtkjfplkbgooflaaBwd
namespace Go.Proofs.Ytkjfplkbgooflaa
open Go Go.RowKit Go.Lst Go.Lx Go.Shelf
attribute [local go_sem] Oper.semAt_some

theorem back_calls (b : Nat) (x : Int) (w : World) :
    Calls Try.prog 49 #[.pointer (some ⟨b, 0, none⟩), .int .u64 x] w fun e w' => e = .returned (.func (.func 51) #[] #[.pointer (some ⟨w.heap.size, 0, none⟩), .pointer (some ⟨w.heap.size + 1, 0, none⟩)]) ∧
      w' = (w.alloc (.cells #[.pointer (some ⟨b, 0, none⟩)] 23)).alloc (.cells #[.int .u64 x] 27) := by
  go_enter Try.func49, Try.ntmps49
  go_wp2_with fail
  go_ret
  exact ⟨rfl, rfl⟩
structure BackAt (A : World) (b bL bI : Nat) (lv : Value) (idx : Int) (es : List Ent) (cvs : List Value) : Prop where
  cL : A.cell? ⟨bL, 0, none⟩ = some (.pointer (some ⟨b, 0, none⟩))
  cI : A.cell? ⟨bI, 0, none⟩ = some (.int .u64 idx)
  cl : A.cell? ⟨b, 3, none⟩ = some lv
  row : RowAt A lv es cvs
/-- The inner loop's word. -/
structure I2 (J : List Nat → World → Prop) (N l : Nat) (lv : Value) (len mm : Nat) (pre2 : List Nat) (A : World) : Prop where
  j : ∃ pre, J pre A ∧ pre.length = pre2.length - (len - mm)
  cy : A.cell? ⟨N, 0, none⟩ = some (.func (.yield l) #[] #[])
  cl : A.cell? ⟨N + 1, 0, none⟩ = some lv
  size : N + 2 ≤ A.heap.size
theorem cell_put {A : World} {L : Nat} (o : Obj) {a : Addr} (h : a.block ≠ L) : (A.putObj L o).cell? a = A.cell? a := cell_same (World.putObj_heap_other h)
theorem I2.grow {J : List Nat → World → Prop} {N l : Nat} {lv : Value} {len mm : Nat} {pre2 : List Nat} {A B : World} (hJg : ∀ pre A B, J pre A → Below A.heap.size A B → J pre B) (h : I2 J N l lv len mm pre2 A) (hb : Below A.heap.size A B) : I2 J N l lv len mm pre2 B := by
  obtain ⟨pre, h1, h2⟩ := h.j
  exact ⟨⟨pre, hJg _ _ _ h1 hb, h2⟩, (cell_below hb h.cy).trans h.cy, (cell_below hb h.cl).trans h.cl, Nat.le_trans h.size hb.size⟩
theorem I2.put {J : List Nat → World → Prop} {N l : Nat} {lv : Value} {len mm : Nat} {pre2 : List Nat} {A : World} (hJp : ∀ pre A L o o', J pre A → N ≤ L → A.heap[L]? = some o → o.isCells = false → J pre (A.putObj L o')) (h : I2 J N l lv len mm pre2 A) {L : Nat} {o : Obj} (o' : Obj) (hL : N + 2 ≤ L) (ho : A.heap[L]? = some o) (hc : o.isCells = false) : I2 J N l lv len mm pre2 (A.putObj L o') := by
  obtain ⟨pre, h1, h2⟩ := h.j
  exact ⟨⟨pre, hJp _ _ _ _ _ h1 (by omega) ho hc, h2⟩, (cell_put _ (by simp; omega)).trans h.cy, (cell_put _ (by simp; omega)).trans h.cl, by simpa [World.putObj] using h.size⟩
set_option maxRecDepth 100000 in
set_option maxHeartbeats 4000000 in
theorem back_in (es : List Ent) (cvs : List Value) (lv : Value) (b bL bI : Nat) (idx : Int) (hl : es.length ≤ 4096) (mm : Nat) (hmm : ∀ j (h : j < es.length), (es[j].i ≤ idx ↔ j < mm)) (hml : mm ≤ es.length) (m l : Nat) (hm1 : 1 ≤ m) (J Jx : List Nat → World → Prop) (W : World)
    (hJb : ∀ pre A, J pre A → BackAt A b bL bI lv idx es cvs) (hcvs : ∀ cv ∈ cvs, ∃ p n c, cv = .slice p n c)
    (hJg : ∀ pre A B, J pre A → Below A.heap.size A B → J pre B) (hJp : ∀ pre A L o o', J pre A → W.heap.size ≤ L → A.heap[L]? = some o → o.isCells = false → J pre (A.putObj L o'))
    (hXg : ∀ pre A B, Jx pre A → Below A.heap.size A B → Jx pre B) (hXp : ∀ pre A L o o', Jx pre A → W.heap.size ≤ L → A.heap[L]? = some o → o.isCells = false → Jx pre (A.putObj L o'))
    (hY : ∀ pre x A, J pre A → x + pre.length + 1 = mm → YieldAt Fence.wide (m - 1) Try.prog l #[encE es cvs x] A fun e B => From W.heap.size A B ∧ ((e = .returned (.bool true) ∧ J (pre ++ [x]) B) ∨ (e = .returned (.bool false) ∧ Jx (pre ++ [x]) B)))
    (h0 : J [] W) :
    CallsIn Fence.wide m Try.prog 51 (#[.func (.yield l) #[] #[]] ++ #[.pointer (some ⟨bL, 0, none⟩), .pointer (some ⟨bI, 0, none⟩)]) W fun e W' => (∃ v, e = .returned v) ∧ ((∃ xs, xs.length = mm ∧ J xs W') ∨ (∃ pre, Jx pre W')) := by
  refine callsIn_of_wp_marks Try.func51 rfl trivial ?_ rfl
  simp only [Try.ntmps51, List.size_toArray, List.length_cons, List.length_nil, Nat.reduceAdd, Nat.reduceSub, Array.replicate_succ, Array.replicate_zero, List.push_toArray, List.append_toArray, List.nil_append, List.cons_append]
  obtain ⟨cL, cI, cl, hrow⟩ := hJb _ _ h0
  obtain ⟨p0, n0, c0, hlv⟩ : ∃ p n c, lv = .slice p n c := by obtain ⟨-, ⟨p, c, h, -⟩, -⟩ := hrow; exact ⟨_, _, _, h⟩
  rw [hlv] at cl
  obtain ⟨W1, hW1⟩ : ∃ W1, W.alloc (.cells #[.func (.yield l) #[] #[]] 71) = W1 := ⟨_, rfl⟩
  have hb1 : Below W.heap.size W W1 := by rw [← hW1]; exact (by repeat (first | exact Below.refl _ _ | exact Lx.Ext.below _ | refine Below.drew ?_ | refine below_drewN ?_ _ | (refine Below.alloc ?_ (by first | exact Nat.le_refl _ | (simp; done) | (simp; omega)) _) | (refine Below.setCell ?_ (by first | exact Nat.le_refl _ | (simp; done) | (simp; omega)) _)))
  have y0 : W1.cell? ⟨W.heap.size, 0, none⟩ = some (.func (.yield l) #[] #[]) := by rw [← hW1]; exact (Blk.new _ _ _).cell 0 rfl
  have z0 : W1.heap.size = W.heap.size + 1 := by rw [← hW1]; simp
  replace cL := (cell_below hb1 cL).trans cL
  replace cl := (cell_below hb1 cl).trans cl
  gi_wp2_with fail
  refine ⟨trivial, ?_⟩
  refine (callsIn_wide.2 (Backward_calls (.slice p0 n0 c0) ⟨_, _, _, rfl⟩ _)).mono ?_
  rintro e w' ⟨rfl, rfl⟩
  have hb2 : Below W1.heap.size W1 (W1.alloc (.cells #[.slice p0 n0 c0] 33)) := (by repeat (first | exact Below.refl _ _ | exact Lx.Ext.below _ | refine Below.drew ?_ | refine below_drewN ?_ _ | (refine Below.alloc ?_ (by first | exact Nat.le_refl _ | (simp; done) | (simp; omega)) _) | (refine Below.setCell ?_ (by first | exact Nat.le_refl _ | (simp; done) | (simp; omega)) _)))
  have y1 : (W1.alloc (.cells #[.slice p0 n0 c0] 33)).cell? ⟨W.heap.size + 1, 0, none⟩ = some (.slice p0 n0 c0) := by rw [← z0]; exact (Blk.new _ _ _).cell 0 rfl
  have z1 : (W1.alloc (.cells #[.slice p0 n0 c0] 33)).heap.size = W.heap.size + 2 := by simp [z0]
  replace y0 := (cell_below hb2 y0).trans y0
  rw [z0]
  generalize W1.alloc (.cells #[.slice p0 n0 c0] 33) = W2 at *
  gi_wp2_with fail
  have hB2 := Lib.hid (Lx.bstep hb1 (Nat.le_refl _) hb2)
  refine Lx.rf_law2 (α := Nat) (w := W2) rfl hm1 (gf := 53) (lb := #[.pointer (some ⟨W.heap.size + 1, 0, none⟩)]) rfl trivial (enters_of Try.func53 (by kernel_rfl) rfl)
    (fun x => #[.int .i64 (x : Int), encE es cvs x]) (fun _ => rfl) (fun pre x => x + pre.length + 1 = es.length) (I2 J W.heap.size l lv es.length mm) (fun c pre A => c = .ret ∧ ∃ pre', Jx pre' A) (fun xs => xs.length = es.length)
    (fun pre A L o o' hL ho hc h => h.put hJp o' (by omega) ho hc) (fun c pre A L o o' hL ho hc ⟨h1, pre', h2⟩ => ⟨h1, pre', hXp _ _ _ _ _ h2 (by omega) ho hc⟩)
    ?start (fun l2 J2 Jx2 Wx _ hsz hJI hJs hXs hY2 h00 => bwd_in es cvs lv (W.heap.size + 1) hl _ (m - 1) l2 J2 Jx2 Wx (fun pre A hA => ⟨(hJI _ _ hA).cl, by obtain ⟨pre', h1, -⟩ := (hJI _ _ hA).j; exact (hJb _ _ h1).row⟩) hY2 h00)
    (fun pre A B h hb => h.grow hJg hb)
    (fun x W3 => { tmps := #[.func (.yield l) #[] #[], .pointer (some ⟨bL, 0, none⟩), .pointer (some ⟨bI, 0, none⟩), .pointer (some ⟨W.heap.size, 0, none⟩), undef, .pointer (some ⟨W3.heap.size, 0, none⟩), .pointer (some ⟨b, 0, none⟩), .pointer (some ⟨b, 0, none⟩), .pointer (some ⟨b, 3, none⟩), .slice p0 n0 c0,
      .func (.func 53) #[] #[.pointer (some ⟨W.heap.size + 1, 0, none⟩)], .int .i64 (x : Int), encE es cvs x, undef, undef, undef, undef, undef, undef, undef, undef, undef, undef], defers := [] })
    (fun x W3 => W3.alloc (.cells #[.int .u64 (es.getD x e0).i, .int .u64 (es.getD x e0).t, .int .u8 (es.getD x e0).k, .string (es.getD x e0).s, cvs.getD x (.slice none 0 0)] 31)) (fun x W3 => (by repeat (first | exact Below.refl _ _ | exact Lx.Ext.below _ | refine Below.drew ?_ | refine below_drewN ?_ _ | (refine Below.alloc ?_ (by first | exact Nat.le_refl _ | (simp; done) | (simp; omega)) _) | (refine Below.setCell ?_ (by first | exact Nat.le_refl _ | (simp; done) | (simp; omega)) _))))
    ?assign ?body ?done ?stop
  case start =>
    intro r
    have hbe : Below W2.heap.size W2 (Lx.enteredWorld W2 r) := ((Below.refl _ _).alloc (Nat.le_refl _) _).alloc (by simp) _
    refine I2.grow hJg ⟨⟨[], hJg _ _ _ h0 hB2.out, by simp⟩, y0, by rw [hlv]; exact y1, by omega⟩ hbe
  case assign =>
    intro l2 x W3 K hK
    unfold encE entV at hK ⊢
    obtain ⟨pw, nw, cw, hw⟩ : ∃ p n c, cvs.getD x (.slice none 0 0) = .slice p n c := by
      rw [List.getD_eq_getElem?_getD]
      rcases h : cvs[x]? with _ | cv
      · exact ⟨_, _, _, rfl⟩
      · exact hcvs cv (List.mem_of_getElem? h)
    rw [hw] at hK ⊢
    generalize es.getD x e0 = en at *
    obtain ⟨ei, et, ek, s, ec⟩ := en
    dsimp only at hK ⊢
    clear hw hJb hJg hJp hXg hXp hY
    gi_wp2
    exact hK
  case body => 
    rintro l2 pre2 x W0 W3 hI hC hz0 hz3 hk3
    obtain ⟨pre, hJ, hpl⟩ := hI.j
    have hbk := hJb _ _ hJ
    have cI' := hbk.cI
    have hxl : x < es.length := by omega
    have hE : Blk W3 W0.heap.size [.int .u64 (es.getD x e0).i, .int .u64 (es.getD x e0).t, .int .u8 (es.getD x e0).k, .string (es.getD x e0).s, cvs.getD x (.slice none 0 0)] := (Blk.new W0 _ _).same (hk3 _ (Nat.le_refl _))
    have hen : es.getD x e0 = es[x] := by rw [List.getD_eq_getElem?_getD, List.getElem?_eq_getElem hxl]; rfl
    obtain ⟨pw, nw, cw, hw⟩ : ∃ p n c, cvs.getD x (.slice none 0 0) = .slice p n c := by
      rw [List.getD_eq_getElem?_getD]
      rcases h : cvs[x]? with _ | cv
      · exact ⟨_, _, _, rfl⟩
      · exact hcvs cv (List.mem_of_getElem? h)
    rw [hw] at hE
    have hmx := hmm x hxl
    rw [← hen] at hmx
    have cy := hI.cy
    by_cases hx : x < mm
    · have hpx : x + pre.length + 1 = mm := by omega
      obtain ⟨fn, tmps, assign, body, hy, hR⟩ := hY pre x W3 hJ hpx
      have hIc := hI.cl
      have hIs := hI.size
      unfold encE entV at hy ⊢
      rw [hw] at hy ⊢
      generalize es.getD x e0 = en at *
      obtain ⟨ei, et, ek, s, ec⟩ := en
      dsimp only at hy hE hmx ⊢
      have hle : ei ≤ idx := hmx.2 hx
      obtain ⟨a0, a1, a2, a3, a4, -⟩ := hE.c5
      clear hY hJb hJp hXg hXp hmm hbk hI hk3 hE hJg
      replace hpl := Lib.hid hpl
      replace hpx := Lib.hid hpx
      replace hxl := Lib.hid hxl
      replace hx := Lib.hid hx
      replace hIc := Lib.hid hIc
      replace hIs := Lib.hid hIs
      replace hmx := Lib.hid hmx
      replace hw := Lib.hid hw
      replace hC := Lib.hid hC
      replace hrow := Lib.hid hrow
      replace z1 := Lib.hid z1
      gi_wp2_with fail
      refine ⟨(fun h => (by cases h)), ?_⟩
      refine (roundIn_wide hR).mono ?_
      rintro e W4 ⟨hF, ⟨rfl, hJ4⟩ | ⟨rfl, hX4⟩⟩
      · have hFs := hF.sub (show W.heap.size ≤ W2.heap.size by have := z1.out; omega)
        gi_wp2_with fail
        exact ⟨hFs, ⟨⟨pre ++ [x], hJ4, by have := hpl.out; have := hpx.out; have := hC.out; simp; omega⟩, hF.cell (Nat.le_refl _) cy, hF.cell (Nat.le_succ _) hIc.out, Nat.le_trans hIs.out hF.1⟩⟩
      · have hFs := hF.sub (show W.heap.size ≤ W2.heap.size by have := z1.out; omega)
        gi_wp2_with fail
        exact ⟨hFs, rfl, _, hX4⟩
    · unfold encE entV
      rw [hw]
      have hI' : I2 J W.heap.size l lv es.length mm (pre2 ++ [x]) W3 := ⟨⟨pre, hJ, by simp; omega⟩, hI.cy, hI.cl, hI.size⟩
      generalize es.getD x e0 = en at *
      obtain ⟨ei, et, ek, s, ec⟩ := en
      dsimp only at hE hmx ⊢
      have hle : decide (ei ≤ idx) = false := decide_eq_false (fun h => hx (hmx.1 h))
      have hlt : idx < ei := by have := fun h => hx (hmx.1 h); omega
      obtain ⟨a0, a1, a2, a3, a4, -⟩ := hE.c5
      clear hY hJb hJp hXg hXp hmm hbk hI hk3 hE hJg cy
      replace hpl := Lib.hid hpl
      replace hxl := Lib.hid hxl
      replace hx := Lib.hid hx
      replace hmx := Lib.hid hmx
      replace hw := Lib.hid hw
      replace hC := Lib.hid hC
      replace hrow := Lib.hid hrow
      replace z1 := Lib.hid z1
      gi_wp2_with fail
      refine ⟨(fun f h => by cases h), ?_⟩
      gi_wp2_with fail
      exact ⟨From.refl _ _, hI'⟩
  case done =>
    rintro D xs W3 hS hI hD hlD
    obtain ⟨pre, hJ, hpl⟩ := hI.j
    have hfin : (∃ xs, xs.length = mm ∧ J xs (W3.putObj D (.deferred none))) ∨ ∃ pre, Jx pre (W3.putObj D (.deferred none)) := .inl ⟨pre, by omega, hJp _ _ _ _ _ hJ (by omega) hD rfl⟩
    gi_wp2_with fail
    refine ⟨by simp, .inl ⟨_, _, rfl, run_takeDeferred hD, ?_⟩⟩
    refine ⟨_, results_none rfl _ _ _, ⟨_, rfl⟩, hfin⟩
  case stop =>
    rintro D c pre2 W3 ⟨rfl, pre', hX⟩ hD hlD
    have hfin : (∃ xs, xs.length = mm ∧ J xs (W3.putObj D (.deferred none))) ∨ ∃ pre, Jx pre (W3.putObj D (.deferred none)) := .inr ⟨pre', hXp _ _ _ _ _ hX (by omega) hD rfl⟩
    gi_wp2_with fail
    refine ⟨by simp, .inl ⟨_, _, rfl, run_takeDeferred hD, ?_⟩⟩
    refine ⟨_, results_none rfl _ _ _, ⟨_, rfl⟩, hfin⟩
end Go.Proofs.Ytkjfplkbgooflaa
