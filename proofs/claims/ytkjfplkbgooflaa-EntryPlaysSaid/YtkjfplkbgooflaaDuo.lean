/-
  A log of the call's own, and the reference's, apart from each other.
-/
import Derived.Test.YtkjfplkbgooflaaRefSt
import Derived.Test.YtkjfplkbgooflaaPair
namespace Go.Proofs.Ytkjfplkbgooflaa
open Go Go.RowKit Go.Lst Go.Lx

theorem cell_lt {w : World} {a : Addr} {v : Value} (h : w.cell? a = some v) : a.block < w.heap.size := by
  rcases Nat.lt_or_ge a.block w.heap.size with h' | h'
  · exact h'
  · simp [World.cell?, Array.getElem?_eq_none h'] at h
theorem Cf.given {w : World} {v : Value} {xs : List Int} (h : Nums .i64 w v xs) : Cf w.heap.size w v xs := by
  refine ⟨h, fun h0 g hg => ?_⟩
  obtain ⟨p, c, rfl, h1, h2, h3⟩ := h.parts
  have hlt : g < w.heap.size := by
    obtain ⟨a, ha, hc⟩ := h3 0 h0
    cases ha
    cases hg
    exact cell_lt hc
  exact ⟨hlt, .inl hlt⟩
theorem Ents.block_lt {B : Nat} {w : World} {v : Value} {es : List Ent} (h : Ents B w v es) (h0 : 0 < es.length) {g : Nat} (hg : v.ownBlock = some g) : g < w.heap.size := by
  obtain ⟨a, c, cv, rfl, hc, -⟩ := h.get 0 h0
  cases hg
  exact cell_lt hc
set_option maxRecDepth 100000 in
theorem New_bad (i t : Int) (v : Value) (c : List Int) (w : World) (h : Nums .i64 w v c) (hm : mayNew i t c = false) :
    Calls Try.prog 8 #[.int .u64 i, .int .u64 t, v] w fun y w' => y = .returned (.tuple #[.pointer none, .int .i64 2]) ∧ Below w.heap.size w w' := by
  have C1 := Lib.hid (May_calls v c w h)
  unfold mayNew at hm
  obtain ⟨mc, hmc⟩ : ∃ mc, may c = mc := ⟨_, rfl⟩
  rw [hmc] at C1 hm
  obtain ⟨p, cc, rfl, -⟩ := h.parts
  clear h hmc
  by_cases d1 : 281474976710656 < i
  · clear hm
    have d1b : decide (281474976710656 < i) = true := decide_eq_true d1
    clear d1
    go_enter Try.func8, Try.ntmps8
    go_wp2_with fail
    go_ret2
    exact ⟨rfl, Below.refl _ _⟩
  have d1b : decide (281474976710656 < i) = false := decide_eq_false d1
  by_cases d2 : 281474976710656 < t
  · clear hm d1
    have d2b : decide (281474976710656 < t) = true := decide_eq_true d2
    clear d2
    go_enter Try.func8, Try.ntmps8
    go_wp2_with fail
    go_ret2
    exact ⟨rfl, Below.refl _ _⟩
  have d2b : decide (281474976710656 < t) = false := decide_eq_false d2
  by_cases d3 : i = 0 ↔ t = 0
  case neg =>
    cases hz : (t == 0)
    case' true => (have hy : (i == 0) = false := by simp at hz ⊢; exact fun h => d3 ⟨fun _ => hz, fun _ => h⟩)
    case' false => (have hy : (i == 0) = true := by simp at hz ⊢; exact Classical.byContradiction fun h => d3 ⟨fun h1 => absurd h1 h, fun h1 => absurd h1 hz⟩)
    all_goals
      clear hm d3 d1 d2
      go_enter Try.func8, Try.ntmps8
      go_wp2_with fail
      go_ret2
      exact ⟨rfl, Below.refl _ _⟩
  case pos =>
  have d3b : (i == 0) = (t == 0) := by rw [Bool.eq_iff_iff]; simp [d3]
  have hm0 : mc = false := by rwa [decide_eq_true ⟨by omega, by omega, d3⟩, Bool.true_and] at hm
  subst hm0
  clear hm d3 d1 d2
  cases hz : (t == 0)
  all_goals
    rw [hz] at d3b
    go_enter Try.func8, Try.ntmps8
    go_wp2_with fail
    refine C1.out.mono ?_
    rintro y w1 ⟨rfl, hb⟩
    go_wp2_with fail
    go_ret2
    exact ⟨rfl, hb⟩
theorem New_mine3 (w0 w : World) (i t : Int) (v : Value) (c : List Int) (h : Nums .i64 w v c) (hi : 0 ≤ i) (ht : 0 ≤ t) (hm : mayNew i t c = true) (hw : Below w0.heap.size w0 w) :
    Calls Try.prog 8 #[.int .u64 i, .int .u64 t, v] w fun y w' => ∃ b cv, y = .returned (.tuple #[.pointer (some ⟨b, 0, none⟩), .int .i64 0]) ∧ Mine w0 w' b cv (.slice none 0 0) ⟨i, t, c, []⟩ ∧ Below w.heap.size w w' := by
  refine (New_good w0.heap.size i t v c w h hi ht hm hw.size).mono ?_
  rintro y w' ⟨b', cv, rfl, h1, h2, h3, h4⟩
  exact ⟨b', cv, rfl, ⟨⟨h2.blk, h2.cf, h2.row.elim (fun h => .inl (h.mono hw.size)) .inr, h2.nb, ⟨Nat.le_refl _, Nat.le_trans hw.size h1⟩, h2.sz, h2.nn⟩, h3, Nat.le_trans hw.size h1, fun k hk => (by cases hk), Lx.bstep hw (Nat.le_refl _) h4⟩, h4⟩
structure Duo (w0 w : World) (b1 : Nat) (cv1 lv1 : Value) (L1 : LogS) (b2 : Nat) (cv2 lv2 : Value) (L2 : LogS) : Prop where
  m1 : Mine w0 w b1 cv1 lv1 L1
  m2 : RefAt w0.heap.size w0.heap.size w b2 cv2 lv2 L2
  ok2 : LogOk L2
  ne : b1 ≠ b2
  o1 : lv1.ownBlock ≠ some b2
  o2 : lv2.ownBlock ≠ some b1
  ap : ∀ k, lv1.ownBlock = some k → lv2.ownBlock ≠ some k
section
variable {w0 w w' : World} {b1 b2 : Nat} {cv1 lv1 cv2 lv2 cv1' lv1' cv2' lv2' : Value} {L1 L2 L1' L2' : LogS}
theorem Duo.then (h : Duo w0 w b1 cv1 lv1 L1 b2 cv2 lv2 L2) (hb : Below w.heap.size w w') : Duo w0 w' b1 cv1 lv1 L1 b2 cv2 lv2 L2 := ⟨h.m1.then hb, h.m2.below hb, h.ok2, h.ne, h.o1, h.o2, h.ap⟩
theorem Duo.step1 (h : Duo w0 w b1 cv1 lv1 L1 b2 cv2 lv2 L2) (h' : Mine w0 w' b1 cv1' lv1' L1') (hs : Stays (fun k => k = b1 ∨ lv1.ownBlock = some k) w w') (hc : Calms w0.heap.size w w') (ho : ∀ k, lv1'.ownBlock = some k → lv1.ownBlock = some k ∨ w.heap.size ≤ k) : Duo w0 w' b1 cv1' lv1' L1' b2 cv2 lv2 L2 := by
  have k2 : ∀ k, k < w.heap.size → k ≠ b1 → lv1.ownBlock ≠ some k → w'.heap[k]? = w.heap[k]? := fun k h1 h2 h3 => hs.block k h1 (fun e => e.elim h2 h3)
  have l2 := fun k hk => (h.m2.row.block (k := k) hk).2
  refine ⟨h', h.m2.keep (k2 b2 h.m2.lt h.ne.symm h.o1) hc (fun k hk => k2 k (l2 k hk) (fun e => h.o2 (e ▸ hk)) (fun e => h.ap k e hk)), h.ok2, h.ne, fun e => ?_, h.o2, fun k hk e => ?_⟩
  · rcases ho _ e with h1 | h1
    · exact h.o1 h1
    · have := h.m2.lt; omega
  · rcases ho _ hk with h1 | h1
    · exact h.ap k h1 e
    · have := l2 k e; omega
theorem Duo.step2 (h : Duo w0 w b1 cv1 lv1 L1 b2 cv2 lv2 L2) (h' : RefAt w0.heap.size w0.heap.size w' b2 cv2' lv2' L2') (ok : LogOk L2') (hs : Stays (fun k => k = b2 ∨ lv2.ownBlock = some k) w w') (hc : Calms w0.heap.size w w') (ho : ∀ k, lv2'.ownBlock = some k → lv2.ownBlock = some k ∨ w.heap.size ≤ k) : Duo w0 w' b1 cv1 lv1 L1 b2 cv2' lv2' L2' := by
  have k2 : ∀ k, k < w.heap.size → k ≠ b2 → lv2.ownBlock ≠ some k → w'.heap[k]? = w.heap[k]? := fun k h1 h2 h3 => hs.block k h1 (fun e => e.elim h2 h3)
  have l1 := h.m1.log.row.lt
  have hbl : Below w0.heap.size w w' := hs.below h.m1.below.size (fun k hk => hk.elim (fun e => e ▸ h.m2.lo.2) (fun e => (h.m2.row.block e).1))
  refine ⟨⟨h.m1.log.keep (k2 b1 h.m1.log.lt h.ne h.o2) hc (fun k hk => k2 k (l1 k hk) (fun e => h.o1 (e ▸ hk)) (fun e => h.ap k hk e)), h.m1.ok, h.m1.lo, h.m1.own, h.m1.below.trans hbl⟩, h', ok, h.ne, h.o1, fun e => ?_, fun k hk e => ?_⟩
  · rcases ho _ e with h1 | h1
    · exact h.o2 h1
    · have := h.m1.log.lt; omega
  · rcases ho _ e with h1 | h1
    · exact h.ap k hk h1
    · have := l1 k hk; omega
theorem Append_duo (h : Duo w0 w b1 cv1 lv1 L1 b2 cv2 lv2 L2) (e : Ent) (ev : Value) (he : Nums .i64 w ev e.c) :
    Calls Try.prog 9 #[.pointer (some ⟨b1, 0, none⟩), entV e ev] w fun y w' => y = .returned (.int .i64 (appendE L1 e)) ∧ ∃ lv1', Duo w0 w' b1 cv1 lv1' (appendL L1 e) b2 cv2 lv2 L2 ∧ Stays (fun k => k = b1 ∨ lv1.ownBlock = some k) w w' ∧ Calms w0.heap.size w w' := by
  refine (Append_calls2 h.m1.log h.m1.ok e ev he).mono ?_
  rintro y w' ⟨rfl, lv', h1, h2, h3, h4, -⟩
  exact ⟨rfl, lv', h.step1 (h.m1.stays h1 (appendL_ok h.m1.ok h.m1.log.sz _).1 h2 h4) h2 h3 h4, h2, h3⟩
theorem rAppend_duo (h : Duo w0 w b1 cv1 lv1 L1 b2 cv2 lv2 L2) (e : Ent) (ev : Value) (he : Cf w0.heap.size w ev e.c) :
    Calls Try.prog 24 #[.pointer (some ⟨b2, 0, none⟩), entV e ev] w fun y w' => y = .returned (.int .i64 (appendE L2 e)) ∧ ∃ lv2', Duo w0 w' b1 cv1 lv1 L1 b2 cv2 lv2' (appendL L2 e) ∧ Stays (fun k => k = b2 ∨ lv2.ownBlock = some k) w w' := by
  refine (rAppend_calls h.m2 h.ok2 e ev he).mono ?_
  rintro y w' ⟨rfl, lv', h1, h2, h3, h4⟩
  exact ⟨rfl, lv', h.step2 h1 (appendL_ok h.ok2 h.m2.sz _).1 h2 h3 h4, h2⟩
theorem Duo.calms2 (h : Duo w0 w b1 cv1 lv1 L1 b2 cv2 lv2 L2) (hs : Stays (fun k => k = b2) w w') : Calms w0.heap.size w w' := Calms.stays hs (fun g hg _ => hg ▸ h.m2.loud)
theorem Store_duo (h : Duo w0 w b1 cv1 lv1 L1 b2 cv2 lv2 L2) (i t : Int) (hi : 0 ≤ i) (v : Value) (es : List Ent) (he : Ents w0.heap.size w v es) (hvb : ∀ k, v.ownBlock = some k → k < w.heap.size ∧ k ≠ b1) :
    Calls Try.prog 11 #[.pointer (some ⟨b1, 0, none⟩), .int .u64 i, .int .u64 t, v] w fun y w' => ∃ pv lv1', y = .returned (.tuple #[.int .u64 (storeAt L1 i t es), pv, .int .i64 (storeE L1 i t es)]) ∧ Row w0.heap.size w.heap.size w' pv (storePut L1 i t es) ∧ Duo w0 w' b1 cv1 lv1' (storeL L1 i t es) b2 cv2 lv2 L2 ∧ Stays (fun k => k = b1) w w' := by
  refine (Store_mine h.m1 i t hi v es he hvb).mono ?_
  rintro y w' ⟨pv, lv', rfl, h0, h1, h2, h3, -⟩
  exact ⟨pv, lv', rfl, h0, h.step1 h1 (stays_or h2) (h.m1.calms h2) h3, h2⟩
theorem rStore_duo (h : Duo w0 w b1 cv1 lv1 L1 b2 cv2 lv2 L2) (i t : Int) (hi : 0 ≤ i) (v : Value) (es : List Ent) (he : Ents w0.heap.size w v es) (hvb : 0 < es.length → ∀ k, v.ownBlock = some k → k < w0.heap.size) (hlen : es.length * 64 ≤ 140737488355328) :
    Calls Try.prog 25 #[.pointer (some ⟨b2, 0, none⟩), .int .u64 i, .int .u64 t, v] w fun y w' => ∃ pv lv2', y = .returned (.tuple #[.int .u64 (storeAt L2 i t es), pv, .int .i64 (storeE L2 i t es)]) ∧ Ents w0.heap.size w' pv (storePut L2 i t es) ∧ Duo w0 w' b1 cv1 lv1 L1 b2 cv2 lv2' (storeL L2 i t es) ∧ Stays (fun k => k = b2) w w' := by
  refine (rStore_calls h.m2 h.ok2 i t hi v es he hvb hlen).mono ?_
  rintro y w' ⟨pv, lv', rfl, h0, h1, h2, h3⟩
  exact ⟨pv, lv', rfl, h0, h.step2 h1 (storeL_ok h.ok2 h.m2.sz hi es).1 (stays_or h2) (h.calms2 h2) h3, h2⟩
theorem Compact_duo (h : Duo w0 w b1 cv1 lv1 L1 b2 cv2 lv2 L2) (x : Int) (hx : 0 ≤ x) :
    Calls Try.prog 12 #[.pointer (some ⟨b1, 0, none⟩), .int .u64 x] w fun y w' => y = .returned (.int .i64 (termAt L1 x).2) ∧ ∃ cv1' lv1', Duo w0 w' b1 cv1' lv1' (compactL L1 x) b2 cv2 lv2 L2 ∧ Stays (fun k => k = b1) w w' := by
  refine (Compact_mine h.m1 x hx).mono ?_
  rintro y w' ⟨rfl, cv', lv', h1, h2, h3⟩
  exact ⟨rfl, cv', lv', h.step1 h1 (stays_or h2) (h.m1.calms h2) h3, h2⟩
theorem rCompact_duo (h : Duo w0 w b1 cv1 lv1 L1 b2 cv2 lv2 L2) (x : Int) (hx : 0 ≤ x) :
    Calls Try.prog 26 #[.pointer (some ⟨b2, 0, none⟩), .int .u64 x] w fun y w' => y = .returned (.int .i64 (termAt L2 x).2) ∧ ∃ cv2' lv2', Duo w0 w' b1 cv1 lv1 L1 b2 cv2' lv2' (compactL L2 x) ∧ Stays (fun k => k = b2) w w' := by
  refine (rCompact_calls h.m2 h.ok2 x hx).mono ?_
  rintro y w' ⟨rfl, cv', lv', h1, h2, h3⟩
  exact ⟨rfl, cv', lv', h.step2 h1 (compactL_ok h.ok2 h.m2.sz x).1 (stays_or h2) (h.calms2 h2) h3, h2⟩
end
/-- The two start alike. -/
theorem Duo.start {w0 w w' : World} {b1 b2 : Nat} {cv1 cv2 : Value} {i t : Int} {c : List Int} (h : Mine w0 w b1 cv1 (.slice none 0 0) ⟨i, t, c, []⟩) (hb : Below w.heap.size w w') (h2 : RefAt w0.heap.size w.heap.size w' b2 cv2 (.slice none 0 0) ⟨i, t, c, []⟩) (hlo : w.heap.size ≤ b2) : Duo w0 w' b1 cv1 (.slice none 0 0) ⟨i, t, c, []⟩ b2 cv2 (.slice none 0 0) ⟨i, t, c, []⟩ :=
  ⟨h.then hb, ⟨h2.blk, h2.cf, RowO.nil _ _ _, h2.nb, ⟨Nat.le_refl _, Nat.le_trans h2.lo.1 h2.lo.2⟩, h2.sz⟩, h.ok, by have := h.log.lt; omega, fun e => (by cases e), fun e => (by cases e), fun _ e => (by cases e)⟩
end Go.Proofs.Ytkjfplkbgooflaa
