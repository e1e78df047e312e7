/-
  A law for 'for .. := range f': the iterator is met with the caller's own invariant in sight. No condition.
-/
import Derived.RangeFuncMany
import Derived.RangeFuncNested
import Derived.RangeFuncLeaves
import Derived.RangeFuncCalls
namespace Go.Lx
open Go Go.RowKit
variable {F : Fence} {n : Nat} {P : Program}

/-- The world with the loop's record and the block for deferred calls. -/
def enteredWorld (w : World) (r : Loop) : World := (w.alloc (.deferred (some []))).alloc (.loop r)

theorem rf_law {α : Type} {g : Operand} {ps : Array Tmp} {assign body : Code} {Q : Exit → Act → World → Prop} {a : Act} {w : World}
    (hro : F.round = none) (h1 : 1 ≤ n) {gf : Nat} {lb : Array Value} (hg : a.eval g = .func (.func gf) #[] lb) (hFg : F.fn gf) (eg : ∀ args w, (callFunc gf args).run P w = .ok (.enter gf args) w)
    (encs : α → Array Value) (hps : ∀ x, (encs x).size = ps.size) (C : List α → α → Prop)
    (I : List α → World → Prop) (Ix : Code → List α → World → Prop) (Z : List α → World → Prop)
    (hI : ∀ pre W L o o', w.heap.size ≤ L → W.heap[L]? = some o → o.isCells = false → I pre W → I pre (W.putObj L o'))
    (hIx : ∀ c pre W L o o', w.heap.size ≤ L → W.heap[L]? = some o → o.isCells = false → Ix c pre W → Ix c pre (W.putObj L o'))
    (hZ : ∀ pre W L o o', w.heap.size ≤ L → W.heap[L]? = some o → o.isCells = false → Z pre W → Z pre (W.putObj L o'))
    (h0 : ∀ r, I [] (enteredWorld w r))
    (hiter : ∀ (l : Nat) (J Jx : List α → World → Prop) (W : World), Below w.heap.size w W → (∀ pre A, J pre A → I pre A) → (∀ pre A B, J pre A → KeepsOthers A B → I pre B → J pre B) →
      (∀ pre x A, J pre A → C pre x → YieldAt F (n - 1 - 1) P l (encs x) A fun e B => (e = .returned (.bool true) ∧ J (pre ++ [x]) B) ∨ (e = .returned (.bool false) ∧ Jx (pre ++ [x]) B)) →
      J [] W → CallsIn F (n - 1) P gf (#[.func (.yield l) #[] #[]] ++ lb) W fun e W' => (∃ v, e = .returned v) ∧ ((∃ W0 xs, J xs W0 ∧ KeepsOthers W0 W' ∧ Z xs W') ∨ (∃ pre, Jx pre W')))
    (a₁ : α → Act)
    (hassign : ∀ (l : Nat) (x : α) (W : World) (K : Act → World → Prop), K (a₁ x) W →
      assign.wpIn (F.inRound l) (n - 1 - 1) P (Exit.then K (fun _ _ _ => False)) { tmps := (ps.zip (encs x)).foldl (fun t (p, v) => t.setIfInBounds p v) a.tmps, defers := [] } W)
    (hbody : ∀ (l : Nat) (pre : List α) (x : α) (W : World), I pre W → C pre x → body.wpIn (F.inRound l) (n - 1 - 1) P (ownPost I Ix (pre ++ [x]) W) (a₁ x) W)
    (hdone : ∀ (D : Nat) (xs : List α) (W : World), Z xs W → W.heap[D]? = some (.deferred (some [])) → w.heap.size ≤ D → Q .normal { a with defers := { target := .collected D, args := #[] } :: a.defers } W)
    (hstop : ∀ (D : Nat) (c : Code) (pre : List α) (W : World), Ix c pre W → W.heap[D]? = some (.deferred (some [])) → w.heap.size ≤ D → c.wpIn F n P Q { a with defers := { target := .collected D, args := #[] } :: a.defers } W) :
    (Code.rangeFunc g ps assign body).wpIn F n P Q a w := by
  refine wpIn_rangeFunc fun fn hfn => ?_
  rw [hro]
  -- the record, by its two parts that change
  let R : LoopState → Option Code → Loop := fun st pe => { state := st, pending := pe, fn, tmps := a.tmps, params := ps, assign, body, defers := w.heap.size }
  let D := w.heap.size
  let L := w.heap.size + 1
  let J : List α → World → Prop := fun pre A => I pre A ∧ A.heap[L]? = some (.loop (R .ready none)) ∧ A.heap[D]? = some (.deferred (some []))
  let Jx : List α → World → Prop := fun pre A => ∃ c, Ix c pre A ∧ A.heap[L]? = some (.loop (R .done (some c))) ∧ A.heap[D]? = some (.deferred (some []))
  have eL : (enteredWorld w (R .ready none)).heap[L]? = some (.loop (R .ready none)) := by
    have := World.alloc_heap_new (w.alloc (.deferred (some []))) (.loop (R .ready none))
    rwa [World.size_alloc] at this
  have eD : (enteredWorld w (R .ready none)).heap[D]? = some (.deferred (some [])) :=
    (Below.heap_alloc _ _ _ (by simp [D])).trans (World.alloc_heap_new w _)
  have eB : Below w.heap.size w (enteredWorld w (R .ready none)) := ((Below.refl _ w).alloc (Nat.le_refl _) _).alloc (by simp) _
  have hne : D ≠ L := by simp only [D, L]; omega
  refine ⟨L, [{ target := .collected D, args := #[] }], enteredWorld w (R .ready none), { target := .fn (.func gf) lb, args := #[.func (.yield L) #[] #[]] }, enteredWorld w (R .ready none), gf,
    #[.func (.yield L) #[] #[]] ++ lb, enteredWorld w (R .ready none), run_enterLoop_outer _ _ _ _ _, ?_, ?_, ?_, fun _ => h1, ?_⟩
  · simp only [resolve, hg]; simp [go_sem]
  · intro f' hf'; simp [Target.leads] at hf'; subst hf'; exact hFg
  · simp [invoke, go_sem, eg]
  refine (hiter L J Jx (enteredWorld w (R .ready none)) eB (fun _ _ h => h.1) (fun pre A B hj hk hi => ⟨hi, hk.same _ _ hj.2.1 rfl, hk.same _ _ hj.2.2 rfl⟩) ?_ ⟨h0 _, eL, eD⟩).mono ?_
  · -- one round
    rintro pre x A ⟨hi, hl, hd⟩ hC
    refine ⟨fn, _, assign, body, run_yield hl (hps x), roundIn_of_wpIn hfn (hassign _ x A _ ⟨_, run_beginRound hl rfl, ?_⟩)⟩
    have hlt : L < A.heap.size := (Array.getElem?_eq_some_iff.1 hl).1
    generalize hA2 : A.putObj L (.loop { R .ready none with state := .busy }) = A2
    have hl2 : A2.heap[L]? = some (.loop (R .busy none)) := by rw [← hA2]; exact World.putObj_heap_same hlt
    have hd2 : A2.heap[D]? = some (.deferred (some [])) := by rw [← hA2]; exact (World.putObj_heap_other hne).trans hd
    have hi2 : I pre A2 := by rw [← hA2]; exact hI pre A L _ _ (by simp only [L]; omega) hl rfl hi
    have close : ∀ (jump : Option Code) (B : World), KeepsOthers A2 B →
        (Instr.endRound L jump).run P B = .ok (.bool jump.isNone) (B.putObj L (.loop (R (if jump.isNone then .ready else .done) jump))) ∧
        B.heap[L]? = some (.loop (R .busy none)) ∧
        (B.putObj L (.loop (R (if jump.isNone then .ready else .done) jump))).heap[L]? = some (.loop (R (if jump.isNone then .ready else .done) jump)) ∧
        (B.putObj L (.loop (R (if jump.isNone then .ready else .done) jump))).heap[D]? = some (.deferred (some [])) := by
      intro jump B hk
      have hlB := hk.same _ _ hl2 rfl
      exact ⟨run_endRound jump hlB, hlB, World.putObj_heap_same (Array.getElem?_eq_some_iff.1 hlB).1, (World.putObj_heap_other hne).trans (hk.same _ _ hd2 rfl)⟩
    refine wpIn_mono (hbody L pre x A2 hi2 hC) fun e a3 B hp => ?_
    have hLw : w.heap.size ≤ L := by simp only [L]; omega
    cases e with
    | normal =>
      obtain ⟨hr, hlB, hl3, hd3⟩ := close none B hp.1
      exact ⟨_, _, hr, .inl ⟨rfl, hI _ B L _ _ hLw hlB rfl hp.2, hl3, hd3⟩⟩
    | ret =>
      obtain ⟨hr, hlB, hl3, hd3⟩ := close (some .ret) B hp.1
      exact ⟨_, _, hr, .inr ⟨rfl, .ret, hIx _ _ B L _ _ hLw hlB rfl hp.2, hl3, hd3⟩⟩
    | exit id =>
      obtain ⟨hr, hlB, hl3, hd3⟩ := close (some (.exit id)) B hp.1
      exact ⟨_, _, hr, .inr ⟨rfl, .exit id, hIx _ _ B L _ _ hLw hlB rfl hp.2, hl3, hd3⟩⟩
    | goto t =>
      obtain ⟨hr, hlB, hl3, hd3⟩ := close (some (.goto t)) B hp.1
      exact ⟨_, _, hr, .inr ⟨rfl, .goto t, hIx _ _ B L _ _ hLw hlB rfl hp.2, hl3, hd3⟩⟩
    | panic ch => exact hp.elim
    | outgrown => exact hp.elim
  · -- behind the iterator
    have hLw : w.heap.size ≤ L := by simp only [L]; omega
    rintro e W2 ⟨⟨v, rfl⟩, (⟨W0, xs, hj, hk, hz⟩ | ⟨pre, c, hx, hl, hd⟩)⟩
    · have hl := hk.same _ _ hj.2.1 rfl
      have hd := hk.same _ _ hj.2.2 rfl
      exact ⟨none, _, run_endLoop hl (by simp [R]), hdone D xs _ (hZ _ _ L _ _ hLw hl rfl hz) ((World.putObj_heap_other hne).trans hd) (Nat.le_refl _)⟩
    · exact ⟨some c, _, run_endLoop hl (by simp [R]), hstop D c pre _ (hIx _ _ _ L _ _ hLw hl rfl hx) ((World.putObj_heap_other hne).trans hd) (Nat.le_refl _)⟩
end Go.Lx
