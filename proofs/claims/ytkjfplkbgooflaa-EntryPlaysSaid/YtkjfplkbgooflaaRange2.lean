/-
  A law for 'for .. := range f' whose body may call the yield of a loop further out: what the body keeps, and what the iterator keeps, by where it lies.
-/
import Derived.Test.YtkjfplkbgooflaaRange
namespace Go.Lx
open Go Go.RowKit
variable {F : Fence} {n : Nat} {P : Program}

/-- What is no cells, and lies where p says, is as it was. -/
def KeepsP (p : Nat → Prop) (A B : World) : Prop := A.heap.size ≤ B.heap.size ∧ ∀ k o, p k → A.heap[k]? = some o → o.isCells = false → B.heap[k]? = some o
theorem KeepsP.refl (p : Nat → Prop) (A : World) : KeepsP p A A := ⟨Nat.le_refl _, fun _ _ _ h _ => h⟩
theorem KeepsP.trans {p : Nat → Prop} {A B C : World} (h : KeepsP p A B) (k : KeepsP p B C) : KeepsP p A C := ⟨Nat.le_trans h.1 k.1, fun i o hi h1 h2 => k.2 i o hi (h.2 i o hi h1 h2) h2⟩
theorem KeepsP.sub {p q : Nat → Prop} {A B : World} (h : KeepsP p A B) (hq : ∀ k, q k → p k) : KeepsP q A B := ⟨h.1, fun i o hi => h.2 i o (hq i hi)⟩
theorem KeepsP.below {p : Nat → Prop} {A B : World} (h : Below A.heap.size A B) : KeepsP p A B := ⟨h.size, fun k o _ hk _ => (h.block k (Array.getElem?_eq_some_iff.1 hk).1).trans hk⟩
theorem KeepsP.put {p : Nat → Prop} {A : World} {L : Nat} (o : Obj) (hL : ¬ p L) : KeepsP p A (A.putObj L o) := ⟨by simp [World.putObj], fun k _ hk h _ => (World.putObj_heap_other (by rintro rfl; exact hL hk)).trans h⟩
theorem KeepsP.setCell (p : Nat → Prop) (A : World) (a : Addr) (v : Value) : KeepsP p A (A.setCell a v) := ⟨(KeepsOthers.setCell A a v).size, fun k o _ h1 h2 => (KeepsOthers.setCell A a v).same k o h1 h2⟩
/-- From N on all that was there is as it was. -/
def From (N : Nat) (A B : World) : Prop := A.heap.size ≤ B.heap.size ∧ ∀ k, N ≤ k → k < A.heap.size → B.heap[k]? = A.heap[k]?
theorem From.refl (N : Nat) (A : World) : From N A A := ⟨Nat.le_refl _, fun _ _ _ => rfl⟩
theorem From.trans {N : Nat} {A B C : World} (h : From N A B) (k : From N B C) : From N A C := ⟨Nat.le_trans h.1 k.1, fun i hi hl => (k.2 i hi (Nat.lt_of_lt_of_le hl h.1)).trans (h.2 i hi hl)⟩
theorem From.sub {N M : Nat} {A B : World} (h : From N A B) (hq : N ≤ M) : From M A B := ⟨h.1, fun i hi hl => h.2 i (Nat.le_trans hq hi) hl⟩
theorem From.below {N : Nat} {A B : World} (h : Below A.heap.size A B) : From N A B := ⟨h.size, fun k _ hk => h.block k hk⟩
theorem From.put {N : Nat} {A : World} {L : Nat} (o : Obj) (hL : L < N) : From N A (A.putObj L o) := ⟨by simp [World.putObj], fun k hk _ => World.putObj_heap_other (by omega)⟩
theorem From.setCell {N : Nat} (A : World) (a : Addr) (v : Value) (h : a.block < N) : From N A (A.setCell a v) := ⟨by simp, fun k hk _ => Below.heap_setCell _ _ _ _ (by omega)⟩
theorem From.cell {N : Nat} {A B : World} (h : From N A B) {a : Addr} {v : Value} (hN : N ≤ a.block) (hc : A.cell? a = some v) : B.cell? a = some v := by
  have hlt : a.block < A.heap.size := by
    rcases Nat.lt_or_ge a.block A.heap.size with h' | h'
    · exact h'
    · simp [World.cell?, Array.getElem?_eq_none h'] at hc
  unfold World.cell? at *
  rw [h.2 _ hN hlt]
  exact hc
def postN {α : Type} (p : Nat) (I : List α → World → Prop) (Ix : Code → List α → World → Prop) (xs : List α) (W : World) : Exit → Act → World → Prop
  | .normal, _, W' => From p W W' ∧ I xs W'
  | .ret, _, W' => From p W W' ∧ Ix .ret xs W'
  | .exit id, _, W' => From p W W' ∧ Ix (.exit id) xs W'
  | .goto t, _, W' => From p W W' ∧ Ix (.goto t) xs W'
  | .panic _, _, _ => False
  | .outgrown, _, _ => False

theorem rf_law2 {α : Type} {g : Operand} {ps : Array Tmp} {assign body : Code} {Q : Exit → Act → World → Prop} {a : Act} {w : World}
    (hro : F.round = none) (h1 : 1 ≤ n) {gf : Nat} {lb : Array Value} (hg : a.eval g = .func (.func gf) #[] lb) (hFg : F.fn gf) (eg : ∀ args w, (callFunc gf args).run P w = .ok (.enter gf args) w)
    (encs : α → Array Value) (hps : ∀ x, (encs x).size = ps.size) (C : List α → α → Prop)
    (I : List α → World → Prop) (Ix : Code → List α → World → Prop) (S : List α → Prop)
    (hI : ∀ pre W L o o', w.heap.size ≤ L → W.heap[L]? = some o → o.isCells = false → I pre W → I pre (W.putObj L o'))
    (hIx : ∀ c pre W L o o', w.heap.size ≤ L → W.heap[L]? = some o → o.isCells = false → Ix c pre W → Ix c pre (W.putObj L o'))
    (h0 : ∀ r, I [] (enteredWorld w r))
    (hiter : ∀ (l : Nat) (J Jx : List α → World → Prop) (W : World), Below w.heap.size w W → W.heap.size = w.heap.size + 2 → (∀ pre A, J pre A → I pre A) → (∀ pre A B, J pre A → KeepsP (· < W.heap.size) A B → I pre B → J pre B) →
      (∀ pre A B, Jx pre A → KeepsP (· < W.heap.size) A B → (∀ c, Ix c pre A → Ix c pre B) → Jx pre B) →
      (∀ pre x A, J pre A → C pre x → YieldAt F (n - 1 - 1) P l (encs x) A fun e B => From W.heap.size A B ∧ ((e = .returned (.bool true) ∧ J (pre ++ [x]) B) ∨ (e = .returned (.bool false) ∧ Jx (pre ++ [x]) B))) →
      J [] W → CallsIn F (n - 1) P gf (#[.func (.yield l) #[] #[]] ++ lb) W fun e W' => (∃ v, e = .returned v) ∧ ((∃ xs, S xs ∧ J xs W') ∨ (∃ pre, Jx pre W')))
    (hIg : ∀ pre A B, I pre A → Below A.heap.size A B → I pre B) (a₁ : α → World → Act) (wa : α → World → World) (hwa : ∀ x W, Below W.heap.size W (wa x W))
    (hassign : ∀ (l : Nat) (x : α) (W : World) (K : Act → World → Prop), K (a₁ x W) (wa x W) →
      assign.wpIn (F.inRound l) (n - 1 - 1) P (Exit.then K (fun _ _ _ => False)) { tmps := (ps.zip (encs x)).foldl (fun t (p, v) => t.setIfInBounds p v) a.tmps, defers := [] } W)
    (hbody : ∀ (l : Nat) (pre : List α) (x : α) (W0 W : World), I pre W → C pre x → w.heap.size + 2 ≤ W0.heap.size → W.heap.size = (wa x W0).heap.size → (∀ k, W0.heap.size ≤ k → W.heap[k]? = (wa x W0).heap[k]?) → body.wpIn (F.inRound l) (n - 1 - 1) P (postN w.heap.size I Ix (pre ++ [x]) W) (a₁ x W0) W)
    (hdone : ∀ (D : Nat) (xs : List α) (W : World), S xs → I xs W → W.heap[D]? = some (.deferred (some [])) → w.heap.size ≤ D → Q .normal { a with defers := { target := .collected D, args := #[] } :: a.defers } W)
    (hstop : ∀ (D : Nat) (c : Code) (pre : List α) (W : World), Ix c pre W → W.heap[D]? = some (.deferred (some [])) → w.heap.size ≤ D → c.wpIn F n P Q { a with defers := { target := .collected D, args := #[] } :: a.defers } W) :
    (Code.rangeFunc g ps assign body).wpIn F n P Q a w := by
  refine wpIn_rangeFunc fun fn hfn => ?_
  rw [hro]
  -- the record, by its two parts that change
  let R : LoopState → Option Code → Loop := fun st pe => { state := st, pending := pe, fn, tmps := a.tmps, params := ps, assign, body, defers := w.heap.size }
  let D := w.heap.size
  let L := w.heap.size + 1
  let J : List α → World → Prop := fun pre A => I pre A ∧ A.heap[L]? = some (.loop (R .ready none)) ∧ A.heap[D]? = some (.deferred (some []))
  let Jx : List α → World → Prop := fun pre A => ∃ c, Ix c pre A ∧ A.heap[L]? = some (.loop (R .done (some c))) ∧ A.heap[D]? = some (.deferred (some []))
  have eL : (enteredWorld w (R .ready none)).heap[L]? = some (.loop (R .ready none)) := by
    have := World.alloc_heap_new (w.alloc (.deferred (some []))) (.loop (R .ready none))
    rwa [World.size_alloc] at this
  have eD : (enteredWorld w (R .ready none)).heap[D]? = some (.deferred (some [])) :=
    (Below.heap_alloc _ _ _ (by simp [D])).trans (World.alloc_heap_new w _)
  have eB : Below w.heap.size w (enteredWorld w (R .ready none)) := ((Below.refl _ w).alloc (Nat.le_refl _) _).alloc (by simp) _
  have hne : D ≠ L := by simp only [D, L]; omega
  refine ⟨L, [{ target := .collected D, args := #[] }], enteredWorld w (R .ready none), { target := .fn (.func gf) lb, args := #[.func (.yield L) #[] #[]] }, enteredWorld w (R .ready none), gf,
    #[.func (.yield L) #[] #[]] ++ lb, enteredWorld w (R .ready none), run_enterLoop_outer _ _ _ _ _, ?_, ?_, ?_, fun _ => h1, ?_⟩
  · simp only [resolve, hg]; simp [go_sem]
  · intro f' hf'; simp [Target.leads] at hf'; subst hf'; exact hFg
  · simp [invoke, go_sem, eg]
  have eS : (enteredWorld w (R .ready none)).heap.size = w.heap.size + 2 := by simp [enteredWorld]
  refine (hiter L J Jx (enteredWorld w (R .ready none)) eB eS (fun _ _ h => h.1) (fun pre A B hj hk hi => ⟨hi, hk.2 _ _ (by rw [eS]; simp only [L]; omega) hj.2.1 rfl, hk.2 _ _ (by rw [eS]; simp only [D]; omega) hj.2.2 rfl⟩)
    (fun pre A B ⟨c, hx, hl, hd⟩ hk hc => ⟨c, hc c hx, hk.2 _ _ (by rw [eS]; simp only [L]; omega) hl rfl, hk.2 _ _ (by rw [eS]; simp only [D]; omega) hd rfl⟩) ?_ ⟨h0 _, eL, eD⟩).mono ?_
  · -- one round
    rintro pre x A ⟨hi, hl, hd⟩ hC
    have hltA : L < A.heap.size := (Array.getElem?_eq_some_iff.1 hl).1
    have hl' : (wa x A).heap[L]? = some (.loop (R .ready none)) := ((hwa x A).block _ hltA).trans hl
    have hd' : (wa x A).heap[D]? = some (.deferred (some [])) := ((hwa x A).block _ (Array.getElem?_eq_some_iff.1 hd).1).trans hd
    have hi' := hIg _ _ _ hi (hwa x A)
    refine ⟨fn, _, assign, body, run_yield hl (hps x), roundIn_of_wpIn hfn (hassign _ x A _ ⟨_, run_beginRound hl' rfl, ?_⟩)⟩
    have hlt : L < (wa x A).heap.size := (Array.getElem?_eq_some_iff.1 hl').1
    generalize hA2 : (wa x A).putObj L (.loop { R .ready none with state := .busy }) = A2
    have hl2 : A2.heap[L]? = some (.loop (R .busy none)) := by rw [← hA2]; exact World.putObj_heap_same hlt
    have hd2 : A2.heap[D]? = some (.deferred (some [])) := by rw [← hA2]; exact (World.putObj_heap_other hne).trans hd'
    have hi2 : I pre A2 := by rw [← hA2]; exact hI pre _ L _ _ (by simp only [L]; omega) hl' rfl hi'
    have close : ∀ (jump : Option Code) (B : World), From w.heap.size A2 B →
        (Instr.endRound L jump).run P B = .ok (.bool jump.isNone) (B.putObj L (.loop (R (if jump.isNone then .ready else .done) jump))) ∧
        B.heap[L]? = some (.loop (R .busy none)) ∧
        (B.putObj L (.loop (R (if jump.isNone then .ready else .done) jump))).heap[L]? = some (.loop (R (if jump.isNone then .ready else .done) jump)) ∧
        (B.putObj L (.loop (R (if jump.isNone then .ready else .done) jump))).heap[D]? = some (.deferred (some [])) := by
      intro jump B hk
      have hlB := (hk.2 L (by simp only [L]; omega) (Array.getElem?_eq_some_iff.1 hl2).1).trans hl2
      exact ⟨run_endRound jump hlB, hlB, World.putObj_heap_same (Array.getElem?_eq_some_iff.1 hlB).1, (World.putObj_heap_other hne).trans ((hk.2 D (Nat.le_refl _) (Array.getElem?_eq_some_iff.1 hd2).1).trans hd2)⟩
    refine wpIn_mono (hbody L pre x A A2 hi2 hC (by simp only [L] at hltA; omega) (by rw [← hA2]; simp [World.putObj]) (fun k hk => by rw [← hA2]; exact World.putObj_heap_other (by omega))) fun e a3 B hp => ?_
    have hLw : w.heap.size ≤ L := by simp only [L]; omega
    have hkA : From (enteredWorld w (R .ready none)).heap.size A A2 := by rw [← hA2]; exact (From.below (hwa x A)).trans (From.put _ (by rw [eS]; simp only [L]; omega))
    have kall : ∀ B (o : Obj), From w.heap.size A2 B → From (enteredWorld w (R .ready none)).heap.size A (B.putObj L o) := fun B o hk => (hkA.trans (hk.sub (by rw [eS]; omega))).trans (From.put _ (by rw [eS]; simp only [L]; omega))
    cases e with
    | normal =>
      obtain ⟨hr, hlB, hl3, hd3⟩ := close none B hp.1
      exact ⟨_, _, hr, kall _ _ hp.1, .inl ⟨rfl, hI _ B L _ _ hLw hlB rfl hp.2, hl3, hd3⟩⟩
    | ret =>
      obtain ⟨hr, hlB, hl3, hd3⟩ := close (some .ret) B hp.1
      exact ⟨_, _, hr, kall _ _ hp.1, .inr ⟨rfl, .ret, hIx _ _ B L _ _ hLw hlB rfl hp.2, hl3, hd3⟩⟩
    | exit id =>
      obtain ⟨hr, hlB, hl3, hd3⟩ := close (some (.exit id)) B hp.1
      exact ⟨_, _, hr, kall _ _ hp.1, .inr ⟨rfl, .exit id, hIx _ _ B L _ _ hLw hlB rfl hp.2, hl3, hd3⟩⟩
    | goto t =>
      obtain ⟨hr, hlB, hl3, hd3⟩ := close (some (.goto t)) B hp.1
      exact ⟨_, _, hr, kall _ _ hp.1, .inr ⟨rfl, .goto t, hIx _ _ B L _ _ hLw hlB rfl hp.2, hl3, hd3⟩⟩
    | panic ch => exact hp.elim
    | outgrown => exact hp.elim
  · -- behind the iterator
    have hLw : w.heap.size ≤ L := by simp only [L]; omega
    rintro e W2 ⟨⟨v, rfl⟩, (⟨xs, hS, hi, hl, hd⟩ | ⟨pre, c, hx, hl, hd⟩)⟩
    · exact ⟨none, _, run_endLoop hl (by simp [R]), hdone D xs _ hS (hI _ _ L _ _ hLw hl rfl hi) ((World.putObj_heap_other hne).trans hd) (Nat.le_refl _)⟩
    · exact ⟨some c, _, run_endLoop hl (by simp [R]), hstop D c pre _ (hIx _ _ _ L _ _ hLw hl rfl hx) ((World.putObj_heap_other hne).trans hd) (Nat.le_refl _)⟩
theorem roundIn_wide {n n' : Nat} {l : Nat} {f : FuncId} {tmps : Array Value} {assign body : Code} {w : World} {R : Ending → World → Prop} (h : RoundIn Fence.wide n P l f tmps assign body w R) : RoundIn Fence.wide n' P l f tmps assign body w R :=
  ⟨h.1, fun c cs _ => h.2 c cs (room_wide _)⟩
theorem yieldAt_wide {n n' : Nat} {l : Nat} {args : Array Value} {w : World} {R : Ending → World → Prop} (h : YieldAt Fence.wide n P l args w R) : YieldAt Fence.wide n' P l args w R := by
  obtain ⟨fn, tmps, assign, body, h1, h2⟩ := h
  exact ⟨fn, tmps, assign, body, h1, roundIn_wide h2⟩
end Go.Lx
