/-
  A disk and the reference's, beside blocks that neither owns.
-/
import Derived.Test.YtenjllkhbpoffaaDoorDrOps
import Derived.Test.YtenjllkhbpoffaaDoorDrMore
import Derived.Test.YtenjllkhbpoffaaDoorDrCrash
namespace Go.Proofs.YtenjllkhbpoffaaDoor
open Go Go.Maps Go.WideMaps Go.Dsk Go.Lx Go.Lst Go.RowKit

def Pl (w0 A : World) (X : Nat → Prop) (d r : Nat) (M N : DM) : Prop := ∃ Od Or, Dk A Od d M ∧ Rf A Or r N ∧ (∀ k, Od k → ¬ Or k) ∧ (∀ k, Od k ∨ Or k → w0.heap.size ≤ k ∧ ¬ X k) ∧ (∀ k, X k → k < A.heap.size) ∧ Below w0.heap.size w0 A
section
variable {w0 A A' : World} {X : Nat → Prop} {d r : Nat} {M N M1 N1 : DM}
theorem Pl.below (h : Pl w0 A X d r M N) : Below w0.heap.size w0 A := by
  obtain ⟨Od, Or, h1, h2, h3, h4, h5, h6⟩ := h
  exact h6
theorem Pl.then (h : Pl w0 A X d r M N) (hb : Below A.heap.size A A') : Pl w0 A' X d r M N := by
  obtain ⟨Od, Or, h1, h2, h3, h4, h5, h6⟩ := h
  exact ⟨Od, Or, h1.below hb, h2.below hb, h3, h4, fun k hk => Nat.lt_of_lt_of_le (h5 k hk) hb.size, Lx.bstep h6 (Nat.le_refl _) hb⟩
theorem Pl.okd (h : Pl w0 A X d r M N) : DOk M := by
  obtain ⟨Od, Or, h1, -⟩ := h
  exact h1.ok
theorem Pl.drop (h : Pl w0 A X d r M N) : Pl w0 A (fun _ => False) d r M N := by
  obtain ⟨Od, Or, h1, h2, h3, h4, h5, h6⟩ := h
  exact ⟨Od, Or, h1, h2, h3, fun k hk => ⟨(h4 k hk).1, id⟩, fun _ h => h.elim, h6⟩
theorem Pl.alloc (h : Pl w0 A (fun _ => False) d r M N) (o : Obj) : Pl w0 (A.alloc o) (fun k => k = A.heap.size) d r M N := by
  obtain ⟨Od, Or, h1, h2, h3, h4, h5, h6⟩ := h.then ((Below.refl A.heap.size A).alloc (Nat.le_refl _) o)
  obtain ⟨Od', Or', g1, g2, g3, g4, -, -⟩ := h
  have hb : Below A.heap.size A (A.alloc o) := (Below.refl _ _).alloc (Nat.le_refl _) o
  exact ⟨Od', Or', g1.below hb, g2.below hb, g3, fun k hk => ⟨(g4 k hk).1, fun e => by
    have : k < A.heap.size := hk.elim (g1.lo k) (g2.lo k)
    omega⟩, fun k hk => by subst hk; simp, h6⟩
/-- The disk's call. -/
theorem Pl.dop (h : Pl w0 A X d r M N) {P : Program} {f : FuncId} {args : Array Value} {Qe : Ending → Prop} (hop : ∀ Od, Dk A Od d M → Calls P f args A fun e w' => Qe e ∧ Dk w' (Gr Od A w') d M1 ∧ Stays Od A w') :
    Calls P f args A fun e w' => Qe e ∧ Pl w0 w' X d r M1 N ∧ ∀ k, X k → w'.heap[k]? = A.heap[k]? := by
  obtain ⟨Od, Or, h1, h2, h3, h4, h5, h6⟩ := h
  refine (hop Od h1).mono ?_
  rintro e w' ⟨he, g1, g2⟩
  have a0 := h6.size
  have a1 := g2.size
  refine ⟨he, ⟨Gr Od A w', Or, g1, h2.keep (fun k hk => g2.block k (h2.lo k hk) (fun e => h3 k e hk)) a1, fun k hk ho => ?_, fun k hk => ?_, fun k hk => Nat.lt_of_lt_of_le (h5 k hk) a1, g2.under h6 (fun k hk => (h4 k (.inl hk)).1)⟩, fun k hk => g2.block k (h5 k hk) (fun e => (h4 k (.inl e)).2 hk)⟩
  · exact hk.elim (fun e => h3 k e ho) (fun e => by have := h2.lo k ho; omega)
  · rcases hk with (hk | hk) | hk
    · exact h4 k (.inl hk)
    · exact ⟨by omega, fun e => by have := h5 k e; omega⟩
    · exact h4 k (.inr hk)
/-- The reference's. -/
theorem Pl.rop (h : Pl w0 A X d r M N) {P : Program} {f : FuncId} {args : Array Value} {Qe : Ending → Prop} (hop : ∀ Or, Rf A Or r N → Calls P f args A fun e w' => Qe e ∧ Rf w' (Gr Or A w') r N1 ∧ Stays Or A w') :
    Calls P f args A fun e w' => Qe e ∧ Pl w0 w' X d r M N1 ∧ ∀ k, X k → w'.heap[k]? = A.heap[k]? := by
  obtain ⟨Od, Or, h1, h2, h3, h4, h5, h6⟩ := h
  refine (hop Or h2).mono ?_
  rintro e w' ⟨he, g1, g2⟩
  have a0 := h6.size
  have a1 := g2.size
  refine ⟨he, ⟨Od, Gr Or A w', h1.keep (fun k hk => g2.block k (h1.lo k hk) (fun e => h3 k hk e)) a1, g1, fun k hk ho => ?_, fun k hk => ?_, fun k hk => Nat.lt_of_lt_of_le (h5 k hk) a1, g2.under h6 (fun k hk => (h4 k (.inr hk)).1)⟩, fun k hk => g2.block k (h5 k hk) (fun e => (h4 k (.inr e)).2 hk)⟩
  · exact ho.elim (fun e => h3 k hk e) (fun e => by have := h1.lo k hk; omega)
  · rcases hk with hk | (hk | hk)
    · exact h4 k (.inl hk)
    · exact h4 k (.inr hk)
    · exact ⟨by omega, fun e => by have := h5 k e; omega⟩
end
end Go.Proofs.YtenjllkhbpoffaaDoor
