/-
  A region that draws its order, of operations that only read, in a round of a range over a function: one walk of the text's order serves every order. No project text.
-/
import Derived.Test.YtkjfplkbgooflaaChain
import Derived.OrdersIn
import Derived.TacticsIn
namespace Go.Lx
open Go Go.RowKit
section
variable {P : Program} {ops : Array Oper} {md : Region.Mode} {C : World → Prop} {F : Nat → Prop} {r n : Nat}

theorem wpOpIn_of_cOp {lo : Nat → Nat} {kp : Nat → Bool} (hlo : ∀ i, lo i = 0) {i : Nat} {a : Act} {S : World → Prop} {K : (World → Prop) → Act → Prop} {K' : Act → World → Prop} {Q' : Exit → Act → World → Prop} {w : World} (hC : C w) (hS : S w)
    (h : ∀ S' a' w', C w' → S' w' → K S' a' → K' a' w') (hh : cOp P ops C F lo kp i S K a) : wpOpIn (Fence.wide.inRound r) n P ops Q' i K' a w := by
  unfold cOp at hh
  unfold wpOpIn
  split
  · rename_i ho; simp only [ho] at hh; exact h _ _ _ hC hS hh
  · rename_i o ho
    simp only [ho] at hh
    obtain ⟨V, N, hT, hK⟩ := hh
    cases hT with
    | skip hw hV hN =>
      subst hV hN
      rw [if_neg (by rw [hw]; exact Bool.false_ne_true)]
      exact ⟨fun _ _ => trivial, h _ _ _ hC hS (hK _ rfl)⟩
    | light hw hl v hv hV hN =>
      subst hV hN
      rw [if_pos hw]
      refine ⟨fun _ _ => trivial, ?_⟩
      have h1 := hv.2 w hC
      unfold Oper.quietAt at h1
      rw [Oper.semAt_eq _ _ _ (fun c hc => by have := hv.1; rw [hc] at this; cases this)]
      cases hr : (execOp a.eval o).run P w with
      | halt x w' => rw [hr] at h1; exact h1.elim
      | ok m w' =>
        rw [hr] at h1
        cases m <;> simp only [Oper.quietUpon] at h1
        case value u => obtain ⟨e1, e2⟩ := h1; rw [e1, e2, Oper.uponIn_value]; exact h _ _ _ hC hS (hK _ rfl)
        case skip => obtain ⟨e1, e2⟩ := h1; rw [Oper.uponIn_skip, e1, ← e2]; exact h _ _ _ hC hS (hK _ rfl)
        case enter f args => exact absurd hr (no_enter hv.1 w f args w')
    | loud _ hl _ _ _ => rw [hlo] at hl; cases hl
    | fresh _ hl _ _ _ _ _ _ _ => rw [hlo] at hl; cases hl
theorem wpAnyIn_of_anyC {lo : Nat → Nat} {kp : Nat → Bool} (hlo : ∀ i, lo i = 0) {Q : (World → Prop) → Act → Prop} {Q' : Exit → Act → World → Prop} (hQ : ∀ S a w, C w → S w → Q S a → Q' .normal a w) : ∀ (fuel : Nat) (listed : Array Bool) (S : World → Prop) (a : Act) (w : World), C w → S w →
    anyC P md ops C F lo kp Q fuel listed S a → wpAnyIn (Fence.wide.inRound r) n P md ops Q' fuel listed a w
  | 0, _, _, _, _, hw, hs, h => ⟨h.1, hQ _ _ _ hw hs h.2⟩
  | fuel + 1, _, _, _, _, hw, hs, h => ⟨fun h0 => hQ _ _ _ hw hs (h.1 h0), fun i hi => wpOpIn_of_cOp hlo hw hs (fun S' a' w' hw' hs' => wpAnyIn_of_anyC hlo hQ fuel _ S' a' w' hw' hs') (h.2 i hi)⟩
theorem wpIn_region_light {id : Nat} {Q : Exit → Act → World → Prop} {a : Act} {w : World} {l : List Oper} (C : World → Prop) (hm : P.follows .mixedOrders = true) (hB : Region.lexB .any l.toArray = true) (hC : C w.drew)
    (h : wpCh P l.toArray C (fun _ => False) [] [] (fun _ a' => ∀ w', C w' → Q .normal a' w') l 0 (fun _ => True) a) : (Code.region id l.toArray true).wpIn (Fence.wide.inRound r) n P Q a w := by
  simp only [Region.lexB, Bool.and_eq_true] at hB
  refine wpIn_region_any hm (wpAnyIn_of_anyC (F := fun _ => False) (lo := kindOf [] []) (kp := fun _ => false) (fun i => by simp [kindOf]) (Q := fun _ a' => ∀ w', C w' → Q .normal a' w') (fun S' _ w' hw' hs' h => h w' hw') _ _ (fun _ => True) _ _ hC trivial ?_)
  have := anyC_lex (C := C) (F := fun _ => False) (md := .any) (L := []) (M := []) hB.1 rfl rfl l 0 (Array.replicate l.toArray.size false) (fun _ => True) a (by simp) (by simpa using hB.2) (fun j oj _ hl => by
    simp only [Array.getD_eq_getD_getElem?, Array.getElem?_replicate] at hl
    split at hl <;> simp at hl) (fun j hj => by omega) ⟨_, hC, trivial⟩ h
  simpa using this
end
end Go.Lx
