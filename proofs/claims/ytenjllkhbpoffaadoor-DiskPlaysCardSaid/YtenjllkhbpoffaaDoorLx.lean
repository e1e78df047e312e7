/-
  Small lemmas that the walks share. No condition.
-/
import Derived.WalkKit
import Derived.KernelRfl
import Derived.RowKit3
import Derived.Deep.LoopGhost
import Derived.Lib.Hide
import Derived.Below
import Derived.Deep.QuietTactic
import Derived.BigQuiet
namespace Go.Lx
open Go Go.RowKit

theorem ret_str {a b : ByteArray} (h : a = b) : Ending.returned (.string a) = .returned (.string b) := by rw [h]
theorem ret_int {k : IntKind} {a b : Int} (h : a = b) : Ending.returned (.int k a) = .returned (.int k b) := by rw [h]

/-- One call behind another. -/
theorem bstep {B : Nat} {w w1 w2 : World} (h : Below B w w1) (hB : B ≤ w.heap.size) (k : Below w1.heap.size w1 w2) : Below B w w2 :=
  h.trans (k.mono (Nat.le_trans hB h.size))

theorem setRow_alloc (w : World) (cs cs' : Array Value) (t : TypeId) : (w.alloc (.cells cs t)).setRow w.heap.size cs' = w.alloc (.cells cs' t) := by
  unfold World.setRow World.alloc
  congr 1
  apply Array.ext
  · simp
  · intro i h1 h2
    simp only [Array.size_modify, Array.size_push] at h1
    simp only [Array.getElem_modify, Array.getElem_push]
    split
    · subst_vars; simp
    · rw [dif_pos (by omega), dif_pos (by omega)]

section
variable {P : Program}
theorem run_storeVar_row (w : World) (g : Nat) (t ty : TypeId) (cs cs' : Array Value) (hg : w.heap[g]? = some (.cells cs t (0, 0))) (hsz : cs.size = cs'.size)
    (hi : (P.info? ty).map (·.size) = some cs'.size) (h1 : ∀ v ∈ cs'.toList, v.oneCell' = true) :
    (storeVar ty ⟨g, 0, none⟩ (.agg cs')).run P w = .ok () (w.setRow g cs') := by
  cases hq : P.info? ty with
  | none => simp [hq] at hi
  | some i =>
    have hs : i.size = cs'.size := by simpa [hq] using hi
    have := run_storeCells_at (P := P) g 0 t cs'.toList 0 cs w hg (by simp [hsz]) h1
    have e : (cs.toList.take 0 ++ cs'.toList ++ cs.toList.drop (0 + cs'.toList.length)).toArray = cs' := by
      apply Array.ext'
      simp [hsz]
    simp only [Nat.add_zero, Nat.zero_add] at this e
    rw [e] at this
    simp [storeVar, Sem.run_bind, sizeOf, typeInfo, hq, hs, Value.cells, this]

theorem wpList_store_row {ops : Array Oper} {rest : List Oper} {o : Oper} {a : Act} {w : World} {Q : Exit → Act → World → Prop} (hgd : o.guard = none) (ty : TypeId) (x y : Operand) (ho : o.op = .store ty x y)
    (g : Nat) (hx : a.eval x = .pointer (some ⟨g, 0, none⟩)) (cs' : Array Value) (hy : a.eval y = .agg cs') (t : TypeId) (cs : Array Value) (hg : w.heap[g]? = some (.cells cs t (0, 0))) (hsz : cs.size = cs'.size)
    (hi : (P.info? ty).map (·.size) = some cs'.size) (h1 : ∀ v ∈ cs'.toList, v.oneCell' = true)
    (h : wpList P ops Q rest (a.put o.dst undef) (w.setRow g cs')) : wpList P ops Q (o :: rest) a w :=
  wpList_plain hgd fun K hK => by
    unfold Oper.wp execOp
    simp only [ho, hx, hy, Instr.storeAt, Instr.sureAddr, Sem.run_bind, Sem.run_pure, Result.andThen_ok, run_storeVar_row w g t ty cs cs' hg hsz hi h1]
    exact hK _ _ h
end

/-! A region that draws its order, whose callees make memory: one walk of the text's order, in whatever world lies behind. -/
def Ext (w : World) : Type := { w' : World // Below w.heap.size w w' }
instance (w : World) : Nonempty (Ext w) := ⟨⟨w, Below.refl _ _⟩⟩
def Ext.wo {w : World} (x : Ext w) : World := x.val
theorem Ext.below {w : World} (x : Ext w) : Below w.heap.size w x.wo := x.property

theorem below_drawn {B : Nat} {w w' : World} (n : Nat) (h : Below B (w.drewN n) w') : Below B w w' := ⟨h.os, h.tape, h.output, h.size, h.block⟩
theorem Ext.drawn {w : World} (n : Nat) (x : Ext (w.drewN n)) : Below w.heap.size w x.wo := below_drawn n x.property

section
variable {P : Program}
theorem wp_region_ext {id : Nat} {Q : Exit → Act → World → Prop} {a : Act} {w : World} {l : List Oper} (hm : P.follows .mixedOrders = true) (hB : Region.lexB .any l.toArray = true)
    (h : wpQuiet P l.toArray (fun w' => ∃ x : Ext w, w' = x.wo) (fun a' => ∀ w', (∃ x : Ext w, w' = x.wo) → Q .normal a' w') l a) : (Code.region id l.toArray true).wp P Q a w :=
  wp_region_quiet (C := fun w' => ∃ x : Ext w, w' = x.wo) hm hB ⟨⟨_, (Below.refl _ _).drew⟩, rfl⟩ (by simpa using h)
theorem ext_of {f : FuncId} {args : Array Value} {w : World} {x : Ext w} {v : Value}
    (h : Calls P f args x.wo fun e w' => e = .returned v ∧ Below x.wo.heap.size x.wo w') : Calls P f args x.wo fun e w'' => e = .returned v ∧ ∃ y : Ext w, w'' = y.wo :=
  h.mono fun _ w' ⟨he, hb⟩ => ⟨he, ⟨w', bstep x.below (Nat.le_refl _) hb⟩, rfl⟩
theorem ext_same {f : FuncId} {args : Array Value} {w : World} {x : Ext w} {v : Value}
    (h : Calls P f args x.wo fun e w' => e = .returned v ∧ x.wo = w') : Calls P f args x.wo fun e w'' => e = .returned v ∧ ∃ y : Ext w, w'' = y.wo :=
  h.mono fun _ w' ⟨he, hb⟩ => ⟨he, x, hb.symm⟩
end
theorem same_below {P : Program} {f : FuncId} {args : Array Value} {w : World} {v : Value} (h : Calls P f args w fun e w' => e = .returned v ∧ w = w') : Calls P f args w fun e w' => e = .returned v ∧ Below w.heap.size w w' :=
  h.mono fun _ _ ⟨he, hw⟩ => ⟨he, hw ▸ Below.refl _ _⟩
end Go.Lx
