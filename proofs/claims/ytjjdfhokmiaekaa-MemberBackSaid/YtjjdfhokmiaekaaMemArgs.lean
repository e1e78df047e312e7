/-
  What []uint64 holds.
-/
import Derived.Test.YtjjdfhokmiaekaaElArgs
namespace Go.Proofs.Ytjjdfhokmiaekaa
open Go.ChangeShapes Go.WideShapes Go.RowKit Go.Lst Go.Lx
section
variable {H : Type} {enc : TypeId × Value → H} {W : World} {base : Nat} {v : Value} {d : DataW H} {p : List MemPlace}
set_option maxRecDepth 100000 in
theorem open_nums64 (hv : Value.okWide Try.prog W .any base 48 v) (h : DataW.Trod enc Try.prog W 0 (fun _ => true) true 48 v d p) : ∃ xs, Nums .u64 W v xs :=
  nums_arg Try.underlying48 Try.underlying32 (by kernel_rfl) hv h
end
end Go.Proofs.Ytjjdfhokmiaekaa
