/-
  What []int8 holds.
-/
import Derived.Test.YtjjdfhokmiaekaaElArgs
namespace Go.Proofs.Ytjjdfhokmiaekaa
open Go.ChangeShapes Go.WideShapes Go.RowKit Go.Lst Go.Lx
section
variable {H : Type} {enc : TypeId × Value → H} {W : World} {base : Nat} {v : Value} {d : DataW H} {p : List MemPlace}
set_option maxRecDepth 100000 in
theorem open_nums8 (hv : Value.okWide Try.prog W .any base 100 v) (h : DataW.Trod enc Try.prog W 0 (fun _ => true) true 100 v d p) : ∃ xs, Nums .i8 W v xs :=
  nums_arg Try.underlying100 Try.underlying102 (by kernel_rfl) hv h
end
end Go.Proofs.Ytjjdfhokmiaekaa
