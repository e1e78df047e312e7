/-
  A conf that came in.
-/
import Derived.Test.YtkjfplkbgooflaaArgs
import Derived.Test.YtkjfplkbgooflaaConf
namespace Go.Proofs.Ytkjfplkbgooflaa
open Go.RowKit Go.Lst Go.ChangeShapes Go.WideShapes Go.Deep
section
variable {H : Type} {enc : TypeId × Value → H} {W : World} {base : Nat} {v : Value} {d : DataW H} {p : List MemPlace}
theorem open_conf (hv : Value.okWide Try.prog W .any base 28 v) (h : DataW.Trod enc Try.prog W 0 (fun _ => true) true 28 v d p) : ∃ xs, Nums .i64 W v xs :=
  nums_arg Try.underlying28 Try.underlying3 (by kernel_rfl) hv h
end
end Go.Proofs.Ytkjfplkbgooflaa
