/-
  No cell of these rows narrows 'for every input' (looked for: loops, veiled, ifaces, maps, wideKeys, modest, calm, conditions, laid).
  DERIVED. THE GIVEN ROWS OF THIS SEAT. 5 by the template 'for every input the law returns true; each argument reads behind the call as it read before'; 0 by the template 'total and deterministic' (their statements: YtkjfplkbgooflaaTotals.lean).
  GIVEN WITH THE SEED: the statements are not yours to turn. If you find one false, say at which input.
  Laid BY PROGRAM, IN A SANDBOX (cutbox-rows.mjs): the forced cells as the released guide's own fill.sh prints them over the translation b71e4285a075ee0d… (all of the seat's roots in one cut). By AI agents, Wed Nov 11 2026. No macro, syntax, notation, axiom, sorry.
-/
import Derived.Test.YtkjfplkbgooflaaChecked
import GoSem.Claim
import GoSem.ClaimJoined
import GoSem.ClaimMapViews
import Derived.JoinedTies
import Derived.KernelRfl
namespace Go.Proofs.Ytkjfplkbgooflaa
/- THE CELL 'sum', in the pinned program and in every row, IS THE sha256 OF THE DUMP (.gsa) THAT YtkjfplkbgooflaaProg.lean LOADS. Nothing in Lean hashes anything: it is a label: what it is worth is what the hold of that sum in a sandbox is worth. -/
noncomputable def Try.pinned : Pinned := { name := "ytkjfplkbgooflaa", sum := "b71e4285a075ee0d91551fc62a394d0d26248087d43669ca0a35614d2021ec03", checked := Try.checked }
namespace Rows
def none {H : Type} : Left H := { results := [], args := [] }

/-- 'codicillaw26.EntryFull': WHATEVER THE INPUT: true; the input reads as it did. -/
def entryFullSpec : ChangeSpec := { name := "entryFull", fn := fun _ => fun
  | [d1, d2] => { results := [.lit (.bool true)], args := [d1, d2] }
  | _ => none }
def entryFullRow : OpenClaim := { program := "ytkjfplkbgooflaa", sum := "b71e4285a075ee0d91551fc62a394d0d26248087d43669ca0a35614d2021ec03", func := "codicil/codicillaw26.EntryFull", spec := "entryFull", unfollowed := true, recurses := true, apart := false }
def EntryFullSaid : Prop := entryFullRow.holds Try.pinned (OpenSpec.ofChange entryFullSpec)

/-- ITS FALSE NEIGHBOUR: 'it returns false'. Refute it at one input. -/
def entryFullWrong : ChangeSpec := { name := "entryFull", fn := fun _ => fun
  | [d1, d2] => { results := [.lit (.bool false)], args := [d1, d2] }
  | _ => none }
def EntryFullWrongFalsely : Prop := entryFullRow.holds Try.pinned (OpenSpec.ofChange entryFullWrong)

/-- 'codicillaw26.EntryStores': WHATEVER THE INPUT: true; the input reads as it did. -/
def entryStoresSpec : ChangeSpec := { name := "entryStores", fn := fun _ => fun
  | [d1, d2, d3, d4] => { results := [.lit (.bool true)], args := [d1, d2, d3, d4] }
  | _ => none }
def entryStoresRow : OpenClaim := { program := "ytkjfplkbgooflaa", sum := "b71e4285a075ee0d91551fc62a394d0d26248087d43669ca0a35614d2021ec03", func := "codicil/codicillaw26.EntryStores", spec := "entryStores", unfollowed := true, recurses := true, apart := false }
def EntryStoresSaid : Prop := entryStoresRow.holds Try.pinned (OpenSpec.ofChange entryStoresSpec)

/-- ITS FALSE NEIGHBOUR: 'it returns false'. Refute it at one input. -/
def entryStoresWrong : ChangeSpec := { name := "entryStores", fn := fun _ => fun
  | [d1, d2, d3, d4] => { results := [.lit (.bool false)], args := [d1, d2, d3, d4] }
  | _ => none }
def EntryStoresWrongFalsely : Prop := entryStoresRow.holds Try.pinned (OpenSpec.ofChange entryStoresWrong)

/-- 'codicillaw26.EntryPlays': WHATEVER THE INPUT: true; the input reads as it did. -/
def entryPlaysSpec : ChangeSpec := { name := "entryPlays", fn := fun _ => fun
  | [d1, d2, d3, d4] => { results := [.lit (.bool true)], args := [d1, d2, d3, d4] }
  | _ => none }
def entryPlaysRow : OpenClaim := { program := "ytkjfplkbgooflaa", sum := "b71e4285a075ee0d91551fc62a394d0d26248087d43669ca0a35614d2021ec03", func := "codicil/codicillaw26.EntryPlays", spec := "entryPlays", unfollowed := true, recurses := true, apart := false }
def EntryPlaysSaid : Prop := entryPlaysRow.holds Try.pinned (OpenSpec.ofChange entryPlaysSpec)

/-- ITS FALSE NEIGHBOUR: 'it returns false'. Refute it at one input. -/
def entryPlaysWrong : ChangeSpec := { name := "entryPlays", fn := fun _ => fun
  | [d1, d2, d3, d4] => { results := [.lit (.bool false)], args := [d1, d2, d3, d4] }
  | _ => none }
def EntryPlaysWrongFalsely : Prop := entryPlaysRow.holds Try.pinned (OpenSpec.ofChange entryPlaysWrong)

/-- 'codicillaw26.EntryCompacts': WHATEVER THE INPUT: true; the input reads as it did. -/
def entryCompactsSpec : ChangeSpec := { name := "entryCompacts", fn := fun _ => fun
  | [d1, d2] => { results := [.lit (.bool true)], args := [d1, d2] }
  | _ => none }
def entryCompactsRow : OpenClaim := { program := "ytkjfplkbgooflaa", sum := "b71e4285a075ee0d91551fc62a394d0d26248087d43669ca0a35614d2021ec03", func := "codicil/codicillaw26.EntryCompacts", spec := "entryCompacts", unfollowed := true, recurses := true, apart := false }
def EntryCompactsSaid : Prop := entryCompactsRow.holds Try.pinned (OpenSpec.ofChange entryCompactsSpec)

/-- ITS FALSE NEIGHBOUR: 'it returns false'. Refute it at one input. -/
def entryCompactsWrong : ChangeSpec := { name := "entryCompacts", fn := fun _ => fun
  | [d1, d2] => { results := [.lit (.bool false)], args := [d1, d2] }
  | _ => none }
def EntryCompactsWrongFalsely : Prop := entryCompactsRow.holds Try.pinned (OpenSpec.ofChange entryCompactsWrong)

/-- 'codicillaw26.EntryNone': WHATEVER THE INPUT: true; the input reads as it did. -/
def entryNoneSpec : ChangeSpec := { name := "entryNone", fn := fun _ => fun
  | [d1, d2] => { results := [.lit (.bool true)], args := [d1, d2] }
  | _ => none }
def entryNoneRow : OpenClaim := { program := "ytkjfplkbgooflaa", sum := "b71e4285a075ee0d91551fc62a394d0d26248087d43669ca0a35614d2021ec03", func := "codicil/codicillaw26.EntryNone", spec := "entryNone", unfollowed := true, recurses := true, apart := false }
def EntryNoneSaid : Prop := entryNoneRow.holds Try.pinned (OpenSpec.ofChange entryNoneSpec)

/-- ITS FALSE NEIGHBOUR: 'it returns false'. Refute it at one input. -/
def entryNoneWrong : ChangeSpec := { name := "entryNone", fn := fun _ => fun
  | [d1, d2] => { results := [.lit (.bool false)], args := [d1, d2] }
  | _ => none }
def EntryNoneWrongFalsely : Prop := entryNoneRow.holds Try.pinned (OpenSpec.ofChange entryNoneWrong)

/- THE SECOND FORM. 'bulk': how many values and letters a reading holds, each counted each time it is reached (what is shared counts as often as it is met; a slice's spare places count too). A statement '..UptoSaid' is the law's where the arguments, and the package variables that the reading takes, are together of bulk at most 1048576: NARROWER than '..Said'. Prove '..Said' where nothing that the law and all that it calls make is longer than what came in: it says more and counts as full. Else prove '..UptoSaid'. A law counts once. -/
mutual
def uptoBulk {H : Type} : DataW H → Nat
  | .lit (.string bytes) => bytes.length + 1
  | .lit _ => 1
  | .nil => 1
  | .ptr d => uptoBulk d + 1
  | .slice elems spare => uptoBulkAll elems + uptoBulkAll spare + 1
  | .agg parts => uptoBulkAll parts + 1
  | .iface _ d => uptoBulk d + 1
  | .map entries => uptoBulkEntries entries + 1
  | .held _ => 1
def uptoBulkAll {H : Type} : List (DataW H) → Nat
  | [] => 0
  | d :: r => uptoBulk d + uptoBulkAll r
def uptoBulkEntries {H : Type} : List (Lit × DataW H) → Nat
  | [] => 0
  | x :: r => uptoBulkEntry x + uptoBulkEntries r
def uptoBulkEntry {H : Type} : Lit × DataW H → Nat
  | (.string bytes, d) => bytes.length + uptoBulk d + 1
  | (_, d) => uptoBulk d + 1
 end
def uptoSmall : (H : Type) → List (DataW H) → Bool := fun _ ds => decide (uptoBulkAll ds ≤ 1048576)
def OpenSpec.upto (s : _root_.Go.ChangeSpec) : _root_.Go.OpenSpec := { _root_.Go.OpenSpec.ofChange s with cond := some uptoSmall }

/-- 'codicillaw26.EntryFull', WHERE WHAT IT READS IS OF BULK AT MOST 1048576: true; the input reads as it did. -/
def entryFullUptoRow : OpenClaim := { program := "ytkjfplkbgooflaa", sum := "b71e4285a075ee0d91551fc62a394d0d26248087d43669ca0a35614d2021ec03", func := "codicil/codicillaw26.EntryFull", spec := "entryFull", unfollowed := true, recurses := true, apart := false, narrowed := true }
def EntryFullUptoSaid : Prop := entryFullUptoRow.holds Try.pinned (OpenSpec.upto entryFullSpec)

/-- 'codicillaw26.EntryStores', WHERE WHAT IT READS IS OF BULK AT MOST 1048576: true; the input reads as it did. -/
def entryStoresUptoRow : OpenClaim := { program := "ytkjfplkbgooflaa", sum := "b71e4285a075ee0d91551fc62a394d0d26248087d43669ca0a35614d2021ec03", func := "codicil/codicillaw26.EntryStores", spec := "entryStores", unfollowed := true, recurses := true, apart := false, narrowed := true }
def EntryStoresUptoSaid : Prop := entryStoresUptoRow.holds Try.pinned (OpenSpec.upto entryStoresSpec)

/-- 'codicillaw26.EntryPlays', WHERE WHAT IT READS IS OF BULK AT MOST 1048576: true; the input reads as it did. -/
def entryPlaysUptoRow : OpenClaim := { program := "ytkjfplkbgooflaa", sum := "b71e4285a075ee0d91551fc62a394d0d26248087d43669ca0a35614d2021ec03", func := "codicil/codicillaw26.EntryPlays", spec := "entryPlays", unfollowed := true, recurses := true, apart := false, narrowed := true }
def EntryPlaysUptoSaid : Prop := entryPlaysUptoRow.holds Try.pinned (OpenSpec.upto entryPlaysSpec)

/-- 'codicillaw26.EntryCompacts', WHERE WHAT IT READS IS OF BULK AT MOST 1048576: true; the input reads as it did. -/
def entryCompactsUptoRow : OpenClaim := { program := "ytkjfplkbgooflaa", sum := "b71e4285a075ee0d91551fc62a394d0d26248087d43669ca0a35614d2021ec03", func := "codicil/codicillaw26.EntryCompacts", spec := "entryCompacts", unfollowed := true, recurses := true, apart := false, narrowed := true }
def EntryCompactsUptoSaid : Prop := entryCompactsUptoRow.holds Try.pinned (OpenSpec.upto entryCompactsSpec)

/-- 'codicillaw26.EntryNone', WHERE WHAT IT READS IS OF BULK AT MOST 1048576: true; the input reads as it did. -/
def entryNoneUptoRow : OpenClaim := { program := "ytkjfplkbgooflaa", sum := "b71e4285a075ee0d91551fc62a394d0d26248087d43669ca0a35614d2021ec03", func := "codicil/codicillaw26.EntryNone", spec := "entryNone", unfollowed := true, recurses := true, apart := false, narrowed := true }
def EntryNoneUptoSaid : Prop := entryNoneUptoRow.holds Try.pinned (OpenSpec.upto entryNoneSpec)

end Rows
end Go.Proofs.Ytkjfplkbgooflaa
