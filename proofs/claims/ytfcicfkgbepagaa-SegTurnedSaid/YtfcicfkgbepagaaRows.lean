/-
  No cell of these rows narrows 'for every input' (looked for: loops, veiled, ifaces, maps, wideKeys, modest, calm, conditions, laid).
  DERIVED. THE GIVEN ROWS OF THIS SEAT. 7 by the template 'for every input the law returns true; each argument reads behind the call as it read before'; 0 by the template 'total and deterministic' (their statements: YtfcicfkgbepagaaTotals.lean).
  GIVEN WITH THE SEED: the statements are not yours to turn. If you find one false, say at which input.
  Laid BY PROGRAM, IN A SANDBOX (cutbox-rows.mjs): the forced cells as the released guide's own fill.sh prints them over the translation 05752189e886b831… (all of the seat's roots in one cut). By AI agents, Wed Nov 11 2026. No macro, syntax, notation, axiom, sorry.
-/
import Derived.Test.YtfcicfkgbepagaaChecked
import GoSem.Claim
import GoSem.ClaimJoined
import GoSem.ClaimMapViews
import Derived.JoinedTies
import Derived.KernelRfl
namespace Go.Proofs.Ytfcicfkgbepagaa
/- THE CELL 'sum', in the pinned program and in every row, IS THE sha256 OF THE DUMP (.gsa) THAT YtfcicfkgbepagaaProg.lean LOADS. Nothing in Lean hashes anything: it is a label: what it is worth is what the hold of that sum in a sandbox is worth. -/
noncomputable def Try.pinned : Pinned := { name := "ytfcicfkgbepagaa", sum := "05752189e886b83155694c384e28e79e9b87417657a55b73c14c72c54c37835a", checked := Try.checked }
namespace Rows
def none {H : Type} : Left H := { results := [], args := [] }

/-- 'codicillaw04.CrcTurned': WHATEVER THE INPUT: true; the input reads as it did. -/
def crcTurnedSpec : ChangeSpec := { name := "crcTurned", fn := fun _ => fun
  | [d1, d2, d3] => { results := [.lit (.bool true)], args := [d1, d2, d3] }
  | _ => none }
def crcTurnedRow : OpenClaim := { program := "ytfcicfkgbepagaa", sum := "05752189e886b83155694c384e28e79e9b87417657a55b73c14c72c54c37835a", func := "codicil/codicillaw04.CrcTurned", spec := "crcTurned", apart := false }
def CrcTurnedSaid : Prop := crcTurnedRow.holds Try.pinned (OpenSpec.ofChange crcTurnedSpec)

/-- ITS FALSE NEIGHBOUR: 'it returns false'. Refute it at one input. -/
def crcTurnedWrong : ChangeSpec := { name := "crcTurned", fn := fun _ => fun
  | [d1, d2, d3] => { results := [.lit (.bool false)], args := [d1, d2, d3] }
  | _ => none }
def CrcTurnedWrongFalsely : Prop := crcTurnedRow.holds Try.pinned (OpenSpec.ofChange crcTurnedWrong)

/-- 'codicillaw04.CrcSums': WHATEVER THE INPUT: true; the input reads as it did. -/
def crcSumsSpec : ChangeSpec := { name := "crcSums", fn := fun _ => fun
  | [d1, d2, d3, d4] => { results := [.lit (.bool true)], args := [d1, d2, d3, d4] }
  | _ => none }
def crcSumsRow : OpenClaim := { program := "ytfcicfkgbepagaa", sum := "05752189e886b83155694c384e28e79e9b87417657a55b73c14c72c54c37835a", func := "codicil/codicillaw04.CrcSums", spec := "crcSums", apart := false }
def CrcSumsSaid : Prop := crcSumsRow.holds Try.pinned (OpenSpec.ofChange crcSumsSpec)

/-- ITS FALSE NEIGHBOUR: 'it returns false'. Refute it at one input. -/
def crcSumsWrong : ChangeSpec := { name := "crcSums", fn := fun _ => fun
  | [d1, d2, d3, d4] => { results := [.lit (.bool false)], args := [d1, d2, d3, d4] }
  | _ => none }
def CrcSumsWrongFalsely : Prop := crcSumsRow.holds Try.pinned (OpenSpec.ofChange crcSumsWrong)

/-- 'codicillaw04.CrcJoin': WHATEVER THE INPUT: true; the input reads as it did. -/
def crcJoinSpec : ChangeSpec := { name := "crcJoin", fn := fun _ => fun
  | [d1, d2, d3] => { results := [.lit (.bool true)], args := [d1, d2, d3] }
  | _ => none }
def crcJoinRow : OpenClaim := { program := "ytfcicfkgbepagaa", sum := "05752189e886b83155694c384e28e79e9b87417657a55b73c14c72c54c37835a", func := "codicil/codicillaw04.CrcJoin", spec := "crcJoin", apart := false }
def CrcJoinSaid : Prop := crcJoinRow.holds Try.pinned (OpenSpec.ofChange crcJoinSpec)

/-- ITS FALSE NEIGHBOUR: 'it returns false'. Refute it at one input. -/
def crcJoinWrong : ChangeSpec := { name := "crcJoin", fn := fun _ => fun
  | [d1, d2, d3] => { results := [.lit (.bool false)], args := [d1, d2, d3] }
  | _ => none }
def CrcJoinWrongFalsely : Prop := crcJoinRow.holds Try.pinned (OpenSpec.ofChange crcJoinWrong)

/-- 'codicillaw07.SegTells': WHATEVER THE INPUT: true; the input reads as it did. -/
def segTellsSpec : ChangeSpec := { name := "segTells", fn := fun _ => fun
  | [d1, d2] => { results := [.lit (.bool true)], args := [d1, d2] }
  | _ => none }
def segTellsRow : OpenClaim := { program := "ytfcicfkgbepagaa", sum := "05752189e886b83155694c384e28e79e9b87417657a55b73c14c72c54c37835a", func := "codicil/codicillaw07.SegTells", spec := "segTells", unfollowed := true, recurses := true, apart := false }
def SegTellsSaid : Prop := segTellsRow.holds Try.pinned (OpenSpec.ofChange segTellsSpec)

/-- ITS FALSE NEIGHBOUR: 'it returns false'. Refute it at one input. -/
def segTellsWrong : ChangeSpec := { name := "segTells", fn := fun _ => fun
  | [d1, d2] => { results := [.lit (.bool false)], args := [d1, d2] }
  | _ => none }
def SegTellsWrongFalsely : Prop := segTellsRow.holds Try.pinned (OpenSpec.ofChange segTellsWrong)

/-- 'codicillaw07.SegCut': WHATEVER THE INPUT: true; the input reads as it did. -/
def segCutSpec : ChangeSpec := { name := "segCut", fn := fun _ => fun
  | [d1, d2] => { results := [.lit (.bool true)], args := [d1, d2] }
  | _ => none }
def segCutRow : OpenClaim := { program := "ytfcicfkgbepagaa", sum := "05752189e886b83155694c384e28e79e9b87417657a55b73c14c72c54c37835a", func := "codicil/codicillaw07.SegCut", spec := "segCut", unfollowed := true, recurses := true, apart := false }
def SegCutSaid : Prop := segCutRow.holds Try.pinned (OpenSpec.ofChange segCutSpec)

/-- ITS FALSE NEIGHBOUR: 'it returns false'. Refute it at one input. -/
def segCutWrong : ChangeSpec := { name := "segCut", fn := fun _ => fun
  | [d1, d2] => { results := [.lit (.bool false)], args := [d1, d2] }
  | _ => none }
def SegCutWrongFalsely : Prop := segCutRow.holds Try.pinned (OpenSpec.ofChange segCutWrong)

/-- 'codicillaw07.SegTurned': WHATEVER THE INPUT: true; the input reads as it did. -/
def segTurnedSpec : ChangeSpec := { name := "segTurned", fn := fun _ => fun
  | [d1, d2, d3] => { results := [.lit (.bool true)], args := [d1, d2, d3] }
  | _ => none }
def segTurnedRow : OpenClaim := { program := "ytfcicfkgbepagaa", sum := "05752189e886b83155694c384e28e79e9b87417657a55b73c14c72c54c37835a", func := "codicil/codicillaw07.SegTurned", spec := "segTurned", unfollowed := true, recurses := true, apart := false }
def SegTurnedSaid : Prop := segTurnedRow.holds Try.pinned (OpenSpec.ofChange segTurnedSpec)

/-- ITS FALSE NEIGHBOUR: 'it returns false'. Refute it at one input. -/
def segTurnedWrong : ChangeSpec := { name := "segTurned", fn := fun _ => fun
  | [d1, d2, d3] => { results := [.lit (.bool false)], args := [d1, d2, d3] }
  | _ => none }
def SegTurnedWrongFalsely : Prop := segTurnedRow.holds Try.pinned (OpenSpec.ofChange segTurnedWrong)

/-- 'codicillaw07.SegJoin': WHATEVER THE INPUT: true; the input reads as it did. -/
def segJoinSpec : ChangeSpec := { name := "segJoin", fn := fun _ => fun
  | [d1, d2] => { results := [.lit (.bool true)], args := [d1, d2] }
  | _ => none }
def segJoinRow : OpenClaim := { program := "ytfcicfkgbepagaa", sum := "05752189e886b83155694c384e28e79e9b87417657a55b73c14c72c54c37835a", func := "codicil/codicillaw07.SegJoin", spec := "segJoin", unfollowed := true, recurses := true, apart := false }
def SegJoinSaid : Prop := segJoinRow.holds Try.pinned (OpenSpec.ofChange segJoinSpec)

/-- ITS FALSE NEIGHBOUR: 'it returns false'. Refute it at one input. -/
def segJoinWrong : ChangeSpec := { name := "segJoin", fn := fun _ => fun
  | [d1, d2] => { results := [.lit (.bool false)], args := [d1, d2] }
  | _ => none }
def SegJoinWrongFalsely : Prop := segJoinRow.holds Try.pinned (OpenSpec.ofChange segJoinWrong)

/- THE SECOND FORM. 'bulk': how many values and letters a reading holds, each counted each time it is reached (what is shared counts as often as it is met; a slice's spare places count too). A statement '..UptoSaid' is the law's where the arguments, and the package variables that the reading takes, are together of bulk at most 1048576: NARROWER than '..Said'. Prove '..Said' where nothing that the law and all that it calls make is longer than what came in: it says more and counts as full. Else prove '..UptoSaid'. A law counts once. -/
mutual
def uptoBulk {H : Type} : DataW H → Nat
  | .lit (.string bytes) => bytes.length + 1
  | .lit _ => 1
  | .nil => 1
  | .ptr d => uptoBulk d + 1
  | .slice elems spare => uptoBulkAll elems + uptoBulkAll spare + 1
  | .agg parts => uptoBulkAll parts + 1
  | .iface _ d => uptoBulk d + 1
  | .map entries => uptoBulkEntries entries + 1
  | .held _ => 1
def uptoBulkAll {H : Type} : List (DataW H) → Nat
  | [] => 0
  | d :: r => uptoBulk d + uptoBulkAll r
def uptoBulkEntries {H : Type} : List (Lit × DataW H) → Nat
  | [] => 0
  | x :: r => uptoBulkEntry x + uptoBulkEntries r
def uptoBulkEntry {H : Type} : Lit × DataW H → Nat
  | (.string bytes, d) => bytes.length + uptoBulk d + 1
  | (_, d) => uptoBulk d + 1
 end
def uptoSmall : (H : Type) → List (DataW H) → Bool := fun _ ds => decide (uptoBulkAll ds ≤ 1048576)
def OpenSpec.upto (s : _root_.Go.ChangeSpec) : _root_.Go.OpenSpec := { _root_.Go.OpenSpec.ofChange s with cond := some uptoSmall }

/-- 'codicillaw04.CrcTurned', WHERE WHAT IT READS IS OF BULK AT MOST 1048576: true; the input reads as it did. -/
def crcTurnedUptoRow : OpenClaim := { program := "ytfcicfkgbepagaa", sum := "05752189e886b83155694c384e28e79e9b87417657a55b73c14c72c54c37835a", func := "codicil/codicillaw04.CrcTurned", spec := "crcTurned", apart := false, narrowed := true }
def CrcTurnedUptoSaid : Prop := crcTurnedUptoRow.holds Try.pinned (OpenSpec.upto crcTurnedSpec)

/-- 'codicillaw04.CrcSums', WHERE WHAT IT READS IS OF BULK AT MOST 1048576: true; the input reads as it did. -/
def crcSumsUptoRow : OpenClaim := { program := "ytfcicfkgbepagaa", sum := "05752189e886b83155694c384e28e79e9b87417657a55b73c14c72c54c37835a", func := "codicil/codicillaw04.CrcSums", spec := "crcSums", apart := false, narrowed := true }
def CrcSumsUptoSaid : Prop := crcSumsUptoRow.holds Try.pinned (OpenSpec.upto crcSumsSpec)

/-- 'codicillaw04.CrcJoin', WHERE WHAT IT READS IS OF BULK AT MOST 1048576: true; the input reads as it did. -/
def crcJoinUptoRow : OpenClaim := { program := "ytfcicfkgbepagaa", sum := "05752189e886b83155694c384e28e79e9b87417657a55b73c14c72c54c37835a", func := "codicil/codicillaw04.CrcJoin", spec := "crcJoin", apart := false, narrowed := true }
def CrcJoinUptoSaid : Prop := crcJoinUptoRow.holds Try.pinned (OpenSpec.upto crcJoinSpec)

/-- 'codicillaw07.SegTells', WHERE WHAT IT READS IS OF BULK AT MOST 1048576: true; the input reads as it did. -/
def segTellsUptoRow : OpenClaim := { program := "ytfcicfkgbepagaa", sum := "05752189e886b83155694c384e28e79e9b87417657a55b73c14c72c54c37835a", func := "codicil/codicillaw07.SegTells", spec := "segTells", unfollowed := true, recurses := true, apart := false, narrowed := true }
def SegTellsUptoSaid : Prop := segTellsUptoRow.holds Try.pinned (OpenSpec.upto segTellsSpec)

/-- 'codicillaw07.SegCut', WHERE WHAT IT READS IS OF BULK AT MOST 1048576: true; the input reads as it did. -/
def segCutUptoRow : OpenClaim := { program := "ytfcicfkgbepagaa", sum := "05752189e886b83155694c384e28e79e9b87417657a55b73c14c72c54c37835a", func := "codicil/codicillaw07.SegCut", spec := "segCut", unfollowed := true, recurses := true, apart := false, narrowed := true }
def SegCutUptoSaid : Prop := segCutUptoRow.holds Try.pinned (OpenSpec.upto segCutSpec)

/-- 'codicillaw07.SegTurned', WHERE WHAT IT READS IS OF BULK AT MOST 1048576: true; the input reads as it did. -/
def segTurnedUptoRow : OpenClaim := { program := "ytfcicfkgbepagaa", sum := "05752189e886b83155694c384e28e79e9b87417657a55b73c14c72c54c37835a", func := "codicil/codicillaw07.SegTurned", spec := "segTurned", unfollowed := true, recurses := true, apart := false, narrowed := true }
def SegTurnedUptoSaid : Prop := segTurnedUptoRow.holds Try.pinned (OpenSpec.upto segTurnedSpec)

/-- 'codicillaw07.SegJoin', WHERE WHAT IT READS IS OF BULK AT MOST 1048576: true; the input reads as it did. -/
def segJoinUptoRow : OpenClaim := { program := "ytfcicfkgbepagaa", sum := "05752189e886b83155694c384e28e79e9b87417657a55b73c14c72c54c37835a", func := "codicil/codicillaw07.SegJoin", spec := "segJoin", unfollowed := true, recurses := true, apart := false, narrowed := true }
def SegJoinUptoSaid : Prop := segJoinUptoRow.holds Try.pinned (OpenSpec.upto segJoinSpec)

end Rows
end Go.Proofs.Ytfcicfkgbepagaa
