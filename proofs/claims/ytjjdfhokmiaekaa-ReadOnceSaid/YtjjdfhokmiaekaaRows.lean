/-
  No cell of these rows narrows 'for every input' (looked for: loops, veiled, ifaces, maps, wideKeys, modest, calm, conditions, laid).
  DERIVED. THE GIVEN ROWS OF THIS SEAT. 9 by the template 'for every input the law returns true; each argument reads behind the call as it read before'; 0 by the template 'total and deterministic' (their statements: YtjjdfhokmiaekaaTotals.lean).
  GIVEN WITH THE SEED: the statements are not yours to turn. If you find one false, say at which input.
  Laid BY PROGRAM, IN A SANDBOX (cutbox-rows.mjs): the forced cells as the released guide's own fill.sh prints them over the translation c7257aa8d2ef3513… (all of the seat's roots in one cut). By AI agents, Wed Nov 11 2026. No macro, syntax, notation, axiom, sorry.
-/
import Derived.Test.YtjjdfhokmiaekaaChecked
import GoSem.Claim
import GoSem.ClaimJoined
import GoSem.ClaimMapViews
import Derived.JoinedTies
import Derived.KernelRfl
namespace Go.Proofs.Ytjjdfhokmiaekaa
/- THE CELL 'sum', in the pinned program and in every row, IS THE sha256 OF THE DUMP (.gsa) THAT YtjjdfhokmiaekaaProg.lean LOADS. Nothing in Lean hashes anything: it is a label: what it is worth is what the hold of that sum in a sandbox is worth. -/
noncomputable def Try.pinned : Pinned := { name := "ytjjdfhokmiaekaa", sum := "c7257aa8d2ef35130639830402ea424a760d7fa3f8b05ad06246a84b82197155", checked := Try.checked }
namespace Rows
def none {H : Type} : Left H := { results := [], args := [] }

/-- 'codicillaw28.ReadOnce': WHATEVER THE INPUT: true; the input reads as it did. -/
def readOnceSpec : ChangeSpec := { name := "readOnce", fn := fun _ => fun
  | [d1, d2] => { results := [.lit (.bool true)], args := [d1, d2] }
  | _ => none }
def readOnceRow : OpenClaim := { program := "ytjjdfhokmiaekaa", sum := "c7257aa8d2ef35130639830402ea424a760d7fa3f8b05ad06246a84b82197155", func := "codicil/codicillaw28.ReadOnce", spec := "readOnce", unfollowed := true, recurses := true, apart := false }
def ReadOnceSaid : Prop := readOnceRow.holds Try.pinned (OpenSpec.ofChange readOnceSpec)

/-- ITS FALSE NEIGHBOUR: 'it returns false'. Refute it at one input. -/
def readOnceWrong : ChangeSpec := { name := "readOnce", fn := fun _ => fun
  | [d1, d2] => { results := [.lit (.bool false)], args := [d1, d2] }
  | _ => none }
def ReadOnceWrongFalsely : Prop := readOnceRow.holds Try.pinned (OpenSpec.ofChange readOnceWrong)

/-- 'codicillaw25.ElectTells': WHATEVER THE INPUT: true; the input reads as it did. -/
def electTellsSpec : ChangeSpec := { name := "electTells", fn := fun _ => fun
  | [d1, d2, d3, d4, d5, d6, d7] => { results := [.lit (.bool true)], args := [d1, d2, d3, d4, d5, d6, d7] }
  | _ => none }
def electTellsRow : OpenClaim := { program := "ytjjdfhokmiaekaa", sum := "c7257aa8d2ef35130639830402ea424a760d7fa3f8b05ad06246a84b82197155", func := "codicil/codicillaw25.ElectTells", spec := "electTells", unfollowed := true, recurses := true, apart := false }
def ElectTellsSaid : Prop := electTellsRow.holds Try.pinned (OpenSpec.ofChange electTellsSpec)

/-- ITS FALSE NEIGHBOUR: 'it returns false'. Refute it at one input. -/
def electTellsWrong : ChangeSpec := { name := "electTells", fn := fun _ => fun
  | [d1, d2, d3, d4, d5, d6, d7] => { results := [.lit (.bool false)], args := [d1, d2, d3, d4, d5, d6, d7] }
  | _ => none }
def ElectTellsWrongFalsely : Prop := electTellsRow.holds Try.pinned (OpenSpec.ofChange electTellsWrong)

/-- 'codicillaw25.ElectCounts': WHATEVER THE INPUT: true; the input reads as it did. -/
def electCountsSpec : ChangeSpec := { name := "electCounts", fn := fun _ => fun
  | [d1, d2, d3] => { results := [.lit (.bool true)], args := [d1, d2, d3] }
  | _ => none }
def electCountsRow : OpenClaim := { program := "ytjjdfhokmiaekaa", sum := "c7257aa8d2ef35130639830402ea424a760d7fa3f8b05ad06246a84b82197155", func := "codicil/codicillaw25.ElectCounts", spec := "electCounts", unfollowed := true, recurses := true, apart := false }
def ElectCountsSaid : Prop := electCountsRow.holds Try.pinned (OpenSpec.ofChange electCountsSpec)

/-- ITS FALSE NEIGHBOUR: 'it returns false'. Refute it at one input. -/
def electCountsWrong : ChangeSpec := { name := "electCounts", fn := fun _ => fun
  | [d1, d2, d3] => { results := [.lit (.bool false)], args := [d1, d2, d3] }
  | _ => none }
def ElectCountsWrongFalsely : Prop := electCountsRow.holds Try.pinned (OpenSpec.ofChange electCountsWrong)

/-- 'codicillaw25.ElectOne': WHATEVER THE INPUT: true; the input reads as it did. -/
def electOneSpec : ChangeSpec := { name := "electOne", fn := fun _ => fun
  | [d1, d2, d3] => { results := [.lit (.bool true)], args := [d1, d2, d3] }
  | _ => none }
def electOneRow : OpenClaim := { program := "ytjjdfhokmiaekaa", sum := "c7257aa8d2ef35130639830402ea424a760d7fa3f8b05ad06246a84b82197155", func := "codicil/codicillaw25.ElectOne", spec := "electOne", unfollowed := true, recurses := true, apart := false }
def ElectOneSaid : Prop := electOneRow.holds Try.pinned (OpenSpec.ofChange electOneSpec)

/-- ITS FALSE NEIGHBOUR: 'it returns false'. Refute it at one input. -/
def electOneWrong : ChangeSpec := { name := "electOne", fn := fun _ => fun
  | [d1, d2, d3] => { results := [.lit (.bool false)], args := [d1, d2, d3] }
  | _ => none }
def ElectOneWrongFalsely : Prop := electOneRow.holds Try.pinned (OpenSpec.ofChange electOneWrong)

/-- 'codicillaw25.ElectNone': WHATEVER THE INPUT: true; the input reads as it did. -/
def electNoneSpec : ChangeSpec := { name := "electNone", fn := fun _ => fun
  | [d1, d2] => { results := [.lit (.bool true)], args := [d1, d2] }
  | _ => none }
def electNoneRow : OpenClaim := { program := "ytjjdfhokmiaekaa", sum := "c7257aa8d2ef35130639830402ea424a760d7fa3f8b05ad06246a84b82197155", func := "codicil/codicillaw25.ElectNone", spec := "electNone", unfollowed := true, recurses := true, apart := false }
def ElectNoneSaid : Prop := electNoneRow.holds Try.pinned (OpenSpec.ofChange electNoneSpec)

/-- ITS FALSE NEIGHBOUR: 'it returns false'. Refute it at one input. -/
def electNoneWrong : ChangeSpec := { name := "electNone", fn := fun _ => fun
  | [d1, d2] => { results := [.lit (.bool false)], args := [d1, d2] }
  | _ => none }
def ElectNoneWrongFalsely : Prop := electNoneRow.holds Try.pinned (OpenSpec.ofChange electNoneWrong)

/-- 'codicillaw24.MemberTells': WHATEVER THE INPUT: true; the input reads as it did. -/
def memberTellsSpec : ChangeSpec := { name := "memberTells", fn := fun _ => fun
  | [d1, d2, d3, d4, d5] => { results := [.lit (.bool true)], args := [d1, d2, d3, d4, d5] }
  | _ => none }
def memberTellsRow : OpenClaim := { program := "ytjjdfhokmiaekaa", sum := "c7257aa8d2ef35130639830402ea424a760d7fa3f8b05ad06246a84b82197155", func := "codicil/codicillaw24.MemberTells", spec := "memberTells", unfollowed := true, recurses := true, apart := false }
def MemberTellsSaid : Prop := memberTellsRow.holds Try.pinned (OpenSpec.ofChange memberTellsSpec)

/-- ITS FALSE NEIGHBOUR: 'it returns false'. Refute it at one input. -/
def memberTellsWrong : ChangeSpec := { name := "memberTells", fn := fun _ => fun
  | [d1, d2, d3, d4, d5] => { results := [.lit (.bool false)], args := [d1, d2, d3, d4, d5] }
  | _ => none }
def MemberTellsWrongFalsely : Prop := memberTellsRow.holds Try.pinned (OpenSpec.ofChange memberTellsWrong)

/-- 'codicillaw24.MemberMeet': WHATEVER THE INPUT: true; the input reads as it did. -/
def memberMeetSpec : ChangeSpec := { name := "memberMeet", fn := fun _ => fun
  | [d1, d2, d3, d4, d5] => { results := [.lit (.bool true)], args := [d1, d2, d3, d4, d5] }
  | _ => none }
def memberMeetRow : OpenClaim := { program := "ytjjdfhokmiaekaa", sum := "c7257aa8d2ef35130639830402ea424a760d7fa3f8b05ad06246a84b82197155", func := "codicil/codicillaw24.MemberMeet", spec := "memberMeet", unfollowed := true, recurses := true, apart := false }
def MemberMeetSaid : Prop := memberMeetRow.holds Try.pinned (OpenSpec.ofChange memberMeetSpec)

/-- ITS FALSE NEIGHBOUR: 'it returns false'. Refute it at one input. -/
def memberMeetWrong : ChangeSpec := { name := "memberMeet", fn := fun _ => fun
  | [d1, d2, d3, d4, d5] => { results := [.lit (.bool false)], args := [d1, d2, d3, d4, d5] }
  | _ => none }
def MemberMeetWrongFalsely : Prop := memberMeetRow.holds Try.pinned (OpenSpec.ofChange memberMeetWrong)

/-- 'codicillaw24.MemberBack': WHATEVER THE INPUT: true; the input reads as it did. -/
def memberBackSpec : ChangeSpec := { name := "memberBack", fn := fun _ => fun
  | [d1, d2, d3] => { results := [.lit (.bool true)], args := [d1, d2, d3] }
  | _ => none }
def memberBackRow : OpenClaim := { program := "ytjjdfhokmiaekaa", sum := "c7257aa8d2ef35130639830402ea424a760d7fa3f8b05ad06246a84b82197155", func := "codicil/codicillaw24.MemberBack", spec := "memberBack", unfollowed := true, recurses := true, apart := false }
def MemberBackSaid : Prop := memberBackRow.holds Try.pinned (OpenSpec.ofChange memberBackSpec)

/-- ITS FALSE NEIGHBOUR: 'it returns false'. Refute it at one input. -/
def memberBackWrong : ChangeSpec := { name := "memberBack", fn := fun _ => fun
  | [d1, d2, d3] => { results := [.lit (.bool false)], args := [d1, d2, d3] }
  | _ => none }
def MemberBackWrongFalsely : Prop := memberBackRow.holds Try.pinned (OpenSpec.ofChange memberBackWrong)

/-- 'codicillaw24.MemberChain': WHATEVER THE INPUT: true; the input reads as it did. -/
def memberChainSpec : ChangeSpec := { name := "memberChain", fn := fun _ => fun
  | [d1, d2] => { results := [.lit (.bool true)], args := [d1, d2] }
  | _ => none }
def memberChainRow : OpenClaim := { program := "ytjjdfhokmiaekaa", sum := "c7257aa8d2ef35130639830402ea424a760d7fa3f8b05ad06246a84b82197155", func := "codicil/codicillaw24.MemberChain", spec := "memberChain", unfollowed := true, recurses := true, apart := false }
def MemberChainSaid : Prop := memberChainRow.holds Try.pinned (OpenSpec.ofChange memberChainSpec)

/-- ITS FALSE NEIGHBOUR: 'it returns false'. Refute it at one input. -/
def memberChainWrong : ChangeSpec := { name := "memberChain", fn := fun _ => fun
  | [d1, d2] => { results := [.lit (.bool false)], args := [d1, d2] }
  | _ => none }
def MemberChainWrongFalsely : Prop := memberChainRow.holds Try.pinned (OpenSpec.ofChange memberChainWrong)

/- THE SECOND FORM. 'bulk': how many values and letters a reading holds, each counted each time it is reached (what is shared counts as often as it is met; a slice's spare places count too). A statement '..UptoSaid' is the law's where the arguments, and the package variables that the reading takes, are together of bulk at most 1048576: NARROWER than '..Said'. Prove '..Said' where nothing that the law and all that it calls make is longer than what came in: it says more and counts as full. Else prove '..UptoSaid'. A law counts once. -/
mutual
def uptoBulk {H : Type} : DataW H → Nat
  | .lit (.string bytes) => bytes.length + 1
  | .lit _ => 1
  | .nil => 1
  | .ptr d => uptoBulk d + 1
  | .slice elems spare => uptoBulkAll elems + uptoBulkAll spare + 1
  | .agg parts => uptoBulkAll parts + 1
  | .iface _ d => uptoBulk d + 1
  | .map entries => uptoBulkEntries entries + 1
  | .held _ => 1
def uptoBulkAll {H : Type} : List (DataW H) → Nat
  | [] => 0
  | d :: r => uptoBulk d + uptoBulkAll r
def uptoBulkEntries {H : Type} : List (Lit × DataW H) → Nat
  | [] => 0
  | x :: r => uptoBulkEntry x + uptoBulkEntries r
def uptoBulkEntry {H : Type} : Lit × DataW H → Nat
  | (.string bytes, d) => bytes.length + uptoBulk d + 1
  | (_, d) => uptoBulk d + 1
 end
def uptoSmall : (H : Type) → List (DataW H) → Bool := fun _ ds => decide (uptoBulkAll ds ≤ 1048576)
def OpenSpec.upto (s : _root_.Go.ChangeSpec) : _root_.Go.OpenSpec := { _root_.Go.OpenSpec.ofChange s with cond := some uptoSmall }

/-- 'codicillaw28.ReadOnce', WHERE WHAT IT READS IS OF BULK AT MOST 1048576: true; the input reads as it did. -/
def readOnceUptoRow : OpenClaim := { program := "ytjjdfhokmiaekaa", sum := "c7257aa8d2ef35130639830402ea424a760d7fa3f8b05ad06246a84b82197155", func := "codicil/codicillaw28.ReadOnce", spec := "readOnce", unfollowed := true, recurses := true, apart := false, narrowed := true }
def ReadOnceUptoSaid : Prop := readOnceUptoRow.holds Try.pinned (OpenSpec.upto readOnceSpec)

/-- 'codicillaw25.ElectTells', WHERE WHAT IT READS IS OF BULK AT MOST 1048576: true; the input reads as it did. -/
def electTellsUptoRow : OpenClaim := { program := "ytjjdfhokmiaekaa", sum := "c7257aa8d2ef35130639830402ea424a760d7fa3f8b05ad06246a84b82197155", func := "codicil/codicillaw25.ElectTells", spec := "electTells", unfollowed := true, recurses := true, apart := false, narrowed := true }
def ElectTellsUptoSaid : Prop := electTellsUptoRow.holds Try.pinned (OpenSpec.upto electTellsSpec)

/-- 'codicillaw25.ElectCounts', WHERE WHAT IT READS IS OF BULK AT MOST 1048576: true; the input reads as it did. -/
def electCountsUptoRow : OpenClaim := { program := "ytjjdfhokmiaekaa", sum := "c7257aa8d2ef35130639830402ea424a760d7fa3f8b05ad06246a84b82197155", func := "codicil/codicillaw25.ElectCounts", spec := "electCounts", unfollowed := true, recurses := true, apart := false, narrowed := true }
def ElectCountsUptoSaid : Prop := electCountsUptoRow.holds Try.pinned (OpenSpec.upto electCountsSpec)

/-- 'codicillaw25.ElectOne', WHERE WHAT IT READS IS OF BULK AT MOST 1048576: true; the input reads as it did. -/
def electOneUptoRow : OpenClaim := { program := "ytjjdfhokmiaekaa", sum := "c7257aa8d2ef35130639830402ea424a760d7fa3f8b05ad06246a84b82197155", func := "codicil/codicillaw25.ElectOne", spec := "electOne", unfollowed := true, recurses := true, apart := false, narrowed := true }
def ElectOneUptoSaid : Prop := electOneUptoRow.holds Try.pinned (OpenSpec.upto electOneSpec)

/-- 'codicillaw25.ElectNone', WHERE WHAT IT READS IS OF BULK AT MOST 1048576: true; the input reads as it did. -/
def electNoneUptoRow : OpenClaim := { program := "ytjjdfhokmiaekaa", sum := "c7257aa8d2ef35130639830402ea424a760d7fa3f8b05ad06246a84b82197155", func := "codicil/codicillaw25.ElectNone", spec := "electNone", unfollowed := true, recurses := true, apart := false, narrowed := true }
def ElectNoneUptoSaid : Prop := electNoneUptoRow.holds Try.pinned (OpenSpec.upto electNoneSpec)

/-- 'codicillaw24.MemberTells', WHERE WHAT IT READS IS OF BULK AT MOST 1048576: true; the input reads as it did. -/
def memberTellsUptoRow : OpenClaim := { program := "ytjjdfhokmiaekaa", sum := "c7257aa8d2ef35130639830402ea424a760d7fa3f8b05ad06246a84b82197155", func := "codicil/codicillaw24.MemberTells", spec := "memberTells", unfollowed := true, recurses := true, apart := false, narrowed := true }
def MemberTellsUptoSaid : Prop := memberTellsUptoRow.holds Try.pinned (OpenSpec.upto memberTellsSpec)

/-- 'codicillaw24.MemberMeet', WHERE WHAT IT READS IS OF BULK AT MOST 1048576: true; the input reads as it did. -/
def memberMeetUptoRow : OpenClaim := { program := "ytjjdfhokmiaekaa", sum := "c7257aa8d2ef35130639830402ea424a760d7fa3f8b05ad06246a84b82197155", func := "codicil/codicillaw24.MemberMeet", spec := "memberMeet", unfollowed := true, recurses := true, apart := false, narrowed := true }
def MemberMeetUptoSaid : Prop := memberMeetUptoRow.holds Try.pinned (OpenSpec.upto memberMeetSpec)

/-- 'codicillaw24.MemberBack', WHERE WHAT IT READS IS OF BULK AT MOST 1048576: true; the input reads as it did. -/
def memberBackUptoRow : OpenClaim := { program := "ytjjdfhokmiaekaa", sum := "c7257aa8d2ef35130639830402ea424a760d7fa3f8b05ad06246a84b82197155", func := "codicil/codicillaw24.MemberBack", spec := "memberBack", unfollowed := true, recurses := true, apart := false, narrowed := true }
def MemberBackUptoSaid : Prop := memberBackUptoRow.holds Try.pinned (OpenSpec.upto memberBackSpec)

/-- 'codicillaw24.MemberChain', WHERE WHAT IT READS IS OF BULK AT MOST 1048576: true; the input reads as it did. -/
def memberChainUptoRow : OpenClaim := { program := "ytjjdfhokmiaekaa", sum := "c7257aa8d2ef35130639830402ea424a760d7fa3f8b05ad06246a84b82197155", func := "codicil/codicillaw24.MemberChain", spec := "memberChain", unfollowed := true, recurses := true, apart := false, narrowed := true }
def MemberChainUptoSaid : Prop := memberChainUptoRow.holds Try.pinned (OpenSpec.upto memberChainSpec)

end Rows
end Go.Proofs.Ytjjdfhokmiaekaa
