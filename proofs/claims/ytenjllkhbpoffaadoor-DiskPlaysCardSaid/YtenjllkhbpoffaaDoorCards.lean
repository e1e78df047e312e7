/-
  DERIVED. GIVEN WITH THE SEED: THE CARDS: each row of YtenjllkhbpoffaaDoorRows.lean that lists a variable, with what it lists TIED to the program's text (the seventh form; the later family's looks); each row that meets fmt, with fmt's text TOLD by the authors' own Lean function (tested against real Go, not proved from fmt's source: count such statements apart). THE CARD IS WHAT COUNTS. Prove the row's statement (the work); the ties are given (YtenjllkhbpoffaaDoorTie.lean); close each card by the builder's one call (the guide's Derived/Test/ToyasCard.lean, 'card_holds'). Laid BY PROGRAM, IN A SANDBOX (cutbox-door.mjs). By AI agents, Wed Nov 11 2026. No macro, syntax, notation, axiom, sorry.
-/
import Derived.Test.YtenjllkhbpoffaaDoorRows
import GoSem.ClaimSeven
namespace Go.Proofs.YtenjllkhbpoffaaDoor
namespace Rows

/-- THE TIED CARD OF 'codicillaw06.DiskEnds'. -/
def diskEndsCard : Claim7 := { stood := { row := diskEndsRow, standIns := [], harness := (true, "75eceddcf2077c87ae3b574d75f9cf8ef235924375c0fa80676185e7fa211ae3"), looks := true }, kinds := [], alts := [], laidByText := true, laidKinds := [.data, .pinned], laidTests := true, laidLooks := .later }
def DiskEndsCardSaid : Prop := Claim7.holds Tryd.pinned (.plain (OpenSpec.ofChange diskEndsSpec)) diskEndsCard

/-- THE TIED CARD OF 'codicillaw06.DiskKeeps'. -/
def diskKeepsCard : Claim7 := { stood := { row := diskKeepsRow, standIns := [], harness := (true, "75eceddcf2077c87ae3b574d75f9cf8ef235924375c0fa80676185e7fa211ae3"), looks := true }, kinds := [], alts := [], laidByText := true, laidKinds := [.data, .pinned], laidTests := true, laidLooks := .later }
def DiskKeepsCardSaid : Prop := Claim7.holds Tryd.pinned (.plain (OpenSpec.ofChange diskKeepsSpec)) diskKeepsCard

/-- THE TIED CARD OF 'codicillaw06.DiskFuse'. -/
def diskFuseCard : Claim7 := { stood := { row := diskFuseRow, standIns := [], harness := (true, "75eceddcf2077c87ae3b574d75f9cf8ef235924375c0fa80676185e7fa211ae3"), looks := true }, kinds := [], alts := [], laidByText := true, laidKinds := [.data, .pinned], laidTests := true, laidLooks := .later }
def DiskFuseCardSaid : Prop := Claim7.holds Tryd.pinned (.plain (OpenSpec.ofChange diskFuseSpec)) diskFuseCard

/-- THE TIED CARD OF 'codicillaw06.DiskPlays'. -/
def diskPlaysCard : Claim7 := { stood := { row := diskPlaysRow, standIns := [], harness := (true, "75eceddcf2077c87ae3b574d75f9cf8ef235924375c0fa80676185e7fa211ae3"), looks := true }, kinds := [], alts := [], laidByText := true, laidKinds := [.data, .pinned], laidTests := true, laidLooks := .later }
def DiskPlaysCardSaid : Prop := Claim7.holds Tryd.pinned (.plain (OpenSpec.ofChange diskPlaysSpec)) diskPlaysCard

/-- THE TIED CARD OF 'codicillaw06.DiskNone'. -/
def diskNoneCard : Claim7 := { stood := { row := diskNoneRow, standIns := [], harness := (true, "75eceddcf2077c87ae3b574d75f9cf8ef235924375c0fa80676185e7fa211ae3"), looks := true }, kinds := [], alts := [], laidByText := true, laidKinds := [.data, .pinned], laidTests := true, laidLooks := .later }
def DiskNoneCardSaid : Prop := Claim7.holds Tryd.pinned (.plain (OpenSpec.ofChange diskNoneSpec)) diskNoneCard

/-- THE SECOND FORM's CARD OF 'codicillaw06.DiskEnds'. -/
def diskEndsUptoCard : Claim7 := { stood := { row := diskEndsUptoRow, standIns := [], harness := (true, "75eceddcf2077c87ae3b574d75f9cf8ef235924375c0fa80676185e7fa211ae3"), looks := true }, kinds := [], alts := [], laidByText := true, laidKinds := [.data, .pinned], laidTests := true, laidLooks := .later }
def DiskEndsUptoCardSaid : Prop := Claim7.holds Tryd.pinned (.plain (OpenSpec.upto diskEndsSpec)) diskEndsUptoCard

/-- THE SECOND FORM's CARD OF 'codicillaw06.DiskKeeps'. -/
def diskKeepsUptoCard : Claim7 := { stood := { row := diskKeepsUptoRow, standIns := [], harness := (true, "75eceddcf2077c87ae3b574d75f9cf8ef235924375c0fa80676185e7fa211ae3"), looks := true }, kinds := [], alts := [], laidByText := true, laidKinds := [.data, .pinned], laidTests := true, laidLooks := .later }
def DiskKeepsUptoCardSaid : Prop := Claim7.holds Tryd.pinned (.plain (OpenSpec.upto diskKeepsSpec)) diskKeepsUptoCard

/-- THE SECOND FORM's CARD OF 'codicillaw06.DiskFuse'. -/
def diskFuseUptoCard : Claim7 := { stood := { row := diskFuseUptoRow, standIns := [], harness := (true, "75eceddcf2077c87ae3b574d75f9cf8ef235924375c0fa80676185e7fa211ae3"), looks := true }, kinds := [], alts := [], laidByText := true, laidKinds := [.data, .pinned], laidTests := true, laidLooks := .later }
def DiskFuseUptoCardSaid : Prop := Claim7.holds Tryd.pinned (.plain (OpenSpec.upto diskFuseSpec)) diskFuseUptoCard

/-- THE SECOND FORM's CARD OF 'codicillaw06.DiskPlays'. -/
def diskPlaysUptoCard : Claim7 := { stood := { row := diskPlaysUptoRow, standIns := [], harness := (true, "75eceddcf2077c87ae3b574d75f9cf8ef235924375c0fa80676185e7fa211ae3"), looks := true }, kinds := [], alts := [], laidByText := true, laidKinds := [.data, .pinned], laidTests := true, laidLooks := .later }
def DiskPlaysUptoCardSaid : Prop := Claim7.holds Tryd.pinned (.plain (OpenSpec.upto diskPlaysSpec)) diskPlaysUptoCard

/-- THE SECOND FORM's CARD OF 'codicillaw06.DiskNone'. -/
def diskNoneUptoCard : Claim7 := { stood := { row := diskNoneUptoRow, standIns := [], harness := (true, "75eceddcf2077c87ae3b574d75f9cf8ef235924375c0fa80676185e7fa211ae3"), looks := true }, kinds := [], alts := [], laidByText := true, laidKinds := [.data, .pinned], laidTests := true, laidLooks := .later }
def DiskNoneUptoCardSaid : Prop := Claim7.holds Tryd.pinned (.plain (OpenSpec.upto diskNoneSpec)) diskNoneUptoCard
end Rows
end Go.Proofs.YtenjllkhbpoffaaDoor
