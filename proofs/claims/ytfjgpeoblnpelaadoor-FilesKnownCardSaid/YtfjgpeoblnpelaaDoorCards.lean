/-
  DERIVED. GIVEN WITH THE SEED: THE CARDS: each row of YtfjgpeoblnpelaaDoorRows.lean that lists a variable, with what it lists TIED to the program's text (the seventh form; the later family's looks); each row that meets fmt, with fmt's text TOLD by the authors' own Lean function (tested against real Go, not proved from fmt's source: count such statements apart). THE CARD IS WHAT COUNTS. Prove the row's statement (the work); the ties are given (YtfjgpeoblnpelaaDoorTie.lean); close each card by the builder's one call (the guide's Derived/Test/ToyasCard.lean, 'card_holds'). Laid BY PROGRAM, IN A SANDBOX (cutbox-door.mjs). By AI agents, Wed Nov 11 2026. No macro, syntax, notation, axiom, sorry.
-/
import Derived.Test.YtfjgpeoblnpelaaDoorRows
import GoSem.ClaimSeven
namespace Go.Proofs.YtfjgpeoblnpelaaDoor
namespace Rows

/-- THE TIED CARD OF 'tithebarnlaw07.FilesName'. -/
def filesNameCard : Claim7 := { stood := { row := filesNameRow, standIns := [], harness := (true, "31f0deab60e84ba31a6a057b1016009de0279cf800846d25ade470e14d1ea153"), looks := true }, kinds := [], alts := [], laidByText := true, laidKinds := [.data, .pinned], laidTests := true, laidLooks := .later }
def FilesNameCardSaid : Prop := Claim7.holds Tryd.pinned (.plain (OpenSpec.ofChange filesNameSpec)) filesNameCard

/-- THE TIED CARD OF 'tithebarnlaw07.FilesRight'. -/
def filesRightCard : Claim7 := { stood := { row := filesRightRow, standIns := [], harness := (true, "31f0deab60e84ba31a6a057b1016009de0279cf800846d25ade470e14d1ea153"), looks := true }, kinds := [], alts := [], laidByText := true, laidKinds := [.data, .pinned], laidTests := true, laidLooks := .later }
def FilesRightCardSaid : Prop := Claim7.holds Tryd.pinned (.plain (OpenSpec.ofChange filesRightSpec)) filesRightCard

/-- THE TIED CARD OF 'tithebarnlaw07.FilesAt'. -/
def filesAtCard : Claim7 := { stood := { row := filesAtRow, standIns := [], harness := (true, "31f0deab60e84ba31a6a057b1016009de0279cf800846d25ade470e14d1ea153"), looks := true }, kinds := [], alts := [], laidByText := true, laidKinds := [.data, .pinned], laidTests := true, laidLooks := .later }
def FilesAtCardSaid : Prop := Claim7.holds Tryd.pinned (.plain (OpenSpec.ofChange filesAtSpec)) filesAtCard

/-- THE TIED CARD OF 'tithebarnlaw07.FilesPut'. -/
def filesPutCard : Claim7 := { stood := { row := filesPutRow, standIns := [], harness := (true, "31f0deab60e84ba31a6a057b1016009de0279cf800846d25ade470e14d1ea153"), looks := true }, kinds := [], alts := [], laidByText := true, laidKinds := [.data, .pinned], laidTests := true, laidLooks := .later }
def FilesPutCardSaid : Prop := Claim7.holds Tryd.pinned (.plain (OpenSpec.ofChange filesPutSpec)) filesPutCard

/-- THE TIED CARD OF 'tithebarnlaw07.FilesSame'. -/
def filesSameCard : Claim7 := { stood := { row := filesSameRow, standIns := [], harness := (true, "31f0deab60e84ba31a6a057b1016009de0279cf800846d25ade470e14d1ea153"), looks := true }, kinds := [], alts := [], laidByText := true, laidKinds := [.data, .pinned], laidTests := true, laidLooks := .later }
def FilesSameCardSaid : Prop := Claim7.holds Tryd.pinned (.plain (OpenSpec.ofChange filesSameSpec)) filesSameCard

/-- THE TIED CARD OF 'tithebarnlaw07.FilesPaths'. -/
def filesPathsCard : Claim7 := { stood := { row := filesPathsRow, standIns := [], harness := (true, "31f0deab60e84ba31a6a057b1016009de0279cf800846d25ade470e14d1ea153"), looks := true }, kinds := [], alts := [], laidByText := true, laidKinds := [.data, .pinned], laidTests := true, laidLooks := .later }
def FilesPathsCardSaid : Prop := Claim7.holds Tryd.pinned (.plain (OpenSpec.ofChange filesPathsSpec)) filesPathsCard

/-- THE TIED CARD OF 'tithebarnlaw07.FilesKnown'. -/
def filesKnownCard : Claim7 := { stood := { row := filesKnownRow, standIns := [], harness := (true, "31f0deab60e84ba31a6a057b1016009de0279cf800846d25ade470e14d1ea153"), looks := true }, kinds := [], alts := [], laidByText := true, laidKinds := [.data, .pinned], laidTests := true, laidLooks := .later }
def FilesKnownCardSaid : Prop := Claim7.holds Tryd.pinned (.plain (OpenSpec.ofChange filesKnownSpec)) filesKnownCard

/-- THE SECOND FORM's CARD OF 'tithebarnlaw07.FilesName'. -/
def filesNameUptoCard : Claim7 := { stood := { row := filesNameUptoRow, standIns := [], harness := (true, "31f0deab60e84ba31a6a057b1016009de0279cf800846d25ade470e14d1ea153"), looks := true }, kinds := [], alts := [], laidByText := true, laidKinds := [.data, .pinned], laidTests := true, laidLooks := .later }
def FilesNameUptoCardSaid : Prop := Claim7.holds Tryd.pinned (.plain (OpenSpec.upto filesNameSpec)) filesNameUptoCard

/-- THE SECOND FORM's CARD OF 'tithebarnlaw07.FilesRight'. -/
def filesRightUptoCard : Claim7 := { stood := { row := filesRightUptoRow, standIns := [], harness := (true, "31f0deab60e84ba31a6a057b1016009de0279cf800846d25ade470e14d1ea153"), looks := true }, kinds := [], alts := [], laidByText := true, laidKinds := [.data, .pinned], laidTests := true, laidLooks := .later }
def FilesRightUptoCardSaid : Prop := Claim7.holds Tryd.pinned (.plain (OpenSpec.upto filesRightSpec)) filesRightUptoCard

/-- THE SECOND FORM's CARD OF 'tithebarnlaw07.FilesAt'. -/
def filesAtUptoCard : Claim7 := { stood := { row := filesAtUptoRow, standIns := [], harness := (true, "31f0deab60e84ba31a6a057b1016009de0279cf800846d25ade470e14d1ea153"), looks := true }, kinds := [], alts := [], laidByText := true, laidKinds := [.data, .pinned], laidTests := true, laidLooks := .later }
def FilesAtUptoCardSaid : Prop := Claim7.holds Tryd.pinned (.plain (OpenSpec.upto filesAtSpec)) filesAtUptoCard

/-- THE SECOND FORM's CARD OF 'tithebarnlaw07.FilesPut'. -/
def filesPutUptoCard : Claim7 := { stood := { row := filesPutUptoRow, standIns := [], harness := (true, "31f0deab60e84ba31a6a057b1016009de0279cf800846d25ade470e14d1ea153"), looks := true }, kinds := [], alts := [], laidByText := true, laidKinds := [.data, .pinned], laidTests := true, laidLooks := .later }
def FilesPutUptoCardSaid : Prop := Claim7.holds Tryd.pinned (.plain (OpenSpec.upto filesPutSpec)) filesPutUptoCard

/-- THE SECOND FORM's CARD OF 'tithebarnlaw07.FilesSame'. -/
def filesSameUptoCard : Claim7 := { stood := { row := filesSameUptoRow, standIns := [], harness := (true, "31f0deab60e84ba31a6a057b1016009de0279cf800846d25ade470e14d1ea153"), looks := true }, kinds := [], alts := [], laidByText := true, laidKinds := [.data, .pinned], laidTests := true, laidLooks := .later }
def FilesSameUptoCardSaid : Prop := Claim7.holds Tryd.pinned (.plain (OpenSpec.upto filesSameSpec)) filesSameUptoCard

/-- THE SECOND FORM's CARD OF 'tithebarnlaw07.FilesPaths'. -/
def filesPathsUptoCard : Claim7 := { stood := { row := filesPathsUptoRow, standIns := [], harness := (true, "31f0deab60e84ba31a6a057b1016009de0279cf800846d25ade470e14d1ea153"), looks := true }, kinds := [], alts := [], laidByText := true, laidKinds := [.data, .pinned], laidTests := true, laidLooks := .later }
def FilesPathsUptoCardSaid : Prop := Claim7.holds Tryd.pinned (.plain (OpenSpec.upto filesPathsSpec)) filesPathsUptoCard

/-- THE SECOND FORM's CARD OF 'tithebarnlaw07.FilesKnown'. -/
def filesKnownUptoCard : Claim7 := { stood := { row := filesKnownUptoRow, standIns := [], harness := (true, "31f0deab60e84ba31a6a057b1016009de0279cf800846d25ade470e14d1ea153"), looks := true }, kinds := [], alts := [], laidByText := true, laidKinds := [.data, .pinned], laidTests := true, laidLooks := .later }
def FilesKnownUptoCardSaid : Prop := Claim7.holds Tryd.pinned (.plain (OpenSpec.upto filesKnownSpec)) filesKnownUptoCard
end Rows
end Go.Proofs.YtfjgpeoblnpelaaDoor
