/-
  DERIVED. GIVEN WITH THE SEED: THE CARDS: each row of YtgkmlbkocgjmmaaDoorRows.lean that lists a variable, with what it lists TIED to the program's text (the seventh form; the later family's looks); each row that meets fmt, with fmt's text TOLD by the authors' own Lean function (tested against real Go, not proved from fmt's source: count such statements apart). THE CARD IS WHAT COUNTS. Prove the row's statement (the work); the ties are given (YtgkmlbkocgjmmaaDoorTie.lean); close each card by the builder's one call (the guide's Derived/Test/ToyasCard.lean, 'card_holds'). Laid BY PROGRAM, IN A SANDBOX (cutbox-door.mjs). By AI agents, Wed Nov 11 2026. No macro, syntax, notation, axiom, sorry.
-/
import Derived.Test.YtgkmlbkocgjmmaaDoorRows
import GoSem.ClaimSeven
namespace Go.Proofs.YtgkmlbkocgjmmaaDoor
namespace Rows

/-- THE TIED CARD OF 'tithebarnlaw24.DrvPut'. -/
def drvPutCard : Claim7 := { stood := { row := drvPutRow, standIns := [], harness := (true, "c1eb432d03475d555d2433174795e0dd49b8b19404f2321c6fd621654867a84d"), looks := false }, kinds := [], alts := [], laidByText := true, laidKinds := [.data, .data], laidTests := true, laidLooks := .later }
def DrvPutCardSaid : Prop := Claim7.holds Tryd.pinned (.plain (OpenSpec.ofChange drvPutSpec)) drvPutCard

/-- THE TIED CARD OF 'tithebarnlaw24.DrvGet'. -/
def drvGetCard : Claim7 := { stood := { row := drvGetRow, standIns := [], harness := (true, "c1eb432d03475d555d2433174795e0dd49b8b19404f2321c6fd621654867a84d"), looks := false }, kinds := [], alts := [], laidByText := true, laidKinds := [.data, .data], laidTests := true, laidLooks := .later }
def DrvGetCardSaid : Prop := Claim7.holds Tryd.pinned (.plain (OpenSpec.ofChange drvGetSpec)) drvGetCard

/-- THE TIED CARD OF 'tithebarnlaw24.DrvBack'. -/
def drvBackCard : Claim7 := { stood := { row := drvBackRow, standIns := [], harness := (true, "c1eb432d03475d555d2433174795e0dd49b8b19404f2321c6fd621654867a84d"), looks := false }, kinds := [], alts := [], laidByText := true, laidKinds := [.data, .data], laidTests := true, laidLooks := .later }
def DrvBackCardSaid : Prop := Claim7.holds Tryd.pinned (.plain (OpenSpec.ofChange drvBackSpec)) drvBackCard

/-- THE TIED CARD OF 'tithebarnlaw24.DrvSort'. -/
def drvSortCard : Claim7 := { stood := { row := drvSortRow, standIns := [], harness := (true, "c1eb432d03475d555d2433174795e0dd49b8b19404f2321c6fd621654867a84d"), looks := false }, kinds := [], alts := [], laidByText := true, laidKinds := [.data, .data], laidTests := true, laidLooks := .later }
def DrvSortCardSaid : Prop := Claim7.holds Tryd.pinned (.plain (OpenSpec.ofChange drvSortSpec)) drvSortCard

/-- THE TIED CARD OF 'tithebarnlaw24.DrvClosure'. -/
def drvClosureCard : Claim7 := { stood := { row := drvClosureRow, standIns := [], harness := (true, "c1eb432d03475d555d2433174795e0dd49b8b19404f2321c6fd621654867a84d"), looks := false }, kinds := [], alts := [], laidByText := true, laidKinds := [.data, .data], laidTests := true, laidLooks := .later }
def DrvClosureCardSaid : Prop := Claim7.holds Tryd.pinned (.plain (OpenSpec.ofChange drvClosureSpec)) drvClosureCard

/-- THE TIED CARD OF 'tithebarnlaw24.DrvHolds'. -/
def drvHoldsCard : Claim7 := { stood := { row := drvHoldsRow, standIns := [], harness := (true, "c1eb432d03475d555d2433174795e0dd49b8b19404f2321c6fd621654867a84d"), looks := false }, kinds := [], alts := [], laidByText := true, laidKinds := [.data, .data], laidTests := true, laidLooks := .later }
def DrvHoldsCardSaid : Prop := Claim7.holds Tryd.pinned (.plain (OpenSpec.ofChange drvHoldsSpec)) drvHoldsCard

/-- THE TIED CARD OF 'tithebarnlaw24.DrvKnown'. -/
def drvKnownCard : Claim7 := { stood := { row := drvKnownRow, standIns := [], harness := (true, "c1eb432d03475d555d2433174795e0dd49b8b19404f2321c6fd621654867a84d"), looks := false }, kinds := [], alts := [], laidByText := true, laidKinds := [.data, .data], laidTests := true, laidLooks := .later }
def DrvKnownCardSaid : Prop := Claim7.holds Tryd.pinned (.plain (OpenSpec.ofChange drvKnownSpec)) drvKnownCard

/-- THE SECOND FORM's CARD OF 'tithebarnlaw24.DrvPut'. -/
def drvPutUptoCard : Claim7 := { stood := { row := drvPutUptoRow, standIns := [], harness := (true, "c1eb432d03475d555d2433174795e0dd49b8b19404f2321c6fd621654867a84d"), looks := false }, kinds := [], alts := [], laidByText := true, laidKinds := [.data, .data], laidTests := true, laidLooks := .later }
def DrvPutUptoCardSaid : Prop := Claim7.holds Tryd.pinned (.plain (OpenSpec.upto drvPutSpec)) drvPutUptoCard

/-- THE SECOND FORM's CARD OF 'tithebarnlaw24.DrvGet'. -/
def drvGetUptoCard : Claim7 := { stood := { row := drvGetUptoRow, standIns := [], harness := (true, "c1eb432d03475d555d2433174795e0dd49b8b19404f2321c6fd621654867a84d"), looks := false }, kinds := [], alts := [], laidByText := true, laidKinds := [.data, .data], laidTests := true, laidLooks := .later }
def DrvGetUptoCardSaid : Prop := Claim7.holds Tryd.pinned (.plain (OpenSpec.upto drvGetSpec)) drvGetUptoCard

/-- THE SECOND FORM's CARD OF 'tithebarnlaw24.DrvBack'. -/
def drvBackUptoCard : Claim7 := { stood := { row := drvBackUptoRow, standIns := [], harness := (true, "c1eb432d03475d555d2433174795e0dd49b8b19404f2321c6fd621654867a84d"), looks := false }, kinds := [], alts := [], laidByText := true, laidKinds := [.data, .data], laidTests := true, laidLooks := .later }
def DrvBackUptoCardSaid : Prop := Claim7.holds Tryd.pinned (.plain (OpenSpec.upto drvBackSpec)) drvBackUptoCard

/-- THE SECOND FORM's CARD OF 'tithebarnlaw24.DrvSort'. -/
def drvSortUptoCard : Claim7 := { stood := { row := drvSortUptoRow, standIns := [], harness := (true, "c1eb432d03475d555d2433174795e0dd49b8b19404f2321c6fd621654867a84d"), looks := false }, kinds := [], alts := [], laidByText := true, laidKinds := [.data, .data], laidTests := true, laidLooks := .later }
def DrvSortUptoCardSaid : Prop := Claim7.holds Tryd.pinned (.plain (OpenSpec.upto drvSortSpec)) drvSortUptoCard

/-- THE SECOND FORM's CARD OF 'tithebarnlaw24.DrvClosure'. -/
def drvClosureUptoCard : Claim7 := { stood := { row := drvClosureUptoRow, standIns := [], harness := (true, "c1eb432d03475d555d2433174795e0dd49b8b19404f2321c6fd621654867a84d"), looks := false }, kinds := [], alts := [], laidByText := true, laidKinds := [.data, .data], laidTests := true, laidLooks := .later }
def DrvClosureUptoCardSaid : Prop := Claim7.holds Tryd.pinned (.plain (OpenSpec.upto drvClosureSpec)) drvClosureUptoCard

/-- THE SECOND FORM's CARD OF 'tithebarnlaw24.DrvHolds'. -/
def drvHoldsUptoCard : Claim7 := { stood := { row := drvHoldsUptoRow, standIns := [], harness := (true, "c1eb432d03475d555d2433174795e0dd49b8b19404f2321c6fd621654867a84d"), looks := false }, kinds := [], alts := [], laidByText := true, laidKinds := [.data, .data], laidTests := true, laidLooks := .later }
def DrvHoldsUptoCardSaid : Prop := Claim7.holds Tryd.pinned (.plain (OpenSpec.upto drvHoldsSpec)) drvHoldsUptoCard

/-- THE SECOND FORM's CARD OF 'tithebarnlaw24.DrvKnown'. -/
def drvKnownUptoCard : Claim7 := { stood := { row := drvKnownUptoRow, standIns := [], harness := (true, "c1eb432d03475d555d2433174795e0dd49b8b19404f2321c6fd621654867a84d"), looks := false }, kinds := [], alts := [], laidByText := true, laidKinds := [.data, .data], laidTests := true, laidLooks := .later }
def DrvKnownUptoCardSaid : Prop := Claim7.holds Tryd.pinned (.plain (OpenSpec.upto drvKnownSpec)) drvKnownUptoCard
end Rows
end Go.Proofs.YtgkmlbkocgjmmaaDoor
