/-
  No cell of these rows narrows 'for every input' (looked for: loops, veiled, ifaces, maps, wideKeys, modest, calm, conditions, laid).
  DERIVED. THE GIVEN ROWS OF THIS SEAT. 6 by the template 'for every input the law returns true; each argument reads behind the call as it read before'; 0 by the template 'total and deterministic' (their statements: YtidngakhkpodgaaTotals.lean).
  GIVEN WITH THE SEED: the statements are not yours to turn. If you find one false, say at which input.
  Laid BY PROGRAM, IN A SANDBOX (cutbox-rows.mjs): the forced cells as the released guide's own fill.sh prints them over the translation f4da40e18104b4f5… (all of the seat's roots in one cut). By AI agents, Wed Nov 11 2026. No macro, syntax, notation, axiom, sorry.
-/
import Derived.Test.YtidngakhkpodgaaChecked
import GoSem.Claim
import GoSem.ClaimJoined
import GoSem.ClaimMapViews
import Derived.JoinedTies
import Derived.KernelRfl
namespace Go.Proofs.Ytidngakhkpodgaa
/- THE CELL 'sum', in the pinned program and in every row, IS THE sha256 OF THE DUMP (.gsa) THAT YtidngakhkpodgaaProg.lean LOADS. Nothing in Lean hashes anything: it is a label: what it is worth is what the hold of that sum in a sandbox is worth. -/
noncomputable def Try.pinned : Pinned := { name := "ytidngakhkpodgaa", sum := "f4da40e18104b4f59ab6122a50ca2ce49c22171d5112d6e5611feafd42fddfe5", checked := Try.checked }
namespace Rows
def none {H : Type} : Left H := { results := [], args := [] }

/-- 'tithebarnlaw09.NamingLetters': WHATEVER THE INPUT: true; the input reads as it did. -/
def namingLettersSpec : ChangeSpec := { name := "namingLetters", fn := fun _ => fun
  | [d] => { results := [.lit (.bool true)], args := [d] }
  | _ => none }
def namingLettersRow : OpenClaim := { program := "ytidngakhkpodgaa", sum := "f4da40e18104b4f59ab6122a50ca2ce49c22171d5112d6e5611feafd42fddfe5", func := "tithebarn/tithebarnlaw09.NamingLetters", spec := "namingLetters", inPlace := ["internal/abi.NoEscape", "internal/bytealg.IndexByteString", "internal/bytealg.IndexString"], unfollowed := true, recurses := true, named := ["internal/bytealg.MaxLen"], apart := false }
def NamingLettersSaid : Prop := namingLettersRow.holds Try.pinned (OpenSpec.ofChange namingLettersSpec)

/-- ITS FALSE NEIGHBOUR: 'it returns false'. Refute it at one input. -/
def namingLettersWrong : ChangeSpec := { name := "namingLetters", fn := fun _ => fun
  | [d] => { results := [.lit (.bool false)], args := [d] }
  | _ => none }
def NamingLettersWrongFalsely : Prop := namingLettersRow.holds Try.pinned (OpenSpec.ofChange namingLettersWrong)

/-- 'tithebarnlaw09.NamingBytes': WHATEVER THE INPUT: true; the input reads as it did. -/
def namingBytesSpec : ChangeSpec := { name := "namingBytes", fn := fun _ => fun
  | [d] => { results := [.lit (.bool true)], args := [d] }
  | _ => none }
def namingBytesRow : OpenClaim := { program := "ytidngakhkpodgaa", sum := "f4da40e18104b4f59ab6122a50ca2ce49c22171d5112d6e5611feafd42fddfe5", func := "tithebarn/tithebarnlaw09.NamingBytes", spec := "namingBytes", inPlace := ["internal/abi.NoEscape", "internal/bytealg.IndexByteString", "internal/bytealg.IndexString"], unfollowed := true, recurses := true, named := ["internal/bytealg.MaxLen"], apart := false }
def NamingBytesSaid : Prop := namingBytesRow.holds Try.pinned (OpenSpec.ofChange namingBytesSpec)

/-- ITS FALSE NEIGHBOUR: 'it returns false'. Refute it at one input. -/
def namingBytesWrong : ChangeSpec := { name := "namingBytes", fn := fun _ => fun
  | [d] => { results := [.lit (.bool false)], args := [d] }
  | _ => none }
def NamingBytesWrongFalsely : Prop := namingBytesRow.holds Try.pinned (OpenSpec.ofChange namingBytesWrong)

/-- 'tithebarnlaw09.NamingName': WHATEVER THE INPUT: true; the input reads as it did. -/
def namingNameSpec : ChangeSpec := { name := "namingName", fn := fun _ => fun
  | [d1, d2] => { results := [.lit (.bool true)], args := [d1, d2] }
  | _ => none }
def namingNameRow : OpenClaim := { program := "ytidngakhkpodgaa", sum := "f4da40e18104b4f59ab6122a50ca2ce49c22171d5112d6e5611feafd42fddfe5", func := "tithebarn/tithebarnlaw09.NamingName", spec := "namingName", inPlace := ["internal/abi.NoEscape", "internal/bytealg.IndexByteString", "internal/bytealg.IndexString"], unfollowed := true, recurses := true, named := ["internal/bytealg.MaxLen"], apart := false }
def NamingNameSaid : Prop := namingNameRow.holds Try.pinned (OpenSpec.ofChange namingNameSpec)

/-- ITS FALSE NEIGHBOUR: 'it returns false'. Refute it at one input. -/
def namingNameWrong : ChangeSpec := { name := "namingName", fn := fun _ => fun
  | [d1, d2] => { results := [.lit (.bool false)], args := [d1, d2] }
  | _ => none }
def NamingNameWrongFalsely : Prop := namingNameRow.holds Try.pinned (OpenSpec.ofChange namingNameWrong)

/-- 'tithebarnlaw09.NamingParse': WHATEVER THE INPUT: true; the input reads as it did. -/
def namingParseSpec : ChangeSpec := { name := "namingParse", fn := fun _ => fun
  | [d1, d2] => { results := [.lit (.bool true)], args := [d1, d2] }
  | _ => none }
def namingParseRow : OpenClaim := { program := "ytidngakhkpodgaa", sum := "f4da40e18104b4f59ab6122a50ca2ce49c22171d5112d6e5611feafd42fddfe5", func := "tithebarn/tithebarnlaw09.NamingParse", spec := "namingParse", inPlace := ["internal/abi.NoEscape", "internal/bytealg.IndexByteString", "internal/bytealg.IndexString"], unfollowed := true, recurses := true, named := ["internal/bytealg.MaxLen"], apart := false }
def NamingParseSaid : Prop := namingParseRow.holds Try.pinned (OpenSpec.ofChange namingParseSpec)

/-- ITS FALSE NEIGHBOUR: 'it returns false'. Refute it at one input. -/
def namingParseWrong : ChangeSpec := { name := "namingParse", fn := fun _ => fun
  | [d1, d2] => { results := [.lit (.bool false)], args := [d1, d2] }
  | _ => none }
def NamingParseWrongFalsely : Prop := namingParseRow.holds Try.pinned (OpenSpec.ofChange namingParseWrong)

/-- 'tithebarnlaw09.NamingBack': WHATEVER THE INPUT: true; the input reads as it did. -/
def namingBackSpec : ChangeSpec := { name := "namingBack", fn := fun _ => fun
  | [d1, d2, d3] => { results := [.lit (.bool true)], args := [d1, d2, d3] }
  | _ => none }
def namingBackRow : OpenClaim := { program := "ytidngakhkpodgaa", sum := "f4da40e18104b4f59ab6122a50ca2ce49c22171d5112d6e5611feafd42fddfe5", func := "tithebarn/tithebarnlaw09.NamingBack", spec := "namingBack", inPlace := ["internal/abi.NoEscape", "internal/bytealg.IndexByteString", "internal/bytealg.IndexString"], unfollowed := true, recurses := true, named := ["internal/bytealg.MaxLen"], apart := false }
def NamingBackSaid : Prop := namingBackRow.holds Try.pinned (OpenSpec.ofChange namingBackSpec)

/-- ITS FALSE NEIGHBOUR: 'it returns false'. Refute it at one input. -/
def namingBackWrong : ChangeSpec := { name := "namingBack", fn := fun _ => fun
  | [d1, d2, d3] => { results := [.lit (.bool false)], args := [d1, d2, d3] }
  | _ => none }
def NamingBackWrongFalsely : Prop := namingBackRow.holds Try.pinned (OpenSpec.ofChange namingBackWrong)

/-- 'tithebarnlaw09.NamingKnown': WHATEVER THE INPUT: true; the input reads as it did. -/
def namingKnownSpec : ChangeSpec := { name := "namingKnown", fn := fun _ => fun
  | [] => { results := [.lit (.bool true)], args := [] }
  | _ => none }
def namingKnownRow : OpenClaim := { program := "ytidngakhkpodgaa", sum := "f4da40e18104b4f59ab6122a50ca2ce49c22171d5112d6e5611feafd42fddfe5", func := "tithebarn/tithebarnlaw09.NamingKnown", spec := "namingKnown", inPlace := ["internal/abi.NoEscape", "internal/bytealg.IndexByteString", "internal/bytealg.IndexString"], unfollowed := true, recurses := true, named := ["internal/bytealg.MaxLen"], apart := false }
def NamingKnownSaid : Prop := namingKnownRow.holds Try.pinned (OpenSpec.ofChange namingKnownSpec)

/-- ITS FALSE NEIGHBOUR: 'it returns false'. Refute it at one input. -/
def namingKnownWrong : ChangeSpec := { name := "namingKnown", fn := fun _ => fun
  | [] => { results := [.lit (.bool false)], args := [] }
  | _ => none }
def NamingKnownWrongFalsely : Prop := namingKnownRow.holds Try.pinned (OpenSpec.ofChange namingKnownWrong)

/- THE SECOND FORM. 'bulk': how many values and letters a reading holds, each counted each time it is reached (what is shared counts as often as it is met; a slice's spare places count too). A statement '..UptoSaid' is the law's where the arguments, and the package variables that the reading takes, are together of bulk at most 1048576: NARROWER than '..Said'. Prove '..Said' where nothing that the law and all that it calls make is longer than what came in: it says more and counts as full. Else prove '..UptoSaid'. A law counts once. -/
mutual
def uptoBulk {H : Type} : DataW H → Nat
  | .lit (.string bytes) => bytes.length + 1
  | .lit _ => 1
  | .nil => 1
  | .ptr d => uptoBulk d + 1
  | .slice elems spare => uptoBulkAll elems + uptoBulkAll spare + 1
  | .agg parts => uptoBulkAll parts + 1
  | .iface _ d => uptoBulk d + 1
  | .map entries => uptoBulkEntries entries + 1
  | .held _ => 1
def uptoBulkAll {H : Type} : List (DataW H) → Nat
  | [] => 0
  | d :: r => uptoBulk d + uptoBulkAll r
def uptoBulkEntries {H : Type} : List (Lit × DataW H) → Nat
  | [] => 0
  | x :: r => uptoBulkEntry x + uptoBulkEntries r
def uptoBulkEntry {H : Type} : Lit × DataW H → Nat
  | (.string bytes, d) => bytes.length + uptoBulk d + 1
  | (_, d) => uptoBulk d + 1
 end
def uptoSmall : (H : Type) → List (DataW H) → Bool := fun _ ds => decide (uptoBulkAll ds ≤ 1048576)
def OpenSpec.upto (s : _root_.Go.ChangeSpec) : _root_.Go.OpenSpec := { _root_.Go.OpenSpec.ofChange s with cond := some uptoSmall }

/-- 'tithebarnlaw09.NamingLetters', WHERE WHAT IT READS IS OF BULK AT MOST 1048576: true; the input reads as it did. -/
def namingLettersUptoRow : OpenClaim := { program := "ytidngakhkpodgaa", sum := "f4da40e18104b4f59ab6122a50ca2ce49c22171d5112d6e5611feafd42fddfe5", func := "tithebarn/tithebarnlaw09.NamingLetters", spec := "namingLetters", inPlace := ["internal/abi.NoEscape", "internal/bytealg.IndexByteString", "internal/bytealg.IndexString"], unfollowed := true, recurses := true, named := ["internal/bytealg.MaxLen"], apart := false, narrowed := true }
def NamingLettersUptoSaid : Prop := namingLettersUptoRow.holds Try.pinned (OpenSpec.upto namingLettersSpec)

/-- 'tithebarnlaw09.NamingBytes', WHERE WHAT IT READS IS OF BULK AT MOST 1048576: true; the input reads as it did. -/
def namingBytesUptoRow : OpenClaim := { program := "ytidngakhkpodgaa", sum := "f4da40e18104b4f59ab6122a50ca2ce49c22171d5112d6e5611feafd42fddfe5", func := "tithebarn/tithebarnlaw09.NamingBytes", spec := "namingBytes", inPlace := ["internal/abi.NoEscape", "internal/bytealg.IndexByteString", "internal/bytealg.IndexString"], unfollowed := true, recurses := true, named := ["internal/bytealg.MaxLen"], apart := false, narrowed := true }
def NamingBytesUptoSaid : Prop := namingBytesUptoRow.holds Try.pinned (OpenSpec.upto namingBytesSpec)

/-- 'tithebarnlaw09.NamingName', WHERE WHAT IT READS IS OF BULK AT MOST 1048576: true; the input reads as it did. -/
def namingNameUptoRow : OpenClaim := { program := "ytidngakhkpodgaa", sum := "f4da40e18104b4f59ab6122a50ca2ce49c22171d5112d6e5611feafd42fddfe5", func := "tithebarn/tithebarnlaw09.NamingName", spec := "namingName", inPlace := ["internal/abi.NoEscape", "internal/bytealg.IndexByteString", "internal/bytealg.IndexString"], unfollowed := true, recurses := true, named := ["internal/bytealg.MaxLen"], apart := false, narrowed := true }
def NamingNameUptoSaid : Prop := namingNameUptoRow.holds Try.pinned (OpenSpec.upto namingNameSpec)

/-- 'tithebarnlaw09.NamingParse', WHERE WHAT IT READS IS OF BULK AT MOST 1048576: true; the input reads as it did. -/
def namingParseUptoRow : OpenClaim := { program := "ytidngakhkpodgaa", sum := "f4da40e18104b4f59ab6122a50ca2ce49c22171d5112d6e5611feafd42fddfe5", func := "tithebarn/tithebarnlaw09.NamingParse", spec := "namingParse", inPlace := ["internal/abi.NoEscape", "internal/bytealg.IndexByteString", "internal/bytealg.IndexString"], unfollowed := true, recurses := true, named := ["internal/bytealg.MaxLen"], apart := false, narrowed := true }
def NamingParseUptoSaid : Prop := namingParseUptoRow.holds Try.pinned (OpenSpec.upto namingParseSpec)

/-- 'tithebarnlaw09.NamingBack', WHERE WHAT IT READS IS OF BULK AT MOST 1048576: true; the input reads as it did. -/
def namingBackUptoRow : OpenClaim := { program := "ytidngakhkpodgaa", sum := "f4da40e18104b4f59ab6122a50ca2ce49c22171d5112d6e5611feafd42fddfe5", func := "tithebarn/tithebarnlaw09.NamingBack", spec := "namingBack", inPlace := ["internal/abi.NoEscape", "internal/bytealg.IndexByteString", "internal/bytealg.IndexString"], unfollowed := true, recurses := true, named := ["internal/bytealg.MaxLen"], apart := false, narrowed := true }
def NamingBackUptoSaid : Prop := namingBackUptoRow.holds Try.pinned (OpenSpec.upto namingBackSpec)

/-- 'tithebarnlaw09.NamingKnown', WHERE WHAT IT READS IS OF BULK AT MOST 1048576: true; the input reads as it did. -/
def namingKnownUptoRow : OpenClaim := { program := "ytidngakhkpodgaa", sum := "f4da40e18104b4f59ab6122a50ca2ce49c22171d5112d6e5611feafd42fddfe5", func := "tithebarn/tithebarnlaw09.NamingKnown", spec := "namingKnown", inPlace := ["internal/abi.NoEscape", "internal/bytealg.IndexByteString", "internal/bytealg.IndexString"], unfollowed := true, recurses := true, named := ["internal/bytealg.MaxLen"], apart := false, narrowed := true }
def NamingKnownUptoSaid : Prop := namingKnownUptoRow.holds Try.pinned (OpenSpec.upto namingKnownSpec)

end Rows
end Go.Proofs.Ytidngakhkpodgaa
