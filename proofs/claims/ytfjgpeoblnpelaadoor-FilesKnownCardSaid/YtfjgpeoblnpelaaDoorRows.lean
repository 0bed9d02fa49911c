/-
  NARROWER THAN 'FOR EVERY INPUT', by the rows' own cells (each row's printed sentence says how): FilesName: laid · FilesRight: loops, laid · FilesAt: loops, laid · FilesPut: loops, laid · FilesSame: loops, laid · FilesPaths: loops, laid · FilesKnown: laid.
  DERIVED. THE GIVEN ROWS OF THIS SEAT. 7 by the template 'for every input the law returns true; each argument reads behind the call as it read before'; 0 by the template 'total and deterministic' (their statements: YtfjgpeoblnpelaaDoorTotals.lean).
  GIVEN WITH THE SEED: the statements are not yours to turn. If you find one false, say at which input.
  Laid BY PROGRAM, IN A SANDBOX (cutbox-rows.mjs): the forced cells as the released guide's own fill.sh prints them over the translation b6b225c209fabee4… (all of the seat's roots in one cut). By AI agents, Wed Nov 11 2026. No macro, syntax, notation, axiom, sorry.
-/
import Derived.Test.YtfjgpeoblnpelaaDoorChecked
import GoSem.PinnedTables
import GoSem.Claim
import GoSem.ClaimJoined
import GoSem.ClaimMapViews
import Derived.JoinedTies
import Derived.KernelRfl
namespace Go.Proofs.YtfjgpeoblnpelaaDoor
/- THE CELL 'sum', in the pinned program and in every row, IS THE sha256 OF THE DUMP (.gsa) THAT YtfjgpeoblnpelaaDoorProg.lean LOADS. Nothing in Lean hashes anything: it is a label: what it is worth is what the hold of that sum in a sandbox is worth. -/
noncomputable def Tryd.pinned : Pinned := { name := "ytfjgpeoblnpelaadoor", sum := "b6b225c209fabee429e5b61090642fb4c44c334a724759dde38638d765d01de9", checked := Tryd.checked }
namespace Rows
def none {H : Type} : Left H := { results := [], args := [] }

/- WHAT THE LISTED PACKAGE-LEVEL VARIABLES READ AS WHEN THE CALL BEGINS. Each datum BY PROGRAM (the guide's laid-datum.mjs) off the statement by which the dump's own 'gosem.cut.vars' lays the variable. In a bare row this is a premise. The card (YtfjgpeoblnpelaaDoorCards.lean) ties it to the program's text. -/
def laid_unicode_utf8_acceptRanges {H : Type} : DataW H := .agg [.agg [.lit (.int .u8 128), .lit (.int .u8 191)], .agg [.lit (.int .u8 160), .lit (.int .u8 191)], .agg [.lit (.int .u8 128), .lit (.int .u8 159)], .agg [.lit (.int .u8 144), .lit (.int .u8 191)], .agg [.lit (.int .u8 128), .lit (.int .u8 143)], .agg [.lit (.int .u8 0), .lit (.int .u8 0)], .agg [.lit (.int .u8 0), .lit (.int .u8 0)], .agg [.lit (.int .u8 0), .lit (.int .u8 0)], .agg [.lit (.int .u8 0), .lit (.int .u8 0)], .agg [.lit (.int .u8 0), .lit (.int .u8 0)], .agg [.lit (.int .u8 0), .lit (.int .u8 0)], .agg [.lit (.int .u8 0), .lit (.int .u8 0)], .agg [.lit (.int .u8 0), .lit (.int .u8 0)], .agg [.lit (.int .u8 0), .lit (.int .u8 0)], .agg [.lit (.int .u8 0), .lit (.int .u8 0)], .agg [.lit (.int .u8 0), .lit (.int .u8 0)]]
/-- One of Go's own tables, pinned by name: the form's constant. -/
def laid_unicode_utf8_first : DataW Unit := Go.Pinned.utf8First

/-- 'tithebarnlaw07.FilesName': WHATEVER THE INPUT: true; the input reads as it did. -/
def filesNameSpec : ChangeSpec := { name := "filesName", fn := fun _ => fun
  | [d] => { results := [.lit (.bool true)], args := [d] }
  | _ => none }
def filesNameRow : OpenClaim := { program := "ytfjgpeoblnpelaadoor", sum := "b6b225c209fabee429e5b61090642fb4c44c334a724759dde38638d765d01de9", func := "tithebarn/tithebarnlaw07.FilesName", spec := "filesName", inPlace := ["internal/bytealg.IndexByteString", "internal/bytealg.IndexString", "internal/bytealg.CountString", "internal/bytealg.abigen_runtime_cmpstring"], unfollowed := true, recurses := true, named := ["unicode/utf8.first", "unicode/utf8.acceptRanges", "internal/bytealg.MaxLen"], apart := false, laid := [("unicode/utf8.acceptRanges", laid_unicode_utf8_acceptRanges), ("unicode/utf8.first", laid_unicode_utf8_first)] }
def FilesNameSaid : Prop := filesNameRow.holds Tryd.pinned (OpenSpec.ofChange filesNameSpec)

/-- ITS FALSE NEIGHBOUR: 'it returns false'. Refute it at one input. -/
def filesNameWrong : ChangeSpec := { name := "filesName", fn := fun _ => fun
  | [d] => { results := [.lit (.bool false)], args := [d] }
  | _ => none }
def FilesNameWrongFalsely : Prop := filesNameRow.holds Tryd.pinned (OpenSpec.ofChange filesNameWrong)

/-- 'tithebarnlaw07.FilesRight': WHATEVER THE INPUT: true; the input reads as it did. -/
def filesRightSpec : ChangeSpec := { name := "filesRight", fn := fun _ => fun
  | [d] => { results := [.lit (.bool true)], args := [d] }
  | _ => none }
def filesRightRow : OpenClaim := { program := "ytfjgpeoblnpelaadoor", sum := "b6b225c209fabee429e5b61090642fb4c44c334a724759dde38638d765d01de9", func := "tithebarn/tithebarnlaw07.FilesRight", spec := "filesRight", inPlace := ["internal/bytealg.CountString", "internal/bytealg.IndexByteString", "internal/bytealg.IndexString", "internal/bytealg.abigen_runtime_cmpstring"], unfollowed := true, recurses := true, named := ["unicode/utf8.first", "unicode/utf8.acceptRanges", "internal/bytealg.MaxLen"], loops := true, apart := false, laid := [("unicode/utf8.acceptRanges", laid_unicode_utf8_acceptRanges), ("unicode/utf8.first", laid_unicode_utf8_first)] }
def FilesRightSaid : Prop := filesRightRow.holds Tryd.pinned (OpenSpec.ofChange filesRightSpec)

/-- ITS FALSE NEIGHBOUR: 'it returns false'. Refute it at one input. -/
def filesRightWrong : ChangeSpec := { name := "filesRight", fn := fun _ => fun
  | [d] => { results := [.lit (.bool false)], args := [d] }
  | _ => none }
def FilesRightWrongFalsely : Prop := filesRightRow.holds Tryd.pinned (OpenSpec.ofChange filesRightWrong)

/-- 'tithebarnlaw07.FilesAt': WHATEVER THE INPUT: true; the input reads as it did. -/
def filesAtSpec : ChangeSpec := { name := "filesAt", fn := fun _ => fun
  | [d1, d2] => { results := [.lit (.bool true)], args := [d1, d2] }
  | _ => none }
def filesAtRow : OpenClaim := { program := "ytfjgpeoblnpelaadoor", sum := "b6b225c209fabee429e5b61090642fb4c44c334a724759dde38638d765d01de9", func := "tithebarn/tithebarnlaw07.FilesAt", spec := "filesAt", inPlace := ["internal/bytealg.CountString", "internal/bytealg.IndexByteString", "internal/bytealg.IndexString", "internal/bytealg.abigen_runtime_cmpstring"], unfollowed := true, recurses := true, named := ["unicode/utf8.first", "unicode/utf8.acceptRanges", "internal/bytealg.MaxLen"], loops := true, apart := false, laid := [("unicode/utf8.acceptRanges", laid_unicode_utf8_acceptRanges), ("unicode/utf8.first", laid_unicode_utf8_first)] }
def FilesAtSaid : Prop := filesAtRow.holds Tryd.pinned (OpenSpec.ofChange filesAtSpec)

/-- ITS FALSE NEIGHBOUR: 'it returns false'. Refute it at one input. -/
def filesAtWrong : ChangeSpec := { name := "filesAt", fn := fun _ => fun
  | [d1, d2] => { results := [.lit (.bool false)], args := [d1, d2] }
  | _ => none }
def FilesAtWrongFalsely : Prop := filesAtRow.holds Tryd.pinned (OpenSpec.ofChange filesAtWrong)

/-- 'tithebarnlaw07.FilesPut': WHATEVER THE INPUT: true; the input reads as it did. -/
def filesPutSpec : ChangeSpec := { name := "filesPut", fn := fun _ => fun
  | [d1, d2, d3] => { results := [.lit (.bool true)], args := [d1, d2, d3] }
  | _ => none }
def filesPutRow : OpenClaim := { program := "ytfjgpeoblnpelaadoor", sum := "b6b225c209fabee429e5b61090642fb4c44c334a724759dde38638d765d01de9", func := "tithebarn/tithebarnlaw07.FilesPut", spec := "filesPut", inPlace := ["internal/bytealg.CountString", "internal/bytealg.IndexByteString", "internal/bytealg.IndexString", "internal/bytealg.abigen_runtime_cmpstring"], unfollowed := true, recurses := true, named := ["unicode/utf8.first", "unicode/utf8.acceptRanges", "internal/bytealg.MaxLen"], loops := true, apart := false, laid := [("unicode/utf8.acceptRanges", laid_unicode_utf8_acceptRanges), ("unicode/utf8.first", laid_unicode_utf8_first)] }
def FilesPutSaid : Prop := filesPutRow.holds Tryd.pinned (OpenSpec.ofChange filesPutSpec)

/-- ITS FALSE NEIGHBOUR: 'it returns false'. Refute it at one input. -/
def filesPutWrong : ChangeSpec := { name := "filesPut", fn := fun _ => fun
  | [d1, d2, d3] => { results := [.lit (.bool false)], args := [d1, d2, d3] }
  | _ => none }
def FilesPutWrongFalsely : Prop := filesPutRow.holds Tryd.pinned (OpenSpec.ofChange filesPutWrong)

/-- 'tithebarnlaw07.FilesSame': WHATEVER THE INPUT: true; the input reads as it did. -/
def filesSameSpec : ChangeSpec := { name := "filesSame", fn := fun _ => fun
  | [d1, d2] => { results := [.lit (.bool true)], args := [d1, d2] }
  | _ => none }
def filesSameRow : OpenClaim := { program := "ytfjgpeoblnpelaadoor", sum := "b6b225c209fabee429e5b61090642fb4c44c334a724759dde38638d765d01de9", func := "tithebarn/tithebarnlaw07.FilesSame", spec := "filesSame", inPlace := ["internal/bytealg.CountString", "internal/bytealg.IndexByteString", "internal/bytealg.IndexString", "internal/bytealg.abigen_runtime_cmpstring"], unfollowed := true, recurses := true, named := ["unicode/utf8.first", "unicode/utf8.acceptRanges", "internal/bytealg.MaxLen"], loops := true, apart := false, laid := [("unicode/utf8.acceptRanges", laid_unicode_utf8_acceptRanges), ("unicode/utf8.first", laid_unicode_utf8_first)] }
def FilesSameSaid : Prop := filesSameRow.holds Tryd.pinned (OpenSpec.ofChange filesSameSpec)

/-- ITS FALSE NEIGHBOUR: 'it returns false'. Refute it at one input. -/
def filesSameWrong : ChangeSpec := { name := "filesSame", fn := fun _ => fun
  | [d1, d2] => { results := [.lit (.bool false)], args := [d1, d2] }
  | _ => none }
def FilesSameWrongFalsely : Prop := filesSameRow.holds Tryd.pinned (OpenSpec.ofChange filesSameWrong)

/-- 'tithebarnlaw07.FilesPaths': WHATEVER THE INPUT: true; the input reads as it did. -/
def filesPathsSpec : ChangeSpec := { name := "filesPaths", fn := fun _ => fun
  | [d1, d2, d3] => { results := [.lit (.bool true)], args := [d1, d2, d3] }
  | _ => none }
def filesPathsRow : OpenClaim := { program := "ytfjgpeoblnpelaadoor", sum := "b6b225c209fabee429e5b61090642fb4c44c334a724759dde38638d765d01de9", func := "tithebarn/tithebarnlaw07.FilesPaths", spec := "filesPaths", inPlace := ["internal/bytealg.CountString", "internal/bytealg.IndexByteString", "internal/bytealg.IndexString", "internal/bytealg.abigen_runtime_cmpstring"], unfollowed := true, recurses := true, named := ["unicode/utf8.first", "unicode/utf8.acceptRanges", "internal/bytealg.MaxLen"], loops := true, apart := false, laid := [("unicode/utf8.acceptRanges", laid_unicode_utf8_acceptRanges), ("unicode/utf8.first", laid_unicode_utf8_first)] }
def FilesPathsSaid : Prop := filesPathsRow.holds Tryd.pinned (OpenSpec.ofChange filesPathsSpec)

/-- ITS FALSE NEIGHBOUR: 'it returns false'. Refute it at one input. -/
def filesPathsWrong : ChangeSpec := { name := "filesPaths", fn := fun _ => fun
  | [d1, d2, d3] => { results := [.lit (.bool false)], args := [d1, d2, d3] }
  | _ => none }
def FilesPathsWrongFalsely : Prop := filesPathsRow.holds Tryd.pinned (OpenSpec.ofChange filesPathsWrong)

/-- 'tithebarnlaw07.FilesKnown': WHATEVER THE INPUT: true; the input reads as it did. -/
def filesKnownSpec : ChangeSpec := { name := "filesKnown", fn := fun _ => fun
  | [] => { results := [.lit (.bool true)], args := [] }
  | _ => none }
def filesKnownRow : OpenClaim := { program := "ytfjgpeoblnpelaadoor", sum := "b6b225c209fabee429e5b61090642fb4c44c334a724759dde38638d765d01de9", func := "tithebarn/tithebarnlaw07.FilesKnown", spec := "filesKnown", inPlace := ["internal/bytealg.IndexByteString", "internal/bytealg.IndexString", "internal/bytealg.CountString", "internal/bytealg.abigen_runtime_cmpstring"], unfollowed := true, recurses := true, named := ["unicode/utf8.first", "unicode/utf8.acceptRanges", "internal/bytealg.MaxLen"], apart := false, laid := [("unicode/utf8.acceptRanges", laid_unicode_utf8_acceptRanges), ("unicode/utf8.first", laid_unicode_utf8_first)] }
def FilesKnownSaid : Prop := filesKnownRow.holds Tryd.pinned (OpenSpec.ofChange filesKnownSpec)

/-- ITS FALSE NEIGHBOUR: 'it returns false'. Refute it at one input. -/
def filesKnownWrong : ChangeSpec := { name := "filesKnown", fn := fun _ => fun
  | [] => { results := [.lit (.bool false)], args := [] }
  | _ => none }
def FilesKnownWrongFalsely : Prop := filesKnownRow.holds Tryd.pinned (OpenSpec.ofChange filesKnownWrong)

/- THE SECOND FORM. 'bulk': how many values and letters a reading holds, each counted each time it is reached (what is shared counts as often as it is met; a slice's spare places count too). A statement '..UptoSaid' is the law's where the arguments, and the package variables that the reading takes, are together of bulk at most 1048576: NARROWER than '..Said'. Prove '..Said' where nothing that the law and all that it calls make is longer than what came in: it says more and counts as full. Else prove '..UptoSaid'. A law counts once. -/
mutual
def uptoBulk {H : Type} : DataW H → Nat
  | .lit (.string bytes) => bytes.length + 1
  | .lit _ => 1
  | .nil => 1
  | .ptr d => uptoBulk d + 1
  | .slice elems spare => uptoBulkAll elems + uptoBulkAll spare + 1
  | .agg parts => uptoBulkAll parts + 1
  | .iface _ d => uptoBulk d + 1
  | .map entries => uptoBulkEntries entries + 1
  | .held _ => 1
def uptoBulkAll {H : Type} : List (DataW H) → Nat
  | [] => 0
  | d :: r => uptoBulk d + uptoBulkAll r
def uptoBulkEntries {H : Type} : List (Lit × DataW H) → Nat
  | [] => 0
  | x :: r => uptoBulkEntry x + uptoBulkEntries r
def uptoBulkEntry {H : Type} : Lit × DataW H → Nat
  | (.string bytes, d) => bytes.length + uptoBulk d + 1
  | (_, d) => uptoBulk d + 1
 end
def uptoSmall : (H : Type) → List (DataW H) → Bool := fun _ ds => decide (uptoBulkAll ds ≤ 1048576)
def OpenSpec.upto (s : _root_.Go.ChangeSpec) : _root_.Go.OpenSpec := { _root_.Go.OpenSpec.ofChange s with cond := some uptoSmall }

/-- 'tithebarnlaw07.FilesName', WHERE WHAT IT READS IS OF BULK AT MOST 1048576: true; the input reads as it did. -/
def filesNameUptoRow : OpenClaim := { program := "ytfjgpeoblnpelaadoor", sum := "b6b225c209fabee429e5b61090642fb4c44c334a724759dde38638d765d01de9", func := "tithebarn/tithebarnlaw07.FilesName", spec := "filesName", inPlace := ["internal/bytealg.IndexByteString", "internal/bytealg.IndexString", "internal/bytealg.CountString", "internal/bytealg.abigen_runtime_cmpstring"], unfollowed := true, recurses := true, named := ["unicode/utf8.first", "unicode/utf8.acceptRanges", "internal/bytealg.MaxLen"], apart := false, laid := [("unicode/utf8.acceptRanges", laid_unicode_utf8_acceptRanges), ("unicode/utf8.first", laid_unicode_utf8_first)], narrowed := true }
def FilesNameUptoSaid : Prop := filesNameUptoRow.holds Tryd.pinned (OpenSpec.upto filesNameSpec)

/-- 'tithebarnlaw07.FilesRight', WHERE WHAT IT READS IS OF BULK AT MOST 1048576: true; the input reads as it did. -/
def filesRightUptoRow : OpenClaim := { program := "ytfjgpeoblnpelaadoor", sum := "b6b225c209fabee429e5b61090642fb4c44c334a724759dde38638d765d01de9", func := "tithebarn/tithebarnlaw07.FilesRight", spec := "filesRight", inPlace := ["internal/bytealg.CountString", "internal/bytealg.IndexByteString", "internal/bytealg.IndexString", "internal/bytealg.abigen_runtime_cmpstring"], unfollowed := true, recurses := true, named := ["unicode/utf8.first", "unicode/utf8.acceptRanges", "internal/bytealg.MaxLen"], loops := true, apart := false, laid := [("unicode/utf8.acceptRanges", laid_unicode_utf8_acceptRanges), ("unicode/utf8.first", laid_unicode_utf8_first)], narrowed := true }
def FilesRightUptoSaid : Prop := filesRightUptoRow.holds Tryd.pinned (OpenSpec.upto filesRightSpec)

/-- 'tithebarnlaw07.FilesAt', WHERE WHAT IT READS IS OF BULK AT MOST 1048576: true; the input reads as it did. -/
def filesAtUptoRow : OpenClaim := { program := "ytfjgpeoblnpelaadoor", sum := "b6b225c209fabee429e5b61090642fb4c44c334a724759dde38638d765d01de9", func := "tithebarn/tithebarnlaw07.FilesAt", spec := "filesAt", inPlace := ["internal/bytealg.CountString", "internal/bytealg.IndexByteString", "internal/bytealg.IndexString", "internal/bytealg.abigen_runtime_cmpstring"], unfollowed := true, recurses := true, named := ["unicode/utf8.first", "unicode/utf8.acceptRanges", "internal/bytealg.MaxLen"], loops := true, apart := false, laid := [("unicode/utf8.acceptRanges", laid_unicode_utf8_acceptRanges), ("unicode/utf8.first", laid_unicode_utf8_first)], narrowed := true }
def FilesAtUptoSaid : Prop := filesAtUptoRow.holds Tryd.pinned (OpenSpec.upto filesAtSpec)

/-- 'tithebarnlaw07.FilesPut', WHERE WHAT IT READS IS OF BULK AT MOST 1048576: true; the input reads as it did. -/
def filesPutUptoRow : OpenClaim := { program := "ytfjgpeoblnpelaadoor", sum := "b6b225c209fabee429e5b61090642fb4c44c334a724759dde38638d765d01de9", func := "tithebarn/tithebarnlaw07.FilesPut", spec := "filesPut", inPlace := ["internal/bytealg.CountString", "internal/bytealg.IndexByteString", "internal/bytealg.IndexString", "internal/bytealg.abigen_runtime_cmpstring"], unfollowed := true, recurses := true, named := ["unicode/utf8.first", "unicode/utf8.acceptRanges", "internal/bytealg.MaxLen"], loops := true, apart := false, laid := [("unicode/utf8.acceptRanges", laid_unicode_utf8_acceptRanges), ("unicode/utf8.first", laid_unicode_utf8_first)], narrowed := true }
def FilesPutUptoSaid : Prop := filesPutUptoRow.holds Tryd.pinned (OpenSpec.upto filesPutSpec)

/-- 'tithebarnlaw07.FilesSame', WHERE WHAT IT READS IS OF BULK AT MOST 1048576: true; the input reads as it did. -/
def filesSameUptoRow : OpenClaim := { program := "ytfjgpeoblnpelaadoor", sum := "b6b225c209fabee429e5b61090642fb4c44c334a724759dde38638d765d01de9", func := "tithebarn/tithebarnlaw07.FilesSame", spec := "filesSame", inPlace := ["internal/bytealg.CountString", "internal/bytealg.IndexByteString", "internal/bytealg.IndexString", "internal/bytealg.abigen_runtime_cmpstring"], unfollowed := true, recurses := true, named := ["unicode/utf8.first", "unicode/utf8.acceptRanges", "internal/bytealg.MaxLen"], loops := true, apart := false, laid := [("unicode/utf8.acceptRanges", laid_unicode_utf8_acceptRanges), ("unicode/utf8.first", laid_unicode_utf8_first)], narrowed := true }
def FilesSameUptoSaid : Prop := filesSameUptoRow.holds Tryd.pinned (OpenSpec.upto filesSameSpec)

/-- 'tithebarnlaw07.FilesPaths', WHERE WHAT IT READS IS OF BULK AT MOST 1048576: true; the input reads as it did. -/
def filesPathsUptoRow : OpenClaim := { program := "ytfjgpeoblnpelaadoor", sum := "b6b225c209fabee429e5b61090642fb4c44c334a724759dde38638d765d01de9", func := "tithebarn/tithebarnlaw07.FilesPaths", spec := "filesPaths", inPlace := ["internal/bytealg.CountString", "internal/bytealg.IndexByteString", "internal/bytealg.IndexString", "internal/bytealg.abigen_runtime_cmpstring"], unfollowed := true, recurses := true, named := ["unicode/utf8.first", "unicode/utf8.acceptRanges", "internal/bytealg.MaxLen"], loops := true, apart := false, laid := [("unicode/utf8.acceptRanges", laid_unicode_utf8_acceptRanges), ("unicode/utf8.first", laid_unicode_utf8_first)], narrowed := true }
def FilesPathsUptoSaid : Prop := filesPathsUptoRow.holds Tryd.pinned (OpenSpec.upto filesPathsSpec)

/-- 'tithebarnlaw07.FilesKnown', WHERE WHAT IT READS IS OF BULK AT MOST 1048576: true; the input reads as it did. -/
def filesKnownUptoRow : OpenClaim := { program := "ytfjgpeoblnpelaadoor", sum := "b6b225c209fabee429e5b61090642fb4c44c334a724759dde38638d765d01de9", func := "tithebarn/tithebarnlaw07.FilesKnown", spec := "filesKnown", inPlace := ["internal/bytealg.IndexByteString", "internal/bytealg.IndexString", "internal/bytealg.CountString", "internal/bytealg.abigen_runtime_cmpstring"], unfollowed := true, recurses := true, named := ["unicode/utf8.first", "unicode/utf8.acceptRanges", "internal/bytealg.MaxLen"], apart := false, laid := [("unicode/utf8.acceptRanges", laid_unicode_utf8_acceptRanges), ("unicode/utf8.first", laid_unicode_utf8_first)], narrowed := true }
def FilesKnownUptoSaid : Prop := filesKnownUptoRow.holds Tryd.pinned (OpenSpec.upto filesKnownSpec)

end Rows
end Go.Proofs.YtfjgpeoblnpelaaDoor
