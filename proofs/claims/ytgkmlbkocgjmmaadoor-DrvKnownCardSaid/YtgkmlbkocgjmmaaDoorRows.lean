/-
  NARROWER THAN 'FOR EVERY INPUT', by the rows' own cells (each row's printed sentence says how): DrvPut: laid · DrvGet: laid · DrvBack: laid · DrvSort: laid · DrvClosure: laid · DrvHolds: laid · DrvKnown: laid.
  DERIVED. THE GIVEN ROWS OF THIS SEAT. 7 by the template 'for every input the law returns true; each argument reads behind the call as it read before'; 0 by the template 'total and deterministic' (their statements: YtgkmlbkocgjmmaaDoorTotals.lean).
  GIVEN WITH THE SEED: the statements are not yours to turn. If you find one false, say at which input.
  Laid BY PROGRAM, IN A SANDBOX (cutbox-rows.mjs): the forced cells as the released guide's own fill.sh prints them over the translation c2ddd5a268b8f077… (all of the seat's roots in one cut). By AI agents, Wed Nov 11 2026. No macro, syntax, notation, axiom, sorry.
-/
import Derived.Test.YtgkmlbkocgjmmaaDoorChecked
import GoSem.Claim
import GoSem.ClaimJoined
import GoSem.ClaimMapViews
import Derived.JoinedTies
import Derived.KernelRfl
namespace Go.Proofs.YtgkmlbkocgjmmaaDoor
/- THE CELL 'sum', in the pinned program and in every row, IS THE sha256 OF THE DUMP (.gsa) THAT YtgkmlbkocgjmmaaDoorProg.lean LOADS. Nothing in Lean hashes anything: it is a label: what it is worth is what the hold of that sum in a sandbox is worth. -/
noncomputable def Tryd.pinned : Pinned := { name := "ytgkmlbkocgjmmaadoor", sum := "c2ddd5a268b8f07706015a244159b0f755af7a433e368101f0d73459367b9951", checked := Tryd.checked }
namespace Rows
def none {H : Type} : Left H := { results := [], args := [] }

/- WHAT THE LISTED PACKAGE-LEVEL VARIABLES READ AS WHEN THE CALL BEGINS. Each datum BY PROGRAM (the guide's laid-datum.mjs) off the statement by which the dump's own 'gosem.cut.vars' lays the variable. In a bare row this is a premise. The card (YtgkmlbkocgjmmaaDoorCards.lean) ties it to the program's text. -/
def laid_tithebarn_sha_constants {H : Type} : DataW H := .agg [.lit (.int .u32 1116352408), .lit (.int .u32 1899447441), .lit (.int .u32 3049323471), .lit (.int .u32 3921009573), .lit (.int .u32 961987163), .lit (.int .u32 1508970993), .lit (.int .u32 2453635748), .lit (.int .u32 2870763221), .lit (.int .u32 3624381080), .lit (.int .u32 310598401), .lit (.int .u32 607225278), .lit (.int .u32 1426881987), .lit (.int .u32 1925078388), .lit (.int .u32 2162078206), .lit (.int .u32 2614888103), .lit (.int .u32 3248222580), .lit (.int .u32 3835390401), .lit (.int .u32 4022224774), .lit (.int .u32 264347078), .lit (.int .u32 604807628), .lit (.int .u32 770255983), .lit (.int .u32 1249150122), .lit (.int .u32 1555081692), .lit (.int .u32 1996064986), .lit (.int .u32 2554220882), .lit (.int .u32 2821834349), .lit (.int .u32 2952996808), .lit (.int .u32 3210313671), .lit (.int .u32 3336571891), .lit (.int .u32 3584528711), .lit (.int .u32 113926993), .lit (.int .u32 338241895), .lit (.int .u32 666307205), .lit (.int .u32 773529912), .lit (.int .u32 1294757372), .lit (.int .u32 1396182291), .lit (.int .u32 1695183700), .lit (.int .u32 1986661051), .lit (.int .u32 2177026350), .lit (.int .u32 2456956037), .lit (.int .u32 2730485921), .lit (.int .u32 2820302411), .lit (.int .u32 3259730800), .lit (.int .u32 3345764771), .lit (.int .u32 3516065817), .lit (.int .u32 3600352804), .lit (.int .u32 4094571909), .lit (.int .u32 275423344), .lit (.int .u32 430227734), .lit (.int .u32 506948616), .lit (.int .u32 659060556), .lit (.int .u32 883997877), .lit (.int .u32 958139571), .lit (.int .u32 1322822218), .lit (.int .u32 1537002063), .lit (.int .u32 1747873779), .lit (.int .u32 1955562222), .lit (.int .u32 2024104815), .lit (.int .u32 2227730452), .lit (.int .u32 2361852424), .lit (.int .u32 2428436474), .lit (.int .u32 2756734187), .lit (.int .u32 3204031479), .lit (.int .u32 3329325298)]
def laid_tithebarn_sha_begin {H : Type} : DataW H := .agg [.lit (.int .u32 1779033703), .lit (.int .u32 3144134277), .lit (.int .u32 1013904242), .lit (.int .u32 2773480762), .lit (.int .u32 1359893119), .lit (.int .u32 2600822924), .lit (.int .u32 528734635), .lit (.int .u32 1541459225)]

/-- 'tithebarnlaw24.DrvPut': WHATEVER THE INPUT: true; the input reads as it did. -/
def drvPutSpec : ChangeSpec := { name := "drvPut", fn := fun _ => fun
  | [d] => { results := [.lit (.bool true)], args := [d] }
  | _ => none }
def drvPutRow : OpenClaim := { program := "ytgkmlbkocgjmmaadoor", sum := "c2ddd5a268b8f07706015a244159b0f755af7a433e368101f0d73459367b9951", func := "tithebarn/tithebarnlaw24.DrvPut", spec := "drvPut", inPlace := ["internal/bytealg.IndexByteString", "internal/bytealg.IndexString", "internal/abi.NoEscape"], unfollowed := true, recurses := true, named := ["internal/bytealg.MaxLen", "tithebarn/sha.constants", "tithebarn/sha.begin"], apart := false, laid := [("tithebarn/sha.constants", laid_tithebarn_sha_constants), ("tithebarn/sha.begin", laid_tithebarn_sha_begin)] }
def DrvPutSaid : Prop := drvPutRow.holds Tryd.pinned (OpenSpec.ofChange drvPutSpec)

/-- ITS FALSE NEIGHBOUR: 'it returns false'. Refute it at one input. -/
def drvPutWrong : ChangeSpec := { name := "drvPut", fn := fun _ => fun
  | [d] => { results := [.lit (.bool false)], args := [d] }
  | _ => none }
def DrvPutWrongFalsely : Prop := drvPutRow.holds Tryd.pinned (OpenSpec.ofChange drvPutWrong)

/-- 'tithebarnlaw24.DrvGet': WHATEVER THE INPUT: true; the input reads as it did. -/
def drvGetSpec : ChangeSpec := { name := "drvGet", fn := fun _ => fun
  | [d] => { results := [.lit (.bool true)], args := [d] }
  | _ => none }
def drvGetRow : OpenClaim := { program := "ytgkmlbkocgjmmaadoor", sum := "c2ddd5a268b8f07706015a244159b0f755af7a433e368101f0d73459367b9951", func := "tithebarn/tithebarnlaw24.DrvGet", spec := "drvGet", inPlace := ["internal/bytealg.IndexByteString", "internal/bytealg.IndexString", "internal/abi.NoEscape"], unfollowed := true, recurses := true, named := ["internal/bytealg.MaxLen", "tithebarn/sha.constants", "tithebarn/sha.begin"], apart := false, laid := [("tithebarn/sha.constants", laid_tithebarn_sha_constants), ("tithebarn/sha.begin", laid_tithebarn_sha_begin)] }
def DrvGetSaid : Prop := drvGetRow.holds Tryd.pinned (OpenSpec.ofChange drvGetSpec)

/-- ITS FALSE NEIGHBOUR: 'it returns false'. Refute it at one input. -/
def drvGetWrong : ChangeSpec := { name := "drvGet", fn := fun _ => fun
  | [d] => { results := [.lit (.bool false)], args := [d] }
  | _ => none }
def DrvGetWrongFalsely : Prop := drvGetRow.holds Tryd.pinned (OpenSpec.ofChange drvGetWrong)

/-- 'tithebarnlaw24.DrvBack': WHATEVER THE INPUT: true; the input reads as it did. -/
def drvBackSpec : ChangeSpec := { name := "drvBack", fn := fun _ => fun
  | [d1, d2] => { results := [.lit (.bool true)], args := [d1, d2] }
  | _ => none }
def drvBackRow : OpenClaim := { program := "ytgkmlbkocgjmmaadoor", sum := "c2ddd5a268b8f07706015a244159b0f755af7a433e368101f0d73459367b9951", func := "tithebarn/tithebarnlaw24.DrvBack", spec := "drvBack", inPlace := ["internal/bytealg.IndexByteString", "internal/bytealg.IndexString", "internal/abi.NoEscape"], unfollowed := true, recurses := true, named := ["internal/bytealg.MaxLen", "tithebarn/sha.constants", "tithebarn/sha.begin"], apart := false, laid := [("tithebarn/sha.constants", laid_tithebarn_sha_constants), ("tithebarn/sha.begin", laid_tithebarn_sha_begin)] }
def DrvBackSaid : Prop := drvBackRow.holds Tryd.pinned (OpenSpec.ofChange drvBackSpec)

/-- ITS FALSE NEIGHBOUR: 'it returns false'. Refute it at one input. -/
def drvBackWrong : ChangeSpec := { name := "drvBack", fn := fun _ => fun
  | [d1, d2] => { results := [.lit (.bool false)], args := [d1, d2] }
  | _ => none }
def DrvBackWrongFalsely : Prop := drvBackRow.holds Tryd.pinned (OpenSpec.ofChange drvBackWrong)

/-- 'tithebarnlaw24.DrvSort': WHATEVER THE INPUT: true; the input reads as it did. -/
def drvSortSpec : ChangeSpec := { name := "drvSort", fn := fun _ => fun
  | [d1, d2] => { results := [.lit (.bool true)], args := [d1, d2] }
  | _ => none }
def drvSortRow : OpenClaim := { program := "ytgkmlbkocgjmmaadoor", sum := "c2ddd5a268b8f07706015a244159b0f755af7a433e368101f0d73459367b9951", func := "tithebarn/tithebarnlaw24.DrvSort", spec := "drvSort", inPlace := ["internal/bytealg.IndexByteString", "internal/bytealg.IndexString", "internal/abi.NoEscape"], unfollowed := true, recurses := true, named := ["internal/bytealg.MaxLen", "tithebarn/sha.constants", "tithebarn/sha.begin"], apart := false, laid := [("tithebarn/sha.constants", laid_tithebarn_sha_constants), ("tithebarn/sha.begin", laid_tithebarn_sha_begin)] }
def DrvSortSaid : Prop := drvSortRow.holds Tryd.pinned (OpenSpec.ofChange drvSortSpec)

/-- ITS FALSE NEIGHBOUR: 'it returns false'. Refute it at one input. -/
def drvSortWrong : ChangeSpec := { name := "drvSort", fn := fun _ => fun
  | [d1, d2] => { results := [.lit (.bool false)], args := [d1, d2] }
  | _ => none }
def DrvSortWrongFalsely : Prop := drvSortRow.holds Tryd.pinned (OpenSpec.ofChange drvSortWrong)

/-- 'tithebarnlaw24.DrvClosure': WHATEVER THE INPUT: true; the input reads as it did. -/
def drvClosureSpec : ChangeSpec := { name := "drvClosure", fn := fun _ => fun
  | [d1, d2, d3] => { results := [.lit (.bool true)], args := [d1, d2, d3] }
  | _ => none }
def drvClosureRow : OpenClaim := { program := "ytgkmlbkocgjmmaadoor", sum := "c2ddd5a268b8f07706015a244159b0f755af7a433e368101f0d73459367b9951", func := "tithebarn/tithebarnlaw24.DrvClosure", spec := "drvClosure", inPlace := ["internal/bytealg.IndexByteString", "internal/bytealg.IndexString", "internal/abi.NoEscape"], unfollowed := true, recurses := true, named := ["internal/bytealg.MaxLen", "tithebarn/sha.constants", "tithebarn/sha.begin"], apart := false, laid := [("tithebarn/sha.constants", laid_tithebarn_sha_constants), ("tithebarn/sha.begin", laid_tithebarn_sha_begin)] }
def DrvClosureSaid : Prop := drvClosureRow.holds Tryd.pinned (OpenSpec.ofChange drvClosureSpec)

/-- ITS FALSE NEIGHBOUR: 'it returns false'. Refute it at one input. -/
def drvClosureWrong : ChangeSpec := { name := "drvClosure", fn := fun _ => fun
  | [d1, d2, d3] => { results := [.lit (.bool false)], args := [d1, d2, d3] }
  | _ => none }
def DrvClosureWrongFalsely : Prop := drvClosureRow.holds Tryd.pinned (OpenSpec.ofChange drvClosureWrong)

/-- 'tithebarnlaw24.DrvHolds': WHATEVER THE INPUT: true; the input reads as it did. -/
def drvHoldsSpec : ChangeSpec := { name := "drvHolds", fn := fun _ => fun
  | [d1, d2, d3, d4] => { results := [.lit (.bool true)], args := [d1, d2, d3, d4] }
  | _ => none }
def drvHoldsRow : OpenClaim := { program := "ytgkmlbkocgjmmaadoor", sum := "c2ddd5a268b8f07706015a244159b0f755af7a433e368101f0d73459367b9951", func := "tithebarn/tithebarnlaw24.DrvHolds", spec := "drvHolds", inPlace := ["internal/bytealg.IndexByteString", "internal/bytealg.IndexString", "internal/abi.NoEscape"], unfollowed := true, recurses := true, named := ["internal/bytealg.MaxLen", "tithebarn/sha.constants", "tithebarn/sha.begin"], apart := false, laid := [("tithebarn/sha.constants", laid_tithebarn_sha_constants), ("tithebarn/sha.begin", laid_tithebarn_sha_begin)] }
def DrvHoldsSaid : Prop := drvHoldsRow.holds Tryd.pinned (OpenSpec.ofChange drvHoldsSpec)

/-- ITS FALSE NEIGHBOUR: 'it returns false'. Refute it at one input. -/
def drvHoldsWrong : ChangeSpec := { name := "drvHolds", fn := fun _ => fun
  | [d1, d2, d3, d4] => { results := [.lit (.bool false)], args := [d1, d2, d3, d4] }
  | _ => none }
def DrvHoldsWrongFalsely : Prop := drvHoldsRow.holds Tryd.pinned (OpenSpec.ofChange drvHoldsWrong)

/-- 'tithebarnlaw24.DrvKnown': WHATEVER THE INPUT: true; the input reads as it did. -/
def drvKnownSpec : ChangeSpec := { name := "drvKnown", fn := fun _ => fun
  | [] => { results := [.lit (.bool true)], args := [] }
  | _ => none }
def drvKnownRow : OpenClaim := { program := "ytgkmlbkocgjmmaadoor", sum := "c2ddd5a268b8f07706015a244159b0f755af7a433e368101f0d73459367b9951", func := "tithebarn/tithebarnlaw24.DrvKnown", spec := "drvKnown", inPlace := ["internal/abi.NoEscape", "internal/bytealg.IndexByteString", "internal/bytealg.IndexString"], unfollowed := true, recurses := true, named := ["internal/bytealg.MaxLen", "tithebarn/sha.constants", "tithebarn/sha.begin"], apart := false, laid := [("tithebarn/sha.constants", laid_tithebarn_sha_constants), ("tithebarn/sha.begin", laid_tithebarn_sha_begin)] }
def DrvKnownSaid : Prop := drvKnownRow.holds Tryd.pinned (OpenSpec.ofChange drvKnownSpec)

/-- ITS FALSE NEIGHBOUR: 'it returns false'. Refute it at one input. -/
def drvKnownWrong : ChangeSpec := { name := "drvKnown", fn := fun _ => fun
  | [] => { results := [.lit (.bool false)], args := [] }
  | _ => none }
def DrvKnownWrongFalsely : Prop := drvKnownRow.holds Tryd.pinned (OpenSpec.ofChange drvKnownWrong)

/- THE SECOND FORM. 'bulk': how many values and letters a reading holds, each counted each time it is reached (what is shared counts as often as it is met; a slice's spare places count too). A statement '..UptoSaid' is the law's where the arguments, and the package variables that the reading takes, are together of bulk at most 1048576: NARROWER than '..Said'. Prove '..Said' where nothing that the law and all that it calls make is longer than what came in: it says more and counts as full. Else prove '..UptoSaid'. A law counts once. -/
mutual
def uptoBulk {H : Type} : DataW H → Nat
  | .lit (.string bytes) => bytes.length + 1
  | .lit _ => 1
  | .nil => 1
  | .ptr d => uptoBulk d + 1
  | .slice elems spare => uptoBulkAll elems + uptoBulkAll spare + 1
  | .agg parts => uptoBulkAll parts + 1
  | .iface _ d => uptoBulk d + 1
  | .map entries => uptoBulkEntries entries + 1
  | .held _ => 1
def uptoBulkAll {H : Type} : List (DataW H) → Nat
  | [] => 0
  | d :: r => uptoBulk d + uptoBulkAll r
def uptoBulkEntries {H : Type} : List (Lit × DataW H) → Nat
  | [] => 0
  | x :: r => uptoBulkEntry x + uptoBulkEntries r
def uptoBulkEntry {H : Type} : Lit × DataW H → Nat
  | (.string bytes, d) => bytes.length + uptoBulk d + 1
  | (_, d) => uptoBulk d + 1
 end
def uptoSmall : (H : Type) → List (DataW H) → Bool := fun _ ds => decide (uptoBulkAll ds ≤ 1048576)
def OpenSpec.upto (s : _root_.Go.ChangeSpec) : _root_.Go.OpenSpec := { _root_.Go.OpenSpec.ofChange s with cond := some uptoSmall }

/-- 'tithebarnlaw24.DrvPut', WHERE WHAT IT READS IS OF BULK AT MOST 1048576: true; the input reads as it did. -/
def drvPutUptoRow : OpenClaim := { program := "ytgkmlbkocgjmmaadoor", sum := "c2ddd5a268b8f07706015a244159b0f755af7a433e368101f0d73459367b9951", func := "tithebarn/tithebarnlaw24.DrvPut", spec := "drvPut", inPlace := ["internal/bytealg.IndexByteString", "internal/bytealg.IndexString", "internal/abi.NoEscape"], unfollowed := true, recurses := true, named := ["internal/bytealg.MaxLen", "tithebarn/sha.constants", "tithebarn/sha.begin"], apart := false, laid := [("tithebarn/sha.constants", laid_tithebarn_sha_constants), ("tithebarn/sha.begin", laid_tithebarn_sha_begin)], narrowed := true }
def DrvPutUptoSaid : Prop := drvPutUptoRow.holds Tryd.pinned (OpenSpec.upto drvPutSpec)

/-- 'tithebarnlaw24.DrvGet', WHERE WHAT IT READS IS OF BULK AT MOST 1048576: true; the input reads as it did. -/
def drvGetUptoRow : OpenClaim := { program := "ytgkmlbkocgjmmaadoor", sum := "c2ddd5a268b8f07706015a244159b0f755af7a433e368101f0d73459367b9951", func := "tithebarn/tithebarnlaw24.DrvGet", spec := "drvGet", inPlace := ["internal/bytealg.IndexByteString", "internal/bytealg.IndexString", "internal/abi.NoEscape"], unfollowed := true, recurses := true, named := ["internal/bytealg.MaxLen", "tithebarn/sha.constants", "tithebarn/sha.begin"], apart := false, laid := [("tithebarn/sha.constants", laid_tithebarn_sha_constants), ("tithebarn/sha.begin", laid_tithebarn_sha_begin)], narrowed := true }
def DrvGetUptoSaid : Prop := drvGetUptoRow.holds Tryd.pinned (OpenSpec.upto drvGetSpec)

/-- 'tithebarnlaw24.DrvBack', WHERE WHAT IT READS IS OF BULK AT MOST 1048576: true; the input reads as it did. -/
def drvBackUptoRow : OpenClaim := { program := "ytgkmlbkocgjmmaadoor", sum := "c2ddd5a268b8f07706015a244159b0f755af7a433e368101f0d73459367b9951", func := "tithebarn/tithebarnlaw24.DrvBack", spec := "drvBack", inPlace := ["internal/bytealg.IndexByteString", "internal/bytealg.IndexString", "internal/abi.NoEscape"], unfollowed := true, recurses := true, named := ["internal/bytealg.MaxLen", "tithebarn/sha.constants", "tithebarn/sha.begin"], apart := false, laid := [("tithebarn/sha.constants", laid_tithebarn_sha_constants), ("tithebarn/sha.begin", laid_tithebarn_sha_begin)], narrowed := true }
def DrvBackUptoSaid : Prop := drvBackUptoRow.holds Tryd.pinned (OpenSpec.upto drvBackSpec)

/-- 'tithebarnlaw24.DrvSort', WHERE WHAT IT READS IS OF BULK AT MOST 1048576: true; the input reads as it did. -/
def drvSortUptoRow : OpenClaim := { program := "ytgkmlbkocgjmmaadoor", sum := "c2ddd5a268b8f07706015a244159b0f755af7a433e368101f0d73459367b9951", func := "tithebarn/tithebarnlaw24.DrvSort", spec := "drvSort", inPlace := ["internal/bytealg.IndexByteString", "internal/bytealg.IndexString", "internal/abi.NoEscape"], unfollowed := true, recurses := true, named := ["internal/bytealg.MaxLen", "tithebarn/sha.constants", "tithebarn/sha.begin"], apart := false, laid := [("tithebarn/sha.constants", laid_tithebarn_sha_constants), ("tithebarn/sha.begin", laid_tithebarn_sha_begin)], narrowed := true }
def DrvSortUptoSaid : Prop := drvSortUptoRow.holds Tryd.pinned (OpenSpec.upto drvSortSpec)

/-- 'tithebarnlaw24.DrvClosure', WHERE WHAT IT READS IS OF BULK AT MOST 1048576: true; the input reads as it did. -/
def drvClosureUptoRow : OpenClaim := { program := "ytgkmlbkocgjmmaadoor", sum := "c2ddd5a268b8f07706015a244159b0f755af7a433e368101f0d73459367b9951", func := "tithebarn/tithebarnlaw24.DrvClosure", spec := "drvClosure", inPlace := ["internal/bytealg.IndexByteString", "internal/bytealg.IndexString", "internal/abi.NoEscape"], unfollowed := true, recurses := true, named := ["internal/bytealg.MaxLen", "tithebarn/sha.constants", "tithebarn/sha.begin"], apart := false, laid := [("tithebarn/sha.constants", laid_tithebarn_sha_constants), ("tithebarn/sha.begin", laid_tithebarn_sha_begin)], narrowed := true }
def DrvClosureUptoSaid : Prop := drvClosureUptoRow.holds Tryd.pinned (OpenSpec.upto drvClosureSpec)

/-- 'tithebarnlaw24.DrvHolds', WHERE WHAT IT READS IS OF BULK AT MOST 1048576: true; the input reads as it did. -/
def drvHoldsUptoRow : OpenClaim := { program := "ytgkmlbkocgjmmaadoor", sum := "c2ddd5a268b8f07706015a244159b0f755af7a433e368101f0d73459367b9951", func := "tithebarn/tithebarnlaw24.DrvHolds", spec := "drvHolds", inPlace := ["internal/bytealg.IndexByteString", "internal/bytealg.IndexString", "internal/abi.NoEscape"], unfollowed := true, recurses := true, named := ["internal/bytealg.MaxLen", "tithebarn/sha.constants", "tithebarn/sha.begin"], apart := false, laid := [("tithebarn/sha.constants", laid_tithebarn_sha_constants), ("tithebarn/sha.begin", laid_tithebarn_sha_begin)], narrowed := true }
def DrvHoldsUptoSaid : Prop := drvHoldsUptoRow.holds Tryd.pinned (OpenSpec.upto drvHoldsSpec)

/-- 'tithebarnlaw24.DrvKnown', WHERE WHAT IT READS IS OF BULK AT MOST 1048576: true; the input reads as it did. -/
def drvKnownUptoRow : OpenClaim := { program := "ytgkmlbkocgjmmaadoor", sum := "c2ddd5a268b8f07706015a244159b0f755af7a433e368101f0d73459367b9951", func := "tithebarn/tithebarnlaw24.DrvKnown", spec := "drvKnown", inPlace := ["internal/abi.NoEscape", "internal/bytealg.IndexByteString", "internal/bytealg.IndexString"], unfollowed := true, recurses := true, named := ["internal/bytealg.MaxLen", "tithebarn/sha.constants", "tithebarn/sha.begin"], apart := false, laid := [("tithebarn/sha.constants", laid_tithebarn_sha_constants), ("tithebarn/sha.begin", laid_tithebarn_sha_begin)], narrowed := true }
def DrvKnownUptoSaid : Prop := drvKnownUptoRow.holds Tryd.pinned (OpenSpec.upto drvKnownSpec)

end Rows
end Go.Proofs.YtgkmlbkocgjmmaaDoor
