/-
  No cell of these rows narrows 'for every input' (looked for: loops, veiled, ifaces, maps, wideKeys, modest, calm, conditions, laid).
  DERIVED. THE GIVEN ROWS OF THIS SEAT. 7 by the template 'for every input the law returns true; each argument reads behind the call as it read before'; 0 by the template 'total and deterministic' (their statements: YtbmjhiifinjieaaTotals.lean).
  GIVEN WITH THE SEED: the statements are not yours to turn. If you find one false, say at which input.
  Laid BY PROGRAM, IN A SANDBOX (cutbox-rows.mjs): the forced cells as the released guide's own fill.sh prints them over the translation b797e0af990d2772… (all of the seat's roots in one cut). By AI agents, Wed Nov 11 2026. No macro, syntax, notation, axiom, sorry.
-/
import Derived.Test.YtbmjhiifinjieaaChecked
import GoSem.Claim
import GoSem.ClaimJoined
import GoSem.ClaimMapViews
import Derived.JoinedTies
import Derived.KernelRfl
namespace Go.Proofs.Ytbmjhiifinjieaa
/- THE CELL 'sum', in the pinned program and in every row, IS THE sha256 OF THE DUMP (.gsa) THAT YtbmjhiifinjieaaProg.lean LOADS. Nothing in Lean hashes anything: it is a label: what it is worth is what the hold of that sum in a sandbox is worth. -/
noncomputable def Try.pinned : Pinned := { name := "ytbmjhiifinjieaa", sum := "b797e0af990d2772494a89ae0c4ba7382a4d2cc4b64fa10cd6f8e6fdc0209412", checked := Try.checked }
namespace Rows
def none {H : Type} : Left H := { results := [], args := [] }

/-- 'tithebarnlaw04.DiskDry': WHATEVER THE INPUT: true; the input reads as it did. -/
def diskDrySpec : ChangeSpec := { name := "diskDry", fn := fun _ => fun
  | [d1, d2, d3, d4, d5] => { results := [.lit (.bool true)], args := [d1, d2, d3, d4, d5] }
  | _ => none }
def diskDryRow : OpenClaim := { program := "ytbmjhiifinjieaa", sum := "b797e0af990d2772494a89ae0c4ba7382a4d2cc4b64fa10cd6f8e6fdc0209412", func := "tithebarn/tithebarnlaw04.DiskDry", spec := "diskDry", inPlace := ["internal/bytealg.abigen_runtime_cmpstring", "slices.overlaps[tithebarn/disk.file]"], unfollowed := true, recurses := true, apart := false }
def DiskDrySaid : Prop := diskDryRow.holds Try.pinned (OpenSpec.ofChange diskDrySpec)

/-- ITS FALSE NEIGHBOUR: 'it returns false'. Refute it at one input. -/
def diskDryWrong : ChangeSpec := { name := "diskDry", fn := fun _ => fun
  | [d1, d2, d3, d4, d5] => { results := [.lit (.bool false)], args := [d1, d2, d3, d4, d5] }
  | _ => none }
def DiskDryWrongFalsely : Prop := diskDryRow.holds Try.pinned (OpenSpec.ofChange diskDryWrong)

/-- 'tithebarnlaw04.DiskUpon': WHATEVER THE INPUT: true; the input reads as it did. -/
def diskUponSpec : ChangeSpec := { name := "diskUpon", fn := fun _ => fun
  | [d1, d2, d3, d4, d5] => { results := [.lit (.bool true)], args := [d1, d2, d3, d4, d5] }
  | _ => none }
def diskUponRow : OpenClaim := { program := "ytbmjhiifinjieaa", sum := "b797e0af990d2772494a89ae0c4ba7382a4d2cc4b64fa10cd6f8e6fdc0209412", func := "tithebarn/tithebarnlaw04.DiskUpon", spec := "diskUpon", inPlace := ["internal/bytealg.abigen_runtime_cmpstring", "slices.overlaps[tithebarn/disk.file]"], unfollowed := true, recurses := true, apart := false }
def DiskUponSaid : Prop := diskUponRow.holds Try.pinned (OpenSpec.ofChange diskUponSpec)

/-- ITS FALSE NEIGHBOUR: 'it returns false'. Refute it at one input. -/
def diskUponWrong : ChangeSpec := { name := "diskUpon", fn := fun _ => fun
  | [d1, d2, d3, d4, d5] => { results := [.lit (.bool false)], args := [d1, d2, d3, d4, d5] }
  | _ => none }
def DiskUponWrongFalsely : Prop := diskUponRow.holds Try.pinned (OpenSpec.ofChange diskUponWrong)

/-- 'tithebarnlaw04.DiskApart': WHATEVER THE INPUT: true; the input reads as it did. -/
def diskApartSpec : ChangeSpec := { name := "diskApart", fn := fun _ => fun
  | [d1, d2, d3, d4] => { results := [.lit (.bool true)], args := [d1, d2, d3, d4] }
  | _ => none }
def diskApartRow : OpenClaim := { program := "ytbmjhiifinjieaa", sum := "b797e0af990d2772494a89ae0c4ba7382a4d2cc4b64fa10cd6f8e6fdc0209412", func := "tithebarn/tithebarnlaw04.DiskApart", spec := "diskApart", inPlace := ["internal/bytealg.abigen_runtime_cmpstring", "slices.overlaps[tithebarn/disk.file]"], unfollowed := true, recurses := true, apart := false }
def DiskApartSaid : Prop := diskApartRow.holds Try.pinned (OpenSpec.ofChange diskApartSpec)

/-- ITS FALSE NEIGHBOUR: 'it returns false'. Refute it at one input. -/
def diskApartWrong : ChangeSpec := { name := "diskApart", fn := fun _ => fun
  | [d1, d2, d3, d4] => { results := [.lit (.bool false)], args := [d1, d2, d3, d4] }
  | _ => none }
def DiskApartWrongFalsely : Prop := diskApartRow.holds Try.pinned (OpenSpec.ofChange diskApartWrong)

/-- 'tithebarnlaw04.DiskQuota': WHATEVER THE INPUT: true; the input reads as it did. -/
def diskQuotaSpec : ChangeSpec := { name := "diskQuota", fn := fun _ => fun
  | [d1, d2] => { results := [.lit (.bool true)], args := [d1, d2] }
  | _ => none }
def diskQuotaRow : OpenClaim := { program := "ytbmjhiifinjieaa", sum := "b797e0af990d2772494a89ae0c4ba7382a4d2cc4b64fa10cd6f8e6fdc0209412", func := "tithebarn/tithebarnlaw04.DiskQuota", spec := "diskQuota", inPlace := ["internal/bytealg.abigen_runtime_cmpstring", "slices.overlaps[tithebarn/disk.file]"], unfollowed := true, recurses := true, apart := false }
def DiskQuotaSaid : Prop := diskQuotaRow.holds Try.pinned (OpenSpec.ofChange diskQuotaSpec)

/-- ITS FALSE NEIGHBOUR: 'it returns false'. Refute it at one input. -/
def diskQuotaWrong : ChangeSpec := { name := "diskQuota", fn := fun _ => fun
  | [d1, d2] => { results := [.lit (.bool false)], args := [d1, d2] }
  | _ => none }
def DiskQuotaWrongFalsely : Prop := diskQuotaRow.holds Try.pinned (OpenSpec.ofChange diskQuotaWrong)

/-- 'tithebarnlaw04.DiskActs': WHATEVER THE INPUT: true; the input reads as it did. -/
def diskActsSpec : ChangeSpec := { name := "diskActs", fn := fun _ => fun
  | [d1, d2] => { results := [.lit (.bool true)], args := [d1, d2] }
  | _ => none }
def diskActsRow : OpenClaim := { program := "ytbmjhiifinjieaa", sum := "b797e0af990d2772494a89ae0c4ba7382a4d2cc4b64fa10cd6f8e6fdc0209412", func := "tithebarn/tithebarnlaw04.DiskActs", spec := "diskActs", inPlace := ["internal/bytealg.abigen_runtime_cmpstring", "slices.overlaps[tithebarn/disk.file]"], unfollowed := true, recurses := true, apart := false }
def DiskActsSaid : Prop := diskActsRow.holds Try.pinned (OpenSpec.ofChange diskActsSpec)

/-- ITS FALSE NEIGHBOUR: 'it returns false'. Refute it at one input. -/
def diskActsWrong : ChangeSpec := { name := "diskActs", fn := fun _ => fun
  | [d1, d2] => { results := [.lit (.bool false)], args := [d1, d2] }
  | _ => none }
def DiskActsWrongFalsely : Prop := diskActsRow.holds Try.pinned (OpenSpec.ofChange diskActsWrong)

/-- 'tithebarnlaw04.DiskTwins': WHATEVER THE INPUT: true; the input reads as it did. -/
def diskTwinsSpec : ChangeSpec := { name := "diskTwins", fn := fun _ => fun
  | [d1, d2, d3, d4] => { results := [.lit (.bool true)], args := [d1, d2, d3, d4] }
  | _ => none }
def diskTwinsRow : OpenClaim := { program := "ytbmjhiifinjieaa", sum := "b797e0af990d2772494a89ae0c4ba7382a4d2cc4b64fa10cd6f8e6fdc0209412", func := "tithebarn/tithebarnlaw04.DiskTwins", spec := "diskTwins", inPlace := ["internal/bytealg.abigen_runtime_cmpstring", "slices.overlaps[tithebarn/disk.file]"], unfollowed := true, recurses := true, apart := false }
def DiskTwinsSaid : Prop := diskTwinsRow.holds Try.pinned (OpenSpec.ofChange diskTwinsSpec)

/-- ITS FALSE NEIGHBOUR: 'it returns false'. Refute it at one input. -/
def diskTwinsWrong : ChangeSpec := { name := "diskTwins", fn := fun _ => fun
  | [d1, d2, d3, d4] => { results := [.lit (.bool false)], args := [d1, d2, d3, d4] }
  | _ => none }
def DiskTwinsWrongFalsely : Prop := diskTwinsRow.holds Try.pinned (OpenSpec.ofChange diskTwinsWrong)

/-- 'tithebarnlaw04.DiskKnown': WHATEVER THE INPUT: true; the input reads as it did. -/
def diskKnownSpec : ChangeSpec := { name := "diskKnown", fn := fun _ => fun
  | [] => { results := [.lit (.bool true)], args := [] }
  | _ => none }
def diskKnownRow : OpenClaim := { program := "ytbmjhiifinjieaa", sum := "b797e0af990d2772494a89ae0c4ba7382a4d2cc4b64fa10cd6f8e6fdc0209412", func := "tithebarn/tithebarnlaw04.DiskKnown", spec := "diskKnown", inPlace := ["internal/bytealg.abigen_runtime_cmpstring", "slices.overlaps[tithebarn/disk.file]"], unfollowed := true, recurses := true, apart := false }
def DiskKnownSaid : Prop := diskKnownRow.holds Try.pinned (OpenSpec.ofChange diskKnownSpec)

/-- ITS FALSE NEIGHBOUR: 'it returns false'. Refute it at one input. -/
def diskKnownWrong : ChangeSpec := { name := "diskKnown", fn := fun _ => fun
  | [] => { results := [.lit (.bool false)], args := [] }
  | _ => none }
def DiskKnownWrongFalsely : Prop := diskKnownRow.holds Try.pinned (OpenSpec.ofChange diskKnownWrong)

/- THE SECOND FORM. 'bulk': how many values and letters a reading holds, each counted each time it is reached (what is shared counts as often as it is met; a slice's spare places count too). A statement '..UptoSaid' is the law's where the arguments, and the package variables that the reading takes, are together of bulk at most 1048576: NARROWER than '..Said'. Prove '..Said' where nothing that the law and all that it calls make is longer than what came in: it says more and counts as full. Else prove '..UptoSaid'. A law counts once. -/
mutual
def uptoBulk {H : Type} : DataW H → Nat
  | .lit (.string bytes) => bytes.length + 1
  | .lit _ => 1
  | .nil => 1
  | .ptr d => uptoBulk d + 1
  | .slice elems spare => uptoBulkAll elems + uptoBulkAll spare + 1
  | .agg parts => uptoBulkAll parts + 1
  | .iface _ d => uptoBulk d + 1
  | .map entries => uptoBulkEntries entries + 1
  | .held _ => 1
def uptoBulkAll {H : Type} : List (DataW H) → Nat
  | [] => 0
  | d :: r => uptoBulk d + uptoBulkAll r
def uptoBulkEntries {H : Type} : List (Lit × DataW H) → Nat
  | [] => 0
  | x :: r => uptoBulkEntry x + uptoBulkEntries r
def uptoBulkEntry {H : Type} : Lit × DataW H → Nat
  | (.string bytes, d) => bytes.length + uptoBulk d + 1
  | (_, d) => uptoBulk d + 1
 end
def uptoSmall : (H : Type) → List (DataW H) → Bool := fun _ ds => decide (uptoBulkAll ds ≤ 1048576)
def OpenSpec.upto (s : _root_.Go.ChangeSpec) : _root_.Go.OpenSpec := { _root_.Go.OpenSpec.ofChange s with cond := some uptoSmall }

/-- 'tithebarnlaw04.DiskDry', WHERE WHAT IT READS IS OF BULK AT MOST 1048576: true; the input reads as it did. -/
def diskDryUptoRow : OpenClaim := { program := "ytbmjhiifinjieaa", sum := "b797e0af990d2772494a89ae0c4ba7382a4d2cc4b64fa10cd6f8e6fdc0209412", func := "tithebarn/tithebarnlaw04.DiskDry", spec := "diskDry", inPlace := ["internal/bytealg.abigen_runtime_cmpstring", "slices.overlaps[tithebarn/disk.file]"], unfollowed := true, recurses := true, apart := false, narrowed := true }
def DiskDryUptoSaid : Prop := diskDryUptoRow.holds Try.pinned (OpenSpec.upto diskDrySpec)

/-- 'tithebarnlaw04.DiskUpon', WHERE WHAT IT READS IS OF BULK AT MOST 1048576: true; the input reads as it did. -/
def diskUponUptoRow : OpenClaim := { program := "ytbmjhiifinjieaa", sum := "b797e0af990d2772494a89ae0c4ba7382a4d2cc4b64fa10cd6f8e6fdc0209412", func := "tithebarn/tithebarnlaw04.DiskUpon", spec := "diskUpon", inPlace := ["internal/bytealg.abigen_runtime_cmpstring", "slices.overlaps[tithebarn/disk.file]"], unfollowed := true, recurses := true, apart := false, narrowed := true }
def DiskUponUptoSaid : Prop := diskUponUptoRow.holds Try.pinned (OpenSpec.upto diskUponSpec)

/-- 'tithebarnlaw04.DiskApart', WHERE WHAT IT READS IS OF BULK AT MOST 1048576: true; the input reads as it did. -/
def diskApartUptoRow : OpenClaim := { program := "ytbmjhiifinjieaa", sum := "b797e0af990d2772494a89ae0c4ba7382a4d2cc4b64fa10cd6f8e6fdc0209412", func := "tithebarn/tithebarnlaw04.DiskApart", spec := "diskApart", inPlace := ["internal/bytealg.abigen_runtime_cmpstring", "slices.overlaps[tithebarn/disk.file]"], unfollowed := true, recurses := true, apart := false, narrowed := true }
def DiskApartUptoSaid : Prop := diskApartUptoRow.holds Try.pinned (OpenSpec.upto diskApartSpec)

/-- 'tithebarnlaw04.DiskQuota', WHERE WHAT IT READS IS OF BULK AT MOST 1048576: true; the input reads as it did. -/
def diskQuotaUptoRow : OpenClaim := { program := "ytbmjhiifinjieaa", sum := "b797e0af990d2772494a89ae0c4ba7382a4d2cc4b64fa10cd6f8e6fdc0209412", func := "tithebarn/tithebarnlaw04.DiskQuota", spec := "diskQuota", inPlace := ["internal/bytealg.abigen_runtime_cmpstring", "slices.overlaps[tithebarn/disk.file]"], unfollowed := true, recurses := true, apart := false, narrowed := true }
def DiskQuotaUptoSaid : Prop := diskQuotaUptoRow.holds Try.pinned (OpenSpec.upto diskQuotaSpec)

/-- 'tithebarnlaw04.DiskActs', WHERE WHAT IT READS IS OF BULK AT MOST 1048576: true; the input reads as it did. -/
def diskActsUptoRow : OpenClaim := { program := "ytbmjhiifinjieaa", sum := "b797e0af990d2772494a89ae0c4ba7382a4d2cc4b64fa10cd6f8e6fdc0209412", func := "tithebarn/tithebarnlaw04.DiskActs", spec := "diskActs", inPlace := ["internal/bytealg.abigen_runtime_cmpstring", "slices.overlaps[tithebarn/disk.file]"], unfollowed := true, recurses := true, apart := false, narrowed := true }
def DiskActsUptoSaid : Prop := diskActsUptoRow.holds Try.pinned (OpenSpec.upto diskActsSpec)

/-- 'tithebarnlaw04.DiskTwins', WHERE WHAT IT READS IS OF BULK AT MOST 1048576: true; the input reads as it did. -/
def diskTwinsUptoRow : OpenClaim := { program := "ytbmjhiifinjieaa", sum := "b797e0af990d2772494a89ae0c4ba7382a4d2cc4b64fa10cd6f8e6fdc0209412", func := "tithebarn/tithebarnlaw04.DiskTwins", spec := "diskTwins", inPlace := ["internal/bytealg.abigen_runtime_cmpstring", "slices.overlaps[tithebarn/disk.file]"], unfollowed := true, recurses := true, apart := false, narrowed := true }
def DiskTwinsUptoSaid : Prop := diskTwinsUptoRow.holds Try.pinned (OpenSpec.upto diskTwinsSpec)

/-- 'tithebarnlaw04.DiskKnown', WHERE WHAT IT READS IS OF BULK AT MOST 1048576: true; the input reads as it did. -/
def diskKnownUptoRow : OpenClaim := { program := "ytbmjhiifinjieaa", sum := "b797e0af990d2772494a89ae0c4ba7382a4d2cc4b64fa10cd6f8e6fdc0209412", func := "tithebarn/tithebarnlaw04.DiskKnown", spec := "diskKnown", inPlace := ["internal/bytealg.abigen_runtime_cmpstring", "slices.overlaps[tithebarn/disk.file]"], unfollowed := true, recurses := true, apart := false, narrowed := true }
def DiskKnownUptoSaid : Prop := diskKnownUptoRow.holds Try.pinned (OpenSpec.upto diskKnownSpec)

end Rows
end Go.Proofs.Ytbmjhiifinjieaa
