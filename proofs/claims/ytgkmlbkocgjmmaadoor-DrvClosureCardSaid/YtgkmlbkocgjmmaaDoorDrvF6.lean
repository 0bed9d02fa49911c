/-
  Functions of the program, compiled for the abstract machine: printed by a program of ours (gen.py).
-/
import Derived.Test.YtgkmlbkocgjmmaaDoorA3
import Derived.Test.YtgkmlbkocgjmmaaDoorProg
import Derived.KernelRfl
set_option linter.unusedVariables false
set_option linter.unusedSimpArgs false
set_option linter.unnecessarySimpa false
namespace Go.Proofs.YtgkmlbkocgjmmaaDoor
open Go Go.AM
set_option maxRecDepth 100000

def F6 : AFun :=
  { n := 37, res := [.t 4], code :=
  (.seq
  (.reg [.op none (some 4) (.mov (.c (.bool false)))])
  (.seq
  (.seq
  (.reg [.op none (some 9) (.mov (.t 0)),
    .op none (some 10) (.mov (.t 1)),
    .call none (some 11) 21 [.t 9, .t 10],
    .op none (some 12) (.un .not (.t 11))])
  (.cond (.t 12)
    (.seq
    (.reg [.call none (some 13) 11 [],
      .op none (some 4) (.mov (.t 13))])
    .ret)
    .skip))
  (.seq
  (.reg [.op none (some 15) (.mov (.t 0)),
    .op none (some 16) (.mov (.t 1)),
    .call none (some 17) 22 [.t 15, .t 16],
    .op none (some 14) (.mov (.t 17)),
    .op none (some 18) (.ext 0 (.t 14)),
    .op none (some 19) (.ext 1 (.t 14)),
    .op none (some 5) (.mov (.t 18)),
    .op none (some 6) (.mov (.t 19))])
  (.seq
  (.reg [.op none (some 21) (.mov (.t 0)),
    .op none (some 22) (.mov (.t 1)),
    .call none (some 23) 23 [.t 21, .t 22],
    .op none (some 20) (.mov (.t 23)),
    .op none (some 24) (.ext 0 (.t 20)),
    .op none (some 25) (.ext 1 (.t 20)),
    .op none (some 7) (.mov (.t 24)),
    .op none (some 8) (.mov (.t 25))])
  (.seq
  (.reg [.op none (some 26) (.mov (.t 6)),
    .op none (some 27) (.mov (.t 8)),
    .op none (some 28) (.bin .eql (.t 26) (.t 27)),
    .op none (some 29) (.mov (.t 28)),
    .op (some (29, true)) (some 30) (.mov (.t 5)),
    .op (some (29, true)) (some 31) (.mov (.t 7)),
    .call (some (29, true)) (some 32) 24 [.t 30, .t 31],
    .op none (some 33) (.pick (.t 29) (.t 32) (.c (.bool false))),
    .op none (some 34) (.mov (.t 33)),
    .call (some (34, true)) (some 35) 11 [],
    .op none (some 36) (.pick (.t 34) (.t 35) (.c (.bool false))),
    .op none (some 4) (.mov (.t 36))])
  .ret))))) }
theorem F6_ok : compFun Tryd.prog 3 Tryd.f6 = some F6 := by kernel_rfl

end Go.Proofs.YtgkmlbkocgjmmaaDoor
