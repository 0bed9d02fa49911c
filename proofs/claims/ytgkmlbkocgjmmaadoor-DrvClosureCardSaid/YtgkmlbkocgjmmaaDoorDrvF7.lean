/-
  Functions of the program, compiled for the abstract machine: printed by a program of ours (gen.py).
-/
import Derived.Test.YtgkmlbkocgjmmaaDoorA3
import Derived.Test.YtgkmlbkocgjmmaaDoorProg
import Derived.KernelRfl
set_option linter.unusedVariables false
set_option linter.unusedSimpArgs false
set_option linter.unnecessarySimpa false
namespace Go.Proofs.YtgkmlbkocgjmmaaDoor
open Go Go.AM
set_option maxRecDepth 100000

def F7 : AFun :=
  { n := 46, res := [.t 6], code :=
  (.seq
  (.reg [.op none (some 6) (.mov (.c (.bool false)))])
  (.seq
  (.seq
  (.reg [.op none (some 11) (.mov (.t 0)),
    .op none (some 12) (.mov (.t 1)),
    .call none (some 13) 21 [.t 11, .t 12],
    .op none (some 14) (.un .not (.t 13)),
    .op none (some 15) (.mov (.t 14)),
    .op (some (15, false)) (some 16) (.mov (.t 2)),
    .call (some (15, false)) (some 17) 25 [.t 16, .c (.int .i64 30)],
    .op (some (15, false)) (some 18) (.un .not (.t 17)),
    .op none (some 19) (.pick (.t 15) (.c (.bool true)) (.t 18))])
  (.cond (.t 19)
    (.seq
    (.reg [.call none (some 20) 11 [],
      .op none (some 6) (.mov (.t 20))])
    .ret)
    .skip))
  (.seq
  (.reg [.op none (some 22) (.mov (.t 0)),
    .op none (some 23) (.mov (.t 1)),
    .op none (some 24) (.mov (.t 2)),
    .call none (some 25) 26 [.t 22, .t 23, .t 24],
    .op none (some 21) (.mov (.t 25)),
    .op none (some 26) (.ext 0 (.t 21)),
    .op none (some 27) (.ext 1 (.t 21)),
    .op none (some 7) (.mov (.t 26)),
    .op none (some 8) (.mov (.t 27))])
  (.seq
  (.reg [.op none (some 29) (.mov (.t 0)),
    .op none (some 30) (.mov (.t 1)),
    .op none (some 31) (.mov (.t 2)),
    .call none (some 32) 27 [.t 29, .t 30, .t 31],
    .op none (some 28) (.mov (.t 32)),
    .op none (some 33) (.ext 0 (.t 28)),
    .op none (some 34) (.ext 1 (.t 28)),
    .op none (some 9) (.mov (.t 33)),
    .op none (some 10) (.mov (.t 34))])
  (.seq
  (.reg [.op none (some 35) (.mov (.t 8)),
    .op none (some 36) (.mov (.t 10)),
    .op none (some 37) (.bin .eql (.t 35) (.t 36)),
    .op none (some 38) (.mov (.t 37)),
    .op (some (38, true)) (some 39) (.mov (.t 7)),
    .op (some (38, true)) (some 40) (.mov (.t 9)),
    .call (some (38, true)) (some 41) 24 [.t 39, .t 40],
    .op none (some 42) (.pick (.t 38) (.t 41) (.c (.bool false))),
    .op none (some 43) (.mov (.t 42)),
    .call (some (43, true)) (some 44) 11 [],
    .op none (some 45) (.pick (.t 43) (.t 44) (.c (.bool false))),
    .op none (some 6) (.mov (.t 45))])
  .ret))))) }
theorem F7_ok : compFun Tryd.prog 3 Tryd.f7 = some F7 := by kernel_rfl

end Go.Proofs.YtgkmlbkocgjmmaaDoor
