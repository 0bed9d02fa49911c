/-
  Functions of the program, compiled for the abstract machine: printed by a program of ours (gen.py).
-/
import Derived.Test.YtgkmlbkocgjmmaaDoorA3
import Derived.Test.YtgkmlbkocgjmmaaDoorProg
import Derived.KernelRfl
set_option linter.unusedVariables false
set_option linter.unusedSimpArgs false
set_option linter.unnecessarySimpa false
namespace Go.Proofs.YtgkmlbkocgjmmaaDoor
open Go Go.AM
set_option maxRecDepth 100000

def F3 : AFun :=
  { n := 65, res := [.t 2], code :=
  (.seq
  (.reg [.op none (some 1) (.box 24 (.t 0)),
    .op none (some 2) (.mov (.c (.bool false)))])
  (.seq
  (.seq
  (.reg [.op none (some 11) (.ldn 3 (.t 1)),
    .call none (some 12) 10 [.t 11],
    .op none (some 13) (.un .not (.t 12))])
  (.cond (.t 13)
    (.seq
    (.reg [.call none (some 14) 11 [],
      .op none (some 2) (.mov (.t 14))])
    .ret)
    .skip))
  (.seq
  (.reg [.op none (some 16) (.ldn 3 (.t 1)),
    .call none (some 17) 12 [.t 16],
    .op none (some 15) (.mov (.t 17)),
    .op none (some 18) (.ext 0 (.t 15)),
    .op none (some 19) (.ext 1 (.t 15)),
    .op none (some 3) (.mov (.t 18)),
    .op none (some 4) (.mov (.t 19))])
  (.seq
  (.reg [.op none (some 21) (.ldn 3 (.t 1)),
    .call none (some 22) 13 [.t 21],
    .op none (some 20) (.mov (.t 22)),
    .op none (some 23) (.ext 0 (.t 20)),
    .op none (some 24) (.ext 1 (.t 20)),
    .op none (some 5) (.mov (.t 23)),
    .op none (some 6) (.mov (.t 24))])
  (.seq
  (.reg [.op none (some 26) (.ldn 3 (.t 1)),
    .call none (some 27) 14 [.t 26],
    .op none (some 25) (.mov (.t 27)),
    .op none (some 28) (.ext 0 (.t 25)),
    .op none (some 29) (.ext 1 (.t 25)),
    .op none (some 7) (.mov (.t 28)),
    .op none (some 8) (.mov (.t 29))])
  (.seq
  (.reg [.op none (some 31) (.ldn 3 (.t 1)),
    .call none (some 32) 15 [.t 31],
    .op none (some 30) (.mov (.t 32)),
    .op none (some 33) (.ext 0 (.t 30)),
    .op none (some 34) (.ext 1 (.t 30)),
    .op none (some 9) (.mov (.t 33)),
    .op none (some 10) (.mov (.t 34))])
  (.seq
  (.draw [.f (.op none (some 35) (.ldn 3 (.t 1))),
    .f (.op none (some 37) (.ldn 3 (.t 1))),
    .b (.call none (some 36) 16 [.t 35]) [.op none (some 37) (.ldn 3 (.t 1))],
    .b (.call none (some 38) 17 [.t 37]) [],
    .f (.op none (some 39) (.eql false .bool (.t 36) (.t 38))),
    .f (.op none (some 40) (.mov (.t 39))),
    .f (.op (some (40, true)) (some 41) (.mov (.t 3))),
    .f (.op (some (40, true)) (some 42) (.b2s (.t 41))),
    .f (.op (some (40, true)) (some 43) (.mov (.t 5))),
    .f (.op (some (40, true)) (some 44) (.b2s (.t 43))),
    .f (.op (some (40, true)) (some 45) (.bin .eql (.t 42) (.t 44))),
    .f (.op none (some 46) (.pick (.t 40) (.t 45) (.c (.bool false)))),
    .f (.op none (some 47) (.mov (.t 46))),
    .f (.op (some (47, true)) (some 48) (.mov (.t 4))),
    .f (.op (some (47, true)) (some 49) (.mov (.t 6))),
    .f (.op (some (47, true)) (some 50) (.bin .eql (.t 48) (.t 49))),
    .f (.op none (some 51) (.pick (.t 47) (.t 50) (.c (.bool false)))),
    .f (.op none (some 52) (.mov (.t 51))),
    .f (.op (some (52, true)) (some 53) (.mov (.t 7))),
    .f (.op (some (52, true)) (some 54) (.mov (.t 9))),
    .f (.op (some (52, true)) (some 55) (.bin .eql (.t 53) (.t 54))),
    .f (.op none (some 56) (.pick (.t 52) (.t 55) (.c (.bool false)))),
    .f (.op none (some 57) (.mov (.t 56))),
    .f (.op (some (57, true)) (some 58) (.mov (.t 8))),
    .f (.op (some (57, true)) (some 59) (.mov (.t 10))),
    .f (.op (some (57, true)) (some 60) (.bin .eql (.t 58) (.t 59))),
    .f (.op none (some 61) (.pick (.t 57) (.t 60) (.c (.bool false)))),
    .f (.op none (some 62) (.mov (.t 61))),
    .b (.call (some (62, true)) (some 63) 11 []) [],
    .f (.op none (some 64) (.pick (.t 62) (.t 63) (.c (.bool false)))),
    .f (.op none (some 2) (.mov (.t 64)))])
  .ret))))))) }
theorem F3_ok : compFun Tryd.prog 3 Tryd.f3 = some F3 := by kernel_rfl

end Go.Proofs.YtgkmlbkocgjmmaaDoor
