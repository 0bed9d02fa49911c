/-
  Functions of the program, compiled for the abstract machine: printed by a program of ours (gen.py).
-/
import Derived.Test.YtgkmlbkocgjmmaaDoorA3
import Derived.Test.YtgkmlbkocgjmmaaDoorProg
import Derived.KernelRfl
set_option linter.unusedVariables false
set_option linter.unusedSimpArgs false
set_option linter.unnecessarySimpa false
namespace Go.Proofs.YtgkmlbkocgjmmaaDoor
open Go Go.AM
set_option maxRecDepth 100000

def F5 : AFun :=
  { n := 67, res := [.t 4], code :=
  (.seq
  (.reg [.op none (some 2) (.box 24 (.t 0)),
    .op none (some 4) (.mov (.c (.bool false)))])
  (.seq
  (.seq
  (.reg [.op none (some 13) (.ldn 3 (.t 2)),
    .call none (some 14) 10 [.t 13],
    .op none (some 15) (.un .not (.t 14)),
    .op none (some 16) (.mov (.t 15)),
    .op (some (16, false)) (some 17) (.mov (.t 1)),
    .op (some (16, false)) (some 18) (.lenV (.t 17)),
    .op (some (16, false)) (some 19) (.bin .gtr (.t 18) (.c (.int .i64 3000))),
    .op none (some 20) (.pick (.t 16) (.c (.bool true)) (.t 19))])
  (.cond (.t 20)
    (.seq
    (.reg [.call none (some 21) 11 [],
      .op none (some 4) (.mov (.t 21))])
    .ret)
    .skip))
  (.seq
  (.reg [.op none (some 23) (.ldn 3 (.t 2)),
    .call none (some 24) 12 [.t 23],
    .op none (some 22) (.mov (.t 24)),
    .op none (some 25) (.ext 0 (.t 22)),
    .op none (some 26) (.ext 1 (.t 22)),
    .op none (some 5) (.mov (.t 25)),
    .op none (some 6) (.mov (.t 26))])
  (.seq
  (.seq
  (.reg [.op none (some 27) (.mov (.t 6)),
    .op none (some 28) (.bin .eql (.t 27) (.c (.int .i64 0)))])
  (.cond (.t 28)
    (.seq
    (.reg [.op none (some 30) (.mov (.t 5)),
      .call none (some 31) 18 [.t 30],
      .op none (some 29) (.mov (.t 31)),
      .op none (some 32) (.ext 0 (.t 29)),
      .op none (some 33) (.ext 1 (.t 29)),
      .op none (some 7) (.new 24 [.string (⟨#[]⟩), .slice none 0 0, .string (⟨#[]⟩)]),
      .op none none (.st 3 (.t 7) (.t 32)),
      .op none (some 8) (.mov (.t 33))])
    (.seq
    (.reg [.op none (some 34) (.mov (.t 8)),
      .op none (some 35) (.bin .neq (.t 34) (.c (.int .i64 0))),
      .op none (some 36) (.mov (.t 35)),
      .op (some (36, false)) (some 37) (.ldn 3 (.t 7)),
      .op (some (36, false)) (some 38) (.ldn 3 (.t 2)),
      .call (some (36, false)) (some 39) 20 [.t 37, .t 38],
      .op (some (36, false)) (some 40) (.un .not (.t 39)),
      .op none (some 41) (.pick (.t 36) (.c (.bool true)) (.t 40))])
    (.cond (.t 41)
      (.seq
      (.reg [.op none (some 4) (.mov (.c (.bool false)))])
      .ret)
      .skip)))
    .skip))
  (.seq
  (.reg [.op none (some 43) (.mov (.t 1)),
    .call none (some 44) 18 [.t 43],
    .op none (some 42) (.mov (.t 44)),
    .op none (some 45) (.ext 0 (.t 42)),
    .op none (some 46) (.ext 1 (.t 42)),
    .op none (some 9) (.new 24 [.string (⟨#[]⟩), .slice none 0 0, .string (⟨#[]⟩)]),
    .op none none (.st 3 (.t 9) (.t 45)),
    .op none (some 10) (.mov (.t 46))])
  (.seq
  (.seq
  (.reg [.op none (some 47) (.mov (.t 10)),
    .op none (some 48) (.bin .neq (.t 47) (.c (.int .i64 0)))])
  (.cond (.t 48)
    (.seq
    (.reg [.call none (some 49) 11 [],
      .op none (some 4) (.mov (.t 49))])
    .ret)
    .skip))
  (.seq
  (.reg [.op none (some 51) (.ldn 3 (.t 9)),
    .call none (some 52) 12 [.t 51],
    .op none (some 50) (.mov (.t 52)),
    .op none (some 53) (.ext 0 (.t 50)),
    .op none (some 54) (.ext 1 (.t 50)),
    .op none (some 11) (.mov (.t 53)),
    .op none (some 12) (.mov (.t 54))])
  (.seq
  (.reg [.op none (some 55) (.mov (.t 12)),
    .op none (some 56) (.bin .eql (.t 55) (.c (.int .i64 0))),
    .op none (some 57) (.mov (.t 56)),
    .op (some (57, true)) (some 58) (.mov (.t 11)),
    .op (some (57, true)) (some 59) (.b2s (.t 58)),
    .op (some (57, true)) (some 60) (.mov (.t 1)),
    .op (some (57, true)) (some 61) (.b2s (.t 60)),
    .op (some (57, true)) (some 62) (.bin .eql (.t 59) (.t 61)),
    .op none (some 63) (.pick (.t 57) (.t 62) (.c (.bool false))),
    .op none (some 64) (.mov (.t 63)),
    .call (some (64, true)) (some 65) 11 [],
    .op none (some 66) (.pick (.t 64) (.t 65) (.c (.bool false))),
    .op none (some 4) (.mov (.t 66))])
  .ret)))))))) }
theorem F5_ok : compFun Tryd.prog 3 Tryd.f5 = some F5 := by kernel_rfl

end Go.Proofs.YtgkmlbkocgjmmaaDoor
