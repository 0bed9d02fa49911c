/-
  Functions of the program, compiled for the abstract machine: printed by a program of ours (gen.py).
-/
import Derived.Test.YtgkmlbkocgjmmaaDoorA3
import Derived.Test.YtgkmlbkocgjmmaaDoorProg
import Derived.KernelRfl
set_option linter.unusedVariables false
set_option linter.unusedSimpArgs false
set_option linter.unnecessarySimpa false
namespace Go.Proofs.YtgkmlbkocgjmmaaDoor
open Go Go.AM
set_option maxRecDepth 100000

def F4_l0 : ACode :=
  (.seq
  (.seq
  (.reg [.op none (some 42) (.mov (.t 8)),
    .op none (some 43) (.mov (.t 3)),
    .op none (some 44) (.lenV (.t 43)),
    .op none (some 45) (.bin .lss (.t 42) (.t 44))])
  (.cond (.t 45)
    .skip
    (.exit 0)))
  (.seq
  (.block 1
  (.reg [.op none (some 48) (.mov (.t 3)),
    .op none (some 49) (.mov (.t 8)),
    .op none (some 50) (.mov (.t 3)),
    .op none (some 51) (.mov (.t 8)),
    .op none (some 52) (.iadV 1 (.t 50) (.t 51)),
    .op none (some 53) (.ld1 (.t 52)),
    .op none (some 54) (.bin .add (.t 53) (.c (.int .u8 1))),
    .op none (some 55) (.iadV 1 (.t 48) (.t 49)),
    .op none none (.st 1 (.t 55) (.t 54))]))
  (.reg [.op none (some 46) (.mov (.t 8)),
    .op none (some 47) (.bin .add (.t 46) (.c (.int .i64 1))),
    .op none (some 8) (.mov (.t 47))])))

def F4 : AFun :=
  { n := 62, res := [.t 2], code :=
  (.seq
  (.reg [.op none (some 2) (.mov (.c (.bool false)))])
  (.seq
  (.seq
  (.reg [.op none (some 9) (.mov (.t 0)),
    .op none (some 10) (.lenV (.t 9)),
    .op none (some 11) (.bin .gtr (.t 10) (.c (.int .i64 3000)))])
  (.cond (.t 11)
    (.seq
    (.reg [.call none (some 12) 11 [],
      .op none (some 2) (.mov (.t 12))])
    .ret)
    .skip))
  (.seq
  (.reg [.op none (some 13) (.mov (.t 0)),
    .op none (some 14) (.b2s (.t 13)),
    .op none (some 15) (.s2b 5 (.t 14)),
    .op none (some 3) (.mov (.t 15))])
  (.seq
  (.reg [.op none (some 17) (.mov (.t 3)),
    .call none (some 18) 18 [.t 17],
    .op none (some 16) (.mov (.t 18)),
    .op none (some 19) (.ext 0 (.t 16)),
    .op none (some 20) (.ext 1 (.t 16)),
    .op none (some 4) (.new 24 [.string (⟨#[]⟩), .slice none 0 0, .string (⟨#[]⟩)]),
    .op none none (.st 3 (.t 4) (.t 19)),
    .op none (some 5) (.mov (.t 20))])
  (.seq
  (.reg [.op none (some 22) (.mov (.t 0)),
    .call none (some 23) 19 [.t 22],
    .op none (some 21) (.mov (.t 23)),
    .op none (some 24) (.ext 0 (.t 21)),
    .op none (some 25) (.ext 1 (.t 21)),
    .op none (some 6) (.new 24 [.string (⟨#[]⟩), .slice none 0 0, .string (⟨#[]⟩)]),
    .op none none (.st 3 (.t 6) (.t 24)),
    .op none (some 7) (.mov (.t 25))])
  (.seq
  (.seq
  (.reg [.op none (some 26) (.mov (.t 5)),
    .op none (some 27) (.mov (.t 7)),
    .op none (some 28) (.bin .neq (.t 26) (.t 27)),
    .op none (some 29) (.mov (.t 28)),
    .op (some (29, false)) (some 30) (.ldn 3 (.t 4)),
    .op (some (29, false)) (some 31) (.ldn 3 (.t 6)),
    .call (some (29, false)) (some 32) 20 [.t 30, .t 31],
    .op (some (29, false)) (some 33) (.un .not (.t 32)),
    .op none (some 34) (.pick (.t 29) (.c (.bool true)) (.t 33)),
    .op none (some 35) (.mov (.t 34)),
    .op (some (35, false)) (some 36) (.mov (.t 3)),
    .op (some (35, false)) (some 37) (.b2s (.t 36)),
    .op (some (35, false)) (some 38) (.mov (.t 0)),
    .op (some (35, false)) (some 39) (.b2s (.t 38)),
    .op (some (35, false)) (some 40) (.bin .neq (.t 37) (.t 39)),
    .op none (some 41) (.pick (.t 35) (.c (.bool true)) (.t 40))])
  (.cond (.t 41)
    (.seq
    (.reg [.op none (some 2) (.mov (.c (.bool false)))])
    .ret)
    .skip))
  (.seq
  (.seq
  (.reg [.op none (some 8) (.mov (.c (.int .i64 0)))])
  (.block 0
  (.loop F4_l0)))
  (.seq
  (.reg [.op none (some 56) (.ldn 3 (.t 4)),
    .op none (some 57) (.ldn 3 (.t 6)),
    .call none (some 58) 20 [.t 56, .t 57],
    .op none (some 59) (.mov (.t 58)),
    .call (some (59, true)) (some 60) 11 [],
    .op none (some 61) (.pick (.t 59) (.t 60) (.c (.bool false))),
    .op none (some 2) (.mov (.t 61))])
  .ret)))))))) }
theorem F4_ok : compFun Tryd.prog 3 Tryd.f4 = some F4 := by kernel_rfl

end Go.Proofs.YtgkmlbkocgjmmaaDoor
