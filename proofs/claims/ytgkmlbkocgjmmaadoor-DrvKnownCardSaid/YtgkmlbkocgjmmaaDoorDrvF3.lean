/-
  Functions of the program, compiled for the abstract machine: printed by a program of ours (gen.py).
-/
import Derived.Test.YtgkmlbkocgjmmaaDoorA3
import Derived.Test.YtgkmlbkocgjmmaaDoorProg
import Derived.KernelRfl
set_option linter.unusedVariables false
set_option linter.unusedSimpArgs false
set_option linter.unnecessarySimpa false
namespace Go.Proofs.YtgkmlbkocgjmmaaDoor
open Go Go.AM
set_option maxRecDepth 100000
def F3 : AFun := { n := 65, res := [.t 2], code := (.seq (.reg [zo 1 (.box 24 (.t 0)), zo 2 (.mov zf)]) (.seq (.seq (.reg [zo 11 (.ldn 3 (.t 1)), zk 12 10 [.t 11], zo 13 (.un .not (.t 12))]) (.cond (.t 13) (.seq (.reg [zk 14 11 [], zm 2 14]) .ret) .skip)) (.seq (.reg [zo 16 (.ldn 3 (.t 1)), zk 17 12 [.t 16], zm 15 17, zo 18 (.ext 0 (.t 15)), zo 19 (.ext 1 (.t 15)), zm 3 18, zm 4 19]) (.seq (.reg [zo 21 (.ldn 3 (.t 1)), zk 22 13 [.t 21], zm 20 22, zo 23 (.ext 0 (.t 20)), zo 24 (.ext 1 (.t 20)), zm 5 23, zm 6 24]) (.seq (.reg [zo 26 (.ldn 3 (.t 1)), zk 27 14 [.t 26], zm 25 27, zo 28 (.ext 0 (.t 25)), zo 29 (.ext 1 (.t 25)), zm 7 28, zm 8 29]) (.seq (.reg [zo 31 (.ldn 3 (.t 1)), zk 32 15 [.t 31], zm 30 32, zo 33 (.ext 0 (.t 30)), zo 34 (.ext 1 (.t 30)), zm 9 33, zm 10 34]) (.seq (.draw [.f (zo 35 (.ldn 3 (.t 1))), .f (zo 37 (.ldn 3 (.t 1))), .b (zk 36 16 [.t 35]) [zo 37 (.ldn 3 (.t 1))], .b (zk 38 17 [.t 37]) [], .f (zo 39 (.eql false .bool (.t 36) (.t 38))), .f (zm 40 39), .f (zg 40 true 41 (.mov (.t 3))), .f (zg 40 true 42 (.b2s (.t 41))), .f (zg 40 true 43 (.mov (.t 5))), .f (zg 40 true 44 (.b2s (.t 43))), .f (zg 40 true 45 (.bin .eql (.t 42) (.t 44))), .f (zo 46 (.pick (.t 40) (.t 45) zf)), .f (zm 47 46), .f (zg 47 true 48 (.mov (.t 4))), .f (zg 47 true 49 (.mov (.t 6))), .f (zg 47 true 50 (.bin .eql (.t 48) (.t 49))), .f (zo 51 (.pick (.t 47) (.t 50) zf)), .f (zm 52 51), .f (zg 52 true 53 (.mov (.t 7))), .f (zg 52 true 54 (.mov (.t 9))), .f (zg 52 true 55 (.bin .eql (.t 53) (.t 54))), .f (zo 56 (.pick (.t 52) (.t 55) zf)), .f (zm 57 56), .f (zg 57 true 58 (.mov (.t 8))), .f (zg 57 true 59 (.mov (.t 10))), .f (zg 57 true 60 (.bin .eql (.t 58) (.t 59))), .f (zo 61 (.pick (.t 57) (.t 60) zf)), .f (zm 62 61), .b (.call (some (62, true)) (some 63) 11 []) [], .f (zo 64 (.pick (.t 62) (.t 63) zf)), .f (zm 2 64)]) .ret))))))) }
theorem F3_ok : compFun Tryd.prog 3 Tryd.f3 = some F3 := by kernel_rfl
end Go.Proofs.YtgkmlbkocgjmmaaDoor
