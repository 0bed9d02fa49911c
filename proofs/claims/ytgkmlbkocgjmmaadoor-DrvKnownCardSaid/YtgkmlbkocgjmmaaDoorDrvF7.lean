/-
  Functions of the program, compiled for the abstract machine: printed by a program of ours (gen.py).
-/
import Derived.Test.YtgkmlbkocgjmmaaDoorA3
import Derived.Test.YtgkmlbkocgjmmaaDoorProg
import Derived.KernelRfl
set_option linter.unusedVariables false
set_option linter.unusedSimpArgs false
set_option linter.unnecessarySimpa false
namespace Go.Proofs.YtgkmlbkocgjmmaaDoor
open Go Go.AM
set_option maxRecDepth 100000
def F7 : AFun := { n := 46, res := [.t 6], code := (.seq (.reg [zo 6 (.mov zf)]) (.seq (.seq (.reg [zm 11 0, zm 12 1, zk 13 21 [.t 11, .t 12], zo 14 (.un .not (.t 13)), zm 15 14, zg 15 false 16 (.mov (.t 2)), .call (some (15, false)) (some 17) 25 [.t 16, .c (.int .i64 30)], zg 15 false 18 (.un .not (.t 17)), zo 19 (.pick (.t 15) zt (.t 18))]) (.cond (.t 19) (.seq (.reg [zk 20 11 [], zm 6 20]) .ret) .skip)) (.seq (.reg [zm 22 0, zm 23 1, zm 24 2, zk 25 26 [.t 22, .t 23, .t 24], zm 21 25, zo 26 (.ext 0 (.t 21)), zo 27 (.ext 1 (.t 21)), zm 7 26, zm 8 27]) (.seq (.reg [zm 29 0, zm 30 1, zm 31 2, zk 32 27 [.t 29, .t 30, .t 31], zm 28 32, zo 33 (.ext 0 (.t 28)), zo 34 (.ext 1 (.t 28)), zm 9 33, zm 10 34]) (.seq (.reg [zm 35 8, zm 36 10, zo 37 (.bin .eql (.t 35) (.t 36)), zm 38 37, zg 38 true 39 (.mov (.t 7)), zg 38 true 40 (.mov (.t 9)), .call (some (38, true)) (some 41) 24 [.t 39, .t 40], zo 42 (.pick (.t 38) (.t 41) zf), zm 43 42, .call (some (43, true)) (some 44) 11 [], zo 45 (.pick (.t 43) (.t 44) zf), zm 6 45]) .ret))))) }
theorem F7_ok : compFun Tryd.prog 3 Tryd.f7 = some F7 := by kernel_rfl
end Go.Proofs.YtgkmlbkocgjmmaaDoor
