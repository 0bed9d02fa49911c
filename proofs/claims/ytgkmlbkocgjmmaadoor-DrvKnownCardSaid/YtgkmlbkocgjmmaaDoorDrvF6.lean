/-
  Functions of the program, compiled for the abstract machine: printed by a program of ours (gen.py).
-/
import Derived.Test.YtgkmlbkocgjmmaaDoorA3
import Derived.Test.YtgkmlbkocgjmmaaDoorProg
import Derived.KernelRfl
set_option linter.unusedVariables false
set_option linter.unusedSimpArgs false
set_option linter.unnecessarySimpa false
namespace Go.Proofs.YtgkmlbkocgjmmaaDoor
open Go Go.AM
set_option maxRecDepth 100000
def F6 : AFun := { n := 37, res := [.t 4], code := (.seq (.reg [zo 4 (.mov zf)]) (.seq (.seq (.reg [zm 9 0, zm 10 1, zk 11 21 [.t 9, .t 10], zo 12 (.un .not (.t 11))]) (.cond (.t 12) (.seq (.reg [zk 13 11 [], zm 4 13]) .ret) .skip)) (.seq (.reg [zm 15 0, zm 16 1, zk 17 22 [.t 15, .t 16], zm 14 17, zo 18 (.ext 0 (.t 14)), zo 19 (.ext 1 (.t 14)), zm 5 18, zm 6 19]) (.seq (.reg [zm 21 0, zm 22 1, zk 23 23 [.t 21, .t 22], zm 20 23, zo 24 (.ext 0 (.t 20)), zo 25 (.ext 1 (.t 20)), zm 7 24, zm 8 25]) (.seq (.reg [zm 26 6, zm 27 8, zo 28 (.bin .eql (.t 26) (.t 27)), zm 29 28, zg 29 true 30 (.mov (.t 5)), zg 29 true 31 (.mov (.t 7)), .call (some (29, true)) (some 32) 24 [.t 30, .t 31], zo 33 (.pick (.t 29) (.t 32) zf), zm 34 33, .call (some (34, true)) (some 35) 11 [], zo 36 (.pick (.t 34) (.t 35) zf), zm 4 36]) .ret))))) }
theorem F6_ok : compFun Tryd.prog 3 Tryd.f6 = some F6 := by kernel_rfl
end Go.Proofs.YtgkmlbkocgjmmaaDoor
