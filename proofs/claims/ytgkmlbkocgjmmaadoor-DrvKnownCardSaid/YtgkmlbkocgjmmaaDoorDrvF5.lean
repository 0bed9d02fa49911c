/-
  Functions of the program, compiled for the abstract machine: printed by a program of ours (gen.py).
-/
import Derived.Test.YtgkmlbkocgjmmaaDoorA3
import Derived.Test.YtgkmlbkocgjmmaaDoorProg
import Derived.KernelRfl
set_option linter.unusedVariables false
set_option linter.unusedSimpArgs false
set_option linter.unnecessarySimpa false
namespace Go.Proofs.YtgkmlbkocgjmmaaDoor
open Go Go.AM
set_option maxRecDepth 100000
def F5 : AFun := { n := 67, res := [.t 4], code := (.seq (.reg [zo 2 (.box 24 (.t 0)), zo 4 (.mov zf)]) (.seq (.seq (.reg [zo 13 (.ldn 3 (.t 2)), zk 14 10 [.t 13], zo 15 (.un .not (.t 14)), zm 16 15, zg 16 false 17 (.mov (.t 1)), zg 16 false 18 (.lenV (.t 17)), zg 16 false 19 (.bin .gtr (.t 18) (zi 3000)), zo 20 (.pick (.t 16) zt (.t 19))]) (.cond (.t 20) (.seq (.reg [zk 21 11 [], zm 4 21]) .ret) .skip)) (.seq (.reg [zo 23 (.ldn 3 (.t 2)), zk 24 12 [.t 23], zm 22 24, zo 25 (.ext 0 (.t 22)), zo 26 (.ext 1 (.t 22)), zm 5 25, zm 6 26]) (.seq (.seq (.reg [zm 27 6, zo 28 (.bin .eql (.t 27) (zi 0))]) (.cond (.t 28) (.seq (.reg [zm 30 5, zk 31 18 [.t 30], zm 29 31, zo 32 (.ext 0 (.t 29)), zo 33 (.ext 1 (.t 29)), zo 7 (.new 24 [.string ⟨#[]⟩, .slice none 0 0, .string ⟨#[]⟩]), .op none none (.st 3 (.t 7) (.t 32)), zm 8 33]) (.seq (.reg [zm 34 8, zo 35 (.bin .neq (.t 34) (zi 0)), zm 36 35, zg 36 false 37 (.ldn 3 (.t 7)), zg 36 false 38 (.ldn 3 (.t 2)), .call (some (36, false)) (some 39) 20 [.t 37, .t 38], zg 36 false 40 (.un .not (.t 39)), zo 41 (.pick (.t 36) zt (.t 40))]) (.cond (.t 41) (.seq (.reg [zo 4 (.mov zf)]) .ret) .skip))) .skip)) (.seq (.reg [zm 43 1, zk 44 18 [.t 43], zm 42 44, zo 45 (.ext 0 (.t 42)), zo 46 (.ext 1 (.t 42)), zo 9 (.new 24 [.string ⟨#[]⟩, .slice none 0 0, .string ⟨#[]⟩]), .op none none (.st 3 (.t 9) (.t 45)), zm 10 46]) (.seq (.seq (.reg [zm 47 10, zo 48 (.bin .neq (.t 47) (zi 0))]) (.cond (.t 48) (.seq (.reg [zk 49 11 [], zm 4 49]) .ret) .skip)) (.seq (.reg [zo 51 (.ldn 3 (.t 9)), zk 52 12 [.t 51], zm 50 52, zo 53 (.ext 0 (.t 50)), zo 54 (.ext 1 (.t 50)), zm 11 53, zm 12 54]) (.seq (.reg [zm 55 12, zo 56 (.bin .eql (.t 55) (zi 0)), zm 57 56, zg 57 true 58 (.mov (.t 11)), zg 57 true 59 (.b2s (.t 58)), zg 57 true 60 (.mov (.t 1)), zg 57 true 61 (.b2s (.t 60)), zg 57 true 62 (.bin .eql (.t 59) (.t 61)), zo 63 (.pick (.t 57) (.t 62) zf), zm 64 63, .call (some (64, true)) (some 65) 11 [], zo 66 (.pick (.t 64) (.t 65) zf), zm 4 66]) .ret)))))))) }
theorem F5_ok : compFun Tryd.prog 3 Tryd.f5 = some F5 := by kernel_rfl
end Go.Proofs.YtgkmlbkocgjmmaaDoor
