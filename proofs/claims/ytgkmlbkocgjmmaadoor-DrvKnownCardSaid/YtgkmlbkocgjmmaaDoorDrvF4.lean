/-
  Functions of the program, compiled for the abstract machine: printed by a program of ours (gen.py).
-/
import Derived.Test.YtgkmlbkocgjmmaaDoorA3
import Derived.Test.YtgkmlbkocgjmmaaDoorProg
import Derived.KernelRfl
set_option linter.unusedVariables false
set_option linter.unusedSimpArgs false
set_option linter.unnecessarySimpa false
namespace Go.Proofs.YtgkmlbkocgjmmaaDoor
open Go Go.AM
set_option maxRecDepth 100000
def F4_l0 : ACode := (.seq (.seq (.reg [zm 42 8, zm 43 3, zo 44 (.lenV (.t 43)), zo 45 (.bin .lss (.t 42) (.t 44))]) (.cond (.t 45) .skip (.exit 0))) (.seq (.block 1 (.reg [zm 48 3, zm 49 8, zm 50 3, zm 51 8, zo 52 (.iadV 1 (.t 50) (.t 51)), zo 53 (.ld1 (.t 52)), zo 54 (.bin .add (.t 53) (.c (.int .u8 1))), zo 55 (.iadV 1 (.t 48) (.t 49)), .op none none (.st 1 (.t 55) (.t 54))])) (.reg [zm 46 8, zo 47 (.bin .add (.t 46) (zi 1)), zm 8 47])))
def F4 : AFun := { n := 62, res := [.t 2], code := (.seq (.reg [zo 2 (.mov zf)]) (.seq (.seq (.reg [zm 9 0, zo 10 (.lenV (.t 9)), zo 11 (.bin .gtr (.t 10) (zi 3000))]) (.cond (.t 11) (.seq (.reg [zk 12 11 [], zm 2 12]) .ret) .skip)) (.seq (.reg [zm 13 0, zo 14 (.b2s (.t 13)), zo 15 (.s2b 5 (.t 14)), zm 3 15]) (.seq (.reg [zm 17 3, zk 18 18 [.t 17], zm 16 18, zo 19 (.ext 0 (.t 16)), zo 20 (.ext 1 (.t 16)), zo 4 (.new 24 [.string ⟨#[]⟩, .slice none 0 0, .string ⟨#[]⟩]), .op none none (.st 3 (.t 4) (.t 19)), zm 5 20]) (.seq (.reg [zm 22 0, zk 23 19 [.t 22], zm 21 23, zo 24 (.ext 0 (.t 21)), zo 25 (.ext 1 (.t 21)), zo 6 (.new 24 [.string ⟨#[]⟩, .slice none 0 0, .string ⟨#[]⟩]), .op none none (.st 3 (.t 6) (.t 24)), zm 7 25]) (.seq (.seq (.reg [zm 26 5, zm 27 7, zo 28 (.bin .neq (.t 26) (.t 27)), zm 29 28, zg 29 false 30 (.ldn 3 (.t 4)), zg 29 false 31 (.ldn 3 (.t 6)), .call (some (29, false)) (some 32) 20 [.t 30, .t 31], zg 29 false 33 (.un .not (.t 32)), zo 34 (.pick (.t 29) zt (.t 33)), zm 35 34, zg 35 false 36 (.mov (.t 3)), zg 35 false 37 (.b2s (.t 36)), zg 35 false 38 (.mov (.t 0)), zg 35 false 39 (.b2s (.t 38)), zg 35 false 40 (.bin .neq (.t 37) (.t 39)), zo 41 (.pick (.t 35) zt (.t 40))]) (.cond (.t 41) (.seq (.reg [zo 2 (.mov zf)]) .ret) .skip)) (.seq (.seq (.reg [zo 8 (.mov (zi 0))]) (.block 0 (.loop F4_l0))) (.seq (.reg [zo 56 (.ldn 3 (.t 4)), zo 57 (.ldn 3 (.t 6)), zk 58 20 [.t 56, .t 57], zm 59 58, .call (some (59, true)) (some 60) 11 [], zo 61 (.pick (.t 59) (.t 60) zf), zm 2 61]) .ret)))))))) }
theorem F4_ok : compFun Tryd.prog 3 Tryd.f4 = some F4 := by kernel_rfl
end Go.Proofs.YtgkmlbkocgjmmaaDoor
