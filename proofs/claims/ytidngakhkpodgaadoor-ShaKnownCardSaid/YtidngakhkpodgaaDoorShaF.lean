/-
  Functions of the program, compiled for the abstract machine: printed by a program of ours (gen.py).
-/
import Derived.Test.YtidngakhkpodgaaDoorA3
import Derived.Test.YtidngakhkpodgaaDoorProg
import Derived.KernelRfl
set_option linter.unusedVariables false
set_option linter.unusedSimpArgs false
set_option linter.unnecessarySimpa false
namespace Go.Proofs.YtidngakhkpodgaaDoor
open Go Go.AM
set_option maxRecDepth 100000

def F3 : AFun :=
  { n := 26, res := [.t 2], code :=
  (.seq
  (.reg [.op none (some 2) (.mov (.c (.bool false)))])
  (.seq
  (.seq
  (.reg [.op none (some 4) (.mov (.t 0)),
    .op none (some 5) (.lenV (.t 4)),
    .op none (some 6) (.bin .gtr (.t 5) (.c (.int .i64 3000)))])
  (.cond (.t 6)
    (.seq
    (.reg [.call none (some 7) 8 [],
      .op none (some 2) (.mov (.t 7))])
    .ret)
    .skip))
  (.seq
  (.reg [.op none (some 8) (.mov (.t 0)),
    .op none (some 9) (.b2s (.t 8)),
    .op none (some 10) (.s2b 5 (.t 9)),
    .op none (some 3) (.mov (.t 10))])
  (.seq
  (.reg [.op none (some 11) (.mov (.t 3)),
    .call none (some 12) 9 [.t 11],
    .op none (some 13) (.mov (.t 0)),
    .call none (some 14) 10 [.t 13],
    .op none (some 15) (.eql false (.cells 32) (.t 12) (.t 14)),
    .op none (some 16) (.mov (.t 15)),
    .op (some (16, true)) (some 17) (.mov (.t 3)),
    .op (some (16, true)) (some 18) (.b2s (.t 17)),
    .op (some (16, true)) (some 19) (.mov (.t 0)),
    .op (some (16, true)) (some 20) (.b2s (.t 19)),
    .op (some (16, true)) (some 21) (.bin .eql (.t 18) (.t 20)),
    .op none (some 22) (.pick (.t 16) (.t 21) (.c (.bool false))),
    .op none (some 23) (.mov (.t 22)),
    .call (some (23, true)) (some 24) 8 [],
    .op none (some 25) (.pick (.t 23) (.t 24) (.c (.bool false))),
    .op none (some 2) (.mov (.t 25))])
  .ret)))) }
theorem F3_ok : compFun Tryd.prog 3 Tryd.f3 = some F3 := by kernel_rfl

def F4_l1 : ACode :=
  (.seq
  (.seq
  (.reg [.op none (some 26) (.mov (.t 7)),
    .op none (some 27) (.mov (.t 6)),
    .op none (some 28) (.lenV (.t 27)),
    .op none (some 29) (.bin .lss (.t 26) (.t 28))])
  (.cond (.t 29)
    .skip
    (.exit 2)))
  (.seq
  (.block 3
  (.reg [.op none (some 32) (.mov (.t 6)),
    .op none (some 33) (.mov (.t 7)),
    .op none (some 34) (.mov (.t 6)),
    .op none (some 35) (.mov (.t 7)),
    .op none (some 36) (.iadV 1 (.t 34) (.t 35)),
    .op none (some 37) (.ld1 (.t 36)),
    .op none (some 38) (.bin .add (.t 37) (.c (.int .u8 1))),
    .op none (some 39) (.iadV 1 (.t 32) (.t 33)),
    .op none none (.st 1 (.t 39) (.t 38))]))
  (.reg [.op none (some 30) (.mov (.t 7)),
    .op none (some 31) (.bin .add (.t 30) (.c (.int .i64 1))),
    .op none (some 7) (.mov (.t 31))])))

def F4_l0 : ACode :=
  (.seq
  (.seq
  (.reg [.op none (some 12) (.mov (.t 5)),
    .op none (some 13) (.mov (.t 0)),
    .op none (some 14) (.lenV (.t 13)),
    .op none (some 15) (.bin .lss (.t 12) (.t 14))])
  (.cond (.t 15)
    .skip
    (.exit 0)))
  (.seq
  (.block 1
  (.seq
  (.reg [.op none (some 18) (.mov (.t 0)),
    .op none (some 19) (.mov (.t 5)),
    .op none (some 20) (.iadV 1 (.t 18) (.t 19)),
    .op none (some 21) (.ld1 (.t 20)),
    .op none (some 22) (.b2s (.t 21)),
    .op none (some 23) (.s2b 5 (.t 22)),
    .op none (some 6) (.mov (.t 23))])
  (.seq
  (.reg [.op none (some 24) (.mov (.t 6)),
    .call none (some 25) 12 [.t 3, .t 24]])
  (.seq
  (.seq
  (.reg [.op none (some 7) (.mov (.c (.int .i64 0)))])
  (.block 2
  (.loop F4_l1)))
  (.seq
  (.reg [.op none (some 40) (.mov (.t 4)),
    .op none (some 41) (.mov (.t 0)),
    .op none (some 42) (.mov (.t 5)),
    .op none (some 43) (.iadV 1 (.t 41) (.t 42)),
    .op none (some 44) (.ld1 (.t 43)),
    .op none (some 45) (.app 5 1 1 [.int .u8 0] (.t 40) (.t 44)),
    .op none (some 4) (.mov (.t 45))])
  (.seq
  (.reg [.call none (some 46) 13 [.t 3],
    .op none (some 47) (.mov (.t 4)),
    .op none (some 48) (.lenV (.t 47)),
    .op none (some 49) (.cvt .u64 (.t 48)),
    .op none (some 50) (.bin .neq (.t 46) (.t 49)),
    .op none (some 51) (.mov (.t 50)),
    .call (some (51, false)) (some 52) 14 [.t 3],
    .op (some (51, false)) (some 53) (.mov (.t 4)),
    .call (some (51, false)) (some 54) 10 [.t 53],
    .op (some (51, false)) (some 55) (.eql true (.cells 32) (.t 52) (.t 54)),
    .op none (some 56) (.pick (.t 51) (.c (.bool true)) (.t 55))])
  (.cond (.t 56)
    (.seq
    (.reg [.op none (some 2) (.mov (.c (.bool false)))])
    .ret)
    .skip)))))))
  (.reg [.op none (some 16) (.mov (.t 5)),
    .op none (some 17) (.bin .add (.t 16) (.c (.int .i64 1))),
    .op none (some 5) (.mov (.t 17))])))

def F4 : AFun :=
  { n := 65, res := [.t 2], code :=
  (.seq
  (.reg [.op none (some 2) (.mov (.c (.bool false)))])
  (.seq
  (.seq
  (.reg [.op none (some 8) (.mov (.t 0)),
    .call none (some 9) 11 [.t 8, .c (.int .i64 20)],
    .op none (some 10) (.un .not (.t 9))])
  (.cond (.t 10)
    (.seq
    (.reg [.call none (some 11) 8 [],
      .op none (some 2) (.mov (.t 11))])
    .ret)
    .skip))
  (.seq
  (.reg [.op none (some 3) (.new 35 [.int .u32 0, .int .u32 0, .int .u32 0, .int .u32 0, .int .u32 0, .int .u32 0, .int .u32 0, .int .u32 0, .int .u8 0, .int .u8 0, .int .u8 0, .int .u8 0, .int .u8 0, .int .u8 0, .int .u8 0, .int .u8 0, .int .u8 0, .int .u8 0, .int .u8 0, .int .u8 0, .int .u8 0, .int .u8 0, .int .u8 0, .int .u8 0, .int .u8 0, .int .u8 0, .int .u8 0, .int .u8 0, .int .u8 0, .int .u8 0, .int .u8 0, .int .u8 0, .int .u8 0, .int .u8 0, .int .u8 0, .int .u8 0, .int .u8 0, .int .u8 0, .int .u8 0, .int .u8 0, .int .u8 0, .int .u8 0, .int .u8 0, .int .u8 0, .int .u8 0, .int .u8 0, .int .u8 0, .int .u8 0, .int .u8 0, .int .u8 0, .int .u8 0, .int .u8 0, .int .u8 0, .int .u8 0, .int .u8 0, .int .u8 0, .int .u8 0, .int .u8 0, .int .u8 0, .int .u8 0, .int .u8 0, .int .u8 0, .int .u8 0, .int .u8 0, .int .u8 0, .int .u8 0, .int .u8 0, .int .u8 0, .int .u8 0, .int .u8 0, .int .u8 0, .int .u8 0, .int .u64 0])])
  (.seq
  (.reg [.op none (some 4) (.mov (.c (.slice none 0 0)))])
  (.seq
  (.seq
  (.reg [.op none (some 5) (.mov (.c (.int .i64 0)))])
  (.block 0
  (.loop F4_l0)))
  (.seq
  (.reg [.call none (some 57) 14 [.t 3],
    .op none (some 58) (.mov (.t 0)),
    .call none (some 59) 15 [.t 58],
    .call none (some 60) 9 [.t 59],
    .op none (some 61) (.eql false (.cells 32) (.t 57) (.t 60)),
    .op none (some 62) (.mov (.t 61)),
    .call (some (62, true)) (some 63) 8 [],
    .op none (some 64) (.pick (.t 62) (.t 63) (.c (.bool false))),
    .op none (some 2) (.mov (.t 64))])
  .ret)))))) }
theorem F4_ok : compFun Tryd.prog 3 Tryd.f4 = some F4 := by kernel_rfl

def F5_l0 : ACode :=
  (.seq
  (.seq
  (.reg [.op none (some 28) (.mov (.t 8)),
    .op none (some 29) (.mov (.t 0)),
    .op none (some 30) (.lenV (.t 29)),
    .op none (some 31) (.bin .lss (.t 28) (.t 30))])
  (.cond (.t 31)
    .skip
    (.exit 0)))
  (.seq
  (.block 1
  (.reg [.op none (some 34) (.mov (.t 0)),
    .op none (some 35) (.mov (.t 8)),
    .op none (some 36) (.iadV 1 (.t 34) (.t 35)),
    .op none (some 37) (.ld1 (.t 36)),
    .call none (some 38) 12 [.t 7, .t 37]]))
  (.reg [.op none (some 32) (.mov (.t 8)),
    .op none (some 33) (.bin .add (.t 32) (.c (.int .i64 1))),
    .op none (some 8) (.mov (.t 33))])))

def F5_l1 : ACode :=
  (.seq
  (.seq
  (.reg [.op none (some 48) (.mov (.t 10)),
    .op none (some 49) (.mov (.t 1)),
    .op none (some 50) (.lenV (.t 49)),
    .op none (some 51) (.bin .lss (.t 48) (.t 50)),
    .op none (some 52) (.mov (.t 51)),
    .op (some (52, false)) (some 53) (.mov (.t 10)),
    .op (some (52, false)) (some 54) (.mov (.t 2)),
    .op (some (52, false)) (some 55) (.lenV (.t 54)),
    .op (some (52, false)) (some 56) (.bin .lss (.t 53) (.t 55)),
    .op none (some 57) (.pick (.t 52) (.c (.bool true)) (.t 56))])
  (.cond (.t 57)
    .skip
    (.exit 2)))
  (.seq
  (.block 3
  (.seq
  (.seq
  (.reg [.op none (some 60) (.mov (.t 10)),
    .op none (some 61) (.mov (.t 1)),
    .op none (some 62) (.lenV (.t 61)),
    .op none (some 63) (.bin .lss (.t 60) (.t 62))])
  (.cond (.t 63)
    (.reg [.op none (some 64) (.mov (.t 1)),
      .op none (some 65) (.mov (.t 10)),
      .op none (some 66) (.iadV 1 (.t 64) (.t 65)),
      .op none (some 67) (.ld1 (.t 66)),
      .call none (some 68) 12 [.t 7, .t 67]])
    .skip))
  (.seq
  (.reg [.op none (some 69) (.mov (.t 10)),
    .op none (some 70) (.mov (.t 2)),
    .op none (some 71) (.lenV (.t 70)),
    .op none (some 72) (.bin .lss (.t 69) (.t 71))])
  (.cond (.t 72)
    (.reg [.op none (some 73) (.mov (.t 9)),
      .op none (some 74) (.mov (.t 2)),
      .op none (some 75) (.mov (.t 10)),
      .op none (some 76) (.iadV 1 (.t 74) (.t 75)),
      .op none (some 77) (.ld1 (.t 76)),
      .call none (some 78) 12 [.t 73, .t 77]])
    .skip))))
  (.reg [.op none (some 58) (.mov (.t 10)),
    .op none (some 59) (.bin .add (.t 58) (.c (.int .i64 1))),
    .op none (some 10) (.mov (.t 59))])))

def F5 : AFun :=
  { n := 122, res := [.t 6], code :=
  (.seq
  (.reg [.op none (some 6) (.mov (.c (.bool false)))])
  (.seq
  (.seq
  (.reg [.op none (some 14) (.mov (.t 0)),
    .call none (some 15) 11 [.t 14, .c (.int .i64 10)],
    .op none (some 16) (.un .not (.t 15)),
    .op none (some 17) (.mov (.t 16)),
    .op (some (17, false)) (some 18) (.mov (.t 1)),
    .call (some (17, false)) (some 19) 11 [.t 18, .c (.int .i64 10)],
    .op (some (17, false)) (some 20) (.un .not (.t 19)),
    .op none (some 21) (.pick (.t 17) (.c (.bool true)) (.t 20)),
    .op none (some 22) (.mov (.t 21)),
    .op (some (22, false)) (some 23) (.mov (.t 2)),
    .call (some (22, false)) (some 24) 11 [.t 23, .c (.int .i64 10)],
    .op (some (22, false)) (some 25) (.un .not (.t 24)),
    .op none (some 26) (.pick (.t 22) (.c (.bool true)) (.t 25))])
  (.cond (.t 26)
    (.seq
    (.reg [.call none (some 27) 8 [],
      .op none (some 6) (.mov (.t 27))])
    .ret)
    .skip))
  (.seq
  (.reg [.op none (some 7) (.new 35 [.int .u32 0, .int .u32 0, .int .u32 0, .int .u32 0, .int .u32 0, .int .u32 0, .int .u32 0, .int .u32 0, .int .u8 0, .int .u8 0, .int .u8 0, .int .u8 0, .int .u8 0, .int .u8 0, .int .u8 0, .int .u8 0, .int .u8 0, .int .u8 0, .int .u8 0, .int .u8 0, .int .u8 0, .int .u8 0, .int .u8 0, .int .u8 0, .int .u8 0, .int .u8 0, .int .u8 0, .int .u8 0, .int .u8 0, .int .u8 0, .int .u8 0, .int .u8 0, .int .u8 0, .int .u8 0, .int .u8 0, .int .u8 0, .int .u8 0, .int .u8 0, .int .u8 0, .int .u8 0, .int .u8 0, .int .u8 0, .int .u8 0, .int .u8 0, .int .u8 0, .int .u8 0, .int .u8 0, .int .u8 0, .int .u8 0, .int .u8 0, .int .u8 0, .int .u8 0, .int .u8 0, .int .u8 0, .int .u8 0, .int .u8 0, .int .u8 0, .int .u8 0, .int .u8 0, .int .u8 0, .int .u8 0, .int .u8 0, .int .u8 0, .int .u8 0, .int .u8 0, .int .u8 0, .int .u8 0, .int .u8 0, .int .u8 0, .int .u8 0, .int .u8 0, .int .u8 0, .int .u64 0])])
  (.seq
  (.seq
  (.reg [.op none (some 8) (.mov (.c (.int .i64 0)))])
  (.block 0
  (.loop F5_l0)))
  (.seq
  (.reg [.call none (some 39) 16 [.t 7],
    .op none (some 9) (.mov (.t 39))])
  (.seq
  (.seq
  (.reg [.op none (some 40) (.mov (.t 9)),
    .op none (some 41) (.eql false .ptr (.t 40) (.c (.pointer none))),
    .op none (some 42) (.mov (.t 41)),
    .op (some (42, false)) (some 43) (.mov (.t 9)),
    .call (some (42, false)) (some 44) 14 [.t 43],
    .call (some (42, false)) (some 45) 14 [.t 7],
    .op (some (42, false)) (some 46) (.eql true (.cells 32) (.t 44) (.t 45)),
    .op none (some 47) (.pick (.t 42) (.c (.bool true)) (.t 46))])
  (.cond (.t 47)
    (.seq
    (.reg [.op none (some 6) (.mov (.c (.bool false)))])
    .ret)
    .skip))
  (.seq
  (.seq
  (.reg [.op none (some 10) (.mov (.c (.int .i64 0)))])
  (.block 2
  (.loop F5_l1)))
  (.seq
  (.reg [.op none (some 79) (.mov (.t 0)),
    .call none (some 80) 15 [.t 79],
    .op none (some 11) (.mov (.t 80))])
  (.seq
  (.reg [.op none (some 81) (.bldSl 5 0 [] []),
    .op none (some 82) (.mov (.t 11)),
    .op none (some 83) (.app 5 1 1 [.int .u8 0] (.t 81) (.t 82)),
    .op none (some 84) (.mov (.t 1)),
    .call none (some 85) 15 [.t 84],
    .op none (some 86) (.app 5 1 1 [.int .u8 0] (.t 83) (.t 85)),
    .op none (some 12) (.mov (.t 86))])
  (.seq
  (.reg [.op none (some 87) (.bldSl 5 0 [] []),
    .op none (some 88) (.mov (.t 11)),
    .op none (some 89) (.app 5 1 1 [.int .u8 0] (.t 87) (.t 88)),
    .op none (some 90) (.mov (.t 2)),
    .call none (some 91) 15 [.t 90],
    .op none (some 92) (.app 5 1 1 [.int .u8 0] (.t 89) (.t 91)),
    .op none (some 13) (.mov (.t 92))])
  (.seq
  (.reg [.call none (some 93) 14 [.t 7],
    .op none (some 94) (.mov (.t 12)),
    .call none (some 95) 10 [.t 94],
    .op none (some 96) (.eql false (.cells 32) (.t 93) (.t 95)),
    .op none (some 97) (.mov (.t 96)),
    .call (some (97, true)) (some 98) 13 [.t 7],
    .op (some (97, true)) (some 99) (.mov (.t 12)),
    .op (some (97, true)) (some 100) (.lenV (.t 99)),
    .op (some (97, true)) (some 101) (.cvt .u64 (.t 100)),
    .op (some (97, true)) (some 102) (.bin .eql (.t 98) (.t 101)),
    .op none (some 103) (.pick (.t 97) (.t 102) (.c (.bool false))),
    .op none (some 104) (.mov (.t 103)),
    .op (some (104, true)) (some 105) (.mov (.t 9)),
    .call (some (104, true)) (some 106) 14 [.t 105],
    .op (some (104, true)) (some 107) (.mov (.t 13)),
    .call (some (104, true)) (some 108) 10 [.t 107],
    .op (some (104, true)) (some 109) (.eql false (.cells 32) (.t 106) (.t 108)),
    .op none (some 110) (.pick (.t 104) (.t 109) (.c (.bool false))),
    .op none (some 111) (.mov (.t 110)),
    .op (some (111, true)) (some 112) (.mov (.t 9)),
    .call (some (111, true)) (some 113) 13 [.t 112],
    .op (some (111, true)) (some 114) (.mov (.t 13)),
    .op (some (111, true)) (some 115) (.lenV (.t 114)),
    .op (some (111, true)) (some 116) (.cvt .u64 (.t 115)),
    .op (some (111, true)) (some 117) (.bin .eql (.t 113) (.t 116)),
    .op none (some 118) (.pick (.t 111) (.t 117) (.c (.bool false))),
    .op none (some 119) (.mov (.t 118)),
    .call (some (119, true)) (some 120) 8 [],
    .op none (some 121) (.pick (.t 119) (.t 120) (.c (.bool false))),
    .op none (some 6) (.mov (.t 121))])
  .ret))))))))))) }
theorem F5_ok : compFun Tryd.prog 3 Tryd.f5 = some F5 := by kernel_rfl

def F6 : AFun :=
  { n := 68, res := [.t 4], code :=
  (.seq
  (.reg [.op none (some 2) (.box 25 (.t 0)),
    .op none (some 4) (.mov (.c (.bool false)))])
  (.seq
  (.seq
  (.reg [.op none (some 12) (.mov (.t 1)),
    .op none (some 13) (.lenS (.t 12)),
    .op none (some 14) (.bin .gtr (.t 13) (.c (.int .i64 200)))])
  (.cond (.t 14)
    (.seq
    (.reg [.call none (some 15) 8 [],
      .op none (some 4) (.mov (.t 15))])
    .ret)
    .skip))
  (.seq
  (.reg [.op none (some 16) (.ldn 32 (.t 2)),
    .call none (some 17) 17 [.t 16],
    .op none (some 5) (.mov (.t 17))])
  (.seq
  (.reg [.op none (some 19) (.mov (.t 5)),
    .call none (some 20) 18 [.t 19],
    .op none (some 18) (.mov (.t 20)),
    .op none (some 21) (.ext 0 (.t 18)),
    .op none (some 22) (.ext 1 (.t 18)),
    .op none (some 6) (.new 25 [.int .u8 0, .int .u8 0, .int .u8 0, .int .u8 0, .int .u8 0, .int .u8 0, .int .u8 0, .int .u8 0, .int .u8 0, .int .u8 0, .int .u8 0, .int .u8 0, .int .u8 0, .int .u8 0, .int .u8 0, .int .u8 0, .int .u8 0, .int .u8 0, .int .u8 0, .int .u8 0, .int .u8 0, .int .u8 0, .int .u8 0, .int .u8 0, .int .u8 0, .int .u8 0, .int .u8 0, .int .u8 0, .int .u8 0, .int .u8 0, .int .u8 0, .int .u8 0]),
    .op none none (.st 32 (.t 6) (.t 21)),
    .op none (some 7) (.mov (.t 22))])
  (.seq
  (.reg [.op none (some 24) (.mov (.t 1)),
    .call none (some 25) 18 [.t 24],
    .op none (some 23) (.mov (.t 25)),
    .op none (some 26) (.ext 0 (.t 23)),
    .op none (some 27) (.ext 1 (.t 23)),
    .op none (some 8) (.new 25 [.int .u8 0, .int .u8 0, .int .u8 0, .int .u8 0, .int .u8 0, .int .u8 0, .int .u8 0, .int .u8 0, .int .u8 0, .int .u8 0, .int .u8 0, .int .u8 0, .int .u8 0, .int .u8 0, .int .u8 0, .int .u8 0, .int .u8 0, .int .u8 0, .int .u8 0, .int .u8 0, .int .u8 0, .int .u8 0, .int .u8 0, .int .u8 0, .int .u8 0, .int .u8 0, .int .u8 0, .int .u8 0, .int .u8 0, .int .u8 0, .int .u8 0, .int .u8 0]),
    .op none none (.st 32 (.t 8) (.t 26)),
    .op none (some 9) (.mov (.t 27))])
  (.seq
  (.reg [.op none (some 29) (.mov (.t 1)),
    .call none (some 30) 19 [.t 29],
    .op none (some 28) (.mov (.t 30)),
    .op none (some 31) (.ext 0 (.t 28)),
    .op none (some 32) (.ext 1 (.t 28)),
    .op none (some 10) (.new 25 [.int .u8 0, .int .u8 0, .int .u8 0, .int .u8 0, .int .u8 0, .int .u8 0, .int .u8 0, .int .u8 0, .int .u8 0, .int .u8 0, .int .u8 0, .int .u8 0, .int .u8 0, .int .u8 0, .int .u8 0, .int .u8 0, .int .u8 0, .int .u8 0, .int .u8 0, .int .u8 0, .int .u8 0, .int .u8 0, .int .u8 0, .int .u8 0, .int .u8 0, .int .u8 0, .int .u8 0, .int .u8 0, .int .u8 0, .int .u8 0, .int .u8 0, .int .u8 0]),
    .op none none (.st 32 (.t 10) (.t 31)),
    .op none (some 11) (.mov (.t 32))])
  (.seq
  (.reg [.op none (some 33) (.mov (.t 5)),
    .op none (some 34) (.ldn 32 (.t 2)),
    .call none (some 35) 20 [.t 34],
    .op none (some 36) (.bin .eql (.t 33) (.t 35)),
    .op none (some 37) (.mov (.t 36)),
    .op (some (37, true)) (some 38) (.mov (.t 7)),
    .op none (some 39) (.pick (.t 37) (.t 38) (.c (.bool false))),
    .op none (some 40) (.mov (.t 39)),
    .op (some (40, true)) (some 41) (.ldn 32 (.t 6)),
    .op (some (40, true)) (some 42) (.ldn 32 (.t 2)),
    .op (some (40, true)) (some 43) (.eql false (.cells 32) (.t 41) (.t 42)),
    .op none (some 44) (.pick (.t 40) (.t 43) (.c (.bool false))),
    .op none (some 45) (.mov (.t 44)),
    .op (some (45, true)) (some 46) (.ldn 32 (.t 8)),
    .op (some (45, true)) (some 47) (.ldn 32 (.t 10)),
    .op (some (45, true)) (some 48) (.eql false (.cells 32) (.t 46) (.t 47)),
    .op none (some 49) (.pick (.t 45) (.t 48) (.c (.bool false))),
    .op none (some 50) (.mov (.t 49)),
    .op (some (50, true)) (some 51) (.mov (.t 9)),
    .op (some (50, true)) (some 52) (.mov (.t 11)),
    .op (some (50, true)) (some 53) (.eql false .bool (.t 51) (.t 52)),
    .op none (some 54) (.pick (.t 50) (.t 53) (.c (.bool false))),
    .op none (some 55) (.mov (.t 54)),
    .op (some (55, true)) (some 56) (.mov (.t 9)),
    .op (some (55, true)) (some 57) (.un .not (.t 56)),
    .op (some (55, true)) (some 58) (.mov (.t 57)),
    .op (some (58, false)) (some 59) (.ldn 32 (.t 8)),
    .call (some (58, false)) (some 60) 17 [.t 59],
    .op (some (58, false)) (some 61) (.mov (.t 1)),
    .op (some (58, false)) (some 62) (.bin .eql (.t 60) (.t 61)),
    .op (some (55, true)) (some 63) (.pick (.t 58) (.c (.bool true)) (.t 62)),
    .op none (some 64) (.pick (.t 55) (.t 63) (.c (.bool false))),
    .op none (some 65) (.mov (.t 64)),
    .call (some (65, true)) (some 66) 8 [],
    .op none (some 67) (.pick (.t 65) (.t 66) (.c (.bool false))),
    .op none (some 4) (.mov (.t 67))])
  .ret))))))) }
theorem F6_ok : compFun Tryd.prog 3 Tryd.f6 = some F6 := by kernel_rfl

def F8 : AFun :=
  { n := 22, res := [.t 0], code :=
  (.seq
  (.reg [.op none (some 0) (.mov (.c (.bool false)))])
  (.seq
  (.reg [.op none (some 1) (.new 35 [.int .u32 0, .int .u32 0, .int .u32 0, .int .u32 0, .int .u32 0, .int .u32 0, .int .u32 0, .int .u32 0, .int .u8 0, .int .u8 0, .int .u8 0, .int .u8 0, .int .u8 0, .int .u8 0, .int .u8 0, .int .u8 0, .int .u8 0, .int .u8 0, .int .u8 0, .int .u8 0, .int .u8 0, .int .u8 0, .int .u8 0, .int .u8 0, .int .u8 0, .int .u8 0, .int .u8 0, .int .u8 0, .int .u8 0, .int .u8 0, .int .u8 0, .int .u8 0, .int .u8 0, .int .u8 0, .int .u8 0, .int .u8 0, .int .u8 0, .int .u8 0, .int .u8 0, .int .u8 0, .int .u8 0, .int .u8 0, .int .u8 0, .int .u8 0, .int .u8 0, .int .u8 0, .int .u8 0, .int .u8 0, .int .u8 0, .int .u8 0, .int .u8 0, .int .u8 0, .int .u8 0, .int .u8 0, .int .u8 0, .int .u8 0, .int .u8 0, .int .u8 0, .int .u8 0, .int .u8 0, .int .u8 0, .int .u8 0, .int .u8 0, .int .u8 0, .int .u8 0, .int .u8 0, .int .u8 0, .int .u8 0, .int .u8 0, .int .u8 0, .int .u8 0, .int .u8 0, .int .u64 0])])
  (.seq
  (.reg [.op none (some 2) (.bldSl 5 2 [.int .u8 0, .int .u8 0] [(0, 1, .c (.int .u8 97)), (1, 1, .c (.int .u8 98))]),
    .op none (some 3) (.s2s (.t 2)),
    .call none (some 4) 12 [.t 1, .t 3]])
  (.seq
  (.reg [.op none (some 5) (.bldSl 5 1 [.int .u8 0] [(0, 1, .c (.int .u8 99))]),
    .op none (some 6) (.s2s (.t 5)),
    .call none (some 7) 12 [.t 1, .t 6]])
  (.seq
  (.reg [.op none (some 8) (.bldSl 5 3 [.int .u8 0, .int .u8 0, .int .u8 0] [(0, 1, .c (.int .u8 97)), (1, 1, .c (.int .u8 98)), (2, 1, .c (.int .u8 99))]),
    .op none (some 9) (.s2s (.t 8)),
    .call none (some 10) 9 [.t 9],
    .call none (some 11) 17 [.t 10],
    .op none (some 12) (.bin .eql (.t 11) (.c (.string (⟨#[98, 97, 55, 56, 49, 54, 98, 102, 56, 102, 48, 49, 99, 102, 101, 97, 52, 49, 52, 49, 52, 48, 100, 101, 53, 100, 97, 101, 50, 50, 50, 51, 98, 48, 48, 51, 54, 49, 97, 51, 57, 54, 49, 55, 55, 97, 57, 99, 98, 52, 49, 48, 102, 102, 54, 49, 102, 50, 48, 48, 49, 53, 97, 100]⟩)))),
    .op none (some 13) (.mov (.t 12)),
    .call (some (13, true)) (some 14) 14 [.t 1],
    .call (some (13, true)) (some 15) 17 [.t 14],
    .op (some (13, true)) (some 16) (.bin .eql (.t 15) (.c (.string (⟨#[98, 97, 55, 56, 49, 54, 98, 102, 56, 102, 48, 49, 99, 102, 101, 97, 52, 49, 52, 49, 52, 48, 100, 101, 53, 100, 97, 101, 50, 50, 50, 51, 98, 48, 48, 51, 54, 49, 97, 51, 57, 54, 49, 55, 55, 97, 57, 99, 98, 52, 49, 48, 102, 102, 54, 49, 102, 50, 48, 48, 49, 53, 97, 100]⟩)))),
    .op none (some 17) (.pick (.t 13) (.t 16) (.c (.bool false))),
    .op none (some 18) (.mov (.t 17)),
    .call (some (18, true)) (some 19) 13 [.t 1],
    .op (some (18, true)) (some 20) (.bin .eql (.t 19) (.c (.int .u64 3))),
    .op none (some 21) (.pick (.t 18) (.t 20) (.c (.bool false))),
    .op none (some 0) (.mov (.t 21))])
  .ret))))) }
theorem F8_ok : compFun Tryd.prog 3 Tryd.f8 = some F8 := by kernel_rfl

def F9 : AFun :=
  { n := 7, res := [.cn 2 32], code :=
  (.seq
  (.reg [.op none (some 2) (.new 25 [.int .u8 0, .int .u8 0, .int .u8 0, .int .u8 0, .int .u8 0, .int .u8 0, .int .u8 0, .int .u8 0, .int .u8 0, .int .u8 0, .int .u8 0, .int .u8 0, .int .u8 0, .int .u8 0, .int .u8 0, .int .u8 0, .int .u8 0, .int .u8 0, .int .u8 0, .int .u8 0, .int .u8 0, .int .u8 0, .int .u8 0, .int .u8 0, .int .u8 0, .int .u8 0, .int .u8 0, .int .u8 0, .int .u8 0, .int .u8 0, .int .u8 0, .int .u8 0])])
  (.seq
  (.reg [.op none (some 3) (.new 35 [.int .u32 0, .int .u32 0, .int .u32 0, .int .u32 0, .int .u32 0, .int .u32 0, .int .u32 0, .int .u32 0, .int .u8 0, .int .u8 0, .int .u8 0, .int .u8 0, .int .u8 0, .int .u8 0, .int .u8 0, .int .u8 0, .int .u8 0, .int .u8 0, .int .u8 0, .int .u8 0, .int .u8 0, .int .u8 0, .int .u8 0, .int .u8 0, .int .u8 0, .int .u8 0, .int .u8 0, .int .u8 0, .int .u8 0, .int .u8 0, .int .u8 0, .int .u8 0, .int .u8 0, .int .u8 0, .int .u8 0, .int .u8 0, .int .u8 0, .int .u8 0, .int .u8 0, .int .u8 0, .int .u8 0, .int .u8 0, .int .u8 0, .int .u8 0, .int .u8 0, .int .u8 0, .int .u8 0, .int .u8 0, .int .u8 0, .int .u8 0, .int .u8 0, .int .u8 0, .int .u8 0, .int .u8 0, .int .u8 0, .int .u8 0, .int .u8 0, .int .u8 0, .int .u8 0, .int .u8 0, .int .u8 0, .int .u8 0, .int .u8 0, .int .u8 0, .int .u8 0, .int .u8 0, .int .u8 0, .int .u8 0, .int .u8 0, .int .u8 0, .int .u8 0, .int .u8 0, .int .u64 0])])
  (.seq
  (.reg [.op none (some 4) (.mov (.t 0)),
    .call none (some 5) 12 [.t 3, .t 4]])
  (.seq
  (.reg [.call none (some 6) 14 [.t 3],
    .op none none (.st 32 (.t 2) (.t 6))])
  .ret)))) }
theorem F9_ok : compFun Tryd.prog 3 Tryd.f9 = some F9 := by kernel_rfl

def F10_l0 : ACode :=
  (.seq
  (.seq
  (.reg [.op none (some 13) (.mov (.t 6)),
    .op none (some 14) (.mov (.t 5)),
    .op none (some 15) (.lenV (.t 14)),
    .op none (some 16) (.bin .lss (.t 13) (.t 15))])
  (.cond (.t 16)
    .skip
    (.exit 0)))
  (.seq
  (.block 1
  (.reg [.op none (some 19) (.mov (.t 3)),
    .op none (some 20) (.mov (.t 4)),
    .op none (some 21) (.mov (.t 5)),
    .op none (some 22) (.mov (.t 6)),
    .op none (some 23) (.mov (.t 6)),
    .op none (some 24) (.bin .add (.t 23) (.c (.int .i64 64))),
    .op none (some 25) (.slV 1 (.t 21) (some (.t 22)) (some (.t 24)) none),
    .call none (some 26) 23 [.t 19, .t 20, .t 25],
    .op none (some 3) (.mov (.t 26))]))
  (.reg [.op none (some 17) (.mov (.t 6)),
    .op none (some 18) (.bin .add (.t 17) (.c (.int .i64 64))),
    .op none (some 6) (.mov (.t 18))])))

def F10_l1 : ACode :=
  (.seq
  (.seq
  (.reg [.op none (some 27) (.mov (.t 8)),
    .op none (some 28) (.bin .lss (.t 27) (.c (.int .i64 32)))])
  (.cond (.t 28)
    .skip
    (.exit 2)))
  (.seq
  (.block 3
  (.reg [.op none (some 31) (.mov (.t 8)),
    .op none (some 32) (.mov (.t 3)),
    .op none (some 33) (.mov (.t 8)),
    .op none (some 34) (.bin .quo (.t 33) (.c (.int .i64 4))),
    .op none (some 35) (.iadV 1 (.t 32) (.t 34)),
    .op none (some 36) (.ld1 (.t 35)),
    .op none (some 37) (.mov (.t 8)),
    .op none (some 38) (.bin .rem (.t 37) (.c (.int .i64 4))),
    .op none (some 39) (.bin .mul (.t 38) (.c (.int .i64 8))),
    .op none (some 40) (.bin .sub (.c (.int .i64 24)) (.t 39)),
    .op none (some 41) (.bin .shr (.t 36) (.t 40)),
    .op none (some 42) (.cvt .u8 (.t 41)),
    .op none (some 43) (.iadA 32 1 (.t 7) (.t 31)),
    .op none none (.st 1 (.t 43) (.t 42))]))
  (.reg [.op none (some 29) (.mov (.t 8)),
    .op none (some 30) (.bin .add (.t 29) (.c (.int .i64 1))),
    .op none (some 8) (.mov (.t 30))])))

def F10 : AFun :=
  { n := 45, res := [.cn 2 32], code :=
  (.seq
  (.reg [.op none (some 2) (.new 25 [.int .u8 0, .int .u8 0, .int .u8 0, .int .u8 0, .int .u8 0, .int .u8 0, .int .u8 0, .int .u8 0, .int .u8 0, .int .u8 0, .int .u8 0, .int .u8 0, .int .u8 0, .int .u8 0, .int .u8 0, .int .u8 0, .int .u8 0, .int .u8 0, .int .u8 0, .int .u8 0, .int .u8 0, .int .u8 0, .int .u8 0, .int .u8 0, .int .u8 0, .int .u8 0, .int .u8 0, .int .u8 0, .int .u8 0, .int .u8 0, .int .u8 0, .int .u8 0])])
  (.seq
  (.reg [.call none (some 9) 21 [.c (.string (⟨#[54, 97, 48, 57, 101, 54, 54, 55, 98, 98, 54, 55, 97, 101, 56, 53, 51, 99, 54, 101, 102, 51, 55, 50, 97, 53, 52, 102, 102, 53, 51, 97, 53, 49, 48, 101, 53, 50, 55, 102, 57, 98, 48, 53, 54, 56, 56, 99, 49, 102, 56, 51, 100, 57, 97, 98, 53, 98, 101, 48, 99, 100, 49, 57]⟩))],
    .call none (some 10) 21 [.c (.string (⟨#[52, 50, 56, 97, 50, 102, 57, 56, 55, 49, 51, 55, 52, 52, 57, 49, 98, 53, 99, 48, 102, 98, 99, 102, 101, 57, 98, 53, 100, 98, 97, 53, 51, 57, 53, 54, 99, 50, 53, 98, 53, 57, 102, 49, 49, 49, 102, 49, 57, 50, 51, 102, 56, 50, 97, 52, 97, 98, 49, 99, 53, 101, 100, 53, 100, 56, 48, 55, 97, 97, 57, 56, 49, 50, 56, 51, 53, 98, 48, 49, 50, 52, 51, 49, 56, 53, 98, 101, 53, 53, 48, 99, 55, 100, 99, 51, 55, 50, 98, 101, 53, 100, 55, 52, 56, 48, 100, 101, 98, 49, 102, 101, 57, 98, 100, 99, 48, 54, 97, 55, 99, 49, 57, 98, 102, 49, 55, 52, 101, 52, 57, 98, 54, 57, 99, 49, 101, 102, 98, 101, 52, 55, 56, 54, 48, 102, 99, 49, 57, 100, 99, 54, 50, 52, 48, 99, 97, 49, 99, 99, 50, 100, 101, 57, 50, 99, 54, 102, 52, 97, 55, 52, 56, 52, 97, 97, 53, 99, 98, 48, 97, 57, 100, 99, 55, 54, 102, 57, 56, 56, 100, 97, 57, 56, 51, 101, 53, 49, 53, 50, 97, 56, 51, 49, 99, 54, 54, 100, 98, 48, 48, 51, 50, 55, 99, 56, 98, 102, 53, 57, 55, 102, 99, 55, 99, 54, 101, 48, 48, 98, 102, 51, 100, 53, 97, 55, 57, 49, 52, 55, 48, 54, 99, 97, 54, 51, 53, 49, 49, 52, 50, 57, 50, 57, 54, 55, 50, 55, 98, 55, 48, 97, 56, 53, 50, 101, 49, 98, 50, 49, 51, 56, 52, 100, 50, 99, 54, 100, 102, 99, 53, 51, 51, 56, 48, 100, 49, 51, 54, 53, 48, 97, 55, 51, 53, 52, 55, 54, 54, 97, 48, 97, 98, 98, 56, 49, 99, 50, 99, 57, 50, 101, 57, 50, 55, 50, 50, 99, 56, 53, 97, 50, 98, 102, 101, 56, 97, 49, 97, 56, 49, 97, 54, 54, 52, 98, 99, 50, 52, 98, 56, 98, 55, 48, 99, 55, 54, 99, 53, 49, 97, 51, 100, 49, 57, 50, 101, 56, 49, 57, 100, 54, 57, 57, 48, 54, 50, 52, 102, 52, 48, 101, 51, 53, 56, 53, 49, 48, 54, 97, 97, 48, 55, 48, 49, 57, 97, 52, 99, 49, 49, 54, 49, 101, 51, 55, 54, 99, 48, 56, 50, 55, 52, 56, 55, 55, 52, 99, 51, 52, 98, 48, 98, 99, 98, 53, 51, 57, 49, 99, 48, 99, 98, 51, 52, 101, 100, 56, 97, 97, 52, 97, 53, 98, 57, 99, 99, 97, 52, 102, 54, 56, 50, 101, 54, 102, 102, 51, 55, 52, 56, 102, 56, 50, 101, 101, 55, 56, 97, 53, 54, 51, 54, 102, 56, 52, 99, 56, 55, 56, 49, 52, 56, 99, 99, 55, 48, 50, 48, 56, 57, 48, 98, 101, 102, 102, 102, 97, 97, 52, 53, 48, 54, 99, 101, 98, 98, 101, 102, 57, 97, 51, 102, 55, 99, 54, 55, 49, 55, 56, 102, 50]⟩))],
    .op none (some 3) (.mov (.t 9)),
    .op none (some 4) (.mov (.t 10))])
  (.seq
  (.reg [.op none (some 11) (.mov (.t 0)),
    .call none (some 12) 22 [.t 11],
    .op none (some 5) (.mov (.t 12))])
  (.seq
  (.seq
  (.reg [.op none (some 6) (.mov (.c (.int .i64 0)))])
  (.block 0
  (.loop F10_l0)))
  (.seq
  (.reg [.op none (some 7) (.new 25 [.int .u8 0, .int .u8 0, .int .u8 0, .int .u8 0, .int .u8 0, .int .u8 0, .int .u8 0, .int .u8 0, .int .u8 0, .int .u8 0, .int .u8 0, .int .u8 0, .int .u8 0, .int .u8 0, .int .u8 0, .int .u8 0, .int .u8 0, .int .u8 0, .int .u8 0, .int .u8 0, .int .u8 0, .int .u8 0, .int .u8 0, .int .u8 0, .int .u8 0, .int .u8 0, .int .u8 0, .int .u8 0, .int .u8 0, .int .u8 0, .int .u8 0, .int .u8 0])])
  (.seq
  (.seq
  (.reg [.op none (some 8) (.mov (.c (.int .i64 0)))])
  (.block 2
  (.loop F10_l1)))
  (.seq
  (.reg [.op none (some 44) (.ldn 32 (.t 7)),
    .op none none (.st 32 (.t 2) (.t 44))])
  .ret))))))) }
theorem F10_ok : compFun Tryd.prog 3 Tryd.f10 = some F10 := by kernel_rfl

def F11_l0 : ACode :=
  (.seq
  (.seq
  (.reg [.op none (some 7) (.mov (.t 6)),
    .op none (some 8) (.mov (.t 0)),
    .op none (some 9) (.lenV (.t 8)),
    .op none (some 10) (.bin .lss (.t 7) (.t 9)),
    .op none (some 11) (.mov (.t 10)),
    .op (some (11, true)) (some 12) (.mov (.t 6)),
    .op (some (11, true)) (some 13) (.bin .lss (.t 12) (.c (.int .i64 50))),
    .op none (some 14) (.pick (.t 11) (.t 13) (.c (.bool false)))])
  (.cond (.t 14)
    .skip
    (.exit 0)))
  (.seq
  (.block 1
  (.reg [.op none (some 17) (.mov (.t 5)),
    .op none (some 18) (.mov (.t 0)),
    .op none (some 19) (.mov (.t 6)),
    .op none (some 20) (.iadV 1 (.t 18) (.t 19)),
    .op none (some 21) (.ld1 (.t 20)),
    .op none (some 22) (.lenV (.t 21)),
    .op none (some 23) (.mnx false (.t 22) [.c (.int .i64 3001)]),
    .op none (some 24) (.bin .add (.t 17) (.t 23)),
    .op none (some 5) (.mov (.t 24))]))
  (.reg [.op none (some 15) (.mov (.t 6)),
    .op none (some 16) (.bin .add (.t 15) (.c (.int .i64 1))),
    .op none (some 6) (.mov (.t 16))])))

def F11 : AFun :=
  { n := 34, res := [.t 4], code :=
  (.seq
  (.reg [.op none (some 4) (.mov (.c (.bool false)))])
  (.seq
  (.reg [.op none (some 5) (.mov (.c (.int .i64 0)))])
  (.seq
  (.seq
  (.reg [.op none (some 6) (.mov (.c (.int .i64 0)))])
  (.block 0
  (.loop F11_l0)))
  (.seq
  (.reg [.op none (some 25) (.mov (.t 0)),
    .op none (some 26) (.lenV (.t 25)),
    .op none (some 27) (.mov (.t 1)),
    .op none (some 28) (.mnx false (.t 27) [.c (.int .i64 50)]),
    .op none (some 29) (.bin .leq (.t 26) (.t 28)),
    .op none (some 30) (.mov (.t 29)),
    .op (some (30, true)) (some 31) (.mov (.t 5)),
    .op (some (30, true)) (some 32) (.bin .leq (.t 31) (.c (.int .i64 3000))),
    .op none (some 33) (.pick (.t 30) (.t 32) (.c (.bool false))),
    .op none (some 4) (.mov (.t 33))])
  .ret)))) }
theorem F11_ok : compFun Tryd.prog 3 Tryd.f11 = some F11 := by kernel_rfl

def F12_l0 : ACode :=
  (.seq
  (.seq
  (.reg [.op none (some 6) (.mov (.t 0)),
    .op none (some 7) (.eql true .ptr (.t 6) (.c (.pointer none))),
    .op none (some 8) (.mov (.t 7)),
    .op (some (8, true)) (some 9) (.mov (.t 1)),
    .op (some (8, true)) (some 10) (.lenV (.t 9)),
    .op (some (8, true)) (some 11) (.bin .gtr (.t 10) (.c (.int .i64 0))),
    .op none (some 12) (.pick (.t 8) (.t 11) (.c (.bool false)))])
  (.cond (.t 12)
    .skip
    (.exit 0)))
  (.block 1
  (.seq
  (.reg [.op none (some 13) (.mov (.t 0)),
    .op none (some 14) (.nchk (.t 13)),
    .op none (some 15) (.fad 72 (.t 14)),
    .op none (some 16) (.ld1 (.t 15)),
    .op none (some 17) (.bin .rem (.t 16) (.c (.int .u64 64))),
    .op none (some 18) (.cvt .i64 (.t 17)),
    .op none (some 4) (.mov (.t 18))])
  (.seq
  (.reg [.op none (some 19) (.mov (.t 0)),
    .op none (some 20) (.nchk (.t 19)),
    .op none (some 21) (.fad 8 (.t 20)),
    .op none (some 22) (.mov (.t 4)),
    .op none (some 23) (.slA 64 1 (.t 21) (some (.t 22)) none none),
    .op none (some 24) (.mov (.t 1)),
    .op none (some 25) (.cpy 1 (.t 23) (.t 24)),
    .op none (some 5) (.mov (.t 25))])
  (.seq
  (.draw [.f (.op none (some 26) (.mov (.t 0))),
    .f (.op none (some 27) (.mov (.t 1))),
    .f (.op none (some 28) (.mov (.t 5))),
    .f (.op none (some 29) (.slV 1 (.t 27) (some (.t 28)) none none)),
    .f (.op none (some 30) (.mov (.t 0))),
    .f (.op none (some 31) (.nchk (.t 30))),
    .f (.op none (some 32) (.fad 72 (.t 31))),
    .f (.op none (some 33) (.ld1 (.t 32))),
    .f (.op none (some 34) (.mov (.t 5))),
    .f (.op none (some 35) (.cvt .u64 (.t 34))),
    .f (.op none (some 36) (.bin .add (.t 33) (.t 35))),
    .f (.op none (some 1) (.mov (.t 29))),
    .f (.op none (some 37) (.nchk (.t 26))),
    .f (.op none (some 38) (.fad 72 (.t 37))),
    .b (.op none none (.st 1 (.t 38) (.t 36))) []])
  (.seq
  (.reg [.op none (some 39) (.mov (.t 4)),
    .op none (some 40) (.mov (.t 5)),
    .op none (some 41) (.bin .add (.t 39) (.t 40)),
    .op none (some 42) (.bin .eql (.t 41) (.c (.int .i64 64)))])
  (.cond (.t 42)
    (.reg [.op none (some 43) (.mov (.t 0)),
      .call none (some 44) 24 [.t 43]])
    .skip)))))))

def F12 : AFun :=
  { n := 45, res := [], code :=
  (.block 0
  (.loop F12_l0)) }
theorem F12_ok : compFun Tryd.prog 3 Tryd.f12 = some F12 := by kernel_rfl

def F13 : AFun :=
  { n := 9, res := [.t 2], code :=
  (.seq
  (.reg [.op none (some 2) (.mov (.c (.int .u64 0)))])
  (.seq
  (.seq
  (.reg [.op none (some 3) (.mov (.t 0)),
    .op none (some 4) (.eql false .ptr (.t 3) (.c (.pointer none)))])
  (.cond (.t 4)
    (.seq
    (.reg [.op none (some 2) (.mov (.c (.int .u64 0)))])
    .ret)
    .skip))
  (.seq
  (.reg [.op none (some 5) (.mov (.t 0)),
    .op none (some 6) (.nchk (.t 5)),
    .op none (some 7) (.fad 72 (.t 6)),
    .op none (some 8) (.ld1 (.t 7)),
    .op none (some 2) (.mov (.t 8))])
  .ret))) }
theorem F13_ok : compFun Tryd.prog 3 Tryd.f13 = some F13 := by kernel_rfl

def F14_l0 : ACode :=
  (.seq
  (.seq
  (.reg [.op none (some 19) (.fad 72 (.t 3)),
    .op none (some 20) (.ld1 (.t 19)),
    .op none (some 21) (.bin .rem (.t 20) (.c (.int .u64 64))),
    .op none (some 22) (.bin .neq (.t 21) (.c (.int .u64 56))),
    .op none (some 23) (.mov (.t 22)),
    .op (some (23, false)) (some 24) (.mov (.t 5)),
    .op (some (23, false)) (some 25) (.bin .gtr (.t 24) (.c (.int .u8 0))),
    .op none (some 26) (.pick (.t 23) (.c (.bool true)) (.t 25))])
  (.cond (.t 26)
    .skip
    (.exit 0)))
  (.seq
  (.block 1
  (.reg [.op none (some 27) (.mov (.t 5)),
    .op none (some 28) (.bldSl 5 1 [.int .u8 0] [(0, 1, .t 27)]),
    .call none (some 29) 12 [.t 3, .t 28]]))
  (.reg [.op none (some 5) (.mov (.c (.int .u8 0)))])))

def F14_l1 : ACode :=
  (.seq
  (.seq
  (.reg [.op none (some 30) (.mov (.t 6)),
    .op none (some 31) (.bin .geq (.t 30) (.c (.int .i64 0)))])
  (.cond (.t 31)
    .skip
    (.exit 2)))
  (.seq
  (.block 3
  (.reg [.op none (some 34) (.mov (.t 4)),
    .op none (some 35) (.mov (.t 6)),
    .op none (some 36) (.bin .shr (.t 34) (.t 35)),
    .op none (some 37) (.cvt .u8 (.t 36)),
    .op none (some 38) (.bldSl 5 1 [.int .u8 0] [(0, 1, .t 37)]),
    .call none (some 39) 12 [.t 3, .t 38]]))
  (.reg [.op none (some 32) (.mov (.t 6)),
    .op none (some 33) (.bin .sub (.t 32) (.c (.int .i64 8))),
    .op none (some 6) (.mov (.t 33))])))

def F14_l3 : ACode :=
  (.seq
  (.reg [.op none (some 46) (.bin .lss (.t 45) (.c (.int .i64 4)))])
  (.seq
  (.cond (.t 46)
    .skip
    (.exit 6))
  (.seq
  (.block 7
  (.seq
  (.reg [.op none (some 47) (.mov (.t 45)),
    .op none (some 9) (.mov (.t 47))])
  (.reg [.op none (some 48) (.mov (.t 7)),
    .op none (some 49) (.bin .mul (.c (.int .i64 4)) (.t 48)),
    .op none (some 50) (.mov (.t 9)),
    .op none (some 51) (.bin .add (.t 49) (.t 50)),
    .op none (some 52) (.mov (.t 8)),
    .op none (some 53) (.mov (.t 9)),
    .op none (some 54) (.bin .mul (.c (.int .i64 8)) (.t 53)),
    .op none (some 55) (.bin .sub (.c (.int .i64 24)) (.t 54)),
    .op none (some 56) (.bin .shr (.t 52) (.t 55)),
    .op none (some 57) (.cvt .u8 (.t 56)),
    .op none (some 58) (.iadA 32 1 (.t 2) (.t 51)),
    .op none none (.st 1 (.t 58) (.t 57))])))
  (.reg [.op none (some 59) (.bin .add (.t 45) (.c (.int .i64 1))),
    .op none (some 45) (.mov (.t 59))]))))

def F14_l2 : ACode :=
  (.seq
  (.reg [.op none (some 42) (.bin .lss (.t 41) (.c (.int .i64 8)))])
  (.seq
  (.cond (.t 42)
    .skip
    (.exit 4))
  (.seq
  (.block 5
  (.seq
  (.reg [.op none (some 43) (.mov (.t 41)),
    .op none (some 44) (.ixA 8 1 false (.t 40) (.t 41)),
    .op none (some 7) (.mov (.t 43)),
    .op none (some 8) (.mov (.t 44))])
  (.seq
  (.reg [.op none (some 45) (.mov (.c (.int .i64 0)))])
  (.block 6
  (.loop F14_l3)))))
  (.reg [.op none (some 60) (.bin .add (.t 41) (.c (.int .i64 1))),
    .op none (some 41) (.mov (.t 60))]))))

def F14 : AFun :=
  { n := 62, res := [.cn 2 32], code :=
  (.seq
  (.reg [.op none (some 2) (.new 25 [.int .u8 0, .int .u8 0, .int .u8 0, .int .u8 0, .int .u8 0, .int .u8 0, .int .u8 0, .int .u8 0, .int .u8 0, .int .u8 0, .int .u8 0, .int .u8 0, .int .u8 0, .int .u8 0, .int .u8 0, .int .u8 0, .int .u8 0, .int .u8 0, .int .u8 0, .int .u8 0, .int .u8 0, .int .u8 0, .int .u8 0, .int .u8 0, .int .u8 0, .int .u8 0, .int .u8 0, .int .u8 0, .int .u8 0, .int .u8 0, .int .u8 0, .int .u8 0])])
  (.seq
  (.seq
  (.reg [.op none (some 10) (.mov (.t 0)),
    .op none (some 11) (.eql false .ptr (.t 10) (.c (.pointer none)))])
  (.cond (.t 11)
    (.seq
    (.reg [.op none (some 12) (.ldn 32 (.t 2)),
      .op none none (.st 32 (.t 2) (.t 12))])
    .ret)
    .skip))
  (.seq
  (.reg [.op none (some 13) (.mov (.t 0)),
    .op none (some 14) (.nchk (.t 13)),
    .op none (some 15) (.ldn 73 (.t 14)),
    .op none (some 3) (.new 35 [.int .u32 0, .int .u32 0, .int .u32 0, .int .u32 0, .int .u32 0, .int .u32 0, .int .u32 0, .int .u32 0, .int .u8 0, .int .u8 0, .int .u8 0, .int .u8 0, .int .u8 0, .int .u8 0, .int .u8 0, .int .u8 0, .int .u8 0, .int .u8 0, .int .u8 0, .int .u8 0, .int .u8 0, .int .u8 0, .int .u8 0, .int .u8 0, .int .u8 0, .int .u8 0, .int .u8 0, .int .u8 0, .int .u8 0, .int .u8 0, .int .u8 0, .int .u8 0, .int .u8 0, .int .u8 0, .int .u8 0, .int .u8 0, .int .u8 0, .int .u8 0, .int .u8 0, .int .u8 0, .int .u8 0, .int .u8 0, .int .u8 0, .int .u8 0, .int .u8 0, .int .u8 0, .int .u8 0, .int .u8 0, .int .u8 0, .int .u8 0, .int .u8 0, .int .u8 0, .int .u8 0, .int .u8 0, .int .u8 0, .int .u8 0, .int .u8 0, .int .u8 0, .int .u8 0, .int .u8 0, .int .u8 0, .int .u8 0, .int .u8 0, .int .u8 0, .int .u8 0, .int .u8 0, .int .u8 0, .int .u8 0, .int .u8 0, .int .u8 0, .int .u8 0, .int .u8 0, .int .u64 0]),
    .op none none (.st 73 (.t 3) (.t 15))])
  (.seq
  (.reg [.op none (some 16) (.fad 72 (.t 3)),
    .op none (some 17) (.ld1 (.t 16)),
    .op none (some 18) (.bin .mul (.c (.int .u64 8)) (.t 17)),
    .op none (some 4) (.mov (.t 18))])
  (.seq
  (.seq
  (.reg [.op none (some 5) (.mov (.c (.int .u8 128)))])
  (.block 0
  (.loop F14_l0)))
  (.seq
  (.seq
  (.reg [.op none (some 6) (.mov (.c (.int .i64 56)))])
  (.block 2
  (.loop F14_l1)))
  (.seq
  (.seq
  (.reg [.call none (some 40) 25 [.t 3],
    .op none (some 41) (.mov (.c (.int .i64 0)))])
  (.block 4
  (.loop F14_l2)))
  (.seq
  (.reg [.op none (some 61) (.ldn 32 (.t 2)),
    .op none none (.st 32 (.t 2) (.t 61))])
  .ret)))))))) }
theorem F14_ok : compFun Tryd.prog 3 Tryd.f14 = some F14 := by kernel_rfl

def F15_l0 : ACode :=
  (.seq
  (.seq
  (.reg [.op none (some 5) (.mov (.t 4)),
    .op none (some 6) (.mov (.t 0)),
    .op none (some 7) (.lenV (.t 6)),
    .op none (some 8) (.bin .lss (.t 5) (.t 7))])
  (.cond (.t 8)
    .skip
    (.exit 0)))
  (.seq
  (.block 1
  (.reg [.op none (some 11) (.mov (.t 3)),
    .op none (some 12) (.mov (.t 0)),
    .op none (some 13) (.mov (.t 4)),
    .op none (some 14) (.iadV 1 (.t 12) (.t 13)),
    .op none (some 15) (.ld1 (.t 14)),
    .op none (some 16) (.app 5 1 1 [.int .u8 0] (.t 11) (.t 15)),
    .op none (some 3) (.mov (.t 16))]))
  (.reg [.op none (some 9) (.mov (.t 4)),
    .op none (some 10) (.bin .add (.t 9) (.c (.int .i64 1))),
    .op none (some 4) (.mov (.t 10))])))

def F15 : AFun :=
  { n := 18, res := [.t 2], code :=
  (.seq
  (.reg [.op none (some 2) (.mov (.c (.slice none 0 0)))])
  (.seq
  (.reg [.op none (some 3) (.mov (.c (.slice none 0 0)))])
  (.seq
  (.seq
  (.reg [.op none (some 4) (.mov (.c (.int .i64 0)))])
  (.block 0
  (.loop F15_l0)))
  (.seq
  (.reg [.op none (some 17) (.mov (.t 3)),
    .op none (some 2) (.mov (.t 17))])
  .ret)))) }
theorem F15_ok : compFun Tryd.prog 3 Tryd.f15 = some F15 := by kernel_rfl

def F16 : AFun :=
  { n := 9, res := [.t 2], code :=
  (.seq
  (.reg [.op none (some 2) (.mov (.c (.pointer none)))])
  (.seq
  (.seq
  (.reg [.op none (some 4) (.mov (.t 0)),
    .op none (some 5) (.eql false .ptr (.t 4) (.c (.pointer none)))])
  (.cond (.t 5)
    (.seq
    (.reg [.op none (some 2) (.mov (.c (.pointer none)))])
    .ret)
    .skip))
  (.seq
  (.reg [.op none (some 6) (.mov (.t 0)),
    .op none (some 7) (.nchk (.t 6)),
    .op none (some 8) (.ldn 73 (.t 7)),
    .op none (some 3) (.new 35 [.int .u32 0, .int .u32 0, .int .u32 0, .int .u32 0, .int .u32 0, .int .u32 0, .int .u32 0, .int .u32 0, .int .u8 0, .int .u8 0, .int .u8 0, .int .u8 0, .int .u8 0, .int .u8 0, .int .u8 0, .int .u8 0, .int .u8 0, .int .u8 0, .int .u8 0, .int .u8 0, .int .u8 0, .int .u8 0, .int .u8 0, .int .u8 0, .int .u8 0, .int .u8 0, .int .u8 0, .int .u8 0, .int .u8 0, .int .u8 0, .int .u8 0, .int .u8 0, .int .u8 0, .int .u8 0, .int .u8 0, .int .u8 0, .int .u8 0, .int .u8 0, .int .u8 0, .int .u8 0, .int .u8 0, .int .u8 0, .int .u8 0, .int .u8 0, .int .u8 0, .int .u8 0, .int .u8 0, .int .u8 0, .int .u8 0, .int .u8 0, .int .u8 0, .int .u8 0, .int .u8 0, .int .u8 0, .int .u8 0, .int .u8 0, .int .u8 0, .int .u8 0, .int .u8 0, .int .u8 0, .int .u8 0, .int .u8 0, .int .u8 0, .int .u8 0, .int .u8 0, .int .u8 0, .int .u8 0, .int .u8 0, .int .u8 0, .int .u8 0, .int .u8 0, .int .u8 0, .int .u64 0]),
    .op none none (.st 73 (.t 3) (.t 8))])
  (.seq
  (.reg [.op none (some 2) (.mov (.t 3))])
  .ret)))) }
theorem F16_ok : compFun Tryd.prog 3 Tryd.f16 = some F16 := by kernel_rfl

def F17_l0 : ACode :=
  (.seq
  (.reg [.op none (some 8) (.bin .lss (.t 7) (.c (.int .i64 32)))])
  (.seq
  (.cond (.t 8)
    .skip
    (.exit 0))
  (.seq
  (.block 1
  (.seq
  (.reg [.op none (some 9) (.ixA 32 1 false (.t 6) (.t 7)),
    .op none (some 5) (.mov (.t 9))])
  (.seq
  (.reg [.op none (some 10) (.mov (.t 5)),
    .op none (some 11) (.bin .quo (.t 10) (.c (.int .u8 16))),
    .op none (some 12) (.ixS (.c (.string (⟨#[48, 49, 50, 51, 52, 53, 54, 55, 56, 57, 97, 98, 99, 100, 101, 102]⟩))) (.t 11)),
    .call none (some 13) 26 [.t 3, .t 12]])
  (.reg [.op none (some 14) (.mov (.t 5)),
    .op none (some 15) (.bin .rem (.t 14) (.c (.int .u8 16))),
    .op none (some 16) (.ixS (.c (.string (⟨#[48, 49, 50, 51, 52, 53, 54, 55, 56, 57, 97, 98, 99, 100, 101, 102]⟩))) (.t 15)),
    .call none (some 17) 26 [.t 3, .t 16]]))))
  (.reg [.op none (some 18) (.bin .add (.t 7) (.c (.int .i64 1))),
    .op none (some 7) (.mov (.t 18))]))))

def F17 : AFun :=
  { n := 20, res := [.t 2], code :=
  (.seq
  (.reg [.op none (some 1) (.box 25 (.t 0)),
    .op none (some 2) (.mov (.c (.string (⟨#[]⟩))))])
  (.seq
  (.reg [.op none (some 3) (.new 56 [.pointer none, .slice none 0 0])])
  (.seq
  (.seq
  (.reg [.op none (some 6) (.ldn 32 (.t 1)),
    .op none (some 7) (.mov (.c (.int .i64 0)))])
  (.block 0
  (.loop F17_l0)))
  (.seq
  (.reg [.call none (some 19) 27 [.t 3],
    .op none (some 2) (.mov (.t 19))])
  .ret)))) }
theorem F17_ok : compFun Tryd.prog 3 Tryd.f17 = some F17 := by kernel_rfl

def F18_l0 : ACode :=
  (.seq
  (.reg [.op none (some 13) (.bin .lss (.t 12) (.t 11))])
  (.seq
  (.cond (.t 13)
    .skip
    (.exit 0))
  (.seq
  (.block 1
  (.seq
  (.reg [.op none (some 14) (.mov (.t 12)),
    .op none (some 4) (.mov (.t 14))])
  (.seq
  (.reg [.op none (some 15) (.mov (.t 0)),
    .op none (some 16) (.mov (.t 4)),
    .op none (some 17) (.ixS (.t 15) (.t 16)),
    .call none (some 18) 28 [.c (.string (⟨#[48, 49, 50, 51, 52, 53, 54, 55, 56, 57, 97, 98, 99, 100, 101, 102]⟩)), .t 17],
    .op none (some 5) (.mov (.t 18))])
  (.seq
  (.seq
  (.reg [.op none (some 19) (.mov (.t 5)),
    .op none (some 20) (.bin .lss (.t 19) (.c (.int .i64 0)))])
  (.cond (.t 20)
    (.seq
    (.reg [.op none (some 21) (.bld [.int .u8 0, .int .u8 0, .int .u8 0, .int .u8 0, .int .u8 0, .int .u8 0, .int .u8 0, .int .u8 0, .int .u8 0, .int .u8 0, .int .u8 0, .int .u8 0, .int .u8 0, .int .u8 0, .int .u8 0, .int .u8 0, .int .u8 0, .int .u8 0, .int .u8 0, .int .u8 0, .int .u8 0, .int .u8 0, .int .u8 0, .int .u8 0, .int .u8 0, .int .u8 0, .int .u8 0, .int .u8 0, .int .u8 0, .int .u8 0, .int .u8 0, .int .u8 0] []),
      .op none none (.st 32 (.t 2) (.t 21)),
      .op none (some 3) (.mov (.c (.bool false)))])
    .ret)
    .skip))
  (.reg [.op none (some 22) (.mov (.t 4)),
    .op none (some 23) (.bin .quo (.t 22) (.c (.int .i64 2))),
    .op none (some 24) (.mov (.t 4)),
    .op none (some 25) (.bin .quo (.t 24) (.c (.int .i64 2))),
    .op none (some 26) (.iadA 32 1 (.t 2) (.t 25)),
    .op none (some 27) (.ld1 (.t 26)),
    .op none (some 28) (.bin .shl (.t 27) (.c (.int .u64 4))),
    .op none (some 29) (.mov (.t 5)),
    .op none (some 30) (.cvt .u8 (.t 29)),
    .op none (some 31) (.bin .or (.t 28) (.t 30)),
    .op none (some 32) (.iadA 32 1 (.t 2) (.t 23)),
    .op none none (.st 1 (.t 32) (.t 31))])))))
  (.reg [.op none (some 33) (.bin .add (.t 12) (.c (.int .i64 1))),
    .op none (some 12) (.mov (.t 33))]))))

def F18 : AFun :=
  { n := 35, res := [.cn 2 32, .t 3], code :=
  (.seq
  (.reg [.op none (some 2) (.new 25 [.int .u8 0, .int .u8 0, .int .u8 0, .int .u8 0, .int .u8 0, .int .u8 0, .int .u8 0, .int .u8 0, .int .u8 0, .int .u8 0, .int .u8 0, .int .u8 0, .int .u8 0, .int .u8 0, .int .u8 0, .int .u8 0, .int .u8 0, .int .u8 0, .int .u8 0, .int .u8 0, .int .u8 0, .int .u8 0, .int .u8 0, .int .u8 0, .int .u8 0, .int .u8 0, .int .u8 0, .int .u8 0, .int .u8 0, .int .u8 0, .int .u8 0, .int .u8 0]),
    .op none (some 3) (.mov (.c (.bool false)))])
  (.seq
  (.seq
  (.reg [.op none (some 6) (.mov (.t 0)),
    .op none (some 7) (.lenS (.t 6)),
    .op none (some 8) (.bin .neq (.t 7) (.c (.int .i64 64)))])
  (.cond (.t 8)
    (.seq
    (.reg [.op none (some 9) (.ldn 32 (.t 2)),
      .op none none (.st 32 (.t 2) (.t 9)),
      .op none (some 3) (.mov (.c (.bool false)))])
    .ret)
    .skip))
  (.seq
  (.seq
  (.reg [.op none (some 10) (.mov (.t 0)),
    .op none (some 11) (.lenS (.t 10)),
    .op none (some 12) (.mov (.c (.int .i64 0)))])
  (.block 0
  (.loop F18_l0)))
  (.seq
  (.reg [.op none (some 34) (.ldn 32 (.t 2)),
    .op none none (.st 32 (.t 2) (.t 34)),
    .op none (some 3) (.mov (.c (.bool true)))])
  .ret)))) }
theorem F18_ok : compFun Tryd.prog 3 Tryd.f18 = some F18 := by kernel_rfl

def F19_l0 : ACode :=
  (.seq
  (.seq
  (.reg [.op none (some 6) (.mov (.t 5)),
    .op none (some 7) (.mov (.t 0)),
    .op none (some 8) (.lenS (.t 7)),
    .op none (some 9) (.bin .lss (.t 6) (.t 8))])
  (.cond (.t 9)
    .skip
    (.exit 0)))
  (.seq
  (.block 1
  (.seq
  (.seq
  (.reg [.op none (some 12) (.mov (.t 0)),
    .op none (some 13) (.lenS (.t 12)),
    .op none (some 14) (.bin .neq (.t 13) (.c (.int .i64 64))),
    .op none (some 15) (.mov (.t 14)),
    .op (some (15, false)) (some 16) (.mov (.t 0)),
    .op (some (15, false)) (some 17) (.mov (.t 5)),
    .op (some (15, false)) (some 18) (.ixS (.t 16) (.t 17)),
    .call (some (15, false)) (some 19) 29 [.t 18],
    .op (some (15, false)) (some 20) (.bin .eql (.t 19) (.c (.int .u8 16))),
    .op none (some 21) (.pick (.t 15) (.c (.bool true)) (.t 20))])
  (.cond (.t 21)
    (.seq
    (.reg [.op none (some 22) (.bld [.int .u8 0, .int .u8 0, .int .u8 0, .int .u8 0, .int .u8 0, .int .u8 0, .int .u8 0, .int .u8 0, .int .u8 0, .int .u8 0, .int .u8 0, .int .u8 0, .int .u8 0, .int .u8 0, .int .u8 0, .int .u8 0, .int .u8 0, .int .u8 0, .int .u8 0, .int .u8 0, .int .u8 0, .int .u8 0, .int .u8 0, .int .u8 0, .int .u8 0, .int .u8 0, .int .u8 0, .int .u8 0, .int .u8 0, .int .u8 0, .int .u8 0, .int .u8 0] []),
      .op none none (.st 32 (.t 2) (.t 22)),
      .op none (some 3) (.mov (.c (.bool false)))])
    .ret)
    .skip))
  (.draw [.f (.op none (some 23) (.mov (.t 5))),
    .f (.op none (some 24) (.bin .quo (.t 23) (.c (.int .i64 2)))),
    .f (.op none (some 25) (.mov (.t 5))),
    .f (.op none (some 26) (.bin .quo (.t 25) (.c (.int .i64 2)))),
    .f (.op none (some 27) (.iadA 32 1 (.t 4) (.t 26))),
    .f (.op none (some 28) (.ld1 (.t 27))),
    .f (.op none (some 29) (.bin .mul (.c (.int .u8 16)) (.t 28))),
    .f (.op none (some 30) (.mov (.t 0))),
    .f (.op none (some 31) (.mov (.t 5))),
    .f (.op none (some 32) (.ixS (.t 30) (.t 31))),
    .b (.call none (some 33) 29 [.t 32]) [.op none (some 28) (.ld1 (.t 27))],
    .f (.op none (some 34) (.bin .add (.t 29) (.t 33))),
    .f (.op none (some 35) (.iadA 32 1 (.t 4) (.t 24))),
    .b (.op none none (.st 1 (.t 35) (.t 34))) []])))
  (.reg [.op none (some 10) (.mov (.t 5)),
    .op none (some 11) (.bin .add (.t 10) (.c (.int .i64 1))),
    .op none (some 5) (.mov (.t 11))])))

def F19 : AFun :=
  { n := 40, res := [.cn 2 32, .t 3], code :=
  (.seq
  (.reg [.op none (some 2) (.new 25 [.int .u8 0, .int .u8 0, .int .u8 0, .int .u8 0, .int .u8 0, .int .u8 0, .int .u8 0, .int .u8 0, .int .u8 0, .int .u8 0, .int .u8 0, .int .u8 0, .int .u8 0, .int .u8 0, .int .u8 0, .int .u8 0, .int .u8 0, .int .u8 0, .int .u8 0, .int .u8 0, .int .u8 0, .int .u8 0, .int .u8 0, .int .u8 0, .int .u8 0, .int .u8 0, .int .u8 0, .int .u8 0, .int .u8 0, .int .u8 0, .int .u8 0, .int .u8 0]),
    .op none (some 3) (.mov (.c (.bool false)))])
  (.seq
  (.reg [.op none (some 4) (.new 25 [.int .u8 0, .int .u8 0, .int .u8 0, .int .u8 0, .int .u8 0, .int .u8 0, .int .u8 0, .int .u8 0, .int .u8 0, .int .u8 0, .int .u8 0, .int .u8 0, .int .u8 0, .int .u8 0, .int .u8 0, .int .u8 0, .int .u8 0, .int .u8 0, .int .u8 0, .int .u8 0, .int .u8 0, .int .u8 0, .int .u8 0, .int .u8 0, .int .u8 0, .int .u8 0, .int .u8 0, .int .u8 0, .int .u8 0, .int .u8 0, .int .u8 0, .int .u8 0])])
  (.seq
  (.seq
  (.reg [.op none (some 5) (.mov (.c (.int .i64 0)))])
  (.block 0
  (.loop F19_l0)))
  (.seq
  (.reg [.op none (some 36) (.ldn 32 (.t 4)),
    .op none (some 37) (.mov (.t 0)),
    .op none (some 38) (.lenS (.t 37)),
    .op none (some 39) (.bin .eql (.t 38) (.c (.int .i64 64))),
    .op none none (.st 32 (.t 2) (.t 36)),
    .op none (some 3) (.mov (.t 39))])
  .ret)))) }
theorem F19_ok : compFun Tryd.prog 3 Tryd.f19 = some F19 := by kernel_rfl

def F20_l0 : ACode :=
  (.seq
  (.seq
  (.reg [.op none (some 5) (.mov (.t 4)),
    .op none (some 6) (.bin .lss (.t 5) (.c (.int .i64 32)))])
  (.cond (.t 6)
    .skip
    (.exit 0)))
  (.seq
  (.block 1
  (.draw [.f (.op none (some 9) (.mov (.t 3))),
    .f (.op none (some 10) (.mov (.t 4))),
    .f (.op none (some 11) (.iadA 32 1 (.t 1) (.t 10))),
    .f (.op none (some 12) (.ld1 (.t 11))),
    .f (.op none (some 13) (.bin .quo (.t 12) (.c (.int .u8 16)))),
    .f (.op none (some 14) (.mov (.t 4))),
    .f (.op none (some 15) (.iadA 32 1 (.t 1) (.t 14))),
    .f (.op none (some 16) (.ld1 (.t 15))),
    .f (.op none (some 17) (.bin .quo (.t 16) (.c (.int .u8 16)))),
    .f (.op none (some 18) (.bin .add (.t 17) (.c (.int .u8 1)))),
    .f (.op none (some 19) (.slS (.c (.string (⟨#[48, 49, 50, 51, 52, 53, 54, 55, 56, 57, 97, 98, 99, 100, 101, 102]⟩))) (some (.t 13)) (some (.t 18)))),
    .f (.op none (some 20) (.bin .add (.t 9) (.t 19))),
    .f (.op none (some 21) (.mov (.t 4))),
    .f (.op none (some 22) (.iadA 32 1 (.t 1) (.t 21))),
    .f (.op none (some 23) (.ld1 (.t 22))),
    .f (.op none (some 24) (.bin .rem (.t 23) (.c (.int .u8 16)))),
    .f (.op none (some 25) (.mov (.t 4))),
    .f (.op none (some 26) (.iadA 32 1 (.t 1) (.t 25))),
    .f (.op none (some 27) (.ld1 (.t 26))),
    .f (.op none (some 28) (.bin .rem (.t 27) (.c (.int .u8 16)))),
    .f (.op none (some 29) (.bin .add (.t 28) (.c (.int .u8 1)))),
    .f (.op none (some 30) (.slS (.c (.string (⟨#[48, 49, 50, 51, 52, 53, 54, 55, 56, 57, 97, 98, 99, 100, 101, 102]⟩))) (some (.t 24)) (some (.t 29)))),
    .f (.op none (some 31) (.bin .add (.t 20) (.t 30))),
    .f (.op none (some 3) (.mov (.t 31)))]))
  (.reg [.op none (some 7) (.mov (.t 4)),
    .op none (some 8) (.bin .add (.t 7) (.c (.int .i64 1))),
    .op none (some 4) (.mov (.t 8))])))

def F20 : AFun :=
  { n := 33, res := [.t 2], code :=
  (.seq
  (.reg [.op none (some 1) (.box 25 (.t 0)),
    .op none (some 2) (.mov (.c (.string (⟨#[]⟩))))])
  (.seq
  (.reg [.op none (some 3) (.mov (.c (.string (⟨#[]⟩))))])
  (.seq
  (.seq
  (.reg [.op none (some 4) (.mov (.c (.int .i64 0)))])
  (.block 0
  (.loop F20_l0)))
  (.seq
  (.reg [.op none (some 32) (.mov (.t 3)),
    .op none (some 2) (.mov (.t 32))])
  .ret)))) }
theorem F20_ok : compFun Tryd.prog 3 Tryd.f20 = some F20 := by kernel_rfl

def F21_l0 : ACode :=
  (.seq
  (.seq
  (.reg [.op none (some 9) (.mov (.t 4)),
    .op none (some 10) (.mov (.t 0)),
    .op none (some 11) (.lenS (.t 10)),
    .op none (some 12) (.bin .lss (.t 9) (.t 11))])
  (.cond (.t 12)
    .skip
    (.exit 0)))
  (.seq
  (.block 1
  (.draw [.f (.op none (some 15) (.mov (.t 3))),
    .f (.op none (some 16) (.mov (.t 4))),
    .f (.op none (some 17) (.bin .quo (.t 16) (.c (.int .i64 8)))),
    .f (.op none (some 18) (.mov (.t 3))),
    .f (.op none (some 19) (.mov (.t 4))),
    .f (.op none (some 20) (.bin .quo (.t 19) (.c (.int .i64 8)))),
    .f (.op none (some 21) (.iadV 1 (.t 18) (.t 20))),
    .f (.op none (some 22) (.ld1 (.t 21))),
    .f (.op none (some 23) (.bin .mul (.t 22) (.c (.int .u32 16)))),
    .f (.op none (some 24) (.mov (.t 0))),
    .f (.op none (some 25) (.mov (.t 4))),
    .f (.op none (some 26) (.ixS (.t 24) (.t 25))),
    .b (.call none (some 27) 29 [.t 26]) [.op none (some 22) (.ld1 (.t 21))],
    .f (.op none (some 28) (.cvt .u32 (.t 27))),
    .f (.op none (some 29) (.bin .add (.t 23) (.t 28))),
    .f (.op none (some 30) (.iadV 1 (.t 15) (.t 17))),
    .b (.op none none (.st 1 (.t 30) (.t 29))) []]))
  (.reg [.op none (some 13) (.mov (.t 4)),
    .op none (some 14) (.bin .add (.t 13) (.c (.int .i64 1))),
    .op none (some 4) (.mov (.t 14))])))

def F21 : AFun :=
  { n := 32, res := [.t 2], code :=
  (.seq
  (.reg [.op none (some 2) (.mov (.c (.slice none 0 0)))])
  (.seq
  (.reg [.op none (some 5) (.mov (.t 0)),
    .op none (some 6) (.lenS (.t 5)),
    .op none (some 7) (.bin .quo (.t 6) (.c (.int .i64 8))),
    .op none (some 8) (.mkSl 30 1 [.int .u32 0] 4 (.t 7) (.t 7)),
    .op none (some 3) (.mov (.t 8))])
  (.seq
  (.seq
  (.reg [.op none (some 4) (.mov (.c (.int .i64 0)))])
  (.block 0
  (.loop F21_l0)))
  (.seq
  (.reg [.op none (some 31) (.mov (.t 3)),
    .op none (some 2) (.mov (.t 31))])
  .ret)))) }
theorem F21_ok : compFun Tryd.prog 3 Tryd.f21 = some F21 := by kernel_rfl

def F22_l0 : ACode :=
  (.seq
  (.seq
  (.reg [.op none (some 10) (.mov (.t 3)),
    .op none (some 11) (.lenV (.t 10)),
    .op none (some 12) (.bin .rem (.t 11) (.c (.int .i64 64))),
    .op none (some 13) (.bin .neq (.t 12) (.c (.int .i64 56)))])
  (.cond (.t 13)
    .skip
    (.exit 0)))
  (.block 1
  (.reg [.op none (some 14) (.mov (.t 3)),
    .op none (some 15) (.bldSl 5 1 [.int .u8 0] [(0, 1, .c (.int .u8 0))]),
    .op none (some 16) (.app 5 1 1 [.int .u8 0] (.t 14) (.t 15)),
    .op none (some 3) (.mov (.t 16))])))

def F22_l1 : ACode :=
  (.seq
  (.seq
  (.reg [.op none (some 21) (.mov (.t 5)),
    .op none (some 22) (.bin .geq (.t 21) (.c (.int .i64 0)))])
  (.cond (.t 22)
    .skip
    (.exit 2)))
  (.seq
  (.block 3
  (.reg [.op none (some 25) (.mov (.t 3)),
    .op none (some 26) (.mov (.t 4)),
    .op none (some 27) (.mov (.t 5)),
    .op none (some 28) (.bin .mul (.c (.int .i64 8)) (.t 27)),
    .op none (some 29) (.bin .shr (.t 26) (.t 28)),
    .op none (some 30) (.cvt .u8 (.t 29)),
    .op none (some 31) (.bldSl 5 1 [.int .u8 0] [(0, 1, .t 30)]),
    .op none (some 32) (.app 5 1 1 [.int .u8 0] (.t 25) (.t 31)),
    .op none (some 3) (.mov (.t 32))]))
  (.reg [.op none (some 23) (.mov (.t 5)),
    .op none (some 24) (.bin .sub (.t 23) (.c (.int .i64 1))),
    .op none (some 5) (.mov (.t 24))])))

def F22 : AFun :=
  { n := 34, res := [.t 2], code :=
  (.seq
  (.reg [.op none (some 2) (.mov (.c (.slice none 0 0)))])
  (.seq
  (.reg [.op none (some 6) (.mov (.t 0)),
    .op none (some 7) (.b2s (.t 6)),
    .op none (some 8) (.bin .add (.t 7) (.c (.string (⟨#[128]⟩)))),
    .op none (some 9) (.s2b 5 (.t 8)),
    .op none (some 3) (.mov (.t 9))])
  (.seq
  (.block 0
  (.loop F22_l0))
  (.seq
  (.reg [.op none (some 17) (.mov (.t 0)),
    .op none (some 18) (.lenV (.t 17)),
    .op none (some 19) (.cvt .u64 (.t 18)),
    .op none (some 20) (.bin .mul (.c (.int .u64 8)) (.t 19)),
    .op none (some 4) (.mov (.t 20))])
  (.seq
  (.seq
  (.reg [.op none (some 5) (.mov (.c (.int .i64 7)))])
  (.block 2
  (.loop F22_l1)))
  (.seq
  (.reg [.op none (some 33) (.mov (.t 3)),
    .op none (some 2) (.mov (.t 33))])
  .ret)))))) }
theorem F22_ok : compFun Tryd.prog 3 Tryd.f22 = some F22 := by kernel_rfl

def F23_l0 : ACode :=
  (.seq
  (.seq
  (.reg [.op none (some 23) (.mov (.t 9)),
    .op none (some 24) (.bin .lss (.t 23) (.c (.int .i64 64)))])
  (.cond (.t 24)
    .skip
    (.exit 0)))
  (.seq
  (.block 1
  (.seq
  (.draw [.f (.op none (some 27) (.mov (.t 8))),
    .f (.op none (some 28) (.iadV 1 (.t 27) (.c (.int .i64 0)))),
    .f (.op none (some 29) (.ld1 (.t 28))),
    .f (.op none (some 30) (.mov (.t 8))),
    .f (.op none (some 31) (.iadV 1 (.t 30) (.c (.int .i64 1)))),
    .f (.op none (some 32) (.ld1 (.t 31))),
    .f (.op none (some 33) (.mov (.t 8))),
    .f (.op none (some 34) (.iadV 1 (.t 33) (.c (.int .i64 2)))),
    .f (.op none (some 35) (.ld1 (.t 34))),
    .f (.op none (some 36) (.mov (.t 8))),
    .f (.op none (some 37) (.iadV 1 (.t 36) (.c (.int .i64 4)))),
    .f (.op none (some 38) (.ld1 (.t 37))),
    .f (.op none (some 39) (.mov (.t 8))),
    .f (.op none (some 40) (.iadV 1 (.t 39) (.c (.int .i64 5)))),
    .f (.op none (some 41) (.ld1 (.t 40))),
    .f (.op none (some 42) (.mov (.t 8))),
    .f (.op none (some 43) (.iadV 1 (.t 42) (.c (.int .i64 6)))),
    .f (.op none (some 44) (.ld1 (.t 43))),
    .f (.op none (some 10) (.mov (.t 29))),
    .f (.op none (some 11) (.mov (.t 32))),
    .f (.op none (some 12) (.mov (.t 35))),
    .f (.op none (some 13) (.mov (.t 38))),
    .f (.op none (some 14) (.mov (.t 41))),
    .f (.op none (some 15) (.mov (.t 44)))])
  (.seq
  (.draw [.f (.op none (some 45) (.mov (.t 8))),
    .f (.op none (some 46) (.iadV 1 (.t 45) (.c (.int .i64 7)))),
    .f (.op none (some 47) (.ld1 (.t 46))),
    .f (.op none (some 48) (.mov (.t 13))),
    .f (.op none (some 50) (.mov (.t 13))),
    .f (.op none (some 53) (.mov (.t 13))),
    .f (.op none (some 57) (.mov (.t 13))),
    .f (.op none (some 58) (.mov (.t 14))),
    .f (.op none (some 59) (.bin .and (.t 57) (.t 58))),
    .f (.op none (some 60) (.mov (.t 13))),
    .f (.op none (some 61) (.un .xor (.t 60))),
    .f (.op none (some 62) (.mov (.t 15))),
    .f (.op none (some 63) (.bin .and (.t 61) (.t 62))),
    .f (.op none (some 64) (.bin .xor (.t 59) (.t 63))),
    .f (.op none (some 66) (.mov (.t 1))),
    .f (.op none (some 67) (.mov (.t 9))),
    .f (.op none (some 68) (.iadV 1 (.t 66) (.t 67))),
    .f (.op none (some 69) (.ld1 (.t 68))),
    .f (.op none (some 71) (.mov (.t 7))),
    .f (.op none (some 72) (.mov (.t 9))),
    .f (.op none (some 73) (.iadV 1 (.t 71) (.t 72))),
    .f (.op none (some 74) (.ld1 (.t 73))),
    .b (.call none (some 49) 31 [.c (.int .i64 6), .t 48]) [.op none (some 47) (.ld1 (.t 46)), .op none (some 69) (.ld1 (.t 68)), .op none (some 74) (.ld1 (.t 73))],
    .b (.call none (some 51) 31 [.c (.int .i64 11), .t 50]) [.op none (some 47) (.ld1 (.t 46)), .op none (some 69) (.ld1 (.t 68)), .op none (some 74) (.ld1 (.t 73))],
    .f (.op none (some 52) (.bin .xor (.t 49) (.t 51))),
    .b (.call none (some 54) 31 [.c (.int .i64 25), .t 53]) [.op none (some 47) (.ld1 (.t 46)), .op none (some 69) (.ld1 (.t 68)), .op none (some 74) (.ld1 (.t 73))],
    .f (.op none (some 55) (.bin .xor (.t 52) (.t 54))),
    .f (.op none (some 56) (.bin .add (.t 47) (.t 55))),
    .f (.op none (some 65) (.bin .add (.t 56) (.t 64))),
    .f (.op none (some 70) (.bin .add (.t 65) (.t 69))),
    .f (.op none (some 75) (.bin .add (.t 70) (.t 74))),
    .f (.op none (some 16) (.mov (.t 75)))])
  (.seq
  (.reg [.op none (some 76) (.mov (.t 10)),
    .call none (some 77) 31 [.c (.int .i64 2), .t 76],
    .op none (some 78) (.mov (.t 10)),
    .call none (some 79) 31 [.c (.int .i64 13), .t 78],
    .op none (some 80) (.bin .xor (.t 77) (.t 79)),
    .op none (some 81) (.mov (.t 10)),
    .call none (some 82) 31 [.c (.int .i64 22), .t 81],
    .op none (some 83) (.bin .xor (.t 80) (.t 82)),
    .op none (some 84) (.mov (.t 10)),
    .op none (some 85) (.mov (.t 11)),
    .op none (some 86) (.bin .and (.t 84) (.t 85)),
    .op none (some 87) (.mov (.t 10)),
    .op none (some 88) (.mov (.t 12)),
    .op none (some 89) (.bin .and (.t 87) (.t 88)),
    .op none (some 90) (.bin .or (.t 86) (.t 89)),
    .op none (some 91) (.mov (.t 11)),
    .op none (some 92) (.mov (.t 12)),
    .op none (some 93) (.bin .and (.t 91) (.t 92)),
    .op none (some 94) (.bin .or (.t 90) (.t 93)),
    .op none (some 95) (.bin .add (.t 83) (.t 94)),
    .op none (some 17) (.mov (.t 95))])
  (.reg [.op none (some 96) (.mov (.t 16)),
    .op none (some 97) (.mov (.t 17)),
    .op none (some 98) (.bin .add (.t 96) (.t 97)),
    .op none (some 99) (.mov (.t 10)),
    .op none (some 100) (.mov (.t 11)),
    .op none (some 101) (.mov (.t 12)),
    .op none (some 102) (.mov (.t 8)),
    .op none (some 103) (.iadV 1 (.t 102) (.c (.int .i64 3))),
    .op none (some 104) (.ld1 (.t 103)),
    .op none (some 105) (.mov (.t 16)),
    .op none (some 106) (.bin .add (.t 104) (.t 105)),
    .op none (some 107) (.mov (.t 13)),
    .op none (some 108) (.mov (.t 14)),
    .op none (some 109) (.mov (.t 15)),
    .op none (some 110) (.bldSl 30 8 [.int .u32 0, .int .u32 0, .int .u32 0, .int .u32 0, .int .u32 0, .int .u32 0, .int .u32 0, .int .u32 0] [(0, 1, .t 98), (1, 1, .t 99), (2, 1, .t 100), (3, 1, .t 101), (4, 1, .t 106), (5, 1, .t 107), (6, 1, .t 108), (7, 1, .t 109)]),
    .op none (some 8) (.mov (.t 110))])))))
  (.reg [.op none (some 25) (.mov (.t 9)),
    .op none (some 26) (.bin .add (.t 25) (.c (.int .i64 1))),
    .op none (some 9) (.mov (.t 26))])))

def F23_l1 : ACode :=
  (.seq
  (.seq
  (.reg [.op none (some 111) (.mov (.t 19)),
    .op none (some 112) (.bin .lss (.t 111) (.c (.int .i64 8)))])
  (.cond (.t 112)
    .skip
    (.exit 2)))
  (.seq
  (.block 3
  (.draw [.f (.op none (some 115) (.mov (.t 18))),
    .f (.op none (some 116) (.mov (.t 0))),
    .f (.op none (some 117) (.mov (.t 19))),
    .f (.op none (some 118) (.iadV 1 (.t 116) (.t 117))),
    .f (.op none (some 119) (.ld1 (.t 118))),
    .f (.op none (some 120) (.mov (.t 8))),
    .f (.op none (some 121) (.mov (.t 19))),
    .f (.op none (some 122) (.iadV 1 (.t 120) (.t 121))),
    .f (.op none (some 123) (.ld1 (.t 122))),
    .f (.op none (some 124) (.bin .add (.t 119) (.t 123))),
    .b (.op none (some 125) (.bldSl 30 1 [.int .u32 0] [(0, 1, .t 124)])) [],
    .b (.op none (some 126) (.app 30 1 4 [.int .u32 0] (.t 115) (.t 125))) [],
    .f (.op none (some 18) (.mov (.t 126)))]))
  (.reg [.op none (some 113) (.mov (.t 19)),
    .op none (some 114) (.bin .add (.t 113) (.c (.int .i64 1))),
    .op none (some 19) (.mov (.t 114))])))

def F23 : AFun :=
  { n := 128, res := [.t 6], code :=
  (.seq
  (.reg [.op none (some 6) (.mov (.c (.slice none 0 0)))])
  (.seq
  (.reg [.op none (some 20) (.mov (.t 2)),
    .call none (some 21) 30 [.t 20],
    .op none (some 7) (.mov (.t 21))])
  (.seq
  (.reg [.op none (some 22) (.mov (.t 0)),
    .op none (some 8) (.mov (.t 22))])
  (.seq
  (.seq
  (.reg [.op none (some 9) (.mov (.c (.int .i64 0)))])
  (.block 0
  (.loop F23_l0)))
  (.seq
  (.reg [.op none (some 18) (.mov (.c (.slice none 0 0)))])
  (.seq
  (.seq
  (.reg [.op none (some 19) (.mov (.c (.int .i64 0)))])
  (.block 2
  (.loop F23_l1)))
  (.seq
  (.reg [.op none (some 127) (.mov (.t 18)),
    .op none (some 6) (.mov (.t 127))])
  .ret))))))) }
theorem F23_ok : compFun Tryd.prog 3 Tryd.f23 = some F23 := by kernel_rfl

def F24_l1 : ACode :=
  (.seq
  (.reg [.op none (some 52) (.bin .lss (.t 51) (.t 50))])
  (.seq
  (.cond (.t 52)
    .skip
    (.exit 2))
  (.seq
  (.block 3
  (.seq
  (.reg [.op none (some 53) (.iadV 1 (.t 49) (.t 51)),
    .op none (some 54) (.ld1 (.t 53)),
    .op none (some 5) (.mov (.t 54))])
  (.reg [.op none (some 55) (.mov (.t 3)),
    .op none (some 56) (.mov (.t 3)),
    .op none (some 57) (.iadA 64 1 (.t 2) (.t 56)),
    .op none (some 58) (.ld1 (.t 57)),
    .op none (some 59) (.bin .shl (.t 58) (.c (.int .u64 8))),
    .op none (some 60) (.mov (.t 5)),
    .op none (some 61) (.cvt .u32 (.t 60)),
    .op none (some 62) (.bin .or (.t 59) (.t 61)),
    .op none (some 63) (.iadA 64 1 (.t 2) (.t 55)),
    .op none none (.st 1 (.t 63) (.t 62))])))
  (.reg [.op none (some 64) (.bin .add (.t 51) (.c (.int .i64 1))),
    .op none (some 51) (.mov (.t 64))]))))

def F24_l0 : ACode :=
  (.seq
  (.reg [.op none (some 14) (.bin .lss (.t 13) (.c (.int .i64 64)))])
  (.seq
  (.cond (.t 14)
    .skip
    (.exit 0))
  (.seq
  (.block 1
  (.seq
  (.reg [.op none (some 15) (.mov (.t 13)),
    .op none (some 3) (.mov (.t 15))])
  (.seq
  (.seq
  (.reg [.op none (some 16) (.mov (.t 3)),
    .op none (some 17) (.bin .geq (.t 16) (.c (.int .i64 16)))])
  (.cond (.t 17)
    (.seq
    (.draw [.f (.op none (some 18) (.mov (.t 3))),
      .f (.op none (some 19) (.mov (.t 3))),
      .f (.op none (some 20) (.bin .sub (.t 19) (.c (.int .i64 2)))),
      .f (.op none (some 21) (.iadA 64 1 (.t 2) (.t 20))),
      .f (.op none (some 22) (.ld1 (.t 21))),
      .f (.op none (some 24) (.mov (.t 3))),
      .f (.op none (some 25) (.bin .sub (.t 24) (.c (.int .i64 7)))),
      .f (.op none (some 26) (.iadA 64 1 (.t 2) (.t 25))),
      .f (.op none (some 27) (.ld1 (.t 26))),
      .f (.op none (some 29) (.mov (.t 3))),
      .f (.op none (some 30) (.bin .sub (.t 29) (.c (.int .i64 15)))),
      .f (.op none (some 31) (.iadA 64 1 (.t 2) (.t 30))),
      .f (.op none (some 32) (.ld1 (.t 31))),
      .f (.op none (some 35) (.mov (.t 3))),
      .f (.op none (some 36) (.bin .sub (.t 35) (.c (.int .i64 16)))),
      .f (.op none (some 37) (.iadA 64 1 (.t 2) (.t 36))),
      .f (.op none (some 38) (.ld1 (.t 37))),
      .b (.call none (some 23) 32 [.t 22, .c (.int .i64 17), .c (.int .i64 19), .c (.int .i64 10)]) [.op none (some 27) (.ld1 (.t 26)), .op none (some 32) (.ld1 (.t 31)), .op none (some 38) (.ld1 (.t 37))],
      .f (.op none (some 28) (.bin .add (.t 23) (.t 27))),
      .b (.call none (some 33) 32 [.t 32, .c (.int .i64 7), .c (.int .i64 18), .c (.int .i64 3)]) [.op none (some 27) (.ld1 (.t 26)), .op none (some 38) (.ld1 (.t 37))],
      .f (.op none (some 34) (.bin .add (.t 28) (.t 33))),
      .f (.op none (some 39) (.bin .add (.t 34) (.t 38))),
      .f (.op none (some 40) (.iadA 64 1 (.t 2) (.t 18))),
      .b (.op none none (.st 1 (.t 40) (.t 39))) []])
    (.exit 1))
    .skip))
  (.seq
  (.reg [.op none (some 41) (.mov (.t 0)),
    .op none (some 42) (.nchk (.t 41)),
    .op none (some 43) (.fad 8 (.t 42)),
    .op none (some 44) (.mov (.t 3)),
    .op none (some 45) (.bin .mul (.c (.int .i64 4)) (.t 44)),
    .op none (some 46) (.mov (.t 3)),
    .op none (some 47) (.bin .mul (.c (.int .i64 4)) (.t 46)),
    .op none (some 48) (.bin .add (.t 47) (.c (.int .i64 4))),
    .op none (some 49) (.slA 64 1 (.t 43) (some (.t 45)) (some (.t 48)) none),
    .op none (some 50) (.lenV (.t 49)),
    .op none (some 51) (.mov (.c (.int .i64 0)))])
  (.block 2
  (.loop F24_l1))))))
  (.reg [.op none (some 65) (.bin .add (.t 13) (.c (.int .i64 1))),
    .op none (some 13) (.mov (.t 65))]))))

def F24_l2 : ACode :=
  (.seq
  (.reg [.op none (some 70) (.bin .lss (.t 69) (.c (.int .i64 64)))])
  (.seq
  (.cond (.t 70)
    .skip
    (.exit 4))
  (.seq
  (.block 5
  (.seq
  (.reg [.op none (some 71) (.mov (.t 69)),
    .op none (some 72) (.ixA 64 1 false (.t 68) (.t 69)),
    .op none (some 7) (.mov (.t 71)),
    .op none (some 8) (.mov (.t 72))])
  (.seq
  (.draw [.f (.op none (some 73) (.iadA 8 1 (.t 6) (.c (.int .i64 7)))),
    .f (.op none (some 74) (.ld1 (.t 73))),
    .f (.op none (some 75) (.iadA 8 1 (.t 6) (.c (.int .i64 4)))),
    .f (.op none (some 76) (.ld1 (.t 75))),
    .f (.op none (some 79) (.iadA 8 1 (.t 6) (.c (.int .i64 4)))),
    .f (.op none (some 80) (.ld1 (.t 79))),
    .f (.op none (some 81) (.iadA 8 1 (.t 6) (.c (.int .i64 5)))),
    .f (.op none (some 82) (.ld1 (.t 81))),
    .f (.op none (some 83) (.bin .and (.t 80) (.t 82))),
    .f (.op none (some 84) (.iadA 8 1 (.t 6) (.c (.int .i64 6)))),
    .f (.op none (some 85) (.ld1 (.t 84))),
    .f (.op none (some 86) (.iadA 8 1 (.t 6) (.c (.int .i64 4)))),
    .f (.op none (some 87) (.ld1 (.t 86))),
    .f (.op none (some 88) (.bin .andNot (.t 85) (.t 87))),
    .f (.op none (some 89) (.bin .or (.t 83) (.t 88))),
    .f (.op none (some 91) (.mov (.t 8))),
    .f (.op none (some 93) (.mov (.t 7))),
    .f (.op none (some 94) (.iadA 64 1 (.t 2) (.t 93))),
    .f (.op none (some 95) (.ld1 (.t 94))),
    .b (.call none (some 77) 33 [.t 76, .c (.int .i64 6), .c (.int .i64 11), .c (.int .i64 25)]) [.op none (some 74) (.ld1 (.t 73)), .op none (some 80) (.ld1 (.t 79)), .op none (some 82) (.ld1 (.t 81)), .op none (some 85) (.ld1 (.t 84)), .op none (some 87) (.ld1 (.t 86)), .op none (some 95) (.ld1 (.t 94))],
    .f (.op none (some 78) (.bin .add (.t 74) (.t 77))),
    .f (.op none (some 90) (.bin .add (.t 78) (.t 89))),
    .f (.op none (some 92) (.bin .add (.t 90) (.t 91))),
    .f (.op none (some 96) (.bin .add (.t 92) (.t 95))),
    .f (.op none (some 9) (.mov (.t 96)))])
  (.seq
  (.draw [.f (.op none (some 97) (.iadA 8 1 (.t 6) (.c (.int .i64 0)))),
    .f (.op none (some 98) (.ld1 (.t 97))),
    .f (.op none (some 100) (.iadA 8 1 (.t 6) (.c (.int .i64 0)))),
    .f (.op none (some 101) (.ld1 (.t 100))),
    .f (.op none (some 102) (.iadA 8 1 (.t 6) (.c (.int .i64 1)))),
    .f (.op none (some 103) (.ld1 (.t 102))),
    .f (.op none (some 104) (.bin .and (.t 101) (.t 103))),
    .f (.op none (some 105) (.iadA 8 1 (.t 6) (.c (.int .i64 0)))),
    .f (.op none (some 106) (.ld1 (.t 105))),
    .f (.op none (some 107) (.iadA 8 1 (.t 6) (.c (.int .i64 2)))),
    .f (.op none (some 108) (.ld1 (.t 107))),
    .f (.op none (some 109) (.bin .and (.t 106) (.t 108))),
    .f (.op none (some 110) (.bin .xor (.t 104) (.t 109))),
    .f (.op none (some 111) (.iadA 8 1 (.t 6) (.c (.int .i64 1)))),
    .f (.op none (some 112) (.ld1 (.t 111))),
    .f (.op none (some 113) (.iadA 8 1 (.t 6) (.c (.int .i64 2)))),
    .f (.op none (some 114) (.ld1 (.t 113))),
    .f (.op none (some 115) (.bin .and (.t 112) (.t 114))),
    .f (.op none (some 116) (.bin .xor (.t 110) (.t 115))),
    .b (.call none (some 99) 33 [.t 98, .c (.int .i64 2), .c (.int .i64 13), .c (.int .i64 22)]) [.op none (some 101) (.ld1 (.t 100)), .op none (some 103) (.ld1 (.t 102)), .op none (some 106) (.ld1 (.t 105)), .op none (some 108) (.ld1 (.t 107)), .op none (some 112) (.ld1 (.t 111)), .op none (some 114) (.ld1 (.t 113))],
    .f (.op none (some 117) (.bin .add (.t 99) (.t 116))),
    .f (.op none (some 10) (.mov (.t 117)))])
  (.seq
  (.draw [.f (.op none (some 118) (.slA 8 1 (.t 6) (some (.c (.int .i64 1))) none none)),
    .f (.op none (some 119) (.slA 8 1 (.t 6) none (some (.c (.int .i64 7))) none)),
    .b (.op none (some 120) (.cpy 1 (.t 118) (.t 119))) []])
  (.reg [.op none (some 121) (.mov (.t 9)),
    .op none (some 122) (.mov (.t 10)),
    .op none (some 123) (.bin .add (.t 121) (.t 122)),
    .op none (some 124) (.iadA 8 1 (.t 6) (.c (.int .i64 4))),
    .op none (some 125) (.ld1 (.t 124)),
    .op none (some 126) (.mov (.t 9)),
    .op none (some 127) (.bin .add (.t 125) (.t 126)),
    .op none (some 128) (.iadA 8 1 (.t 6) (.c (.int .i64 0))),
    .op none none (.st 1 (.t 128) (.t 123)),
    .op none (some 129) (.iadA 8 1 (.t 6) (.c (.int .i64 4))),
    .op none none (.st 1 (.t 129) (.t 127))]))))))
  (.reg [.op none (some 130) (.bin .add (.t 69) (.c (.int .i64 1))),
    .op none (some 69) (.mov (.t 130))]))))

def F24_l3 : ACode :=
  (.seq
  (.reg [.op none (some 133) (.bin .lss (.t 132) (.c (.int .i64 8)))])
  (.seq
  (.cond (.t 133)
    .skip
    (.exit 6))
  (.seq
  (.block 7
  (.seq
  (.reg [.op none (some 134) (.mov (.t 132)),
    .op none (some 135) (.ixA 8 1 false (.t 131) (.t 132)),
    .op none (some 11) (.mov (.t 134)),
    .op none (some 12) (.mov (.t 135))])
  (.draw [.f (.op none (some 136) (.mov (.t 0))),
    .f (.op none (some 137) (.mov (.t 11))),
    .f (.op none (some 138) (.nchk (.t 136))),
    .f (.op none (some 139) (.fad 0 (.t 138))),
    .f (.op none (some 140) (.iadA 8 1 (.t 139) (.t 137))),
    .f (.op none (some 141) (.ld1 (.t 140))),
    .f (.op none (some 142) (.mov (.t 12))),
    .f (.op none (some 143) (.bin .add (.t 141) (.t 142))),
    .f (.op none (some 144) (.nchk (.t 136))),
    .f (.op none (some 145) (.fad 0 (.t 144))),
    .f (.op none (some 146) (.iadA 8 1 (.t 145) (.t 137))),
    .b (.op none none (.st 1 (.t 146) (.t 143))) []])))
  (.reg [.op none (some 147) (.bin .add (.t 132) (.c (.int .i64 1))),
    .op none (some 132) (.mov (.t 147))]))))

def F24 : AFun :=
  { n := 148, res := [], code :=
  (.seq
  (.reg [.op none (some 2) (.new 66 [.int .u32 0, .int .u32 0, .int .u32 0, .int .u32 0, .int .u32 0, .int .u32 0, .int .u32 0, .int .u32 0, .int .u32 0, .int .u32 0, .int .u32 0, .int .u32 0, .int .u32 0, .int .u32 0, .int .u32 0, .int .u32 0, .int .u32 0, .int .u32 0, .int .u32 0, .int .u32 0, .int .u32 0, .int .u32 0, .int .u32 0, .int .u32 0, .int .u32 0, .int .u32 0, .int .u32 0, .int .u32 0, .int .u32 0, .int .u32 0, .int .u32 0, .int .u32 0, .int .u32 0, .int .u32 0, .int .u32 0, .int .u32 0, .int .u32 0, .int .u32 0, .int .u32 0, .int .u32 0, .int .u32 0, .int .u32 0, .int .u32 0, .int .u32 0, .int .u32 0, .int .u32 0, .int .u32 0, .int .u32 0, .int .u32 0, .int .u32 0, .int .u32 0, .int .u32 0, .int .u32 0, .int .u32 0, .int .u32 0, .int .u32 0, .int .u32 0, .int .u32 0, .int .u32 0, .int .u32 0, .int .u32 0, .int .u32 0, .int .u32 0, .int .u32 0])])
  (.seq
  (.seq
  (.reg [.op none (some 13) (.mov (.c (.int .i64 0)))])
  (.block 0
  (.loop F24_l0)))
  (.seq
  (.reg [.op none (some 66) (.mov (.t 0)),
    .call none (some 67) 25 [.t 66],
    .op none (some 6) (.new 31 [.int .u32 0, .int .u32 0, .int .u32 0, .int .u32 0, .int .u32 0, .int .u32 0, .int .u32 0, .int .u32 0]),
    .op none none (.st 8 (.t 6) (.t 67))])
  (.seq
  (.seq
  (.reg [.op none (some 68) (.ldn 64 (.c (.pointer (some ({ block := 0, off := 0 }))))),
    .op none (some 69) (.mov (.c (.int .i64 0)))])
  (.block 4
  (.loop F24_l2)))
  (.seq
  (.reg [.op none (some 131) (.ldn 8 (.t 6)),
    .op none (some 132) (.mov (.c (.int .i64 0)))])
  (.block 6
  (.loop F24_l3))))))) }
theorem F24_ok : compFun Tryd.prog 3 Tryd.f24 = some F24 := by kernel_rfl

def F25_l0 : ACode :=
  (.seq
  (.reg [.op none (some 12) (.bin .lss (.t 11) (.c (.int .i64 8)))])
  (.seq
  (.cond (.t 12)
    .skip
    (.exit 0))
  (.seq
  (.block 1
  (.seq
  (.reg [.op none (some 13) (.mov (.t 11)),
    .op none (some 14) (.ixA 8 1 false (.t 10) (.t 11)),
    .op none (some 4) (.mov (.t 13)),
    .op none (some 5) (.mov (.t 14))])
  (.reg [.op none (some 15) (.mov (.t 4)),
    .op none (some 16) (.iadA 8 1 (.t 3) (.t 15)),
    .op none (some 17) (.ld1 (.t 16)),
    .op none (some 18) (.mov (.t 5)),
    .op none (some 19) (.bin .add (.t 17) (.t 18)),
    .op none (some 20) (.iadA 8 1 (.t 3) (.t 15)),
    .op none none (.st 1 (.t 20) (.t 19))])))
  (.reg [.op none (some 21) (.bin .add (.t 11) (.c (.int .i64 1))),
    .op none (some 11) (.mov (.t 21))]))))

def F25 : AFun :=
  { n := 23, res := [.cn 2 8], code :=
  (.seq
  (.reg [.op none (some 2) (.new 31 [.int .u32 0, .int .u32 0, .int .u32 0, .int .u32 0, .int .u32 0, .int .u32 0, .int .u32 0, .int .u32 0])])
  (.seq
  (.reg [.op none (some 6) (.ldn 8 (.c (.pointer (some ({ block := 1, off := 0 }))))),
    .op none (some 3) (.new 31 [.int .u32 0, .int .u32 0, .int .u32 0, .int .u32 0, .int .u32 0, .int .u32 0, .int .u32 0, .int .u32 0]),
    .op none none (.st 8 (.t 3) (.t 6))])
  (.seq
  (.seq
  (.reg [.op none (some 7) (.mov (.t 0)),
    .op none (some 8) (.nchk (.t 7)),
    .op none (some 9) (.fad 0 (.t 8)),
    .op none (some 10) (.ldn 8 (.t 9)),
    .op none (some 11) (.mov (.c (.int .i64 0)))])
  (.block 0
  (.loop F25_l0)))
  (.seq
  (.reg [.op none (some 22) (.ldn 8 (.t 3)),
    .op none none (.st 8 (.t 2) (.t 22))])
  .ret)))) }
theorem F25_ok : compFun Tryd.prog 3 Tryd.f25 = some F25 := by kernel_rfl

def F26 : AFun :=
  { n := 17, res := [.t 4], code :=
  (.seq
  (.reg [.op none (some 4) (.mov (.c .nilIface))])
  (.seq
  (.reg [.op none (some 5) (.mov (.t 0)),
    .call none (some 6) 34 [.t 5]])
  (.seq
  (.reg [.op none (some 7) (.mov (.t 0)),
    .op none (some 8) (.mov (.t 0)),
    .op none (some 9) (.nchk (.t 8)),
    .op none (some 10) (.fad 1 (.t 9)),
    .op none (some 11) (.ld1 (.t 10)),
    .op none (some 12) (.mov (.t 1)),
    .op none (some 13) (.bldSl 5 1 [.int .u8 0] [(0, 1, .t 12)]),
    .op none (some 14) (.app 5 1 1 [.int .u8 0] (.t 11) (.t 13)),
    .op none (some 15) (.nchk (.t 7)),
    .op none (some 16) (.fad 1 (.t 15)),
    .op none none (.st 1 (.t 16) (.t 14))])
  (.seq
  (.reg [.op none (some 4) (.mov (.c .nilIface))])
  .ret)))) }
theorem F26_ok : compFun Tryd.prog 3 Tryd.f26 = some F26 := by kernel_rfl

def F27 : AFun :=
  { n := 14, res := [.t 2], code :=
  (.seq
  (.reg [.op none (some 2) (.mov (.c (.string (⟨#[]⟩))))])
  (.seq
  (.draw [.f (.op none (some 3) (.mov (.t 0))),
    .f (.op none (some 4) (.nchk (.t 3))),
    .f (.op none (some 5) (.fad 1 (.t 4))),
    .f (.op none (some 6) (.ld1 (.t 5))),
    .f (.op none (some 7) (.sdat (.t 6))),
    .f (.op none (some 8) (.mov (.t 0))),
    .f (.op none (some 9) (.nchk (.t 8))),
    .f (.op none (some 10) (.fad 1 (.t 9))),
    .f (.op none (some 11) (.ld1 (.t 10))),
    .f (.op none (some 12) (.lenV (.t 11))),
    .b (.op none (some 13) (.ustr 5 (.t 7) (.t 12))) [],
    .f (.op none (some 2) (.mov (.t 13)))])
  .ret)) }
theorem F27_ok : compFun Tryd.prog 3 Tryd.f27 = some F27 := by kernel_rfl

def F28 : AFun :=
  { n := 8, res := [.t 4], code :=
  (.seq
  (.reg [.op none (some 4) (.mov (.c (.int .i64 0)))])
  (.seq
  (.reg [.op none (some 5) (.mov (.t 0)),
    .op none (some 6) (.mov (.t 1)),
    .call none (some 7) 35 [.t 5, .t 6],
    .op none (some 4) (.mov (.t 7))])
  .ret)) }
theorem F28_ok : compFun Tryd.prog 3 Tryd.f28 = some F28 := by kernel_rfl

def F29_l0 : ACode :=
  (.seq
  (.seq
  (.reg [.op none (some 4) (.mov (.t 3)),
    .op none (some 5) (.bin .lss (.t 4) (.c (.int .u8 16)))])
  (.cond (.t 5)
    .skip
    (.exit 0)))
  (.seq
  (.block 1
  (.seq
  (.reg [.op none (some 8) (.mov (.t 3)),
    .op none (some 9) (.ixS (.c (.string (⟨#[48, 49, 50, 51, 52, 53, 54, 55, 56, 57, 97, 98, 99, 100, 101, 102]⟩))) (.t 8)),
    .op none (some 10) (.mov (.t 0)),
    .op none (some 11) (.bin .eql (.t 9) (.t 10))])
  (.cond (.t 11)
    (.seq
    (.reg [.op none (some 12) (.mov (.t 3)),
      .op none (some 2) (.mov (.t 12))])
    .ret)
    .skip)))
  (.reg [.op none (some 6) (.mov (.t 3)),
    .op none (some 7) (.bin .add (.t 6) (.c (.int .u8 1))),
    .op none (some 3) (.mov (.t 7))])))

def F29 : AFun :=
  { n := 13, res := [.t 2], code :=
  (.seq
  (.reg [.op none (some 2) (.mov (.c (.int .u8 0)))])
  (.seq
  (.seq
  (.reg [.op none (some 3) (.mov (.c (.int .u8 0)))])
  (.block 0
  (.loop F29_l0)))
  (.seq
  (.reg [.op none (some 2) (.mov (.c (.int .u8 16)))])
  .ret))) }
theorem F29_ok : compFun Tryd.prog 3 Tryd.f29 = some F29 := by kernel_rfl

def F30_l0 : ACode :=
  (.seq
  (.seq
  (.reg [.op none (some 8) (.mov (.t 4)),
    .op none (some 9) (.bin .lss (.t 8) (.c (.int .i64 16)))])
  (.cond (.t 9)
    .skip
    (.exit 0)))
  (.seq
  (.block 1
  (.draw [.f (.op none (some 12) (.mov (.t 3))),
    .f (.op none (some 13) (.mov (.t 0))),
    .f (.op none (some 14) (.mov (.t 4))),
    .f (.op none (some 15) (.bin .mul (.c (.int .i64 4)) (.t 14))),
    .f (.op none (some 16) (.iadV 1 (.t 13) (.t 15))),
    .f (.op none (some 17) (.ld1 (.t 16))),
    .f (.op none (some 18) (.cvt .u32 (.t 17))),
    .f (.op none (some 19) (.bin .shl (.t 18) (.c (.int .u64 24)))),
    .f (.op none (some 20) (.mov (.t 0))),
    .f (.op none (some 21) (.mov (.t 4))),
    .f (.op none (some 22) (.bin .mul (.c (.int .i64 4)) (.t 21))),
    .f (.op none (some 23) (.bin .add (.t 22) (.c (.int .i64 1)))),
    .f (.op none (some 24) (.iadV 1 (.t 20) (.t 23))),
    .f (.op none (some 25) (.ld1 (.t 24))),
    .f (.op none (some 26) (.cvt .u32 (.t 25))),
    .f (.op none (some 27) (.bin .shl (.t 26) (.c (.int .u64 16)))),
    .f (.op none (some 28) (.bin .add (.t 19) (.t 27))),
    .f (.op none (some 29) (.mov (.t 0))),
    .f (.op none (some 30) (.mov (.t 4))),
    .f (.op none (some 31) (.bin .mul (.c (.int .i64 4)) (.t 30))),
    .f (.op none (some 32) (.bin .add (.t 31) (.c (.int .i64 2)))),
    .f (.op none (some 33) (.iadV 1 (.t 29) (.t 32))),
    .f (.op none (some 34) (.ld1 (.t 33))),
    .f (.op none (some 35) (.cvt .u32 (.t 34))),
    .f (.op none (some 36) (.bin .shl (.t 35) (.c (.int .u64 8)))),
    .f (.op none (some 37) (.bin .add (.t 28) (.t 36))),
    .f (.op none (some 38) (.mov (.t 0))),
    .f (.op none (some 39) (.mov (.t 4))),
    .f (.op none (some 40) (.bin .mul (.c (.int .i64 4)) (.t 39))),
    .f (.op none (some 41) (.bin .add (.t 40) (.c (.int .i64 3)))),
    .f (.op none (some 42) (.iadV 1 (.t 38) (.t 41))),
    .f (.op none (some 43) (.ld1 (.t 42))),
    .f (.op none (some 44) (.cvt .u32 (.t 43))),
    .f (.op none (some 45) (.bin .add (.t 37) (.t 44))),
    .b (.op none (some 46) (.bldSl 30 1 [.int .u32 0] [(0, 1, .t 45)])) [],
    .b (.op none (some 47) (.app 30 1 4 [.int .u32 0] (.t 12) (.t 46))) [],
    .f (.op none (some 3) (.mov (.t 47)))]))
  (.reg [.op none (some 10) (.mov (.t 4)),
    .op none (some 11) (.bin .add (.t 10) (.c (.int .i64 1))),
    .op none (some 4) (.mov (.t 11))])))

def F30_l1 : ACode :=
  (.seq
  (.seq
  (.reg [.op none (some 48) (.mov (.t 5)),
    .op none (some 49) (.bin .lss (.t 48) (.c (.int .i64 64)))])
  (.cond (.t 49)
    .skip
    (.exit 2)))
  (.seq
  (.block 3
  (.seq
  (.draw [.f (.op none (some 52) (.mov (.t 3))),
    .f (.op none (some 53) (.mov (.t 5))),
    .f (.op none (some 54) (.bin .sub (.t 53) (.c (.int .i64 2)))),
    .f (.op none (some 55) (.iadV 1 (.t 52) (.t 54))),
    .f (.op none (some 56) (.ld1 (.t 55))),
    .f (.op none (some 57) (.mov (.t 3))),
    .f (.op none (some 58) (.mov (.t 5))),
    .f (.op none (some 59) (.bin .sub (.t 58) (.c (.int .i64 15)))),
    .f (.op none (some 60) (.iadV 1 (.t 57) (.t 59))),
    .f (.op none (some 61) (.ld1 (.t 60))),
    .f (.op none (some 6) (.mov (.t 56))),
    .f (.op none (some 7) (.mov (.t 61)))])
  (.draw [.f (.op none (some 62) (.mov (.t 3))),
    .f (.op none (some 63) (.mov (.t 6))),
    .f (.op none (some 65) (.mov (.t 6))),
    .f (.op none (some 68) (.mov (.t 6))),
    .f (.op none (some 69) (.bin .shr (.t 68) (.c (.int .u64 10)))),
    .f (.op none (some 71) (.mov (.t 3))),
    .f (.op none (some 72) (.mov (.t 5))),
    .f (.op none (some 73) (.bin .sub (.t 72) (.c (.int .i64 7)))),
    .f (.op none (some 74) (.iadV 1 (.t 71) (.t 73))),
    .f (.op none (some 75) (.ld1 (.t 74))),
    .f (.op none (some 77) (.mov (.t 7))),
    .f (.op none (some 79) (.mov (.t 7))),
    .f (.op none (some 82) (.mov (.t 7))),
    .f (.op none (some 83) (.bin .shr (.t 82) (.c (.int .u64 3)))),
    .f (.op none (some 86) (.mov (.t 3))),
    .f (.op none (some 87) (.mov (.t 5))),
    .f (.op none (some 88) (.bin .sub (.t 87) (.c (.int .i64 16)))),
    .f (.op none (some 89) (.iadV 1 (.t 86) (.t 88))),
    .f (.op none (some 90) (.ld1 (.t 89))),
    .b (.call none (some 64) 31 [.c (.int .i64 17), .t 63]) [.op none (some 75) (.ld1 (.t 74)), .op none (some 90) (.ld1 (.t 89))],
    .b (.call none (some 66) 31 [.c (.int .i64 19), .t 65]) [.op none (some 75) (.ld1 (.t 74)), .op none (some 90) (.ld1 (.t 89))],
    .f (.op none (some 67) (.bin .xor (.t 64) (.t 66))),
    .f (.op none (some 70) (.bin .xor (.t 67) (.t 69))),
    .f (.op none (some 76) (.bin .add (.t 70) (.t 75))),
    .b (.call none (some 78) 31 [.c (.int .i64 7), .t 77]) [.op none (some 75) (.ld1 (.t 74)), .op none (some 90) (.ld1 (.t 89))],
    .b (.call none (some 80) 31 [.c (.int .i64 18), .t 79]) [.op none (some 75) (.ld1 (.t 74)), .op none (some 90) (.ld1 (.t 89))],
    .f (.op none (some 81) (.bin .xor (.t 78) (.t 80))),
    .f (.op none (some 84) (.bin .xor (.t 81) (.t 83))),
    .f (.op none (some 85) (.bin .add (.t 76) (.t 84))),
    .f (.op none (some 91) (.bin .add (.t 85) (.t 90))),
    .b (.op none (some 92) (.bldSl 30 1 [.int .u32 0] [(0, 1, .t 91)])) [],
    .b (.op none (some 93) (.app 30 1 4 [.int .u32 0] (.t 62) (.t 92))) [],
    .f (.op none (some 3) (.mov (.t 93)))])))
  (.reg [.op none (some 50) (.mov (.t 5)),
    .op none (some 51) (.bin .add (.t 50) (.c (.int .i64 1))),
    .op none (some 5) (.mov (.t 51))])))

def F30 : AFun :=
  { n := 95, res := [.t 2], code :=
  (.seq
  (.reg [.op none (some 2) (.mov (.c (.slice none 0 0)))])
  (.seq
  (.reg [.op none (some 3) (.mov (.c (.slice none 0 0)))])
  (.seq
  (.seq
  (.reg [.op none (some 4) (.mov (.c (.int .i64 0)))])
  (.block 0
  (.loop F30_l0)))
  (.seq
  (.seq
  (.reg [.op none (some 5) (.mov (.c (.int .i64 16)))])
  (.block 2
  (.loop F30_l1)))
  (.seq
  (.reg [.op none (some 94) (.mov (.t 3)),
    .op none (some 2) (.mov (.t 94))])
  .ret))))) }
theorem F30_ok : compFun Tryd.prog 3 Tryd.f30 = some F30 := by kernel_rfl

def F31 : AFun :=
  { n := 13, res := [.t 4], code :=
  (.seq
  (.reg [.op none (some 4) (.mov (.c (.int .u32 0)))])
  (.seq
  (.draw [.f (.op none (some 5) (.mov (.t 1))),
    .f (.op none (some 6) (.mov (.t 0))),
    .f (.op none (some 7) (.bin .shr (.t 5) (.t 6))),
    .f (.op none (some 8) (.mov (.t 1))),
    .f (.op none (some 9) (.mov (.t 0))),
    .f (.op none (some 10) (.bin .sub (.c (.int .i64 32)) (.t 9))),
    .f (.op none (some 11) (.bin .shl (.t 8) (.t 10))),
    .f (.op none (some 12) (.bin .or (.t 7) (.t 11))),
    .f (.op none (some 4) (.mov (.t 12)))])
  .ret)) }
theorem F31_ok : compFun Tryd.prog 3 Tryd.f31 = some F31 := by kernel_rfl

def F32 : AFun :=
  { n := 22, res := [.t 8], code :=
  (.seq
  (.reg [.op none (some 8) (.mov (.c (.int .u32 0)))])
  (.seq
  (.draw [.f (.op none (some 9) (.mov (.t 0))),
    .f (.op none (some 10) (.mov (.t 1))),
    .f (.op none (some 11) (.un .neg (.t 10))),
    .f (.op none (some 13) (.mov (.t 0))),
    .f (.op none (some 14) (.mov (.t 2))),
    .f (.op none (some 15) (.un .neg (.t 14))),
    .f (.op none (some 18) (.mov (.t 0))),
    .f (.op none (some 19) (.mov (.t 3))),
    .f (.op none (some 20) (.bin .shr (.t 18) (.t 19))),
    .b (.call none (some 12) 36 [.t 9, .t 11]) [],
    .b (.call none (some 16) 36 [.t 13, .t 15]) [],
    .f (.op none (some 17) (.bin .xor (.t 12) (.t 16))),
    .f (.op none (some 21) (.bin .xor (.t 17) (.t 20))),
    .f (.op none (some 8) (.mov (.t 21)))])
  .ret)) }
theorem F32_ok : compFun Tryd.prog 3 Tryd.f32 = some F32 := by kernel_rfl

def F33 : AFun :=
  { n := 23, res := [.t 8], code :=
  (.seq
  (.reg [.op none (some 8) (.mov (.c (.int .u32 0)))])
  (.seq
  (.reg [.op none (some 9) (.mov (.t 0)),
    .op none (some 10) (.mov (.t 1)),
    .op none (some 11) (.un .neg (.t 10)),
    .call none (some 12) 36 [.t 9, .t 11],
    .op none (some 13) (.mov (.t 0)),
    .op none (some 14) (.mov (.t 2)),
    .op none (some 15) (.un .neg (.t 14)),
    .call none (some 16) 36 [.t 13, .t 15],
    .op none (some 17) (.bin .xor (.t 12) (.t 16)),
    .op none (some 18) (.mov (.t 0)),
    .op none (some 19) (.mov (.t 3)),
    .op none (some 20) (.un .neg (.t 19)),
    .call none (some 21) 36 [.t 18, .t 20],
    .op none (some 22) (.bin .xor (.t 17) (.t 21)),
    .op none (some 8) (.mov (.t 22))])
  .ret)) }
theorem F33_ok : compFun Tryd.prog 3 Tryd.f33 = some F33 := by kernel_rfl

def F34 : AFun :=
  { n := 20, res := [], code :=
  (.seq
  (.reg [.op none (some 2) (.mov (.t 0)),
    .op none (some 3) (.nchk (.t 2)),
    .op none (some 4) (.fad 0 (.t 3)),
    .op none (some 5) (.ld1 (.t 4)),
    .op none (some 6) (.eql false .ptr (.t 5) (.c (.pointer none)))])
  (.cond (.t 6)
    (.reg [.op none (some 7) (.mov (.t 0)),
      .op none (some 8) (.mov (.t 0)),
      .op none (some 9) (.toU (.t 8)),
      .call none (some 10) 37 [.t 9],
      .op none (some 11) (.frU 56 2 (.t 10)),
      .op none (some 12) (.nchk (.t 7)),
      .op none (some 13) (.fad 0 (.t 12)),
      .op none none (.st 1 (.t 13) (.t 11))])
    (.seq
    (.reg [.op none (some 14) (.mov (.t 0)),
      .op none (some 15) (.nchk (.t 14)),
      .op none (some 16) (.fad 0 (.t 15)),
      .op none (some 17) (.ld1 (.t 16)),
      .op none (some 18) (.mov (.t 0)),
      .op none (some 19) (.eql true .ptr (.t 17) (.t 18))])
    (.cond (.t 19)
      .refuse
      .skip)))) }
theorem F34_ok : compFun Tryd.prog 3 Tryd.f34 = some F34 := by kernel_rfl

def F35 : AFun :=
  { n := 8, res := [.t 4], code :=
  (.seq
  (.reg [.op none (some 4) (.mov (.c (.int .i64 0)))])
  (.seq
  (.reg [.op none (some 5) (.mov (.t 0)),
    .op none (some 6) (.mov (.t 1)),
    .call none (some 7) 38 [.t 5, .t 6],
    .op none (some 4) (.mov (.t 7))])
  .ret)) }
theorem F35_ok : compFun Tryd.prog 3 Tryd.f35 = some F35 := by kernel_rfl

def F36 : AFun :=
  { n := 17, res := [.t 4], code :=
  (.seq
  (.reg [.op none (some 4) (.mov (.c (.int .u32 0)))])
  (.seq
  (.reg [.op none (some 6) (.mov (.t 1)),
    .op none (some 7) (.cvt .u64 (.t 6)),
    .op none (some 8) (.bin .and (.t 7) (.c (.int .u64 31))),
    .op none (some 5) (.mov (.t 8))])
  (.seq
  (.reg [.op none (some 9) (.mov (.t 0)),
    .op none (some 10) (.mov (.t 5)),
    .op none (some 11) (.bin .shl (.t 9) (.t 10)),
    .op none (some 12) (.mov (.t 0)),
    .op none (some 13) (.mov (.t 5)),
    .op none (some 14) (.bin .sub (.c (.int .u64 32)) (.t 13)),
    .op none (some 15) (.bin .shr (.t 12) (.t 14)),
    .op none (some 16) (.bin .or (.t 11) (.t 15)),
    .op none (some 4) (.mov (.t 16))])
  .ret))) }
theorem F36_ok : compFun Tryd.prog 3 Tryd.f36 = some F36 := by kernel_rfl

end Go.Proofs.YtidngakhkpodgaaDoor
