/-
  Functions of the program, compiled for the abstract machine: printed by a program of ours (gen.py).
-/
import Derived.Test.YtidngakhkpodgaaA3
import Derived.Test.YtidngakhkpodgaaProg
import Derived.KernelRfl
set_option linter.unusedVariables false
set_option linter.unusedSimpArgs false
set_option linter.unnecessarySimpa false
namespace Go.Proofs.Ytidngakhkpodgaa
open Go Go.AM
set_option maxRecDepth 100000

def F3 : AFun :=
  { n := 11, res := [.t 2], code :=
  (.seq
  (.reg [.op none (some 1) (.box 23 (.t 0)),
    .op none (some 2) (.mov (.c (.bool false)))])
  (.seq
  (.draw [.f (.op none (some 3) (.ldn 32 (.t 1))),
    .f (.op none (some 5) (.ldn 32 (.t 1))),
    .b (.call none (some 4) 9 [.t 3]) [.op none (some 5) (.ldn 32 (.t 1))],
    .b (.call none (some 6) 10 [.t 5]) [],
    .f (.op none (some 7) (.bin .eql (.t 4) (.t 6))),
    .f (.op none (some 8) (.mov (.t 7))),
    .b (.call (some (8, true)) (some 9) 11 []) [],
    .f (.op none (some 10) (.pick (.t 8) (.t 9) (.c (.bool false)))),
    .f (.op none (some 2) (.mov (.t 10)))])
  .ret)) }
theorem F3_ok : compFun Try.prog 1 Try.f3 = some F3 := by kernel_rfl

def F4 : AFun :=
  { n := 32, res := [.t 2], code :=
  (.seq
  (.reg [.op none (some 2) (.mov (.c (.bool false)))])
  (.seq
  (.seq
  (.reg [.op none (some 7) (.mov (.t 0)),
    .op none (some 8) (.lenS (.t 7)),
    .op none (some 9) (.bin .gtr (.t 8) (.c (.int .i64 500)))])
  (.cond (.t 9)
    (.seq
    (.reg [.call none (some 10) 11 [],
      .op none (some 2) (.mov (.t 10))])
    .ret)
    .skip))
  (.seq
  (.reg [.op none (some 12) (.mov (.t 0)),
    .call none (some 13) 12 [.t 12],
    .op none (some 11) (.mov (.t 13)),
    .op none (some 14) (.ext 0 (.t 11)),
    .op none (some 15) (.ext 1 (.t 11)),
    .op none (some 3) (.new 27 [.int .u8 0, .int .u8 0, .int .u8 0, .int .u8 0, .int .u8 0, .int .u8 0, .int .u8 0, .int .u8 0, .int .u8 0, .int .u8 0, .int .u8 0, .int .u8 0, .int .u8 0, .int .u8 0, .int .u8 0, .int .u8 0, .int .u8 0, .int .u8 0, .int .u8 0, .int .u8 0]),
    .op none none (.st 20 (.t 3) (.t 14)),
    .op none (some 4) (.mov (.t 15))])
  (.seq
  (.reg [.op none (some 17) (.mov (.t 0)),
    .call none (some 18) 13 [.t 17],
    .op none (some 16) (.mov (.t 18)),
    .op none (some 19) (.ext 0 (.t 16)),
    .op none (some 20) (.ext 1 (.t 16)),
    .op none (some 5) (.new 27 [.int .u8 0, .int .u8 0, .int .u8 0, .int .u8 0, .int .u8 0, .int .u8 0, .int .u8 0, .int .u8 0, .int .u8 0, .int .u8 0, .int .u8 0, .int .u8 0, .int .u8 0, .int .u8 0, .int .u8 0, .int .u8 0, .int .u8 0, .int .u8 0, .int .u8 0, .int .u8 0]),
    .op none none (.st 20 (.t 5) (.t 19)),
    .op none (some 6) (.mov (.t 20))])
  (.seq
  (.reg [.op none (some 21) (.ldn 20 (.t 3)),
    .op none (some 22) (.ldn 20 (.t 5)),
    .op none (some 23) (.eql false (.cells 20) (.t 21) (.t 22)),
    .op none (some 24) (.mov (.t 23)),
    .op (some (24, true)) (some 25) (.mov (.t 4)),
    .op (some (24, true)) (some 26) (.mov (.t 6)),
    .op (some (24, true)) (some 27) (.eql false .bool (.t 25) (.t 26)),
    .op none (some 28) (.pick (.t 24) (.t 27) (.c (.bool false))),
    .op none (some 29) (.mov (.t 28)),
    .call (some (29, true)) (some 30) 11 [],
    .op none (some 31) (.pick (.t 29) (.t 30) (.c (.bool false))),
    .op none (some 2) (.mov (.t 31))])
  .ret))))) }
theorem F4_ok : compFun Try.prog 1 Try.f4 = some F4 := by kernel_rfl

def F5 : AFun :=
  { n := 43, res := [.t 4], code :=
  (.seq
  (.reg [.op none (some 2) (.box 23 (.t 0)),
    .op none (some 4) (.mov (.c (.bool false)))])
  (.seq
  (.seq
  (.reg [.op none (some 9) (.mov (.t 1)),
    .op none (some 10) (.lenS (.t 9)),
    .op none (some 11) (.bin .gtr (.t 10) (.c (.int .i64 500)))])
  (.cond (.t 11)
    (.seq
    (.reg [.call none (some 12) 11 [],
      .op none (some 4) (.mov (.t 12))])
    .ret)
    .skip))
  (.seq
  (.reg [.op none (some 14) (.ldn 32 (.t 2)),
    .op none (some 15) (.mov (.t 1)),
    .call none (some 16) 14 [.t 14, .t 15],
    .op none (some 13) (.mov (.t 16)),
    .op none (some 17) (.ext 0 (.t 13)),
    .op none (some 18) (.ext 1 (.t 13)),
    .op none (some 5) (.mov (.t 17)),
    .op none (some 6) (.mov (.t 18))])
  (.seq
  (.reg [.op none (some 20) (.ldn 32 (.t 2)),
    .op none (some 21) (.mov (.t 1)),
    .call none (some 22) 15 [.t 20, .t 21],
    .op none (some 19) (.mov (.t 22)),
    .op none (some 23) (.ext 0 (.t 19)),
    .op none (some 24) (.ext 1 (.t 19)),
    .op none (some 7) (.mov (.t 23)),
    .op none (some 8) (.mov (.t 24))])
  (.seq
  (.reg [.op none (some 25) (.mov (.t 5)),
    .op none (some 26) (.mov (.t 7)),
    .op none (some 27) (.bin .eql (.t 25) (.t 26)),
    .op none (some 28) (.mov (.t 27)),
    .op (some (28, true)) (some 29) (.mov (.t 6)),
    .op (some (28, true)) (some 30) (.mov (.t 8)),
    .op (some (28, true)) (some 31) (.bin .eql (.t 29) (.t 30)),
    .op none (some 32) (.pick (.t 28) (.t 31) (.c (.bool false))),
    .op none (some 33) (.mov (.t 32)),
    .op (some (33, true)) (some 34) (.mov (.t 1)),
    .call (some (33, true)) (some 35) 16 [.t 34],
    .op (some (33, true)) (some 36) (.mov (.t 1)),
    .call (some (33, true)) (some 37) 17 [.t 36],
    .op (some (33, true)) (some 38) (.eql false .bool (.t 35) (.t 37)),
    .op none (some 39) (.pick (.t 33) (.t 38) (.c (.bool false))),
    .op none (some 40) (.mov (.t 39)),
    .call (some (40, true)) (some 41) 11 [],
    .op none (some 42) (.pick (.t 40) (.t 41) (.c (.bool false))),
    .op none (some 4) (.mov (.t 42))])
  .ret))))) }
theorem F5_ok : compFun Try.prog 1 Try.f5 = some F5 := by kernel_rfl

def F6 : AFun :=
  { n := 52, res := [.t 4], code :=
  (.seq
  (.reg [.op none (some 3) (.box 23 (.t 1)),
    .op none (some 4) (.mov (.c (.bool false)))])
  (.seq
  (.seq
  (.reg [.op none (some 11) (.mov (.t 0)),
    .op none (some 12) (.lenS (.t 11)),
    .op none (some 13) (.bin .gtr (.t 12) (.c (.int .i64 500)))])
  (.cond (.t 13)
    (.seq
    (.reg [.call none (some 14) 11 [],
      .op none (some 4) (.mov (.t 14))])
    .ret)
    .skip))
  (.seq
  (.reg [.op none (some 16) (.mov (.t 0)),
    .call none (some 17) 18 [.t 16],
    .op none (some 15) (.mov (.t 17)),
    .op none (some 18) (.ext 0 (.t 15)),
    .op none (some 19) (.ext 1 (.t 15)),
    .op none (some 20) (.ext 2 (.t 15)),
    .op none (some 5) (.mov (.t 18)),
    .op none (some 6) (.mov (.t 19)),
    .op none (some 7) (.mov (.t 20))])
  (.seq
  (.reg [.op none (some 22) (.mov (.t 0)),
    .call none (some 23) 19 [.t 22],
    .op none (some 21) (.mov (.t 23)),
    .op none (some 24) (.ext 0 (.t 21)),
    .op none (some 25) (.ext 1 (.t 21)),
    .op none (some 26) (.ext 2 (.t 21)),
    .op none (some 8) (.mov (.t 24)),
    .op none (some 9) (.mov (.t 25)),
    .op none (some 10) (.mov (.t 26))])
  (.seq
  (.draw [.f (.op none (some 27) (.mov (.t 5))),
    .f (.op none (some 28) (.mov (.t 8))),
    .f (.op none (some 29) (.bin .eql (.t 27) (.t 28))),
    .f (.op none (some 30) (.mov (.t 29))),
    .f (.op (some (30, true)) (some 31) (.mov (.t 6))),
    .f (.op (some (30, true)) (some 32) (.mov (.t 9))),
    .f (.op (some (30, true)) (some 33) (.bin .eql (.t 31) (.t 32))),
    .f (.op none (some 34) (.pick (.t 30) (.t 33) (.c (.bool false)))),
    .f (.op none (some 35) (.mov (.t 34))),
    .f (.op (some (35, true)) (some 36) (.mov (.t 7))),
    .f (.op (some (35, true)) (some 37) (.mov (.t 10))),
    .f (.op (some (35, true)) (some 38) (.bin .eql (.t 36) (.t 37))),
    .f (.op none (some 39) (.pick (.t 35) (.t 38) (.c (.bool false)))),
    .f (.op none (some 40) (.mov (.t 39))),
    .f (.op (some (40, true)) (some 41) (.mov (.t 0))),
    .f (.op (some (40, true)) (some 42) (.ldn 32 (.t 3))),
    .f (.op (some (40, true)) (some 44) (.mov (.t 0))),
    .f (.op (some (40, true)) (some 45) (.ldn 32 (.t 3))),
    .b (.call (some (40, true)) (some 43) 20 [.t 41, .t 42]) [.op (some (40, true)) (some 45) (.ldn 32 (.t 3))],
    .b (.call (some (40, true)) (some 46) 21 [.t 44, .t 45]) [],
    .f (.op (some (40, true)) (some 47) (.eql false .bool (.t 43) (.t 46))),
    .f (.op none (some 48) (.pick (.t 40) (.t 47) (.c (.bool false)))),
    .f (.op none (some 49) (.mov (.t 48))),
    .b (.call (some (49, true)) (some 50) 11 []) [],
    .f (.op none (some 51) (.pick (.t 49) (.t 50) (.c (.bool false)))),
    .f (.op none (some 4) (.mov (.t 51)))])
  .ret))))) }
theorem F6_ok : compFun Try.prog 1 Try.f6 = some F6 := by kernel_rfl

def F7_l0 : ACode :=
  (.seq
  (.seq
  (.reg [.op none (some 35) (.mov (.t 11)),
    .op none (some 36) (.bin .lss (.t 35) (.c (.int .i64 20)))])
  (.cond (.t 36)
    .skip
    (.exit 0)))
  (.seq
  (.block 1
  (.seq
  (.seq
  (.draw [.f (.op none (some 39) (.mov (.t 11))),
    .f (.op none (some 40) (.iadA 20 1 (.t 8) (.t 39))),
    .f (.op none (some 41) (.ld1 (.t 40))),
    .f (.op none (some 42) (.mov (.t 11))),
    .f (.op none (some 43) (.iadA 32 1 (.t 3) (.t 42))),
    .f (.op none (some 44) (.ld1 (.t 43))),
    .f (.op none (some 45) (.bin .neq (.t 41) (.t 44)))])
  (.cond (.t 45)
    (.seq
    (.reg [.op none (some 6) (.mov (.c (.bool false)))])
    .ret)
    .skip))
  (.draw [.f (.op none (some 46) (.mov (.t 10))),
    .f (.op none (some 47) (.mov (.t 46))),
    .f (.op (some (47, true)) (some 48) (.mov (.t 11))),
    .f (.op (some (47, true)) (some 49) (.iadA 32 1 (.t 3) (.t 48))),
    .f (.op (some (47, true)) (some 50) (.ld1 (.t 49))),
    .f (.op (some (47, true)) (some 51) (.mov (.t 11))),
    .f (.op (some (47, true)) (some 52) (.iadA 32 1 (.t 4) (.t 51))),
    .f (.op (some (47, true)) (some 53) (.ld1 (.t 52))),
    .f (.op (some (47, true)) (some 54) (.bin .eql (.t 50) (.t 53))),
    .f (.op none (some 55) (.pick (.t 47) (.t 54) (.c (.bool false)))),
    .f (.op none (some 10) (.mov (.t 55)))])))
  (.reg [.op none (some 37) (.mov (.t 11)),
    .op none (some 38) (.bin .add (.t 37) (.c (.int .i64 1))),
    .op none (some 11) (.mov (.t 38))])))

def F7 : AFun :=
  { n := 104, res := [.t 6], code :=
  (.seq
  (.reg [.op none (some 3) (.box 23 (.t 0)),
    .op none (some 4) (.box 23 (.t 1)),
    .op none (some 6) (.mov (.c (.bool false)))])
  (.seq
  (.seq
  (.reg [.op none (some 17) (.mov (.t 2)),
    .op none (some 18) (.lenS (.t 17)),
    .op none (some 19) (.bin .gtr (.t 18) (.c (.int .i64 500)))])
  (.cond (.t 19)
    (.seq
    (.reg [.call none (some 20) 11 [],
      .op none (some 6) (.mov (.t 20))])
    .ret)
    .skip))
  (.seq
  (.reg [.op none (some 21) (.ldn 32 (.t 3)),
    .call none (some 22) 9 [.t 21],
    .op none (some 7) (.mov (.t 22))])
  (.seq
  (.reg [.op none (some 24) (.mov (.t 7)),
    .call none (some 25) 12 [.t 24],
    .op none (some 23) (.mov (.t 25)),
    .op none (some 26) (.ext 0 (.t 23)),
    .op none (some 27) (.ext 1 (.t 23)),
    .op none (some 8) (.new 27 [.int .u8 0, .int .u8 0, .int .u8 0, .int .u8 0, .int .u8 0, .int .u8 0, .int .u8 0, .int .u8 0, .int .u8 0, .int .u8 0, .int .u8 0, .int .u8 0, .int .u8 0, .int .u8 0, .int .u8 0, .int .u8 0, .int .u8 0, .int .u8 0, .int .u8 0, .int .u8 0]),
    .op none none (.st 20 (.t 8) (.t 26)),
    .op none (some 9) (.mov (.t 27))])
  (.seq
  (.seq
  (.reg [.op none (some 28) (.mov (.t 9)),
    .op none (some 29) (.un .not (.t 28)),
    .op none (some 30) (.mov (.t 29)),
    .op (some (30, false)) (some 31) (.mov (.t 7)),
    .op (some (30, false)) (some 32) (.lenS (.t 31)),
    .op (some (30, false)) (some 33) (.bin .neq (.t 32) (.c (.int .i64 32))),
    .op none (some 34) (.pick (.t 30) (.c (.bool true)) (.t 33))])
  (.cond (.t 34)
    (.seq
    (.reg [.op none (some 6) (.mov (.c (.bool false)))])
    .ret)
    .skip))
  (.seq
  (.reg [.op none (some 10) (.mov (.c (.bool true)))])
  (.seq
  (.seq
  (.reg [.op none (some 11) (.mov (.c (.int .i64 0)))])
  (.block 0
  (.loop F7_l0)))
  (.seq
  (.seq
  (.reg [.op none (some 56) (.ldn 32 (.t 4)),
    .call none (some 57) 9 [.t 56],
    .op none (some 58) (.mov (.t 7)),
    .op none (some 59) (.bin .eql (.t 57) (.t 58)),
    .op none (some 60) (.mov (.t 10)),
    .op none (some 61) (.eql true .bool (.t 59) (.t 60))])
  (.cond (.t 61)
    (.seq
    (.reg [.op none (some 6) (.mov (.c (.bool false)))])
    .ret)
    .skip))
  (.seq
  (.reg [.op none (some 63) (.ldn 32 (.t 3)),
    .op none (some 64) (.mov (.t 2)),
    .call none (some 65) 14 [.t 63, .t 64],
    .op none (some 62) (.mov (.t 65)),
    .op none (some 66) (.ext 0 (.t 62)),
    .op none (some 67) (.ext 1 (.t 62)),
    .op none (some 12) (.mov (.t 66)),
    .op none (some 13) (.mov (.t 67))])
  (.seq
  (.seq
  (.reg [.op none (some 68) (.mov (.t 13)),
    .op none (some 69) (.bin .neq (.t 68) (.c (.int .i64 0)))])
  (.cond (.t 69)
    (.seq
    (.reg [.call none (some 70) 11 [],
      .op none (some 6) (.mov (.t 70))])
    .ret)
    .skip))
  (.seq
  (.reg [.op none (some 72) (.mov (.t 12)),
    .call none (some 73) 18 [.t 72],
    .op none (some 71) (.mov (.t 73)),
    .op none (some 74) (.ext 0 (.t 71)),
    .op none (some 75) (.ext 1 (.t 71)),
    .op none (some 76) (.ext 2 (.t 71)),
    .op none (some 14) (.mov (.t 74)),
    .op none (some 15) (.mov (.t 75)),
    .op none (some 16) (.mov (.t 76))])
  (.seq
  (.reg [.op none (some 77) (.mov (.t 16)),
    .op none (some 78) (.bin .eql (.t 77) (.c (.int .i64 0))),
    .op none (some 79) (.mov (.t 78)),
    .op (some (79, true)) (some 80) (.mov (.t 14)),
    .op (some (79, true)) (some 81) (.mov (.t 7)),
    .op (some (79, true)) (some 82) (.bin .eql (.t 80) (.t 81)),
    .op none (some 83) (.pick (.t 79) (.t 82) (.c (.bool false))),
    .op none (some 84) (.mov (.t 83)),
    .op (some (84, true)) (some 85) (.mov (.t 15)),
    .op (some (84, true)) (some 86) (.mov (.t 2)),
    .op (some (84, true)) (some 87) (.bin .eql (.t 85) (.t 86)),
    .op none (some 88) (.pick (.t 84) (.t 87) (.c (.bool false))),
    .op none (some 89) (.mov (.t 88)),
    .op (some (89, true)) (some 90) (.mov (.t 12)),
    .op (some (89, true)) (some 91) (.ldn 32 (.t 3)),
    .call (some (89, true)) (some 92) 20 [.t 90, .t 91],
    .op none (some 93) (.pick (.t 89) (.t 92) (.c (.bool false))),
    .op none (some 94) (.mov (.t 93)),
    .op (some (94, true)) (some 95) (.mov (.t 12)),
    .op (some (94, true)) (some 96) (.ldn 32 (.t 4)),
    .call (some (94, true)) (some 97) 20 [.t 95, .t 96],
    .op (some (94, true)) (some 98) (.mov (.t 10)),
    .op (some (94, true)) (some 99) (.eql false .bool (.t 97) (.t 98)),
    .op none (some 100) (.pick (.t 94) (.t 99) (.c (.bool false))),
    .op none (some 101) (.mov (.t 100)),
    .call (some (101, true)) (some 102) 11 [],
    .op none (some 103) (.pick (.t 101) (.t 102) (.c (.bool false))),
    .op none (some 6) (.mov (.t 103))])
  .ret)))))))))))) }
theorem F7_ok : compFun Try.prog 1 Try.f7 = some F7 := by kernel_rfl

def F8_l0 : ACode :=
  (.seq
  (.seq
  (.reg [.op none (some 10) (.mov (.t 1)),
    .op none (some 11) (.bin .lss (.t 10) (.c (.int .i64 256)))])
  (.cond (.t 11)
    .skip
    (.exit 0)))
  (.seq
  (.block 1
  (.seq
  (.reg [.op none (some 2) (.new 23 [.int .u8 0, .int .u8 0, .int .u8 0, .int .u8 0, .int .u8 0, .int .u8 0, .int .u8 0, .int .u8 0, .int .u8 0, .int .u8 0, .int .u8 0, .int .u8 0, .int .u8 0, .int .u8 0, .int .u8 0, .int .u8 0, .int .u8 0, .int .u8 0, .int .u8 0, .int .u8 0, .int .u8 0, .int .u8 0, .int .u8 0, .int .u8 0, .int .u8 0, .int .u8 0, .int .u8 0, .int .u8 0, .int .u8 0, .int .u8 0, .int .u8 0, .int .u8 0]),
    .op none (some 3) (.new 23 [.int .u8 0, .int .u8 0, .int .u8 0, .int .u8 0, .int .u8 0, .int .u8 0, .int .u8 0, .int .u8 0, .int .u8 0, .int .u8 0, .int .u8 0, .int .u8 0, .int .u8 0, .int .u8 0, .int .u8 0, .int .u8 0, .int .u8 0, .int .u8 0, .int .u8 0, .int .u8 0, .int .u8 0, .int .u8 0, .int .u8 0, .int .u8 0, .int .u8 0, .int .u8 0, .int .u8 0, .int .u8 0, .int .u8 0, .int .u8 0, .int .u8 0, .int .u8 0])])
  (.seq
  (.reg [.op none (some 14) (.mov (.t 1)),
    .op none (some 15) (.bin .quo (.t 14) (.c (.int .i64 8))),
    .op none (some 16) (.mov (.t 1)),
    .op none (some 17) (.bin .rem (.t 16) (.c (.int .i64 8))),
    .op none (some 18) (.bin .shl (.c (.int .u8 1)) (.t 17)),
    .op none (some 19) (.iadA 32 1 (.t 2) (.t 15)),
    .op none none (.st 1 (.t 19) (.t 18))])
  (.seq
  (.reg [.op none (some 20) (.mov (.t 1)),
    .op none (some 21) (.bin .mul (.t 20) (.c (.int .i64 7))),
    .op none (some 22) (.bin .rem (.t 21) (.c (.int .i64 32))),
    .op none (some 23) (.mov (.t 1)),
    .op none (some 24) (.cvt .u8 (.t 23)),
    .op none (some 25) (.iadA 32 1 (.t 3) (.t 22)),
    .op none none (.st 1 (.t 25) (.t 24))])
  (.seq
  (.reg [.op none (some 26) (.mov (.t 1)),
    .op none (some 27) (.cvt .u8 (.t 26)),
    .op none (some 28) (.bldSl 5 1 [.int .u8 0] [(0, 1, .t 27)]),
    .op none (some 29) (.b2s (.t 28)),
    .op none (some 4) (.mov (.t 29))])
  (.seq
  (.draw [.f (.op none (some 30) (.ldn 32 (.t 2))),
    .b (.call none (some 31) 3 [.t 30]) [],
    .f (.op none (some 32) (.un .not (.t 31))),
    .f (.op none (some 33) (.mov (.t 32))),
    .f (.op (some (33, false)) (some 34) (.ldn 32 (.t 2))),
    .f (.op (some (33, false)) (some 35) (.ldn 32 (.t 3))),
    .f (.op (some (33, false)) (some 36) (.mov (.t 4))),
    .b (.call (some (33, false)) (some 37) 7 [.t 34, .t 35, .t 36]) [],
    .f (.op (some (33, false)) (some 38) (.un .not (.t 37))),
    .f (.op none (some 39) (.pick (.t 33) (.c (.bool true)) (.t 38))),
    .f (.op none (some 40) (.mov (.t 39))),
    .f (.op (some (40, false)) (some 41) (.ldn 32 (.t 3))),
    .f (.op (some (40, false)) (some 42) (.ldn 32 (.t 3))),
    .f (.op (some (40, false)) (some 43) (.mov (.t 4))),
    .f (.op (some (40, false)) (some 44) (.bin .add (.c (.string (⟨#[97]⟩))) (.t 43))),
    .b (.call (some (40, false)) (some 45) 7 [.t 41, .t 42, .t 44]) [],
    .f (.op (some (40, false)) (some 46) (.un .not (.t 45))),
    .f (.op none (some 47) (.pick (.t 40) (.c (.bool true)) (.t 46))),
    .f (.op none (some 48) (.mov (.t 47))),
    .f (.op (some (48, false)) (some 49) (.ldn 32 (.t 2))),
    .f (.op (some (48, false)) (some 50) (.mov (.t 4))),
    .b (.call (some (48, false)) (some 51) 5 [.t 49, .t 50]) [],
    .f (.op (some (48, false)) (some 52) (.un .not (.t 51))),
    .f (.op none (some 53) (.pick (.t 48) (.c (.bool true)) (.t 52))),
    .f (.op none (some 54) (.mov (.t 53))),
    .f (.op (some (54, false)) (some 55) (.ldn 32 (.t 2))),
    .f (.op (some (54, false)) (some 56) (.mov (.t 4))),
    .f (.op (some (54, false)) (some 57) (.bin .add (.c (.string (⟨#[97]⟩))) (.t 56))),
    .b (.call (some (54, false)) (some 58) 5 [.t 55, .t 57]) [],
    .f (.op (some (54, false)) (some 59) (.un .not (.t 58))),
    .f (.op none (some 60) (.pick (.t 54) (.c (.bool true)) (.t 59))),
    .f (.op none (some 61) (.mov (.t 60))),
    .f (.op (some (61, false)) (some 62) (.ldn 32 (.t 3))),
    .f (.op (some (61, false)) (some 65) (.mov (.t 4))),
    .b (.call (some (61, false)) (some 63) 9 [.t 62]) [],
    .f (.op (some (61, false)) (some 64) (.slS (.t 63) none (some (.c (.int .i64 31))))),
    .f (.op (some (61, false)) (some 66) (.bin .add (.t 64) (.t 65))),
    .b (.call (some (61, false)) (some 67) 4 [.t 66]) [],
    .f (.op (some (61, false)) (some 68) (.un .not (.t 67))),
    .f (.op none (some 69) (.pick (.t 61) (.c (.bool true)) (.t 68))),
    .f (.op none (some 70) (.mov (.t 69))),
    .f (.op (some (70, false)) (some 71) (.ldn 32 (.t 3))),
    .f (.op (some (70, false)) (some 74) (.mov (.t 4))),
    .f (.op (some (70, false)) (some 77) (.ldn 32 (.t 3))),
    .b (.call (some (70, false)) (some 72) 9 [.t 71]) [.op (some (70, false)) (some 77) (.ldn 32 (.t 3))],
    .f (.op (some (70, false)) (some 73) (.slS (.t 72) none (some (.c (.int .i64 31))))),
    .f (.op (some (70, false)) (some 75) (.bin .add (.t 73) (.t 74))),
    .f (.op (some (70, false)) (some 76) (.bin .add (.t 75) (.c (.string (⟨#[45, 110]⟩))))),
    .b (.call (some (70, false)) (some 78) 6 [.t 76, .t 77]) [],
    .f (.op (some (70, false)) (some 79) (.un .not (.t 78))),
    .f (.op none (some 80) (.pick (.t 70) (.c (.bool true)) (.t 79)))])
  (.cond (.t 80)
    (.seq
    (.reg [.op none (some 0) (.mov (.c (.bool false)))])
    .ret)
    .skip)))))))
  (.reg [.op none (some 12) (.mov (.t 1)),
    .op none (some 13) (.bin .add (.t 12) (.c (.int .i64 1))),
    .op none (some 1) (.mov (.t 13))])))

def F8_l1 : ACode :=
  (.seq
  (.seq
  (.reg [.op none (some 81) (.mov (.t 6)),
    .op none (some 82) (.bin .lss (.t 81) (.c (.int .i64 65)))])
  (.cond (.t 82)
    .skip
    (.exit 2)))
  (.seq
  (.block 3
  (.seq
  (.reg [.op none (some 85) (.mov (.t 5)),
    .op none (some 86) (.bin .add (.t 85) (.c (.string (⟨#[110]⟩)))),
    .op none (some 5) (.mov (.t 86))])
  (.seq
  (.reg [.op none (some 87) (.bld [.int .u8 0, .int .u8 0, .int .u8 0, .int .u8 0, .int .u8 0, .int .u8 0, .int .u8 0, .int .u8 0, .int .u8 0, .int .u8 0, .int .u8 0, .int .u8 0, .int .u8 0, .int .u8 0, .int .u8 0, .int .u8 0, .int .u8 0, .int .u8 0, .int .u8 0, .int .u8 0, .int .u8 0, .int .u8 0, .int .u8 0, .int .u8 0, .int .u8 0, .int .u8 0, .int .u8 0, .int .u8 0, .int .u8 0, .int .u8 0, .int .u8 0, .int .u8 0] []),
    .op none (some 88) (.mov (.t 5)),
    .call none (some 89) 5 [.t 87, .t 88],
    .op none (some 90) (.un .not (.t 89)),
    .op none (some 91) (.mov (.t 90)),
    .op (some (91, false)) (some 92) (.bld [.int .u8 0, .int .u8 0, .int .u8 0, .int .u8 0, .int .u8 0, .int .u8 0, .int .u8 0, .int .u8 0, .int .u8 0, .int .u8 0, .int .u8 0, .int .u8 0, .int .u8 0, .int .u8 0, .int .u8 0, .int .u8 0, .int .u8 0, .int .u8 0, .int .u8 0, .int .u8 0, .int .u8 0, .int .u8 0, .int .u8 0, .int .u8 0, .int .u8 0, .int .u8 0, .int .u8 0, .int .u8 0, .int .u8 0, .int .u8 0, .int .u8 0, .int .u8 0] []),
    .call (some (91, false)) (some 93) 9 [.t 92],
    .op (some (91, false)) (some 94) (.bin .add (.t 93) (.c (.string (⟨#[45]⟩)))),
    .op (some (91, false)) (some 95) (.mov (.t 5)),
    .op (some (91, false)) (some 96) (.bin .add (.t 94) (.t 95)),
    .op (some (91, false)) (some 97) (.bld [.int .u8 0, .int .u8 0, .int .u8 0, .int .u8 0, .int .u8 0, .int .u8 0, .int .u8 0, .int .u8 0, .int .u8 0, .int .u8 0, .int .u8 0, .int .u8 0, .int .u8 0, .int .u8 0, .int .u8 0, .int .u8 0, .int .u8 0, .int .u8 0, .int .u8 0, .int .u8 0, .int .u8 0, .int .u8 0, .int .u8 0, .int .u8 0, .int .u8 0, .int .u8 0, .int .u8 0, .int .u8 0, .int .u8 0, .int .u8 0, .int .u8 0, .int .u8 0] []),
    .call (some (91, false)) (some 98) 6 [.t 96, .t 97],
    .op (some (91, false)) (some 99) (.un .not (.t 98)),
    .op none (some 100) (.pick (.t 91) (.c (.bool true)) (.t 99))])
  (.cond (.t 100)
    (.seq
    (.reg [.op none (some 0) (.mov (.c (.bool false)))])
    .ret)
    .skip))))
  (.reg [.op none (some 83) (.mov (.t 6)),
    .op none (some 84) (.bin .add (.t 83) (.c (.int .i64 1))),
    .op none (some 6) (.mov (.t 84))])))

def F8_l2 : ACode :=
  (.seq
  (.reg [.op none (some 137) (.bin .lss (.t 136) (.t 135))])
  (.seq
  (.cond (.t 137)
    .skip
    (.exit 4))
  (.seq
  (.block 5
  (.seq
  (.reg [.op none (some 138) (.iadV 1 (.t 134) (.t 136)),
    .op none (some 139) (.ld1 (.t 138)),
    .op none (some 9) (.mov (.t 139))])
  (.seq
  (.reg [.op none (some 140) (.mov (.t 9)),
    .op none (some 141) (.bld [.int .u8 0, .int .u8 0, .int .u8 0, .int .u8 0, .int .u8 0, .int .u8 0, .int .u8 0, .int .u8 0, .int .u8 0, .int .u8 0, .int .u8 0, .int .u8 0, .int .u8 0, .int .u8 0, .int .u8 0, .int .u8 0, .int .u8 0, .int .u8 0, .int .u8 0, .int .u8 0, .int .u8 0, .int .u8 0, .int .u8 0, .int .u8 0, .int .u8 0, .int .u8 0, .int .u8 0, .int .u8 0, .int .u8 0, .int .u8 0, .int .u8 0, .int .u8 0] []),
    .call none (some 142) 6 [.t 140, .t 141],
    .op none (some 143) (.un .not (.t 142)),
    .op none (some 144) (.mov (.t 143)),
    .op (some (144, false)) (some 145) (.mov (.t 9)),
    .call (some (144, false)) (some 146) 4 [.t 145],
    .op (some (144, false)) (some 147) (.un .not (.t 146)),
    .op none (some 148) (.pick (.t 144) (.c (.bool true)) (.t 147))])
  (.cond (.t 148)
    (.seq
    (.reg [.op none (some 0) (.mov (.c (.bool false)))])
    .ret)
    .skip))))
  (.reg [.op none (some 149) (.bin .add (.t 136) (.c (.int .i64 1))),
    .op none (some 136) (.mov (.t 149))]))))

def F8 : AFun :=
  { n := 151, res := [.t 0], code :=
  (.seq
  (.reg [.op none (some 0) (.mov (.c (.bool false)))])
  (.seq
  (.seq
  (.reg [.op none (some 1) (.mov (.c (.int .i64 0)))])
  (.block 0
  (.loop F8_l0)))
  (.seq
  (.reg [.op none (some 5) (.mov (.c (.string (⟨#[]⟩))))])
  (.seq
  (.seq
  (.reg [.op none (some 6) (.mov (.c (.int .i64 0)))])
  (.block 2
  (.loop F8_l1)))
  (.seq
  (.reg [.op none (some 101) (.bld [.int .u8 0, .int .u8 0, .int .u8 0, .int .u8 0, .int .u8 0, .int .u8 0, .int .u8 0, .int .u8 0, .int .u8 0, .int .u8 0, .int .u8 0, .int .u8 0, .int .u8 0, .int .u8 0, .int .u8 0, .int .u8 0, .int .u8 0, .int .u8 0, .int .u8 0, .int .u8 0, .int .u8 0, .int .u8 0, .int .u8 0, .int .u8 0, .int .u8 0, .int .u8 0, .int .u8 0, .int .u8 0, .int .u8 0, .int .u8 0, .int .u8 0, .int .u8 0] []),
    .call none (some 102) 9 [.t 101],
    .op none (some 7) (.mov (.t 102))])
  (.seq
  (.seq
  (.reg [.op none (some 103) (.mov (.t 7)),
    .op none (some 104) (.lenS (.t 103)),
    .op none (some 105) (.bin .neq (.t 104) (.c (.int .i64 32)))])
  (.cond (.t 105)
    (.seq
    (.reg [.op none (some 0) (.mov (.c (.bool false)))])
    .ret)
    .skip))
  (.seq
  (.seq
  (.draw [.f (.op none (some 106) (.mov (.t 7))),
    .f (.op none (some 107) (.mov (.t 7))),
    .f (.op none (some 108) (.bin .add (.t 107) (.c (.string (⟨#[45]⟩))))),
    .f (.op none (some 109) (.mov (.t 7))),
    .f (.op none (some 110) (.bin .add (.t 109) (.c (.string (⟨#[45, 46, 97]⟩))))),
    .f (.op none (some 111) (.mov (.t 7))),
    .f (.op none (some 112) (.bin .add (.t 111) (.c (.string (⟨#[97]⟩))))),
    .f (.op none (some 113) (.mov (.t 7))),
    .f (.op none (some 114) (.slS (.t 113) none (some (.c (.int .i64 31))))),
    .f (.op none (some 115) (.bin .add (.t 114) (.c (.string (⟨#[45, 97]⟩))))),
    .f (.op none (some 116) (.mov (.t 7))),
    .f (.op none (some 117) (.bin .add (.t 116) (.c (.string (⟨#[48, 45, 97]⟩))))),
    .f (.op none (some 118) (.mov (.t 7))),
    .f (.op none (some 119) (.bin .add (.t 118) (.c (.string (⟨#[45, 45]⟩))))),
    .f (.op none (some 120) (.mov (.t 7))),
    .f (.op none (some 121) (.bin .add (.t 120) (.c (.string (⟨#[45, 97, 45, 98]⟩))))),
    .f (.op none (some 122) (.mov (.t 7))),
    .f (.op none (some 123) (.bin .add (.t 122) (.c (.string (⟨#[45, 97, 32, 98]⟩))))),
    .f (.op none (some 124) (.mov (.t 7))),
    .f (.op none (some 125) (.slS (.t 124) (some (.c (.int .i64 1))) none)),
    .f (.op none (some 126) (.bin .add (.c (.string (⟨#[101]⟩))) (.t 125))),
    .f (.op none (some 127) (.bin .add (.t 126) (.c (.string (⟨#[45, 97]⟩))))),
    .f (.op none (some 128) (.mov (.t 7))),
    .f (.op none (some 129) (.slS (.t 128) (some (.c (.int .i64 1))) none)),
    .f (.op none (some 130) (.bin .add (.c (.string (⟨#[90]⟩))) (.t 129))),
    .f (.op none (some 131) (.bin .add (.t 130) (.c (.string (⟨#[45, 97]⟩))))),
    .f (.op none (some 132) (.mov (.t 7))),
    .f (.op none (some 133) (.bin .add (.t 132) (.c (.string (⟨#[95, 97]⟩))))),
    .f (.op none (some 136) (.mov (.c (.int .i64 0)))),
    .b (.op none (some 134) (.bldSl 9 14 [.string (⟨#[]⟩), .string (⟨#[]⟩), .string (⟨#[]⟩), .string (⟨#[]⟩), .string (⟨#[]⟩), .string (⟨#[]⟩), .string (⟨#[]⟩), .string (⟨#[]⟩), .string (⟨#[]⟩), .string (⟨#[]⟩), .string (⟨#[]⟩), .string (⟨#[]⟩), .string (⟨#[]⟩), .string (⟨#[]⟩)] [(0, 1, .c (.string (⟨#[]⟩))), (1, 1, .c (.string (⟨#[45]⟩))), (2, 1, .t 106), (3, 1, .t 108), (4, 1, .t 110), (5, 1, .t 112), (6, 1, .t 115), (7, 1, .t 117), (8, 1, .t 119), (9, 1, .t 121), (10, 1, .t 123), (11, 1, .t 127), (12, 1, .t 131), (13, 1, .t 133)])) [],
    .f (.op none (some 135) (.lenV (.t 134)))])
  (.block 4
  (.loop F8_l2)))
  (.seq
  (.reg [.call none (some 150) 11 [],
    .op none (some 0) (.mov (.t 150))])
  .ret)))))))) }
theorem F8_ok : compFun Try.prog 1 Try.f8 = some F8 := by kernel_rfl

def F9_l1 : ACode :=
  (.seq
  (.seq
  (.reg [.op none (some 21) (.mov (.t 5)),
    .op none (some 22) (.bin .geq (.t 21) (.c (.int .i64 5)))])
  (.cond (.t 22)
    .skip
    (.exit 2)))
  (.block 3
  (.seq
  (.reg [.op none (some 23) (.mov (.t 5)),
    .op none (some 24) (.bin .sub (.t 23) (.c (.int .i64 5))),
    .op none (some 5) (.mov (.t 24))])
  (.reg [.op none (some 25) (.mov (.t 4)),
    .op none (some 26) (.mov (.t 5)),
    .op none (some 27) (.bin .shr (.t 25) (.t 26)),
    .op none (some 28) (.bin .and (.t 27) (.c (.int .u64 31))),
    .op none (some 29) (.ixS (.c (.string (⟨#[48, 49, 50, 51, 52, 53, 54, 55, 56, 57, 97, 98, 99, 100, 102, 103, 104, 105, 106, 107, 108, 109, 110, 112, 113, 114, 115, 118, 119, 120, 121, 122]⟩))) (.t 28)),
    .call none (some 30) 22 [.t 3, .t 29]]))))

def F9_l0 : ACode :=
  (.seq
  (.reg [.op none (some 11) (.bin .lss (.t 10) (.t 9))])
  (.seq
  (.cond (.t 11)
    .skip
    (.exit 0))
  (.seq
  (.block 1
  (.seq
  (.reg [.op none (some 12) (.iadV 1 (.t 8) (.t 10)),
    .op none (some 13) (.ld1 (.t 12)),
    .op none (some 7) (.mov (.t 13))])
  (.seq
  (.reg [.op none (some 14) (.mov (.t 4)),
    .op none (some 15) (.bin .shl (.t 14) (.c (.int .u64 8))),
    .op none (some 16) (.mov (.t 7)),
    .op none (some 17) (.cvt .u64 (.t 16)),
    .op none (some 18) (.bin .or (.t 15) (.t 17)),
    .op none (some 19) (.mov (.t 5)),
    .op none (some 20) (.bin .add (.t 19) (.c (.int .i64 8))),
    .op none (some 4) (.mov (.t 18)),
    .op none (some 5) (.mov (.t 20))])
  (.block 2
  (.loop F9_l1)))))
  (.reg [.op none (some 31) (.bin .add (.t 10) (.c (.int .i64 1))),
    .op none (some 10) (.mov (.t 31))]))))

def F9 : AFun :=
  { n := 33, res := [.t 2], code :=
  (.seq
  (.reg [.op none (some 1) (.box 23 (.t 0)),
    .op none (some 2) (.mov (.c (.string (⟨#[]⟩))))])
  (.seq
  (.reg [.op none (some 3) (.new 43 [.pointer none, .slice none 0 0])])
  (.seq
  (.reg [.op none (some 4) (.mov (.c (.int .u64 0))),
    .op none (some 5) (.mov (.c (.int .i64 0)))])
  (.seq
  (.seq
  (.reg [.op none (some 8) (.slA 32 1 (.t 1) none (some (.c (.int .i64 20))) none),
    .op none (some 9) (.lenV (.t 8)),
    .op none (some 10) (.mov (.c (.int .i64 0)))])
  (.block 0
  (.loop F9_l0)))
  (.seq
  (.reg [.call none (some 32) 23 [.t 3],
    .op none (some 2) (.mov (.t 32))])
  .ret))))) }
theorem F9_ok : compFun Try.prog 1 Try.f9 = some F9 := by kernel_rfl

def F10_l0 : ACode :=
  (.seq
  (.seq
  (.reg [.op none (some 5) (.mov (.t 4)),
    .op none (some 6) (.bin .lss (.t 5) (.c (.int .i64 20)))])
  (.cond (.t 6)
    .skip
    (.exit 0)))
  (.seq
  (.block 1
  (.reg [.op none (some 9) (.mov (.t 3)),
    .op none (some 10) (.mov (.t 4)),
    .op none (some 11) (.iadA 32 1 (.t 1) (.t 10)),
    .op none (some 12) (.ld1 (.t 11)),
    .op none (some 13) (.bldSl 5 1 [.int .u8 0] [(0, 1, .t 12)]),
    .op none (some 14) (.app 5 1 1 [.int .u8 0] (.t 9) (.t 13)),
    .op none (some 3) (.mov (.t 14))]))
  (.reg [.op none (some 7) (.mov (.t 4)),
    .op none (some 8) (.bin .add (.t 7) (.c (.int .i64 1))),
    .op none (some 4) (.mov (.t 8))])))

def F10 : AFun :=
  { n := 17, res := [.t 2], code :=
  (.seq
  (.reg [.op none (some 1) (.box 23 (.t 0)),
    .op none (some 2) (.mov (.c (.string (⟨#[]⟩))))])
  (.seq
  (.reg [.op none (some 3) (.mov (.c (.slice none 0 0)))])
  (.seq
  (.seq
  (.reg [.op none (some 4) (.mov (.c (.int .i64 0)))])
  (.block 0
  (.loop F10_l0)))
  (.seq
  (.reg [.op none (some 15) (.mov (.t 3)),
    .call none (some 16) 24 [.t 15],
    .op none (some 2) (.mov (.t 16))])
  .ret)))) }
theorem F10_ok : compFun Try.prog 1 Try.f10 = some F10 := by kernel_rfl

def F11 : AFun :=
  { n := 82, res := [.t 0], code :=
  (.seq
  (.reg [.op none (some 0) (.mov (.c (.bool false)))])
  (.seq
  (.reg [.op none (some 1) (.new 23 [.int .u8 0, .int .u8 0, .int .u8 0, .int .u8 0, .int .u8 0, .int .u8 0, .int .u8 0, .int .u8 0, .int .u8 0, .int .u8 0, .int .u8 0, .int .u8 0, .int .u8 0, .int .u8 0, .int .u8 0, .int .u8 0, .int .u8 0, .int .u8 0, .int .u8 0, .int .u8 0, .int .u8 0, .int .u8 0, .int .u8 0, .int .u8 0, .int .u8 0, .int .u8 0, .int .u8 0, .int .u8 0, .int .u8 0, .int .u8 0, .int .u8 0, .int .u8 0])])
  (.seq
  (.reg [.op none (some 12) (.ldn 32 (.t 1)),
    .call none (some 13) 9 [.t 12],
    .op none (some 2) (.mov (.t 13))])
  (.seq
  (.reg [.op none (some 14) (.iadA 32 1 (.t 1) (.c (.int .i64 0))),
    .op none none (.st 1 (.t 14) (.c (.int .u8 248)))])
  (.seq
  (.reg [.op none (some 15) (.ldn 32 (.t 1)),
    .call none (some 16) 9 [.t 15],
    .op none (some 3) (.mov (.t 16))])
  (.seq
  (.reg [.op none (some 18) (.bld [.int .u8 0, .int .u8 0, .int .u8 0, .int .u8 0, .int .u8 0, .int .u8 0, .int .u8 0, .int .u8 0, .int .u8 0, .int .u8 0, .int .u8 0, .int .u8 0, .int .u8 0, .int .u8 0, .int .u8 0, .int .u8 0, .int .u8 0, .int .u8 0, .int .u8 0, .int .u8 0, .int .u8 0, .int .u8 0, .int .u8 0, .int .u8 0, .int .u8 0, .int .u8 0, .int .u8 0, .int .u8 0, .int .u8 0, .int .u8 0, .int .u8 0, .int .u8 0] []),
    .call none (some 19) 14 [.t 18, .c (.string (⟨#[103, 99, 99, 45, 49, 46, 50]⟩))],
    .op none (some 17) (.mov (.t 19)),
    .op none (some 20) (.ext 0 (.t 17)),
    .op none (some 21) (.ext 1 (.t 17)),
    .op none (some 4) (.mov (.t 20)),
    .op none (some 5) (.mov (.t 21))])
  (.seq
  (.reg [.op none (some 23) (.mov (.t 4)),
    .call none (some 24) 18 [.t 23],
    .op none (some 22) (.mov (.t 24)),
    .op none (some 25) (.ext 0 (.t 22)),
    .op none (some 26) (.ext 1 (.t 22)),
    .op none (some 27) (.ext 2 (.t 22)),
    .op none (some 6) (.mov (.t 25)),
    .op none (some 7) (.mov (.t 26)),
    .op none (some 8) (.mov (.t 27))])
  (.seq
  (.reg [.call none (some 29) 18 [.c (.string (⟨#[101, 101, 101, 101, 101, 101, 101, 101, 101, 101, 101, 101, 101, 101, 101, 101, 101, 101, 101, 101, 101, 101, 101, 101, 101, 101, 101, 101, 101, 101, 101, 101, 45, 97]⟩))],
    .op none (some 28) (.mov (.t 29)),
    .op none (some 30) (.ext 0 (.t 28)),
    .op none (some 31) (.ext 1 (.t 28)),
    .op none (some 32) (.ext 2 (.t 28)),
    .op none (some 9) (.mov (.t 30)),
    .op none (some 10) (.mov (.t 31)),
    .op none (some 11) (.mov (.t 32))])
  (.seq
  (.reg [.op none (some 33) (.mov (.t 2)),
    .op none (some 34) (.bin .eql (.t 33) (.c (.string (⟨#[48, 48, 48, 48, 48, 48, 48, 48, 48, 48, 48, 48, 48, 48, 48, 48, 48, 48, 48, 48, 48, 48, 48, 48, 48, 48, 48, 48, 48, 48, 48, 48]⟩)))),
    .op none (some 35) (.mov (.t 34)),
    .op (some (35, true)) (some 36) (.mov (.t 3)),
    .op (some (35, true)) (some 37) (.mov (.t 2)),
    .op (some (35, true)) (some 38) (.slS (.t 37) (some (.c (.int .i64 1))) none),
    .op (some (35, true)) (some 39) (.bin .add (.c (.string (⟨#[122]⟩))) (.t 38)),
    .op (some (35, true)) (some 40) (.bin .eql (.t 36) (.t 39)),
    .op none (some 41) (.pick (.t 35) (.t 40) (.c (.bool false))),
    .op none (some 42) (.mov (.t 41)),
    .op (some (42, true)) (some 43) (.mov (.t 5)),
    .op (some (42, true)) (some 44) (.bin .eql (.t 43) (.c (.int .i64 0))),
    .op none (some 45) (.pick (.t 42) (.t 44) (.c (.bool false))),
    .op none (some 46) (.mov (.t 45)),
    .op (some (46, true)) (some 47) (.mov (.t 4)),
    .op (some (46, true)) (some 48) (.mov (.t 2)),
    .op (some (46, true)) (some 49) (.bin .add (.t 48) (.c (.string (⟨#[45, 103, 99, 99, 45, 49, 46, 50]⟩)))),
    .op (some (46, true)) (some 50) (.bin .eql (.t 47) (.t 49)),
    .op none (some 51) (.pick (.t 46) (.t 50) (.c (.bool false))),
    .op none (some 52) (.mov (.t 51)),
    .op (some (52, true)) (some 53) (.mov (.t 8)),
    .op (some (52, true)) (some 54) (.bin .eql (.t 53) (.c (.int .i64 0))),
    .op none (some 55) (.pick (.t 52) (.t 54) (.c (.bool false))),
    .op none (some 56) (.mov (.t 55)),
    .op (some (56, true)) (some 57) (.mov (.t 6)),
    .op (some (56, true)) (some 58) (.mov (.t 2)),
    .op (some (56, true)) (some 59) (.bin .eql (.t 57) (.t 58)),
    .op none (some 60) (.pick (.t 56) (.t 59) (.c (.bool false))),
    .op none (some 61) (.mov (.t 60)),
    .op (some (61, true)) (some 62) (.mov (.t 7)),
    .op (some (61, true)) (some 63) (.bin .eql (.t 62) (.c (.string (⟨#[103, 99, 99, 45, 49, 46, 50]⟩)))),
    .op none (some 64) (.pick (.t 61) (.t 63) (.c (.bool false))),
    .op none (some 65) (.mov (.t 64)),
    .op (some (65, true)) (some 66) (.mov (.t 11)),
    .op (some (65, true)) (some 67) (.bin .eql (.t 66) (.c (.int .i64 90))),
    .op none (some 68) (.pick (.t 65) (.t 67) (.c (.bool false))),
    .op none (some 69) (.mov (.t 68)),
    .call (some (69, true)) (some 70) 16 [.c (.string (⟨#[46, 97]⟩))],
    .op (some (69, true)) (some 71) (.un .not (.t 70)),
    .op none (some 72) (.pick (.t 69) (.t 71) (.c (.bool false))),
    .op none (some 73) (.mov (.t 72)),
    .call (some (73, true)) (some 74) 16 [.c (.string (⟨#[97, 32, 98]⟩))],
    .op (some (73, true)) (some 75) (.un .not (.t 74)),
    .op none (some 76) (.pick (.t 73) (.t 75) (.c (.bool false))),
    .op none (some 77) (.mov (.t 76)),
    .op (some (77, true)) (some 78) (.mov (.t 4)),
    .op (some (77, true)) (some 79) (.bld [.int .u8 0, .int .u8 0, .int .u8 0, .int .u8 0, .int .u8 0, .int .u8 0, .int .u8 0, .int .u8 0, .int .u8 0, .int .u8 0, .int .u8 0, .int .u8 0, .int .u8 0, .int .u8 0, .int .u8 0, .int .u8 0, .int .u8 0, .int .u8 0, .int .u8 0, .int .u8 0, .int .u8 0, .int .u8 0, .int .u8 0, .int .u8 0, .int .u8 0, .int .u8 0, .int .u8 0, .int .u8 0, .int .u8 0, .int .u8 0, .int .u8 0, .int .u8 0] []),
    .call (some (77, true)) (some 80) 20 [.t 78, .t 79],
    .op none (some 81) (.pick (.t 77) (.t 80) (.c (.bool false))),
    .op none (some 0) (.mov (.t 81))])
  .ret))))))))) }
theorem F11_ok : compFun Try.prog 1 Try.f11 = some F11 := by kernel_rfl

def F12_l0 : ACode :=
  (.seq
  (.reg [.op none (some 17) (.bin .lss (.t 16) (.t 15))])
  (.seq
  (.cond (.t 17)
    .skip
    (.exit 0))
  (.seq
  (.block 1
  (.seq
  (.reg [.op none (some 18) (.mov (.t 16)),
    .op none (some 8) (.mov (.t 18))])
  (.seq
  (.reg [.op none (some 19) (.mov (.t 0)),
    .op none (some 20) (.mov (.t 8)),
    .op none (some 21) (.ixS (.t 19) (.t 20)),
    .call none (some 22) 25 [.c (.string (⟨#[48, 49, 50, 51, 52, 53, 54, 55, 56, 57, 97, 98, 99, 100, 102, 103, 104, 105, 106, 107, 108, 109, 110, 112, 113, 114, 115, 118, 119, 120, 121, 122]⟩)), .t 21],
    .op none (some 9) (.mov (.t 22))])
  (.seq
  (.seq
  (.reg [.op none (some 23) (.mov (.t 9)),
    .op none (some 24) (.bin .lss (.t 23) (.c (.int .i64 0)))])
  (.cond (.t 24)
    (.seq
    (.reg [.op none (some 25) (.bld [.int .u8 0, .int .u8 0, .int .u8 0, .int .u8 0, .int .u8 0, .int .u8 0, .int .u8 0, .int .u8 0, .int .u8 0, .int .u8 0, .int .u8 0, .int .u8 0, .int .u8 0, .int .u8 0, .int .u8 0, .int .u8 0, .int .u8 0, .int .u8 0, .int .u8 0, .int .u8 0] []),
      .op none none (.st 20 (.t 2) (.t 25)),
      .op none (some 3) (.mov (.c (.bool false)))])
    .ret)
    .skip))
  (.seq
  (.reg [.op none (some 26) (.mov (.t 5)),
    .op none (some 27) (.bin .shl (.t 26) (.c (.int .u64 5))),
    .op none (some 28) (.mov (.t 9)),
    .op none (some 29) (.cvt .u64 (.t 28)),
    .op none (some 30) (.bin .or (.t 27) (.t 29)),
    .op none (some 31) (.mov (.t 6)),
    .op none (some 32) (.bin .add (.t 31) (.c (.int .i64 5))),
    .op none (some 5) (.mov (.t 30)),
    .op none (some 6) (.mov (.t 32))])
  (.seq
  (.reg [.op none (some 33) (.mov (.t 6)),
    .op none (some 34) (.bin .geq (.t 33) (.c (.int .i64 8)))])
  (.cond (.t 34)
    (.seq
    (.reg [.op none (some 35) (.mov (.t 6)),
      .op none (some 36) (.bin .sub (.t 35) (.c (.int .i64 8))),
      .op none (some 6) (.mov (.t 36))])
    (.seq
    (.reg [.op none (some 37) (.mov (.t 7)),
      .op none (some 38) (.mov (.t 5)),
      .op none (some 39) (.mov (.t 6)),
      .op none (some 40) (.bin .shr (.t 38) (.t 39)),
      .op none (some 41) (.cvt .u8 (.t 40)),
      .op none (some 42) (.iadA 20 1 (.t 4) (.t 37)),
      .op none none (.st 1 (.t 42) (.t 41))])
    (.reg [.op none (some 43) (.mov (.t 7)),
      .op none (some 44) (.bin .add (.t 43) (.c (.int .i64 1))),
      .op none (some 7) (.mov (.t 44))])))
    .skip)))))))
  (.reg [.op none (some 45) (.bin .add (.t 16) (.c (.int .i64 1))),
    .op none (some 16) (.mov (.t 45))]))))

def F12 : AFun :=
  { n := 47, res := [.cn 2 20, .t 3], code :=
  (.seq
  (.reg [.op none (some 2) (.new 27 [.int .u8 0, .int .u8 0, .int .u8 0, .int .u8 0, .int .u8 0, .int .u8 0, .int .u8 0, .int .u8 0, .int .u8 0, .int .u8 0, .int .u8 0, .int .u8 0, .int .u8 0, .int .u8 0, .int .u8 0, .int .u8 0, .int .u8 0, .int .u8 0, .int .u8 0, .int .u8 0]),
    .op none (some 3) (.mov (.c (.bool false)))])
  (.seq
  (.reg [.op none (some 4) (.new 27 [.int .u8 0, .int .u8 0, .int .u8 0, .int .u8 0, .int .u8 0, .int .u8 0, .int .u8 0, .int .u8 0, .int .u8 0, .int .u8 0, .int .u8 0, .int .u8 0, .int .u8 0, .int .u8 0, .int .u8 0, .int .u8 0, .int .u8 0, .int .u8 0, .int .u8 0, .int .u8 0])])
  (.seq
  (.seq
  (.reg [.op none (some 10) (.mov (.t 0)),
    .op none (some 11) (.lenS (.t 10)),
    .op none (some 12) (.bin .neq (.t 11) (.c (.int .i64 32)))])
  (.cond (.t 12)
    (.seq
    (.reg [.op none (some 13) (.ldn 20 (.t 4)),
      .op none none (.st 20 (.t 2) (.t 13)),
      .op none (some 3) (.mov (.c (.bool false)))])
    .ret)
    .skip))
  (.seq
  (.reg [.op none (some 5) (.mov (.c (.int .u64 0))),
    .op none (some 6) (.mov (.c (.int .i64 0))),
    .op none (some 7) (.mov (.c (.int .i64 0)))])
  (.seq
  (.seq
  (.reg [.op none (some 14) (.mov (.t 0)),
    .op none (some 15) (.lenS (.t 14)),
    .op none (some 16) (.mov (.c (.int .i64 0)))])
  (.block 0
  (.loop F12_l0)))
  (.seq
  (.reg [.op none (some 46) (.ldn 20 (.t 4)),
    .op none none (.st 20 (.t 2) (.t 46)),
    .op none (some 3) (.mov (.c (.bool true)))])
  .ret)))))) }
theorem F12_ok : compFun Try.prog 1 Try.f12 = some F12 := by kernel_rfl

def F13_l1 : ACode :=
  (.seq
  (.seq
  (.reg [.op none (some 24) (.mov (.t 7)),
    .op none (some 25) (.bin .lss (.t 24) (.c (.int .i64 5)))])
  (.cond (.t 25)
    .skip
    (.exit 2)))
  (.seq
  (.block 3
  (.seq
  (.reg [.op none (some 28) (.mov (.t 5)),
    .op none (some 29) (.bin .mul (.c (.int .i64 5)) (.t 28)),
    .op none (some 30) (.mov (.t 7)),
    .op none (some 31) (.bin .add (.t 29) (.t 30)),
    .op none (some 8) (.mov (.t 31))])
  (.seq
  (.reg [.op none (some 32) (.mov (.t 6)),
    .op none (some 33) (.mov (.t 7)),
    .op none (some 34) (.bin .sub (.c (.int .i64 4)) (.t 33)),
    .op none (some 35) (.bin .shr (.t 32) (.t 34)),
    .op none (some 36) (.bin .and (.t 35) (.c (.int .i64 1))),
    .op none (some 37) (.bin .eql (.t 36) (.c (.int .i64 1)))])
  (.cond (.t 37)
    (.draw [.f (.op none (some 38) (.mov (.t 8))),
      .f (.op none (some 39) (.bin .quo (.t 38) (.c (.int .i64 8)))),
      .f (.op none (some 40) (.mov (.t 8))),
      .f (.op none (some 41) (.bin .quo (.t 40) (.c (.int .i64 8)))),
      .f (.op none (some 42) (.iadA 20 1 (.t 4) (.t 41))),
      .f (.op none (some 43) (.ld1 (.t 42))),
      .f (.op none (some 44) (.mov (.t 8))),
      .f (.op none (some 45) (.bin .rem (.t 44) (.c (.int .i64 8)))),
      .f (.op none (some 46) (.bin .sub (.c (.int .i64 7)) (.t 45))),
      .f (.op none (some 47) (.bin .shl (.c (.int .u8 1)) (.t 46))),
      .f (.op none (some 48) (.bin .or (.t 43) (.t 47))),
      .f (.op none (some 49) (.iadA 20 1 (.t 4) (.t 39))),
      .b (.op none none (.st 1 (.t 49) (.t 48))) []])
    .skip))))
  (.reg [.op none (some 26) (.mov (.t 7)),
    .op none (some 27) (.bin .add (.t 26) (.c (.int .i64 1))),
    .op none (some 7) (.mov (.t 27))])))

def F13_l0 : ACode :=
  (.seq
  (.seq
  (.reg [.op none (some 13) (.mov (.t 5)),
    .op none (some 14) (.bin .lss (.t 13) (.c (.int .i64 32)))])
  (.cond (.t 14)
    .skip
    (.exit 0)))
  (.seq
  (.block 1
  (.seq
  (.reg [.op none (some 17) (.mov (.t 0)),
    .op none (some 18) (.mov (.t 5)),
    .op none (some 19) (.ixS (.t 17) (.t 18)),
    .call none (some 20) 26 [.t 19],
    .op none (some 6) (.mov (.t 20))])
  (.seq
  (.seq
  (.reg [.op none (some 21) (.mov (.t 6)),
    .op none (some 22) (.bin .lss (.t 21) (.c (.int .i64 0)))])
  (.cond (.t 22)
    (.seq
    (.reg [.op none (some 23) (.bld [.int .u8 0, .int .u8 0, .int .u8 0, .int .u8 0, .int .u8 0, .int .u8 0, .int .u8 0, .int .u8 0, .int .u8 0, .int .u8 0, .int .u8 0, .int .u8 0, .int .u8 0, .int .u8 0, .int .u8 0, .int .u8 0, .int .u8 0, .int .u8 0, .int .u8 0, .int .u8 0] []),
      .op none none (.st 20 (.t 2) (.t 23)),
      .op none (some 3) (.mov (.c (.bool false)))])
    .ret)
    .skip))
  (.seq
  (.reg [.op none (some 7) (.mov (.c (.int .i64 0)))])
  (.block 2
  (.loop F13_l1))))))
  (.reg [.op none (some 15) (.mov (.t 5)),
    .op none (some 16) (.bin .add (.t 15) (.c (.int .i64 1))),
    .op none (some 5) (.mov (.t 16))])))

def F13 : AFun :=
  { n := 51, res := [.cn 2 20, .t 3], code :=
  (.seq
  (.reg [.op none (some 2) (.new 27 [.int .u8 0, .int .u8 0, .int .u8 0, .int .u8 0, .int .u8 0, .int .u8 0, .int .u8 0, .int .u8 0, .int .u8 0, .int .u8 0, .int .u8 0, .int .u8 0, .int .u8 0, .int .u8 0, .int .u8 0, .int .u8 0, .int .u8 0, .int .u8 0, .int .u8 0, .int .u8 0]),
    .op none (some 3) (.mov (.c (.bool false)))])
  (.seq
  (.reg [.op none (some 4) (.new 27 [.int .u8 0, .int .u8 0, .int .u8 0, .int .u8 0, .int .u8 0, .int .u8 0, .int .u8 0, .int .u8 0, .int .u8 0, .int .u8 0, .int .u8 0, .int .u8 0, .int .u8 0, .int .u8 0, .int .u8 0, .int .u8 0, .int .u8 0, .int .u8 0, .int .u8 0, .int .u8 0])])
  (.seq
  (.seq
  (.reg [.op none (some 9) (.mov (.t 0)),
    .op none (some 10) (.lenS (.t 9)),
    .op none (some 11) (.bin .neq (.t 10) (.c (.int .i64 32)))])
  (.cond (.t 11)
    (.seq
    (.reg [.op none (some 12) (.ldn 20 (.t 4)),
      .op none none (.st 20 (.t 2) (.t 12)),
      .op none (some 3) (.mov (.c (.bool false)))])
    .ret)
    .skip))
  (.seq
  (.seq
  (.reg [.op none (some 5) (.mov (.c (.int .i64 0)))])
  (.block 0
  (.loop F13_l0)))
  (.seq
  (.reg [.op none (some 50) (.ldn 20 (.t 4)),
    .op none none (.st 20 (.t 2) (.t 50)),
    .op none (some 3) (.mov (.c (.bool true)))])
  .ret))))) }
theorem F13_ok : compFun Try.prog 1 Try.f13 = some F13 := by kernel_rfl

def F14 : AFun :=
  { n := 14, res := [.t 4, .t 5], code :=
  (.seq
  (.reg [.op none (some 2) (.box 23 (.t 0)),
    .op none (some 4) (.mov (.c (.string (⟨#[]⟩)))),
    .op none (some 5) (.mov (.c (.int .i64 0)))])
  (.seq
  (.seq
  (.reg [.op none (some 6) (.mov (.t 1)),
    .call none (some 7) 16 [.t 6],
    .op none (some 8) (.un .not (.t 7))])
  (.cond (.t 8)
    (.seq
    (.reg [.op none (some 4) (.mov (.c (.string (⟨#[]⟩)))),
      .op none (some 5) (.mov (.c (.int .i64 2)))])
    .ret)
    .skip))
  (.seq
  (.reg [.op none (some 9) (.ldn 32 (.t 2)),
    .call none (some 10) 9 [.t 9],
    .op none (some 11) (.bin .add (.t 10) (.c (.string (⟨#[45]⟩)))),
    .op none (some 12) (.mov (.t 1)),
    .op none (some 13) (.bin .add (.t 11) (.t 12)),
    .op none (some 4) (.mov (.t 13)),
    .op none (some 5) (.mov (.c (.int .i64 0)))])
  .ret))) }
theorem F14_ok : compFun Try.prog 1 Try.f14 = some F14 := by kernel_rfl

def F15 : AFun :=
  { n := 14, res := [.t 4, .t 5], code :=
  (.seq
  (.reg [.op none (some 2) (.box 23 (.t 0)),
    .op none (some 4) (.mov (.c (.string (⟨#[]⟩)))),
    .op none (some 5) (.mov (.c (.int .i64 0)))])
  (.seq
  (.seq
  (.reg [.op none (some 6) (.mov (.t 1)),
    .call none (some 7) 17 [.t 6],
    .op none (some 8) (.un .not (.t 7))])
  (.cond (.t 8)
    (.seq
    (.reg [.op none (some 4) (.mov (.c (.string (⟨#[]⟩)))),
      .op none (some 5) (.mov (.c (.int .i64 2)))])
    .ret)
    .skip))
  (.seq
  (.reg [.op none (some 9) (.ldn 32 (.t 2)),
    .call none (some 10) 10 [.t 9],
    .op none (some 11) (.bin .add (.t 10) (.c (.string (⟨#[45]⟩)))),
    .op none (some 12) (.mov (.t 1)),
    .op none (some 13) (.bin .add (.t 11) (.t 12)),
    .op none (some 4) (.mov (.t 13)),
    .op none (some 5) (.mov (.c (.int .i64 0)))])
  .ret))) }
theorem F15_ok : compFun Try.prog 1 Try.f15 = some F15 := by kernel_rfl

def F16 : AFun :=
  { n := 20, res := [.t 2], code :=
  (.seq
  (.reg [.op none (some 2) (.mov (.c (.bool false)))])
  (.seq
  (.reg [.op none (some 3) (.mov (.t 0)),
    .op none (some 4) (.bin .neq (.t 3) (.c (.string (⟨#[]⟩)))),
    .op none (some 5) (.mov (.t 4)),
    .op (some (5, true)) (some 6) (.mov (.t 0)),
    .op (some (5, true)) (some 7) (.lenS (.t 6)),
    .op (some (5, true)) (some 8) (.bin .leq (.t 7) (.c (.int .i64 64))),
    .op none (some 9) (.pick (.t 5) (.t 8) (.c (.bool false))),
    .op none (some 10) (.mov (.t 9)),
    .op (some (10, true)) (some 11) (.mov (.t 0)),
    .op (some (10, true)) (some 12) (.ixS (.t 11) (.c (.int .i64 0))),
    .op (some (10, true)) (some 13) (.bin .neq (.t 12) (.c (.int .u8 46))),
    .op none (some 14) (.pick (.t 10) (.t 13) (.c (.bool false))),
    .op none (some 15) (.mov (.t 14)),
    .op (some (15, true)) (some 16) (.mov (.t 0)),
    .call (some (15, true)) (some 17) 27 [.t 16, .c (.func (Fn.func 28) (#[]) (#[]))],
    .op (some (15, true)) (some 18) (.un .not (.t 17)),
    .op none (some 19) (.pick (.t 15) (.t 18) (.c (.bool false))),
    .op none (some 2) (.mov (.t 19))])
  .ret)) }
theorem F16_ok : compFun Try.prog 1 Try.f16 = some F16 := by kernel_rfl

def F17_l0 : ACode :=
  (.seq
  (.seq
  (.reg [.op none (some 5) (.mov (.t 3)),
    .op none (some 6) (.mov (.t 0)),
    .op none (some 7) (.lenS (.t 6)),
    .op none (some 8) (.bin .lss (.t 5) (.t 7)),
    .op none (some 9) (.mov (.t 8)),
    .op (some (9, true)) (some 10) (.mov (.t 3)),
    .op (some (9, true)) (some 11) (.bin .lss (.t 10) (.c (.int .i64 65))),
    .op none (some 12) (.pick (.t 9) (.t 11) (.c (.bool false)))])
  (.cond (.t 12)
    .skip
    (.exit 0)))
  (.seq
  (.block 1
  (.seq
  (.reg [.op none (some 15) (.mov (.t 0)),
    .op none (some 16) (.mov (.t 3)),
    .op none (some 17) (.ixS (.t 15) (.t 16)),
    .op none (some 4) (.mov (.t 17))])
  (.seq
  (.reg [.op none (some 18) (.mov (.t 4)),
    .op none (some 19) (.bin .lss (.t 18) (.c (.int .u8 97))),
    .op none (some 20) (.mov (.t 19)),
    .op (some (20, false)) (some 21) (.mov (.t 4)),
    .op (some (20, false)) (some 22) (.bin .gtr (.t 21) (.c (.int .u8 122))),
    .op none (some 23) (.pick (.t 20) (.c (.bool true)) (.t 22)),
    .op none (some 24) (.mov (.t 23)),
    .op (some (24, true)) (some 25) (.mov (.t 4)),
    .op (some (24, true)) (some 26) (.bin .lss (.t 25) (.c (.int .u8 65))),
    .op (some (24, true)) (some 27) (.mov (.t 26)),
    .op (some (27, false)) (some 28) (.mov (.t 4)),
    .op (some (27, false)) (some 29) (.bin .gtr (.t 28) (.c (.int .u8 90))),
    .op (some (24, true)) (some 30) (.pick (.t 27) (.c (.bool true)) (.t 29)),
    .op none (some 31) (.pick (.t 24) (.t 30) (.c (.bool false))),
    .op none (some 32) (.mov (.t 31)),
    .op (some (32, true)) (some 33) (.mov (.t 4)),
    .op (some (32, true)) (some 34) (.bin .lss (.t 33) (.c (.int .u8 48))),
    .op (some (32, true)) (some 35) (.mov (.t 34)),
    .op (some (35, false)) (some 36) (.mov (.t 4)),
    .op (some (35, false)) (some 37) (.bin .gtr (.t 36) (.c (.int .u8 57))),
    .op (some (32, true)) (some 38) (.pick (.t 35) (.c (.bool true)) (.t 37)),
    .op none (some 39) (.pick (.t 32) (.t 38) (.c (.bool false))),
    .op none (some 40) (.mov (.t 39)),
    .op (some (40, true)) (some 41) (.mov (.t 4)),
    .op (some (40, true)) (some 42) (.bin .neq (.t 41) (.c (.int .u8 43))),
    .op none (some 43) (.pick (.t 40) (.t 42) (.c (.bool false))),
    .op none (some 44) (.mov (.t 43)),
    .op (some (44, true)) (some 45) (.mov (.t 4)),
    .op (some (44, true)) (some 46) (.bin .neq (.t 45) (.c (.int .u8 45))),
    .op none (some 47) (.pick (.t 44) (.t 46) (.c (.bool false))),
    .op none (some 48) (.mov (.t 47)),
    .op (some (48, true)) (some 49) (.mov (.t 4)),
    .op (some (48, true)) (some 50) (.bin .neq (.t 49) (.c (.int .u8 46))),
    .op none (some 51) (.pick (.t 48) (.t 50) (.c (.bool false))),
    .op none (some 52) (.mov (.t 51)),
    .op (some (52, true)) (some 53) (.mov (.t 4)),
    .op (some (52, true)) (some 54) (.bin .neq (.t 53) (.c (.int .u8 95))),
    .op none (some 55) (.pick (.t 52) (.t 54) (.c (.bool false)))])
  (.cond (.t 55)
    (.seq
    (.reg [.op none (some 2) (.mov (.c (.bool false)))])
    .ret)
    .skip))))
  (.reg [.op none (some 13) (.mov (.t 3)),
    .op none (some 14) (.bin .add (.t 13) (.c (.int .i64 1))),
    .op none (some 3) (.mov (.t 14))])))

def F17 : AFun :=
  { n := 69, res := [.t 2], code :=
  (.seq
  (.reg [.op none (some 2) (.mov (.c (.bool false)))])
  (.seq
  (.seq
  (.reg [.op none (some 3) (.mov (.c (.int .i64 0)))])
  (.block 0
  (.loop F17_l0)))
  (.seq
  (.reg [.op none (some 56) (.mov (.t 0)),
    .op none (some 57) (.lenS (.t 56)),
    .op none (some 58) (.bin .geq (.t 57) (.c (.int .i64 1))),
    .op none (some 59) (.mov (.t 58)),
    .op (some (59, true)) (some 60) (.mov (.t 0)),
    .op (some (59, true)) (some 61) (.lenS (.t 60)),
    .op (some (59, true)) (some 62) (.bin .leq (.t 61) (.c (.int .i64 64))),
    .op none (some 63) (.pick (.t 59) (.t 62) (.c (.bool false))),
    .op none (some 64) (.mov (.t 63)),
    .op (some (64, true)) (some 65) (.mov (.t 0)),
    .op (some (64, true)) (some 66) (.ixS (.t 65) (.c (.int .i64 0))),
    .op (some (64, true)) (some 67) (.bin .neq (.t 66) (.c (.int .u8 46))),
    .op none (some 68) (.pick (.t 64) (.t 67) (.c (.bool false))),
    .op none (some 2) (.mov (.t 68))])
  .ret))) }
theorem F17_ok : compFun Try.prog 1 Try.f17 = some F17 := by kernel_rfl

def F18 : AFun :=
  { n := 34, res := [.t 2, .t 3, .t 4], code :=
  (.seq
  (.reg [.op none (some 2) (.mov (.c (.string (⟨#[]⟩)))),
    .op none (some 3) (.mov (.c (.string (⟨#[]⟩)))),
    .op none (some 4) (.mov (.c (.int .i64 0)))])
  (.seq
  (.reg [.op none (some 11) (.mov (.t 0)),
    .call none (some 12) 30 [.t 11, .c (.string (⟨#[45]⟩))],
    .op none (some 10) (.mov (.t 12)),
    .op none (some 13) (.ext 0 (.t 10)),
    .op none (some 14) (.ext 1 (.t 10)),
    .op none (some 15) (.ext 2 (.t 10)),
    .op none (some 5) (.mov (.t 13)),
    .op none (some 6) (.mov (.t 14)),
    .op none (some 7) (.mov (.t 15))])
  (.seq
  (.reg [.op none (some 17) (.mov (.t 5)),
    .call none (some 18) 12 [.t 17],
    .op none (some 16) (.mov (.t 18)),
    .op none (some 19) (.ext 0 (.t 16)),
    .op none (some 20) (.ext 1 (.t 16)),
    .op none (some 8) (.new 27 [.int .u8 0, .int .u8 0, .int .u8 0, .int .u8 0, .int .u8 0, .int .u8 0, .int .u8 0, .int .u8 0, .int .u8 0, .int .u8 0, .int .u8 0, .int .u8 0, .int .u8 0, .int .u8 0, .int .u8 0, .int .u8 0, .int .u8 0, .int .u8 0, .int .u8 0, .int .u8 0]),
    .op none none (.st 20 (.t 8) (.t 19)),
    .op none (some 9) (.mov (.t 20))])
  (.seq
  (.seq
  (.reg [.op none (some 21) (.mov (.t 7)),
    .op none (some 22) (.un .not (.t 21)),
    .op none (some 23) (.mov (.t 22)),
    .op (some (23, false)) (some 24) (.mov (.t 9)),
    .op (some (23, false)) (some 25) (.un .not (.t 24)),
    .op none (some 26) (.pick (.t 23) (.c (.bool true)) (.t 25)),
    .op none (some 27) (.mov (.t 26)),
    .op (some (27, false)) (some 28) (.mov (.t 6)),
    .call (some (27, false)) (some 29) 16 [.t 28],
    .op (some (27, false)) (some 30) (.un .not (.t 29)),
    .op none (some 31) (.pick (.t 27) (.c (.bool true)) (.t 30))])
  (.cond (.t 31)
    (.seq
    (.reg [.op none (some 2) (.mov (.c (.string (⟨#[]⟩)))),
      .op none (some 3) (.mov (.c (.string (⟨#[]⟩)))),
      .op none (some 4) (.mov (.c (.int .i64 90)))])
    .ret)
    .skip))
  (.seq
  (.reg [.op none (some 32) (.mov (.t 5)),
    .op none (some 33) (.mov (.t 6)),
    .op none (some 2) (.mov (.t 32)),
    .op none (some 3) (.mov (.t 33)),
    .op none (some 4) (.mov (.c (.int .i64 0)))])
  .ret))))) }
theorem F18_ok : compFun Try.prog 1 Try.f18 = some F18 := by kernel_rfl

def F19 : AFun :=
  { n := 33, res := [.t 2, .t 3, .t 4], code :=
  (.seq
  (.reg [.op none (some 2) (.mov (.c (.string (⟨#[]⟩)))),
    .op none (some 3) (.mov (.c (.string (⟨#[]⟩)))),
    .op none (some 4) (.mov (.c (.int .i64 0)))])
  (.seq
  (.seq
  (.reg [.op none (some 7) (.mov (.t 0)),
    .op none (some 8) (.lenS (.t 7)),
    .op none (some 9) (.bin .lss (.t 8) (.c (.int .i64 34))),
    .op none (some 10) (.mov (.t 9)),
    .op (some (10, false)) (some 11) (.mov (.t 0)),
    .op (some (10, false)) (some 12) (.ixS (.t 11) (.c (.int .i64 32))),
    .op (some (10, false)) (some 13) (.bin .neq (.t 12) (.c (.int .u8 45))),
    .op none (some 14) (.pick (.t 10) (.c (.bool true)) (.t 13)),
    .op none (some 15) (.mov (.t 14)),
    .op (some (15, false)) (some 16) (.mov (.t 0)),
    .op (some (15, false)) (some 17) (.slS (.t 16) (some (.c (.int .i64 33))) none),
    .call (some (15, false)) (some 18) 17 [.t 17],
    .op (some (15, false)) (some 19) (.un .not (.t 18)),
    .op none (some 20) (.pick (.t 15) (.c (.bool true)) (.t 19))])
  (.cond (.t 20)
    (.seq
    (.reg [.op none (some 2) (.mov (.c (.string (⟨#[]⟩)))),
      .op none (some 3) (.mov (.c (.string (⟨#[]⟩)))),
      .op none (some 4) (.mov (.c (.int .i64 90)))])
    .ret)
    .skip))
  (.seq
  (.reg [.op none (some 22) (.mov (.t 0)),
    .op none (some 23) (.slS (.t 22) none (some (.c (.int .i64 32)))),
    .call none (some 24) 13 [.t 23],
    .op none (some 21) (.mov (.t 24)),
    .op none (some 25) (.ext 0 (.t 21)),
    .op none (some 26) (.ext 1 (.t 21)),
    .op none (some 5) (.new 27 [.int .u8 0, .int .u8 0, .int .u8 0, .int .u8 0, .int .u8 0, .int .u8 0, .int .u8 0, .int .u8 0, .int .u8 0, .int .u8 0, .int .u8 0, .int .u8 0, .int .u8 0, .int .u8 0, .int .u8 0, .int .u8 0, .int .u8 0, .int .u8 0, .int .u8 0, .int .u8 0]),
    .op none none (.st 20 (.t 5) (.t 25)),
    .op none (some 6) (.mov (.t 26))])
  (.seq
  (.seq
  (.reg [.op none (some 27) (.mov (.t 6)),
    .op none (some 28) (.un .not (.t 27))])
  (.cond (.t 28)
    (.seq
    (.reg [.op none (some 2) (.mov (.c (.string (⟨#[]⟩)))),
      .op none (some 3) (.mov (.c (.string (⟨#[]⟩)))),
      .op none (some 4) (.mov (.c (.int .i64 90)))])
    .ret)
    .skip))
  (.seq
  (.draw [.f (.op none (some 29) (.mov (.t 0))),
    .f (.op none (some 30) (.slS (.t 29) none (some (.c (.int .i64 32))))),
    .f (.op none (some 31) (.mov (.t 0))),
    .f (.op none (some 32) (.slS (.t 31) (some (.c (.int .i64 33))) none)),
    .f (.op none (some 2) (.mov (.t 30))),
    .f (.op none (some 3) (.mov (.t 32))),
    .f (.op none (some 4) (.mov (.c (.int .i64 0))))])
  .ret))))) }
theorem F19_ok : compFun Try.prog 1 Try.f19 = some F19 := by kernel_rfl

def F20 : AFun :=
  { n := 30, res := [.t 4], code :=
  (.seq
  (.reg [.op none (some 3) (.box 23 (.t 1)),
    .op none (some 4) (.mov (.c (.bool false)))])
  (.seq
  (.reg [.op none (some 11) (.mov (.t 0)),
    .call none (some 12) 18 [.t 11],
    .op none (some 10) (.mov (.t 12)),
    .op none (some 13) (.ext 0 (.t 10)),
    .op none (some 14) (.ext 1 (.t 10)),
    .op none (some 15) (.ext 2 (.t 10)),
    .op none (some 5) (.mov (.t 13)),
    .op none (some 6) (.mov (.t 14)),
    .op none (some 7) (.mov (.t 15))])
  (.seq
  (.reg [.op none (some 17) (.mov (.t 5)),
    .call none (some 18) 12 [.t 17],
    .op none (some 16) (.mov (.t 18)),
    .op none (some 19) (.ext 0 (.t 16)),
    .op none (some 20) (.ext 1 (.t 16)),
    .op none (some 8) (.new 27 [.int .u8 0, .int .u8 0, .int .u8 0, .int .u8 0, .int .u8 0, .int .u8 0, .int .u8 0, .int .u8 0, .int .u8 0, .int .u8 0, .int .u8 0, .int .u8 0, .int .u8 0, .int .u8 0, .int .u8 0, .int .u8 0, .int .u8 0, .int .u8 0, .int .u8 0, .int .u8 0]),
    .op none none (.st 20 (.t 8) (.t 19)),
    .op none (some 9) (.mov (.t 20))])
  (.seq
  (.draw [.f (.op none (some 21) (.mov (.t 7))),
    .f (.op none (some 22) (.bin .eql (.t 21) (.c (.int .i64 0)))),
    .f (.op none (some 23) (.mov (.t 22))),
    .f (.op (some (23, true)) (some 24) (.ldn 20 (.t 8))),
    .f (.op (some (23, true)) (some 25) (.slA 32 1 (.t 3) none (some (.c (.int .i64 20))) none)),
    .f (.op (some (23, true)) (some 26) (.arrAt 20 (.t 25))),
    .f (.op (some (23, true)) (some 27) (.ldn 20 (.t 26))),
    .f (.op (some (23, true)) (some 28) (.eql false (.cells 20) (.t 24) (.t 27))),
    .f (.op none (some 29) (.pick (.t 23) (.t 28) (.c (.bool false)))),
    .f (.op none (some 4) (.mov (.t 29)))])
  .ret)))) }
theorem F20_ok : compFun Try.prog 1 Try.f20 = some F20 := by kernel_rfl

def F21 : AFun :=
  { n := 22, res := [.t 4], code :=
  (.seq
  (.reg [.op none (some 3) (.box 23 (.t 1)),
    .op none (some 4) (.mov (.c (.bool false)))])
  (.seq
  (.reg [.op none (some 9) (.mov (.t 0)),
    .call none (some 10) 19 [.t 9],
    .op none (some 8) (.mov (.t 10)),
    .op none (some 11) (.ext 0 (.t 8)),
    .op none (some 12) (.ext 1 (.t 8)),
    .op none (some 13) (.ext 2 (.t 8)),
    .op none (some 5) (.mov (.t 11)),
    .op none (some 6) (.mov (.t 12)),
    .op none (some 7) (.mov (.t 13))])
  (.seq
  (.reg [.op none (some 14) (.mov (.t 7)),
    .op none (some 15) (.bin .eql (.t 14) (.c (.int .i64 0))),
    .op none (some 16) (.mov (.t 15)),
    .op (some (16, true)) (some 17) (.mov (.t 5)),
    .op (some (16, true)) (some 18) (.ldn 32 (.t 3)),
    .call (some (16, true)) (some 19) 10 [.t 18],
    .op (some (16, true)) (some 20) (.bin .eql (.t 17) (.t 19)),
    .op none (some 21) (.pick (.t 16) (.t 20) (.c (.bool false))),
    .op none (some 4) (.mov (.t 21))])
  .ret))) }
theorem F21_ok : compFun Try.prog 1 Try.f21 = some F21 := by kernel_rfl

def F22 : AFun :=
  { n := 17, res := [.t 4], code :=
  (.seq
  (.reg [.op none (some 4) (.mov (.c .nilIface))])
  (.seq
  (.reg [.op none (some 5) (.mov (.t 0)),
    .call none (some 6) 31 [.t 5]])
  (.seq
  (.reg [.op none (some 7) (.mov (.t 0)),
    .op none (some 8) (.mov (.t 0)),
    .op none (some 9) (.nchk (.t 8)),
    .op none (some 10) (.fad 1 (.t 9)),
    .op none (some 11) (.ld1 (.t 10)),
    .op none (some 12) (.mov (.t 1)),
    .op none (some 13) (.bldSl 5 1 [.int .u8 0] [(0, 1, .t 12)]),
    .op none (some 14) (.app 5 1 1 [.int .u8 0] (.t 11) (.t 13)),
    .op none (some 15) (.nchk (.t 7)),
    .op none (some 16) (.fad 1 (.t 15)),
    .op none none (.st 1 (.t 16) (.t 14))])
  (.seq
  (.reg [.op none (some 4) (.mov (.c .nilIface))])
  .ret)))) }
theorem F22_ok : compFun Try.prog 1 Try.f22 = some F22 := by kernel_rfl

def F23 : AFun :=
  { n := 14, res := [.t 2], code :=
  (.seq
  (.reg [.op none (some 2) (.mov (.c (.string (⟨#[]⟩))))])
  (.seq
  (.draw [.f (.op none (some 3) (.mov (.t 0))),
    .f (.op none (some 4) (.nchk (.t 3))),
    .f (.op none (some 5) (.fad 1 (.t 4))),
    .f (.op none (some 6) (.ld1 (.t 5))),
    .f (.op none (some 7) (.sdat (.t 6))),
    .f (.op none (some 8) (.mov (.t 0))),
    .f (.op none (some 9) (.nchk (.t 8))),
    .f (.op none (some 10) (.fad 1 (.t 9))),
    .f (.op none (some 11) (.ld1 (.t 10))),
    .f (.op none (some 12) (.lenV (.t 11))),
    .b (.op none (some 13) (.ustr 5 (.t 7) (.t 12))) [],
    .f (.op none (some 2) (.mov (.t 13)))])
  .ret)) }
theorem F23_ok : compFun Try.prog 1 Try.f23 = some F23 := by kernel_rfl

def F24_l1 : ACode :=
  (.seq
  (.seq
  (.reg [.op none (some 11) (.mov (.t 6)),
    .op none (some 12) (.bin .lss (.t 11) (.c (.int .i64 5)))])
  (.cond (.t 12)
    .skip
    (.exit 2)))
  (.seq
  (.block 3
  (.reg [.op none (some 15) (.mov (.t 5)),
    .op none (some 16) (.bin .mul (.c (.int .i64 2)) (.t 15)),
    .op none (some 17) (.mov (.t 0)),
    .op none (some 18) (.mov (.t 4)),
    .op none (some 19) (.bin .mul (.c (.int .i64 5)) (.t 18)),
    .op none (some 20) (.mov (.t 6)),
    .op none (some 21) (.bin .add (.t 19) (.t 20)),
    .call none (some 22) 32 [.t 17, .t 21],
    .op none (some 23) (.bin .add (.t 16) (.t 22)),
    .op none (some 5) (.mov (.t 23))]))
  (.reg [.op none (some 13) (.mov (.t 6)),
    .op none (some 14) (.bin .add (.t 13) (.c (.int .i64 1))),
    .op none (some 6) (.mov (.t 14))])))

def F24_l0 : ACode :=
  (.seq
  (.seq
  (.reg [.op none (some 7) (.mov (.t 4)),
    .op none (some 8) (.bin .lss (.t 7) (.c (.int .i64 32)))])
  (.cond (.t 8)
    .skip
    (.exit 0)))
  (.seq
  (.block 1
  (.seq
  (.reg [.op none (some 5) (.mov (.c (.int .i64 0)))])
  (.seq
  (.seq
  (.reg [.op none (some 6) (.mov (.c (.int .i64 0)))])
  (.block 2
  (.loop F24_l1)))
  (.reg [.op none (some 24) (.mov (.t 3)),
    .op none (some 25) (.mov (.t 5)),
    .op none (some 26) (.mov (.t 5)),
    .op none (some 27) (.bin .add (.t 26) (.c (.int .i64 1))),
    .op none (some 28) (.slS (.c (.string (⟨#[48, 49, 50, 51, 52, 53, 54, 55, 56, 57, 97, 98, 99, 100, 102, 103, 104, 105, 106, 107, 108, 109, 110, 112, 113, 114, 115, 118, 119, 120, 121, 122]⟩))) (some (.t 25)) (some (.t 27))),
    .op none (some 29) (.bin .add (.t 24) (.t 28)),
    .op none (some 3) (.mov (.t 29))]))))
  (.reg [.op none (some 9) (.mov (.t 4)),
    .op none (some 10) (.bin .add (.t 9) (.c (.int .i64 1))),
    .op none (some 4) (.mov (.t 10))])))

def F24 : AFun :=
  { n := 31, res := [.t 2], code :=
  (.seq
  (.reg [.op none (some 2) (.mov (.c (.string (⟨#[]⟩))))])
  (.seq
  (.reg [.op none (some 3) (.mov (.c (.string (⟨#[]⟩))))])
  (.seq
  (.seq
  (.reg [.op none (some 4) (.mov (.c (.int .i64 0)))])
  (.block 0
  (.loop F24_l0)))
  (.seq
  (.reg [.op none (some 30) (.mov (.t 3)),
    .op none (some 2) (.mov (.t 30))])
  .ret)))) }
theorem F24_ok : compFun Try.prog 1 Try.f24 = some F24 := by kernel_rfl

def F25 : AFun :=
  { n := 8, res := [.t 4], code :=
  (.seq
  (.reg [.op none (some 4) (.mov (.c (.int .i64 0)))])
  (.seq
  (.reg [.op none (some 5) (.mov (.t 0)),
    .op none (some 6) (.mov (.t 1)),
    .call none (some 7) 33 [.t 5, .t 6],
    .op none (some 4) (.mov (.t 7))])
  .ret)) }
theorem F25_ok : compFun Try.prog 1 Try.f25 = some F25 := by kernel_rfl

def F26_l0 : ACode :=
  (.seq
  (.seq
  (.reg [.op none (some 4) (.mov (.t 3)),
    .op none (some 5) (.bin .lss (.t 4) (.c (.int .i64 32)))])
  (.cond (.t 5)
    .skip
    (.exit 0)))
  (.seq
  (.block 1
  (.seq
  (.reg [.op none (some 8) (.mov (.t 3)),
    .op none (some 9) (.ixS (.c (.string (⟨#[48, 49, 50, 51, 52, 53, 54, 55, 56, 57, 97, 98, 99, 100, 102, 103, 104, 105, 106, 107, 108, 109, 110, 112, 113, 114, 115, 118, 119, 120, 121, 122]⟩))) (.t 8)),
    .op none (some 10) (.mov (.t 0)),
    .op none (some 11) (.bin .eql (.t 9) (.t 10))])
  (.cond (.t 11)
    (.seq
    (.reg [.op none (some 12) (.mov (.t 3)),
      .op none (some 2) (.mov (.t 12))])
    .ret)
    .skip)))
  (.reg [.op none (some 6) (.mov (.t 3)),
    .op none (some 7) (.bin .add (.t 6) (.c (.int .i64 1))),
    .op none (some 3) (.mov (.t 7))])))

def F26 : AFun :=
  { n := 13, res := [.t 2], code :=
  (.seq
  (.reg [.op none (some 2) (.mov (.c (.int .i64 0)))])
  (.seq
  (.seq
  (.reg [.op none (some 3) (.mov (.c (.int .i64 0)))])
  (.block 0
  (.loop F26_l0)))
  (.seq
  (.reg [.op none (some 2) (.mov (.c (.int .i64 (-1))))])
  .ret))) }
theorem F26_ok : compFun Try.prog 1 Try.f26 = some F26 := by kernel_rfl

def F27 : AFun :=
  { n := 9, res := [.t 4], code :=
  (.seq
  (.reg [.op none (some 4) (.mov (.c (.bool false)))])
  (.seq
  (.reg [.op none (some 5) (.mov (.t 0)),
    .op none (some 6) (.mov (.t 1)),
    .call none (some 7) 34 [.t 5, .t 6],
    .op none (some 8) (.bin .geq (.t 7) (.c (.int .i64 0))),
    .op none (some 4) (.mov (.t 8))])
  .ret)) }
theorem F27_ok : compFun Try.prog 1 Try.f27 = some F27 := by kernel_rfl

def F28 : AFun :=
  { n := 6, res := [.t 2], code :=
  (.seq
  (.reg [.op none (some 2) (.mov (.c (.bool false)))])
  (.seq
  (.reg [.op none (some 3) (.mov (.t 0)),
    .call none (some 4) 29 [.t 3],
    .op none (some 5) (.un .not (.t 4)),
    .op none (some 2) (.mov (.t 5))])
  .ret)) }
theorem F28_ok : compFun Try.prog 1 Try.f28 = some F28 := by kernel_rfl

def F29 : AFun :=
  { n := 41, res := [.t 2], code :=
  (.seq
  (.reg [.op none (some 2) (.mov (.c (.bool false)))])
  (.seq
  (.reg [.op none (some 3) (.mov (.t 0)),
    .op none (some 4) (.bin .geq (.t 3) (.c (.int .i32 97))),
    .op none (some 5) (.mov (.t 4)),
    .op (some (5, true)) (some 6) (.mov (.t 0)),
    .op (some (5, true)) (some 7) (.bin .leq (.t 6) (.c (.int .i32 122))),
    .op none (some 8) (.pick (.t 5) (.t 7) (.c (.bool false))),
    .op none (some 9) (.mov (.t 8)),
    .op (some (9, false)) (some 10) (.mov (.t 0)),
    .op (some (9, false)) (some 11) (.bin .geq (.t 10) (.c (.int .i32 65))),
    .op (some (9, false)) (some 12) (.mov (.t 11)),
    .op (some (12, true)) (some 13) (.mov (.t 0)),
    .op (some (12, true)) (some 14) (.bin .leq (.t 13) (.c (.int .i32 90))),
    .op (some (9, false)) (some 15) (.pick (.t 12) (.t 14) (.c (.bool false))),
    .op none (some 16) (.pick (.t 9) (.c (.bool true)) (.t 15)),
    .op none (some 17) (.mov (.t 16)),
    .op (some (17, false)) (some 18) (.mov (.t 0)),
    .op (some (17, false)) (some 19) (.bin .geq (.t 18) (.c (.int .i32 48))),
    .op (some (17, false)) (some 20) (.mov (.t 19)),
    .op (some (20, true)) (some 21) (.mov (.t 0)),
    .op (some (20, true)) (some 22) (.bin .leq (.t 21) (.c (.int .i32 57))),
    .op (some (17, false)) (some 23) (.pick (.t 20) (.t 22) (.c (.bool false))),
    .op none (some 24) (.pick (.t 17) (.c (.bool true)) (.t 23)),
    .op none (some 25) (.mov (.t 24)),
    .op (some (25, false)) (some 26) (.mov (.t 0)),
    .op (some (25, false)) (some 27) (.bin .eql (.t 26) (.c (.int .i32 43))),
    .op none (some 28) (.pick (.t 25) (.c (.bool true)) (.t 27)),
    .op none (some 29) (.mov (.t 28)),
    .op (some (29, false)) (some 30) (.mov (.t 0)),
    .op (some (29, false)) (some 31) (.bin .eql (.t 30) (.c (.int .i32 45))),
    .op none (some 32) (.pick (.t 29) (.c (.bool true)) (.t 31)),
    .op none (some 33) (.mov (.t 32)),
    .op (some (33, false)) (some 34) (.mov (.t 0)),
    .op (some (33, false)) (some 35) (.bin .eql (.t 34) (.c (.int .i32 46))),
    .op none (some 36) (.pick (.t 33) (.c (.bool true)) (.t 35)),
    .op none (some 37) (.mov (.t 36)),
    .op (some (37, false)) (some 38) (.mov (.t 0)),
    .op (some (37, false)) (some 39) (.bin .eql (.t 38) (.c (.int .i32 95))),
    .op none (some 40) (.pick (.t 37) (.c (.bool true)) (.t 39)),
    .op none (some 2) (.mov (.t 40))])
  .ret)) }
theorem F29_ok : compFun Try.prog 1 Try.f29 = some F29 := by kernel_rfl

def F30 : AFun :=
  { n := 13, res := [.t 4, .t 5, .t 6], code :=
  (.seq
  (.reg [.op none (some 4) (.mov (.c (.string (⟨#[]⟩)))),
    .op none (some 5) (.mov (.c (.string (⟨#[]⟩)))),
    .op none (some 6) (.mov (.c (.bool false)))])
  (.seq
  (.reg [.op none (some 7) (.mov (.t 0)),
    .op none (some 8) (.mov (.t 1)),
    .call none (some 9) 35 [.t 7, .t 8],
    .op none (some 10) (.ext 0 (.t 9)),
    .op none (some 11) (.ext 1 (.t 9)),
    .op none (some 12) (.ext 2 (.t 9)),
    .op none (some 4) (.mov (.t 10)),
    .op none (some 5) (.mov (.t 11)),
    .op none (some 6) (.mov (.t 12))])
  .ret)) }
theorem F30_ok : compFun Try.prog 1 Try.f30 = some F30 := by kernel_rfl

def F31 : AFun :=
  { n := 20, res := [], code :=
  (.seq
  (.reg [.op none (some 2) (.mov (.t 0)),
    .op none (some 3) (.nchk (.t 2)),
    .op none (some 4) (.fad 0 (.t 3)),
    .op none (some 5) (.ld1 (.t 4)),
    .op none (some 6) (.eql false .ptr (.t 5) (.c (.pointer none)))])
  (.cond (.t 6)
    (.reg [.op none (some 7) (.mov (.t 0)),
      .op none (some 8) (.mov (.t 0)),
      .op none (some 9) (.toU (.t 8)),
      .call none (some 10) 36 [.t 9],
      .op none (some 11) (.frU 43 2 (.t 10)),
      .op none (some 12) (.nchk (.t 7)),
      .op none (some 13) (.fad 0 (.t 12)),
      .op none none (.st 1 (.t 13) (.t 11))])
    (.seq
    (.reg [.op none (some 14) (.mov (.t 0)),
      .op none (some 15) (.nchk (.t 14)),
      .op none (some 16) (.fad 0 (.t 15)),
      .op none (some 17) (.ld1 (.t 16)),
      .op none (some 18) (.mov (.t 0)),
      .op none (some 19) (.eql true .ptr (.t 17) (.t 18))])
    (.cond (.t 19)
      .refuse
      .skip)))) }
theorem F31_ok : compFun Try.prog 1 Try.f31 = some F31 := by kernel_rfl

def F32 : AFun :=
  { n := 16, res := [.t 4], code :=
  (.seq
  (.reg [.op none (some 4) (.mov (.c (.int .i64 0)))])
  (.seq
  (.reg [.op none (some 5) (.mov (.t 0)),
    .op none (some 6) (.mov (.t 1)),
    .op none (some 7) (.bin .quo (.t 6) (.c (.int .i64 8))),
    .op none (some 8) (.iadV 1 (.t 5) (.t 7)),
    .op none (some 9) (.ld1 (.t 8)),
    .op none (some 10) (.mov (.t 1)),
    .op none (some 11) (.bin .rem (.t 10) (.c (.int .i64 8))),
    .op none (some 12) (.bin .sub (.c (.int .i64 7)) (.t 11)),
    .op none (some 13) (.bin .shr (.t 9) (.t 12)),
    .op none (some 14) (.cvt .i64 (.t 13)),
    .op none (some 15) (.bin .and (.t 14) (.c (.int .i64 1))),
    .op none (some 4) (.mov (.t 15))])
  .ret)) }
theorem F32_ok : compFun Try.prog 1 Try.f32 = some F32 := by kernel_rfl

def F33 : AFun :=
  { n := 8, res := [.t 4], code :=
  (.seq
  (.reg [.op none (some 4) (.mov (.c (.int .i64 0)))])
  (.seq
  (.reg [.op none (some 5) (.mov (.t 0)),
    .op none (some 6) (.mov (.t 1)),
    .call none (some 7) 37 [.t 5, .t 6],
    .op none (some 4) (.mov (.t 7))])
  .ret)) }
theorem F33_ok : compFun Try.prog 1 Try.f33 = some F33 := by kernel_rfl

def F34 : AFun :=
  { n := 8, res := [.t 4], code :=
  (.seq
  (.reg [.op none (some 4) (.mov (.c (.int .i64 0)))])
  (.seq
  (.reg [.op none (some 5) (.mov (.t 0)),
    .op none (some 6) (.mov (.t 1)),
    .call none (some 7) 38 [.t 5, .t 6, .c (.bool true)],
    .op none (some 4) (.mov (.t 7))])
  .ret)) }
theorem F34_ok : compFun Try.prog 1 Try.f34 = some F34 := by kernel_rfl

def F35 : AFun :=
  { n := 23, res := [.t 4, .t 5, .t 6], code :=
  (.seq
  (.reg [.op none (some 4) (.mov (.c (.string (⟨#[]⟩)))),
    .op none (some 5) (.mov (.c (.string (⟨#[]⟩)))),
    .op none (some 6) (.mov (.c (.bool false)))])
  (.seq
  (.seq
  (.reg [.op none (some 8) (.mov (.t 0)),
    .op none (some 9) (.mov (.t 1)),
    .call none (some 10) 39 [.t 8, .t 9],
    .op none (some 7) (.mov (.t 10))])
  (.seq
  (.reg [.op none (some 11) (.mov (.t 7)),
    .op none (some 12) (.bin .geq (.t 11) (.c (.int .i64 0)))])
  (.cond (.t 12)
    (.seq
    (.draw [.f (.op none (some 13) (.mov (.t 0))),
      .f (.op none (some 14) (.mov (.t 7))),
      .f (.op none (some 15) (.slS (.t 13) none (some (.t 14)))),
      .f (.op none (some 16) (.mov (.t 0))),
      .f (.op none (some 17) (.mov (.t 7))),
      .f (.op none (some 18) (.mov (.t 1))),
      .f (.op none (some 19) (.lenS (.t 18))),
      .f (.op none (some 20) (.bin .add (.t 17) (.t 19))),
      .f (.op none (some 21) (.slS (.t 16) (some (.t 20)) none)),
      .f (.op none (some 4) (.mov (.t 15))),
      .f (.op none (some 5) (.mov (.t 21))),
      .f (.op none (some 6) (.mov (.c (.bool true))))])
    .ret)
    .skip)))
  (.seq
  (.reg [.op none (some 22) (.mov (.t 0)),
    .op none (some 4) (.mov (.t 22)),
    .op none (some 5) (.mov (.c (.string (⟨#[]⟩)))),
    .op none (some 6) (.mov (.c (.bool false)))])
  .ret))) }
theorem F35_ok : compFun Try.prog 1 Try.f35 = some F35 := by kernel_rfl

def F38_l0 : ACode :=
  (.seq
  (.reg [.op none (some 11) (.nxt (.t 10)),
    .op none (some 12) (.ext 0 (.t 11))])
  (.seq
  (.cond (.t 12)
    .skip
    (.exit 0))
  (.block 1
  (.seq
  (.reg [.op none (some 13) (.ext 1 (.t 11)),
    .op none (some 14) (.ext 2 (.t 11)),
    .op none (some 7) (.mov (.t 13)),
    .op none (some 8) (.mov (.t 14))])
  (.seq
  (.reg [.op none (some 15) (.mov (.t 1)),
    .op none (some 16) (.mov (.t 8)),
    .callv none (some 17) (.t 15) [.t 16],
    .op none (some 18) (.mov (.t 2)),
    .op none (some 19) (.eql false .bool (.t 17) (.t 18))])
  (.cond (.t 19)
    (.seq
    (.reg [.op none (some 20) (.mov (.t 7)),
      .op none (some 6) (.mov (.t 20))])
    .ret)
    .skip))))))

def F38 : AFun :=
  { n := 21, res := [.t 6], code :=
  (.seq
  (.reg [.op none (some 6) (.mov (.c (.int .i64 0)))])
  (.seq
  (.seq
  (.reg [.op none (some 9) (.mov (.t 0)),
    .op none (some 10) (.rng (.t 9))])
  (.block 0
  (.loop F38_l0)))
  (.seq
  (.reg [.op none (some 6) (.mov (.c (.int .i64 (-1))))])
  .ret))) }
theorem F38_ok : compFun Try.prog 1 Try.f38 = some F38 := by kernel_rfl

def F39_l0 : ACode :=
  (.seq
  (.seq
  (.reg [.op none (some 57) (.mov (.t 8)),
    .op none (some 58) (.mov (.t 9)),
    .op none (some 59) (.bin .lss (.t 57) (.t 58))])
  (.cond (.t 59)
    .skip
    (.exit 1)))
  (.block 2
  (.seq
  (.seq
  (.reg [.op none (some 60) (.mov (.t 0)),
    .op none (some 61) (.mov (.t 8)),
    .op none (some 62) (.ixS (.t 60) (.t 61)),
    .op none (some 63) (.mov (.t 6)),
    .op none (some 64) (.bin .neq (.t 62) (.t 63))])
  (.cond (.t 64)
    (.seq
    (.reg [.op none (some 65) (.mov (.t 0)),
      .op none (some 66) (.mov (.t 8)),
      .op none (some 67) (.bin .add (.t 66) (.c (.int .i64 1))),
      .op none (some 68) (.mov (.t 9)),
      .op none (some 69) (.slS (.t 65) (some (.t 67)) (some (.t 68))),
      .op none (some 70) (.mov (.t 6)),
      .call none (some 71) 33 [.t 69, .t 70],
      .op none (some 11) (.mov (.t 71))])
    (.seq
    (.seq
    (.reg [.op none (some 72) (.mov (.t 11)),
      .op none (some 73) (.bin .lss (.t 72) (.c (.int .i64 0)))])
    (.cond (.t 73)
      (.seq
      (.reg [.op none (some 4) (.mov (.c (.int .i64 (-1))))])
      .ret)
      .skip))
    (.reg [.op none (some 74) (.mov (.t 8)),
      .op none (some 75) (.mov (.t 11)),
      .op none (some 76) (.bin .add (.t 75) (.c (.int .i64 1))),
      .op none (some 77) (.bin .add (.t 74) (.t 76)),
      .op none (some 8) (.mov (.t 77))])))
    .skip))
  (.seq
  (.seq
  (.reg [.op none (some 78) (.mov (.t 0)),
    .op none (some 79) (.mov (.t 8)),
    .op none (some 80) (.bin .add (.t 79) (.c (.int .i64 1))),
    .op none (some 81) (.ixS (.t 78) (.t 80)),
    .op none (some 82) (.mov (.t 7)),
    .op none (some 83) (.bin .eql (.t 81) (.t 82)),
    .op none (some 84) (.mov (.t 83)),
    .op (some (84, true)) (some 85) (.mov (.t 0)),
    .op (some (84, true)) (some 86) (.mov (.t 8)),
    .op (some (84, true)) (some 87) (.mov (.t 8)),
    .op (some (84, true)) (some 88) (.mov (.t 5)),
    .op (some (84, true)) (some 89) (.bin .add (.t 87) (.t 88)),
    .op (some (84, true)) (some 90) (.slS (.t 85) (some (.t 86)) (some (.t 89))),
    .op (some (84, true)) (some 91) (.mov (.t 1)),
    .op (some (84, true)) (some 92) (.bin .eql (.t 90) (.t 91)),
    .op none (some 93) (.pick (.t 84) (.t 92) (.c (.bool false)))])
  (.cond (.t 93)
    (.seq
    (.reg [.op none (some 94) (.mov (.t 8)),
      .op none (some 4) (.mov (.t 94))])
    .ret)
    .skip))
  (.seq
  (.reg [.op none (some 95) (.mov (.t 8)),
    .op none (some 96) (.bin .add (.t 95) (.c (.int .i64 1))),
    .op none (some 8) (.mov (.t 96))])
  (.seq
  (.reg [.op none (some 97) (.mov (.t 10)),
    .op none (some 98) (.bin .add (.t 97) (.c (.int .i64 1))),
    .op none (some 10) (.mov (.t 98))])
  (.seq
  (.reg [.op none (some 99) (.mov (.t 5)),
    .op none (some 100) (.ld1 (.c (.pointer (some ({ block := 0, off := 0 }))))),
    .op none (some 101) (.bin .leq (.t 99) (.t 100)),
    .op none (some 102) (.mov (.t 101)),
    .op (some (102, true)) (some 103) (.mov (.t 10)),
    .op (some (102, true)) (some 104) (.mov (.t 8)),
    .call (some (102, true)) (some 105) 41 [.t 104],
    .op (some (102, true)) (some 106) (.bin .gtr (.t 103) (.t 105)),
    .op none (some 107) (.pick (.t 102) (.t 106) (.c (.bool false)))])
  (.cond (.t 107)
    (.seq
    (.reg [.op none (some 108) (.mov (.t 0)),
      .op none (some 109) (.mov (.t 8)),
      .op none (some 110) (.slS (.t 108) (some (.t 109)) none),
      .op none (some 111) (.mov (.t 1)),
      .call none (some 112) 40 [.t 110, .t 111],
      .op none (some 12) (.mov (.t 112))])
    (.seq
    (.seq
    (.reg [.op none (some 113) (.mov (.t 12)),
      .op none (some 114) (.bin .geq (.t 113) (.c (.int .i64 0)))])
    (.cond (.t 114)
      (.seq
      (.reg [.op none (some 115) (.mov (.t 12)),
        .op none (some 116) (.mov (.t 8)),
        .op none (some 117) (.bin .add (.t 115) (.t 116)),
        .op none (some 4) (.mov (.t 117))])
      .ret)
      .skip))
    (.seq
    (.reg [.op none (some 4) (.mov (.c (.int .i64 (-1))))])
    .ret)))
    (.seq
    (.reg [.op none (some 118) (.mov (.t 5)),
      .op none (some 119) (.ld1 (.c (.pointer (some ({ block := 0, off := 0 }))))),
      .op none (some 120) (.bin .gtr (.t 118) (.t 119)),
      .op none (some 121) (.mov (.t 120)),
      .op (some (121, true)) (some 122) (.mov (.t 10)),
      .op (some (121, true)) (some 123) (.mov (.t 8)),
      .op (some (121, true)) (some 124) (.bin .shr (.t 123) (.c (.int .u64 4))),
      .op (some (121, true)) (some 125) (.bin .add (.c (.int .i64 4)) (.t 124)),
      .op (some (121, true)) (some 126) (.bin .geq (.t 122) (.t 125)),
      .op none (some 127) (.pick (.t 121) (.t 126) (.c (.bool false))),
      .op none (some 128) (.mov (.t 127)),
      .op (some (128, true)) (some 129) (.mov (.t 8)),
      .op (some (128, true)) (some 130) (.mov (.t 9)),
      .op (some (128, true)) (some 131) (.bin .lss (.t 129) (.t 130)),
      .op none (some 132) (.pick (.t 128) (.t 131) (.c (.bool false)))])
    (.cond (.t 132)
      (.seq
      (.reg [.op none (some 133) (.mov (.t 0)),
        .op none (some 134) (.mov (.t 8)),
        .op none (some 135) (.slS (.t 133) (some (.t 134)) none),
        .op none (some 136) (.mov (.t 1)),
        .call none (some 137) 42 [.t 135, .t 136],
        .op none (some 13) (.mov (.t 137))])
      (.seq
      (.seq
      (.reg [.op none (some 138) (.mov (.t 13)),
        .op none (some 139) (.bin .lss (.t 138) (.c (.int .i64 0)))])
      (.cond (.t 139)
        (.seq
        (.reg [.op none (some 4) (.mov (.c (.int .i64 (-1))))])
        .ret)
        .skip))
      (.seq
      (.reg [.op none (some 140) (.mov (.t 8)),
        .op none (some 141) (.mov (.t 13)),
        .op none (some 142) (.bin .add (.t 140) (.t 141)),
        .op none (some 4) (.mov (.t 142))])
      .ret)))
      .skip))))))))))

def F39 : AFun :=
  { n := 143, res := [.t 4], code :=
  (.seq
  (.reg [.op none (some 4) (.mov (.c (.int .i64 0)))])
  (.seq
  (.reg [.op none (some 14) (.mov (.t 1)),
    .op none (some 15) (.lenS (.t 14)),
    .op none (some 5) (.mov (.t 15))])
  (.seq
  (.block 0
  (.seq
  (.reg [.op none (some 17) (.mov (.t 5)),
    .op none (some 18) (.bin .eql (.t 17) (.c (.int .i64 0))),
    .op none (some 19) (.mov (.t 18)),
    .op (some (19, false)) (some 20) (.mov (.t 1)),
    .op (some (19, false)) (some 21) (.mov (.t 0)),
    .op (some (19, false)) (some 22) (.bin .eql (.t 20) (.t 21)),
    .op none (some 23) (.pick (.t 19) (.c (.bool true)) (.t 22)),
    .op none (some 16) (.mov (.t 23))])
  (.cond (.t 16)
    (.seq
    (.reg [.op none (some 4) (.mov (.c (.int .i64 0)))])
    .ret)
    (.seq
    (.reg [.op none (some 25) (.mov (.t 5)),
      .op none (some 26) (.bin .eql (.t 25) (.c (.int .i64 1))),
      .op none (some 24) (.mov (.t 26))])
    (.cond (.t 24)
      (.seq
      (.reg [.op none (some 27) (.mov (.t 0)),
        .op none (some 28) (.mov (.t 1)),
        .op none (some 29) (.ixS (.t 28) (.c (.int .i64 0))),
        .call none (some 30) 33 [.t 27, .t 29],
        .op none (some 4) (.mov (.t 30))])
      .ret)
      (.seq
      (.reg [.op none (some 32) (.mov (.t 5)),
        .op none (some 33) (.mov (.t 0)),
        .op none (some 34) (.lenS (.t 33)),
        .op none (some 35) (.bin .geq (.t 32) (.t 34)),
        .op none (some 31) (.mov (.t 35))])
      (.cond (.t 31)
        (.seq
        (.reg [.op none (some 4) (.mov (.c (.int .i64 (-1))))])
        .ret)
        (.seq
        (.reg [.op none (some 37) (.mov (.t 5)),
          .op none (some 38) (.ld1 (.c (.pointer (some ({ block := 0, off := 0 }))))),
          .op none (some 39) (.bin .leq (.t 37) (.t 38)),
          .op none (some 40) (.mov (.t 39)),
          .op (some (40, true)) (some 41) (.mov (.t 0)),
          .op (some (40, true)) (some 42) (.lenS (.t 41)),
          .op (some (40, true)) (some 43) (.bin .leq (.t 42) (.c (.int .i64 64))),
          .op none (some 44) (.pick (.t 40) (.t 43) (.c (.bool false))),
          .op none (some 36) (.mov (.t 44))])
        (.cond (.t 36)
          (.seq
          (.reg [.op none (some 45) (.mov (.t 0)),
            .op none (some 46) (.mov (.t 1)),
            .call none (some 47) 40 [.t 45, .t 46],
            .op none (some 4) (.mov (.t 47))])
          .ret)
          .skip)))))))))
  (.seq
  (.reg [.op none (some 48) (.mov (.t 1)),
    .op none (some 49) (.ixS (.t 48) (.c (.int .i64 0))),
    .op none (some 6) (.mov (.t 49))])
  (.seq
  (.reg [.op none (some 50) (.mov (.t 1)),
    .op none (some 51) (.ixS (.t 50) (.c (.int .i64 1))),
    .op none (some 7) (.mov (.t 51))])
  (.seq
  (.reg [.op none (some 8) (.mov (.c (.int .i64 0)))])
  (.seq
  (.reg [.op none (some 52) (.mov (.t 0)),
    .op none (some 53) (.lenS (.t 52)),
    .op none (some 54) (.mov (.t 5)),
    .op none (some 55) (.bin .sub (.t 53) (.t 54)),
    .op none (some 56) (.bin .add (.t 55) (.c (.int .i64 1))),
    .op none (some 9) (.mov (.t 56))])
  (.seq
  (.reg [.op none (some 10) (.mov (.c (.int .i64 0)))])
  (.seq
  (.block 1
  (.loop F39_l0))
  (.seq
  (.reg [.op none (some 4) (.mov (.c (.int .i64 (-1))))])
  .ret)))))))))) }
theorem F39_ok : compFun Try.prog 1 Try.f39 = some F39 := by kernel_rfl

end Go.Proofs.Ytidngakhkpodgaa
