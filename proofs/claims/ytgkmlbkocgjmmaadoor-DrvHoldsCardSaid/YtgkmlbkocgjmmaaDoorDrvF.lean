/-
  Functions of the program, compiled for the abstract machine: printed by a program of ours (gen.py).
-/
import Derived.Test.YtgkmlbkocgjmmaaDoorA3
import Derived.Test.YtgkmlbkocgjmmaaDoorProg
import Derived.KernelRfl
set_option linter.unusedVariables false
set_option linter.unusedSimpArgs false
set_option linter.unnecessarySimpa false
namespace Go.Proofs.YtgkmlbkocgjmmaaDoor
open Go Go.AM
set_option maxRecDepth 100000

def F11 : AFun :=
  { n := 124, res := [.t 0], code :=
  (.seq
  (.reg [.op none (some 0) (.mov (.c (.bool false)))])
  (.seq
  (.reg [.op none (some 17) (.bldSl 9 4 [.string (⟨#[]⟩), .string (⟨#[]⟩), .string (⟨#[]⟩), .string (⟨#[]⟩)] [(0, 1, .c (.string (⟨#[97]⟩))), (1, 1, .c (.string (⟨#[98]⟩))), (2, 1, .c (.string (⟨#[99]⟩))), (3, 1, .c (.string (⟨#[100]⟩)))]),
    .op none (some 1) (.mov (.t 17))])
  (.seq
  (.reg [.op none (some 18) (.bldSl 9 2 [.string (⟨#[]⟩), .string (⟨#[]⟩)] [(0, 1, .c (.string (⟨#[98]⟩))), (1, 1, .c (.string (⟨#[99]⟩)))]),
    .op none (some 19) (.bldSl 9 1 [.string (⟨#[]⟩)] [(0, 1, .c (.string (⟨#[99]⟩)))]),
    .op none (some 20) (.bldSl 9 1 [.string (⟨#[]⟩)] [(0, 1, .c (.string (⟨#[100]⟩)))]),
    .op none (some 21) (.bldSl 22 4 [.slice none 0 0, .slice none 0 0, .slice none 0 0, .slice none 0 0] [(0, 1, .t 18), (1, 1, .t 19), (2, 1, .c (.slice none 0 0)), (3, 1, .t 20)]),
    .op none (some 2) (.mov (.t 21))])
  (.seq
  (.reg [.op none (some 23) (.mov (.t 1)),
    .op none (some 24) (.mov (.t 2)),
    .call none (some 25) 22 [.t 23, .t 24],
    .op none (some 22) (.mov (.t 25)),
    .op none (some 26) (.ext 0 (.t 22)),
    .op none (some 27) (.ext 1 (.t 22)),
    .op none (some 3) (.mov (.t 26)),
    .op none (some 4) (.mov (.t 27))])
  (.seq
  (.reg [.op none (some 29) (.mov (.t 1)),
    .op none (some 30) (.slV 1 (.t 29) none (some (.c (.int .i64 3))) none),
    .op none (some 31) (.mov (.t 2)),
    .call none (some 32) 22 [.t 30, .t 31],
    .op none (some 28) (.mov (.t 32)),
    .op none (some 33) (.ext 0 (.t 28)),
    .op none (some 34) (.ext 1 (.t 28)),
    .op none (some 5) (.mov (.t 33)),
    .op none (some 6) (.mov (.t 34))])
  (.seq
  (.reg [.op none (some 36) (.mov (.t 1)),
    .op none (some 37) (.mov (.t 2)),
    .op none (some 38) (.bldSl 9 1 [.string (⟨#[]⟩)] [(0, 1, .c (.string (⟨#[98]⟩)))]),
    .call none (some 39) 26 [.t 36, .t 37, .t 38],
    .op none (some 35) (.mov (.t 39)),
    .op none (some 40) (.ext 0 (.t 35)),
    .op none (some 41) (.ext 1 (.t 35)),
    .op none (some 7) (.mov (.t 40)),
    .op none (some 8) (.mov (.t 41))])
  (.seq
  (.reg [.op none (some 43) (.mov (.t 1)),
    .op none (some 44) (.mov (.t 2)),
    .op none (some 45) (.bldSl 9 2 [.string (⟨#[]⟩), .string (⟨#[]⟩)] [(0, 1, .c (.string (⟨#[100]⟩))), (1, 1, .c (.string (⟨#[120]⟩)))]),
    .call none (some 46) 26 [.t 43, .t 44, .t 45],
    .op none (some 42) (.mov (.t 46)),
    .op none (some 47) (.ext 0 (.t 42)),
    .op none (some 48) (.ext 1 (.t 42)),
    .op none (some 9) (.mov (.t 47)),
    .op none (some 10) (.mov (.t 48))])
  (.seq
  (.reg [.op none (some 50) (.bld [.string (⟨#[]⟩), .slice none 0 0, .string (⟨#[]⟩)] [(0, 1, .c (.string (⟨#[120]⟩)))]),
    .call none (some 51) 12 [.t 50],
    .op none (some 49) (.mov (.t 51)),
    .op none (some 52) (.ext 0 (.t 49)),
    .op none (some 53) (.ext 1 (.t 49)),
    .op none (some 11) (.mov (.t 52)),
    .op none (some 12) (.mov (.t 53))])
  (.seq
  (.reg [.op none (some 55) (.mov (.t 11)),
    .call none (some 56) 18 [.t 55],
    .op none (some 54) (.mov (.t 56)),
    .op none (some 57) (.ext 0 (.t 54)),
    .op none (some 58) (.ext 1 (.t 54)),
    .op none (some 13) (.new 24 [.string (⟨#[]⟩), .slice none 0 0, .string (⟨#[]⟩)]),
    .op none none (.st 3 (.t 13) (.t 57)),
    .op none (some 14) (.mov (.t 58))])
  (.seq
  (.reg [.op none (some 60) (.ldn 3 (.t 13)),
    .call none (some 61) 14 [.t 60],
    .op none (some 59) (.mov (.t 61)),
    .op none (some 62) (.ext 0 (.t 59)),
    .op none (some 63) (.ext 1 (.t 59)),
    .op none (some 15) (.mov (.t 62)),
    .op none (some 16) (.mov (.t 63))])
  (.seq
  (.reg [.op none (some 64) (.mov (.t 4)),
    .op none (some 65) (.bin .eql (.t 64) (.c (.int .i64 240))),
    .op none (some 66) (.mov (.t 65)),
    .op (some (66, true)) (some 67) (.mov (.t 6)),
    .op (some (66, true)) (some 68) (.bin .eql (.t 67) (.c (.int .i64 0))),
    .op none (some 69) (.pick (.t 66) (.t 68) (.c (.bool false))),
    .op none (some 70) (.mov (.t 69)),
    .op (some (70, true)) (some 71) (.mov (.t 5)),
    .op (some (70, true)) (some 72) (.bldSl 3 3 [.int .i64 0, .int .i64 0, .int .i64 0] [(0, 1, .c (.int .i64 2)), (1, 1, .c (.int .i64 1)), (2, 1, .c (.int .i64 0))]),
    .call (some (70, true)) (some 73) 24 [.t 71, .t 72],
    .op none (some 74) (.pick (.t 70) (.t 73) (.c (.bool false))),
    .op none (some 75) (.mov (.t 74)),
    .op (some (75, true)) (some 76) (.mov (.t 8)),
    .op (some (75, true)) (some 77) (.bin .eql (.t 76) (.c (.int .i64 0))),
    .op none (some 78) (.pick (.t 75) (.t 77) (.c (.bool false))),
    .op none (some 79) (.mov (.t 78)),
    .op (some (79, true)) (some 80) (.mov (.t 7)),
    .op (some (79, true)) (some 81) (.bldSl 3 2 [.int .i64 0, .int .i64 0] [(0, 1, .c (.int .i64 1)), (1, 1, .c (.int .i64 2))]),
    .call (some (79, true)) (some 82) 24 [.t 80, .t 81],
    .op none (some 83) (.pick (.t 79) (.t 82) (.c (.bool false))),
    .op none (some 84) (.mov (.t 83)),
    .op (some (84, true)) (some 85) (.mov (.t 10)),
    .op (some (84, true)) (some 86) (.bin .eql (.t 85) (.c (.int .i64 0))),
    .op none (some 87) (.pick (.t 84) (.t 86) (.c (.bool false))),
    .op none (some 88) (.mov (.t 87)),
    .op (some (88, true)) (some 89) (.mov (.t 9)),
    .op (some (88, true)) (some 90) (.bldSl 3 1 [.int .i64 0] [(0, 1, .c (.int .i64 3))]),
    .call (some (88, true)) (some 91) 24 [.t 89, .t 90],
    .op none (some 92) (.pick (.t 88) (.t 91) (.c (.bool false))),
    .op none (some 93) (.mov (.t 92)),
    .op (some (93, true)) (some 94) (.mov (.t 12)),
    .op (some (93, true)) (some 95) (.bin .eql (.t 94) (.c (.int .i64 0))),
    .op none (some 96) (.pick (.t 93) (.t 95) (.c (.bool false))),
    .op none (some 97) (.mov (.t 96)),
    .op (some (97, true)) (some 98) (.mov (.t 11)),
    .op (some (97, true)) (some 99) (.b2s (.t 98)),
    .op (some (97, true)) (some 100) (.bin .eql (.t 99) (.c (.string (⟨#[68, 82, 86, 49, 0, 0, 0, 1, 120, 0, 0, 0, 0, 0, 0]⟩)))),
    .op none (some 101) (.pick (.t 97) (.t 100) (.c (.bool false))),
    .op none (some 102) (.mov (.t 101)),
    .op (some (102, true)) (some 103) (.mov (.t 14)),
    .op (some (102, true)) (some 104) (.bin .eql (.t 103) (.c (.int .i64 0))),
    .op none (some 105) (.pick (.t 102) (.t 104) (.c (.bool false))),
    .op none (some 106) (.mov (.t 105)),
    .op (some (106, true)) (some 107) (.fad 0 (.t 13)),
    .op (some (106, true)) (some 108) (.ld1 (.t 107)),
    .op (some (106, true)) (some 109) (.bin .eql (.t 108) (.c (.string (⟨#[120]⟩)))),
    .op none (some 110) (.pick (.t 106) (.t 109) (.c (.bool false))),
    .op none (some 111) (.mov (.t 110)),
    .op (some (111, true)) (some 112) (.mov (.t 16)),
    .op (some (111, true)) (some 113) (.bin .eql (.t 112) (.c (.int .i64 0))),
    .op none (some 114) (.pick (.t 111) (.t 113) (.c (.bool false))),
    .op none (some 115) (.mov (.t 114)),
    .op (some (115, true)) (some 116) (.mov (.t 15)),
    .op (some (115, true)) (some 117) (.lenS (.t 116)),
    .op (some (115, true)) (some 118) (.bin .eql (.t 117) (.c (.int .i64 38))),
    .op none (some 119) (.pick (.t 115) (.t 118) (.c (.bool false))),
    .op none (some 120) (.mov (.t 119)),
    .op (some (120, true)) (some 121) (.ldn 3 (.t 13)),
    .call (some (120, true)) (some 122) 16 [.t 121],
    .op none (some 123) (.pick (.t 120) (.t 122) (.c (.bool false))),
    .op none (some 0) (.mov (.t 123))])
  .ret))))))))))) }
theorem F11_ok : compFun Tryd.prog 3 Tryd.f11 = some F11 := by kernel_rfl

def F12_l0 : ACode :=
  (.seq
  (.reg [.op none (some 29) (.bin .lss (.t 28) (.t 27))])
  (.seq
  (.cond (.t 29)
    .skip
    (.exit 0))
  (.seq
  (.block 1
  (.seq
  (.reg [.op none (some 30) (.iadV 1 (.t 26) (.t 28)),
    .op none (some 31) (.ld1 (.t 30)),
    .op none (some 8) (.mov (.t 31))])
  (.reg [.op none (some 32) (.mov (.t 6)),
    .op none (some 33) (.mov (.t 8)),
    .callv none (some 34) (.t 32) [.t 33]])))
  (.reg [.op none (some 35) (.bin .add (.t 28) (.c (.int .i64 1))),
    .op none (some 28) (.mov (.t 35))]))))

def F12 : AFun :=
  { n := 41, res := [.t 2, .t 3], code :=
  (.seq
  (.reg [.op none (some 1) (.box 24 (.t 0)),
    .op none (some 2) (.mov (.c (.slice none 0 0))),
    .op none (some 3) (.mov (.c (.int .i64 0)))])
  (.seq
  (.seq
  (.reg [.op none (some 9) (.ldn 3 (.t 1)),
    .call none (some 10) 16 [.t 9],
    .op none (some 11) (.un .not (.t 10))])
  (.cond (.t 11)
    (.seq
    (.reg [.op none (some 2) (.mov (.c (.slice none 0 0))),
      .op none (some 3) (.mov (.c (.int .i64 2)))])
    .ret)
    .skip))
  (.seq
  (.reg [.op none (some 12) (.bldSl 5 4 [.int .u8 0, .int .u8 0, .int .u8 0, .int .u8 0] [(0, 1, .c (.int .u8 68)), (1, 1, .c (.int .u8 82)), (2, 1, .c (.int .u8 86)), (3, 1, .c (.int .u8 49))]),
    .op none (some 13) (.s2s (.t 12)),
    .op none (some 4) (.new 27 [.slice none 0 0]),
    .op none none (.st 1 (.t 4) (.t 13))])
  (.seq
  (.reg [.op none (some 14) (.mkF 31 [] [.t 4]),
    .op none (some 5) (.new 54 [.nilFunc]),
    .op none none (.st 1 (.t 5) (.t 14))])
  (.seq
  (.reg [.op none (some 15) (.mkF 32 [] [.t 5, .t 4]),
    .op none (some 6) (.mov (.t 15))])
  (.seq
  (.reg [.op none (some 16) (.mov (.t 6)),
    .op none (some 17) (.fad 0 (.t 1)),
    .op none (some 18) (.ld1 (.t 17)),
    .callv none (some 19) (.t 16) [.t 18]])
  (.seq
  (.reg [.op none (some 20) (.ld1 (.t 5)),
    .op none (some 21) (.fad 1 (.t 1)),
    .op none (some 22) (.ld1 (.t 21)),
    .op none (some 23) (.lenV (.t 22)),
    .callv none (some 24) (.t 20) [.t 23, .c (.int .i64 2)]])
  (.seq
  (.seq
  (.reg [.op none (some 25) (.fad 1 (.t 1)),
    .op none (some 26) (.ld1 (.t 25)),
    .op none (some 27) (.lenV (.t 26)),
    .op none (some 28) (.mov (.c (.int .i64 0)))])
  (.block 0
  (.loop F12_l0)))
  (.seq
  (.reg [.op none (some 36) (.mov (.t 6)),
    .op none (some 37) (.fad 2 (.t 1)),
    .op none (some 38) (.ld1 (.t 37)),
    .callv none (some 39) (.t 36) [.t 38]])
  (.seq
  (.reg [.op none (some 40) (.ld1 (.t 4)),
    .op none (some 2) (.mov (.t 40)),
    .op none (some 3) (.mov (.c (.int .i64 0)))])
  .ret)))))))))) }
theorem F12_ok : compFun Tryd.prog 3 Tryd.f12 = some F12 := by kernel_rfl

def F14 : AFun :=
  { n := 22, res := [.t 2, .t 3], code :=
  (.seq
  (.reg [.op none (some 1) (.box 24 (.t 0)),
    .op none (some 2) (.mov (.c (.string (⟨#[]⟩)))),
    .op none (some 3) (.mov (.c (.int .i64 0)))])
  (.seq
  (.reg [.op none (some 7) (.ldn 3 (.t 1)),
    .call none (some 8) 12 [.t 7],
    .op none (some 6) (.mov (.t 8)),
    .op none (some 9) (.ext 0 (.t 6)),
    .op none (some 10) (.ext 1 (.t 6)),
    .op none (some 4) (.mov (.t 9)),
    .op none (some 5) (.mov (.t 10))])
  (.seq
  (.seq
  (.reg [.op none (some 11) (.mov (.t 5)),
    .op none (some 12) (.bin .neq (.t 11) (.c (.int .i64 0)))])
  (.cond (.t 12)
    (.seq
    (.reg [.op none (some 13) (.mov (.t 5)),
      .op none (some 2) (.mov (.c (.string (⟨#[]⟩)))),
      .op none (some 3) (.mov (.t 13))])
    .ret)
    .skip))
  (.seq
  (.draw [.f (.op none (some 14) (.mov (.t 4))),
    .f (.op none (some 16) (.fad 0 (.t 1))),
    .f (.op none (some 17) (.ld1 (.t 16))),
    .f (.op none (some 18) (.bin .add (.t 17) (.c (.string (⟨#[46, 100, 114, 118]⟩))))),
    .b (.call none (some 15) 35 [.t 14]) [.op none (some 17) (.ld1 (.t 16))],
    .b (.call none (some 19) 34 [.t 15, .t 18]) [],
    .f (.op none (some 20) (.ext 0 (.t 19))),
    .f (.op none (some 21) (.ext 1 (.t 19))),
    .f (.op none (some 2) (.mov (.t 20))),
    .f (.op none (some 3) (.mov (.t 21)))])
  .ret)))) }
theorem F14_ok : compFun Tryd.prog 3 Tryd.f14 = some F14 := by kernel_rfl

def F16_l0 : ACode :=
  (.seq
  (.reg [.op none (some 35) (.bin .lss (.t 34) (.t 33))])
  (.seq
  (.cond (.t 35)
    .skip
    (.exit 0))
  (.seq
  (.block 1
  (.seq
  (.reg [.op none (some 36) (.mov (.t 34)),
    .op none (some 37) (.iadV 1 (.t 32) (.t 34)),
    .op none (some 38) (.ld1 (.t 37)),
    .op none (some 3) (.mov (.t 36)),
    .op none (some 4) (.mov (.t 38))])
  (.seq
  (.reg [.op none (some 40) (.mov (.t 4)),
    .call none (some 41) 39 [.t 40],
    .op none (some 39) (.mov (.t 41)),
    .op none (some 42) (.ext 0 (.t 39)),
    .op none (some 43) (.ext 1 (.t 39)),
    .op none (some 44) (.ext 2 (.t 39)),
    .op none (some 5) (.mov (.t 42)),
    .op none (some 6) (.mov (.t 43)),
    .op none (some 7) (.mov (.t 44))])
  (.seq
  (.reg [.op none (some 45) (.mov (.t 7)),
    .op none (some 46) (.bin .neq (.t 45) (.c (.int .i64 0))),
    .op none (some 47) (.mov (.t 46)),
    .op (some (47, false)) (some 48) (.mov (.t 3)),
    .op (some (47, false)) (some 49) (.bin .gtr (.t 48) (.c (.int .i64 0))),
    .op (some (47, false)) (some 50) (.mov (.t 49)),
    .op (some (50, true)) (some 51) (.mov (.t 4)),
    .op (some (50, true)) (some 52) (.fad 1 (.t 1)),
    .op (some (50, true)) (some 53) (.ld1 (.t 52)),
    .op (some (50, true)) (some 54) (.mov (.t 3)),
    .op (some (50, true)) (some 55) (.bin .sub (.t 54) (.c (.int .i64 1))),
    .op (some (50, true)) (some 56) (.iadV 1 (.t 53) (.t 55)),
    .op (some (50, true)) (some 57) (.ld1 (.t 56)),
    .op (some (50, true)) (some 58) (.bin .leq (.t 51) (.t 57)),
    .op (some (47, false)) (some 59) (.pick (.t 50) (.t 58) (.c (.bool false))),
    .op none (some 60) (.pick (.t 47) (.c (.bool true)) (.t 59))])
  (.cond (.t 60)
    (.seq
    (.reg [.op none (some 2) (.mov (.c (.bool false)))])
    .ret)
    .skip)))))
  (.reg [.op none (some 61) (.bin .add (.t 34) (.c (.int .i64 1))),
    .op none (some 34) (.mov (.t 61))]))))

def F16 : AFun :=
  { n := 62, res := [.t 2], code :=
  (.seq
  (.reg [.op none (some 1) (.box 24 (.t 0)),
    .op none (some 2) (.mov (.c (.bool false)))])
  (.seq
  (.seq
  (.reg [.op none (some 8) (.fad 0 (.t 1)),
    .op none (some 9) (.ld1 (.t 8)),
    .call none (some 10) 38 [.t 9],
    .op none (some 11) (.un .not (.t 10)),
    .op none (some 12) (.mov (.t 11)),
    .op (some (12, false)) (some 13) (.fad 0 (.t 1)),
    .op (some (12, false)) (some 14) (.ld1 (.t 13)),
    .op (some (12, false)) (some 15) (.lenS (.t 14)),
    .op (some (12, false)) (some 16) (.bin .add (.t 15) (.c (.int .i64 4))),
    .op (some (12, false)) (some 17) (.bin .gtr (.t 16) (.c (.int .i64 64))),
    .op none (some 18) (.pick (.t 12) (.c (.bool true)) (.t 17)),
    .op none (some 19) (.mov (.t 18)),
    .op (some (19, false)) (some 20) (.fad 1 (.t 1)),
    .op (some (19, false)) (some 21) (.ld1 (.t 20)),
    .op (some (19, false)) (some 22) (.lenV (.t 21)),
    .op (some (19, false)) (some 23) (.bin .gtr (.t 22) (.c (.int .i64 64))),
    .op none (some 24) (.pick (.t 19) (.c (.bool true)) (.t 23)),
    .op none (some 25) (.mov (.t 24)),
    .op (some (25, false)) (some 26) (.fad 2 (.t 1)),
    .op (some (25, false)) (some 27) (.ld1 (.t 26)),
    .op (some (25, false)) (some 28) (.lenS (.t 27)),
    .op (some (25, false)) (some 29) (.bin .gtr (.t 28) (.c (.int .i64 262144))),
    .op none (some 30) (.pick (.t 25) (.c (.bool true)) (.t 29))])
  (.cond (.t 30)
    (.seq
    (.reg [.op none (some 2) (.mov (.c (.bool false)))])
    .ret)
    .skip))
  (.seq
  (.seq
  (.reg [.op none (some 31) (.fad 1 (.t 1)),
    .op none (some 32) (.ld1 (.t 31)),
    .op none (some 33) (.lenV (.t 32)),
    .op none (some 34) (.mov (.c (.int .i64 0)))])
  (.block 0
  (.loop F16_l0)))
  (.seq
  (.reg [.op none (some 2) (.mov (.c (.bool true)))])
  .ret)))) }
theorem F16_ok : compFun Tryd.prog 3 Tryd.f16 = some F16 := by kernel_rfl

def F18_l1 : ACode :=
  (.seq
  (.seq
  (.reg [.op none (some 26) (.mov (.t 8)),
    .op none (some 27) (.bin .gtr (.t 26) (.c (.int .i64 0))),
    .op none (some 28) (.mov (.t 27)),
    .op (some (28, true)) (some 29) (.mov (.t 5)),
    .op (some (28, true)) (some 30) (.nchk (.t 29)),
    .op (some (28, true)) (some 31) (.fad 1 (.t 30)),
    .op (some (28, true)) (some 32) (.ld1 (.t 31)),
    .op (some (28, true)) (some 33) (.un .not (.t 32)),
    .op none (some 34) (.pick (.t 28) (.t 33) (.c (.bool false)))])
  (.cond (.t 34)
    .skip
    (.exit 0)))
  (.seq
  (.block 1
  (.draw [.f (.op none (some 37) (.fad 1 (.t 4))),
    .f (.op none (some 38) (.ld1 (.t 37))),
    .f (.op none (some 39) (.mov (.t 5))),
    .b (.call none (some 40) 43 [.t 39]) [.op none (some 38) (.ld1 (.t 37))],
    .b (.op none (some 41) (.bldSl 9 1 [.string (⟨#[]⟩)] [(0, 1, .t 40)])) [.op none (some 38) (.ld1 (.t 37))],
    .b (.op none (some 42) (.app 9 1 16 [.string (⟨#[]⟩)] (.t 38) (.t 41))) [],
    .f (.op none (some 43) (.fad 1 (.t 4))),
    .b (.op none none (.st 1 (.t 43) (.t 42))) []]))
  (.reg [.op none (some 35) (.mov (.t 8)),
    .op none (some 36) (.bin .sub (.t 35) (.c (.int .i64 1))),
    .op none (some 8) (.mov (.t 36))])))

def F18_c0 : ACode :=
  (.seq
  (.reg [.op none (some 4) (.new 24 [.string (⟨#[]⟩), .slice none 0 0, .string (⟨#[]⟩)])])
  (.seq
  (.reg [.op none (some 5) (.mov (.c (.pointer none)))])
  (.seq
  (.reg [.op none (some 10) (.mov (.t 0)),
    .op none (some 11) (.bldSl 5 4 [.int .u8 0, .int .u8 0, .int .u8 0, .int .u8 0] [(0, 1, .c (.int .u8 68)), (1, 1, .c (.int .u8 82)), (2, 1, .c (.int .u8 86)), (3, 1, .c (.int .u8 49))]),
    .op none (some 12) (.s2s (.t 11)),
    .call none (some 13) 42 [.t 10, .t 12],
    .op none (some 9) (.mov (.t 13)),
    .op none (some 14) (.ext 0 (.t 9)),
    .op none (some 15) (.ext 1 (.t 9)),
    .op none (some 6) (.mov (.t 14)),
    .op none (some 7) (.mov (.t 15))])
  (.seq
  (.seq
  (.reg [.op none (some 16) (.mov (.t 7)),
    .op none (some 17) (.un .not (.t 16))])
  (.cond (.t 17)
    (.goto 0)
    .skip))
  (.seq
  (.reg [.op none (some 18) (.mov (.t 6)),
    .op none (some 19) (.bld [.slice none 0 0, .bool false] [(0, 1, .t 18)]),
    .op none (some 20) (.box 66 (.t 19)),
    .op none (some 5) (.mov (.t 20))])
  (.seq
  (.reg [.op none (some 21) (.mov (.t 5)),
    .call none (some 22) 43 [.t 21],
    .op none (some 23) (.fad 0 (.t 4)),
    .op none none (.st 1 (.t 23) (.t 22))])
  (.seq
  (.seq
  (.reg [.op none (some 24) (.mov (.t 5)),
    .call none (some 25) 44 [.t 24, .c (.int .i64 2)],
    .op none (some 8) (.mov (.t 25))])
  (.block 0
  (.loop F18_l1)))
  (.seq
  (.reg [.op none (some 44) (.mov (.t 5)),
    .call none (some 45) 43 [.t 44],
    .op none (some 46) (.fad 2 (.t 4)),
    .op none none (.st 1 (.t 46) (.t 45))])
  (.seq
  (.seq
  (.reg [.op none (some 47) (.mov (.t 5)),
    .op none (some 48) (.nchk (.t 47)),
    .op none (some 49) (.fad 1 (.t 48)),
    .op none (some 50) (.ld1 (.t 49)),
    .op none (some 51) (.un .not (.t 50)),
    .op none (some 52) (.mov (.t 51)),
    .op (some (52, true)) (some 53) (.mov (.t 5)),
    .op (some (52, true)) (some 54) (.nchk (.t 53)),
    .op (some (52, true)) (some 55) (.fad 0 (.t 54)),
    .op (some (52, true)) (some 56) (.ld1 (.t 55)),
    .op (some (52, true)) (some 57) (.lenV (.t 56)),
    .op (some (52, true)) (some 58) (.bin .eql (.t 57) (.c (.int .i64 0))),
    .op none (some 59) (.pick (.t 52) (.t 58) (.c (.bool false))),
    .op none (some 60) (.mov (.t 59)),
    .op (some (60, true)) (some 61) (.ldn 3 (.t 4)),
    .call (some (60, true)) (some 62) 16 [.t 61],
    .op none (some 63) (.pick (.t 60) (.t 62) (.c (.bool false)))])
  (.cond (.t 63)
    (.seq
    (.reg [.op none (some 64) (.ldn 3 (.t 4)),
      .op none none (.st 3 (.t 2) (.t 64)),
      .op none (some 3) (.mov (.c (.int .i64 0)))])
    .ret)
    .skip))
  (.seq
  (.label 0)
  (.seq
  (.reg [.op none (some 65) (.bld [.string (⟨#[]⟩), .slice none 0 0, .string (⟨#[]⟩)] []),
    .op none none (.st 3 (.t 2) (.t 65)),
    .op none (some 3) (.mov (.c (.int .i64 150)))])
  .ret)))))))))))

def F18_r0 : ACode :=
  (.seq
  .skip
  (.seq
  (.reg [.op none (some 65) (.bld [.string (⟨#[]⟩), .slice none 0 0, .string (⟨#[]⟩)] []),
    .op none none (.st 3 (.t 2) (.t 65)),
    .op none (some 3) (.mov (.c (.int .i64 150)))])
  .ret))

def F18 : AFun :=
  { n := 66, res := [.cn 2 3, .t 3], code :=
  (.seq
  (.reg [.op none (some 2) (.new 24 [.string (⟨#[]⟩), .slice none 0 0, .string (⟨#[]⟩)]),
    .op none (some 3) (.mov (.c (.int .i64 0)))])
  (.scope 0 F18_c0 F18_r0)) }
theorem F18_ok : compFun Tryd.prog 3 Tryd.f18 = some F18 := by kernel_rfl

def F21_l0 : ACode :=
  (.seq
  (.seq
  (.reg [.op none (some 14) (.mov (.t 5)),
    .op none (some 15) (.mov (.t 1)),
    .op none (some 16) (.lenV (.t 15)),
    .op none (some 17) (.bin .lss (.t 14) (.t 16))])
  (.cond (.t 17)
    .skip
    (.exit 0)))
  (.seq
  (.block 1
  (.seq
  (.reg [.op none (some 20) (.mov (.t 1)),
    .op none (some 21) (.mov (.t 5)),
    .op none (some 22) (.iadV 1 (.t 20) (.t 21)),
    .op none (some 23) (.ld1 (.t 22)),
    .call none (some 24) 25 [.t 23, .c (.int .i64 30)],
    .op none (some 25) (.un .not (.t 24))])
  (.cond (.t 25)
    (.seq
    (.reg [.op none (some 4) (.mov (.c (.bool false)))])
    .ret)
    .skip)))
  (.reg [.op none (some 18) (.mov (.t 5)),
    .op none (some 19) (.bin .add (.t 18) (.c (.int .i64 1))),
    .op none (some 5) (.mov (.t 19))])))

def F21 : AFun :=
  { n := 26, res := [.t 4], code :=
  (.seq
  (.reg [.op none (some 4) (.mov (.c (.bool false)))])
  (.seq
  (.seq
  (.reg [.op none (some 6) (.mov (.t 0)),
    .call none (some 7) 25 [.t 6, .c (.int .i64 30)],
    .op none (some 8) (.un .not (.t 7)),
    .op none (some 9) (.mov (.t 8)),
    .op (some (9, false)) (some 10) (.mov (.t 1)),
    .op (some (9, false)) (some 11) (.lenV (.t 10)),
    .op (some (9, false)) (some 12) (.bin .gtr (.t 11) (.c (.int .i64 40))),
    .op none (some 13) (.pick (.t 9) (.c (.bool true)) (.t 12))])
  (.cond (.t 13)
    (.seq
    (.reg [.op none (some 4) (.mov (.c (.bool false)))])
    .ret)
    .skip))
  (.seq
  (.seq
  (.reg [.op none (some 5) (.mov (.c (.int .i64 0)))])
  (.block 0
  (.loop F21_l0)))
  (.seq
  (.reg [.op none (some 4) (.mov (.c (.bool true)))])
  .ret)))) }
theorem F21_ok : compFun Tryd.prog 3 Tryd.f21 = some F21 := by kernel_rfl

def F22_l1 : ACode :=
  (.seq
  (.reg [.op none (some 26) (.bin .lss (.t 25) (.t 24))])
  (.seq
  (.cond (.t 26)
    .skip
    (.exit 0))
  (.seq
  (.block 1
  (.seq
  (.reg [.op none (some 27) (.mov (.t 25)),
    .op none (some 11) (.mov (.t 27))])
  (.seq
  (.reg [.op none (some 28) (.mov (.t 10)),
    .op none (some 29) (.mov (.t 11)),
    .callv none (some 30) (.t 28) [.t 29]])
  (.cond (.t 30)
    (.seq
    (.reg [.op none (some 31) (.ld1 (.t 8)),
      .op none (some 32) (.mov (.t 11)),
      .op none (some 33) (.iadV 1 (.t 31) (.t 32)),
      .op none none (.st 1 (.t 33) (.c (.bool true)))])
    (.seq
    (.reg [.op none (some 34) (.mov (.t 9)),
      .op none (some 35) (.mov (.t 11)),
      .op none (some 36) (.bldSl 3 1 [.int .i64 0] [(0, 1, .t 35)]),
      .op none (some 37) (.app 3 1 8 [.int .i64 0] (.t 34) (.t 36)),
      .op none (some 9) (.mov (.t 37))])
    (.goto 0)))
    .skip))))
  (.reg [.op none (some 38) (.bin .add (.t 25) (.c (.int .i64 1))),
    .op none (some 25) (.mov (.t 38))]))))

def F22_l2 : ACode :=
  (.seq
  (.reg [.op none (some 26) (.bin .lss (.t 25) (.t 24))])
  (.seq
  (.cond (.t 26)
    .skip
    (.exit 0))
  (.seq
  (.block 1
  (.seq
  (.reg [.op none (some 27) (.mov (.t 25)),
    .op none (some 11) (.mov (.t 27))])
  (.seq
  (.reg [.op none (some 28) (.mov (.t 10)),
    .op none (some 29) (.mov (.t 11)),
    .callv none (some 30) (.t 28) [.t 29]])
  (.cond (.t 30)
    (.seq
    (.reg [.op none (some 31) (.ld1 (.t 8)),
      .op none (some 32) (.mov (.t 11)),
      .op none (some 33) (.iadV 1 (.t 31) (.t 32)),
      .op none none (.st 1 (.t 33) (.c (.bool true)))])
    (.seq
    (.reg [.op none (some 34) (.mov (.t 9)),
      .op none (some 35) (.mov (.t 11)),
      .op none (some 36) (.bldSl 3 1 [.int .i64 0] [(0, 1, .t 35)]),
      .op none (some 37) (.app 3 1 8 [.int .i64 0] (.t 34) (.t 36)),
      .op none (some 9) (.mov (.t 37))])
    (.goto 0)))
    .skip))))
  (.reg [.op none (some 38) (.bin .add (.t 25) (.c (.int .i64 1))),
    .op none (some 25) (.mov (.t 38))]))))

def F22_c0 : ACode :=
  (.seq
  (.reg [.op none (some 13) (.mov (.t 0)),
    .call none (some 14) 47 [.t 13],
    .op none (some 12) (.mov (.t 14)),
    .op none (some 15) (.ext 0 (.t 12)),
    .op none (some 16) (.ext 1 (.t 12)),
    .op none (some 6) (.new 72 [.map none]),
    .op none none (.st 1 (.t 6) (.t 15)),
    .op none (some 7) (.mov (.t 16))])
  (.seq
  (.seq
  (.reg [.op none (some 17) (.mov (.t 7)),
    .op none (some 18) (.un .not (.t 17))])
  (.cond (.t 18)
    (.seq
    (.reg [.op none (some 4) (.mov (.c (.slice none 0 0))),
      .op none (some 5) (.mov (.c (.int .i64 151)))])
    .ret)
    .skip))
  (.seq
  (.reg [.op none (some 19) (.mov (.t 0)),
    .op none (some 20) (.lenV (.t 19)),
    .op none (some 21) (.mkSl 4 1 [.bool false] 1 (.t 20) (.t 20)),
    .op none (some 8) (.new 75 [.slice none 0 0]),
    .op none none (.st 1 (.t 8) (.t 21))])
  (.seq
  (.reg [.op none (some 9) (.mov (.c (.slice none 0 0)))])
  (.seq
  (.reg [.op none (some 22) (.mkF 48 [] [.t 8, .t 3, .t 6]),
    .op none (some 10) (.mov (.t 22))])
  (.seq
  (.label 0)
  (.seq
  (.seq
  (.reg [.op none (some 23) (.mov (.t 0)),
    .op none (some 24) (.lenV (.t 23)),
    .op none (some 25) (.mov (.c (.int .i64 0)))])
  (.block 0
  (.loop F22_l1)))
  (.seq
  (.seq
  (.reg [.op none (some 39) (.mov (.t 9)),
    .op none (some 40) (.lenV (.t 39)),
    .op none (some 41) (.mov (.t 0)),
    .op none (some 42) (.lenV (.t 41)),
    .op none (some 43) (.bin .lss (.t 40) (.t 42))])
  (.cond (.t 43)
    (.seq
    (.reg [.op none (some 4) (.mov (.c (.slice none 0 0))),
      .op none (some 5) (.mov (.c (.int .i64 240)))])
    .ret)
    .skip))
  (.seq
  (.reg [.op none (some 44) (.mov (.t 9)),
    .op none (some 4) (.mov (.t 44)),
    .op none (some 5) (.mov (.c (.int .i64 0)))])
  .ret)))))))))

def F22_r0 : ACode :=
  (.seq
  .skip
  (.seq
  (.seq
  (.reg [.op none (some 23) (.mov (.t 0)),
    .op none (some 24) (.lenV (.t 23)),
    .op none (some 25) (.mov (.c (.int .i64 0)))])
  (.block 0
  (.loop F22_l2)))
  (.seq
  (.seq
  (.reg [.op none (some 39) (.mov (.t 9)),
    .op none (some 40) (.lenV (.t 39)),
    .op none (some 41) (.mov (.t 0)),
    .op none (some 42) (.lenV (.t 41)),
    .op none (some 43) (.bin .lss (.t 40) (.t 42))])
  (.cond (.t 43)
    (.seq
    (.reg [.op none (some 4) (.mov (.c (.slice none 0 0))),
      .op none (some 5) (.mov (.c (.int .i64 240)))])
    .ret)
    .skip))
  (.seq
  (.reg [.op none (some 44) (.mov (.t 9)),
    .op none (some 4) (.mov (.t 44)),
    .op none (some 5) (.mov (.c (.int .i64 0)))])
  .ret))))

def F22 : AFun :=
  { n := 45, res := [.t 4, .t 5], code :=
  (.seq
  (.reg [.op none (some 3) (.box 38 (.t 1)),
    .op none (some 4) (.mov (.c (.slice none 0 0))),
    .op none (some 5) (.mov (.c (.int .i64 0)))])
  (.scope 0 F22_c0 F22_r0)) }
theorem F22_ok : compFun Tryd.prog 3 Tryd.f22 = some F22 := by kernel_rfl

def F24_l0 : ACode :=
  (.seq
  (.seq
  (.reg [.op none (some 11) (.mov (.t 5)),
    .op none (some 12) (.mov (.t 0)),
    .op none (some 13) (.lenV (.t 12)),
    .op none (some 14) (.bin .lss (.t 11) (.t 13))])
  (.cond (.t 14)
    .skip
    (.exit 0)))
  (.seq
  (.block 1
  (.seq
  (.draw [.f (.op none (some 17) (.mov (.t 0))),
    .f (.op none (some 18) (.mov (.t 5))),
    .f (.op none (some 19) (.iadV 1 (.t 17) (.t 18))),
    .f (.op none (some 20) (.ld1 (.t 19))),
    .f (.op none (some 21) (.mov (.t 1))),
    .f (.op none (some 22) (.mov (.t 5))),
    .f (.op none (some 23) (.iadV 1 (.t 21) (.t 22))),
    .f (.op none (some 24) (.ld1 (.t 23))),
    .f (.op none (some 25) (.bin .neq (.t 20) (.t 24)))])
  (.cond (.t 25)
    (.seq
    (.reg [.op none (some 4) (.mov (.c (.bool false)))])
    .ret)
    .skip)))
  (.reg [.op none (some 15) (.mov (.t 5)),
    .op none (some 16) (.bin .add (.t 15) (.c (.int .i64 1))),
    .op none (some 5) (.mov (.t 16))])))

def F24 : AFun :=
  { n := 26, res := [.t 4], code :=
  (.seq
  (.reg [.op none (some 4) (.mov (.c (.bool false)))])
  (.seq
  (.seq
  (.reg [.op none (some 6) (.mov (.t 0)),
    .op none (some 7) (.lenV (.t 6)),
    .op none (some 8) (.mov (.t 1)),
    .op none (some 9) (.lenV (.t 8)),
    .op none (some 10) (.bin .neq (.t 7) (.t 9))])
  (.cond (.t 10)
    (.seq
    (.reg [.op none (some 4) (.mov (.c (.bool false)))])
    .ret)
    .skip))
  (.seq
  (.seq
  (.reg [.op none (some 5) (.mov (.c (.int .i64 0)))])
  (.block 0
  (.loop F24_l0)))
  (.seq
  (.reg [.op none (some 4) (.mov (.c (.bool true)))])
  .ret)))) }
theorem F24_ok : compFun Tryd.prog 3 Tryd.f24 = some F24 := by kernel_rfl

def F25_l0 : ACode :=
  (.seq
  (.seq
  (.reg [.op none (some 10) (.mov (.t 5)),
    .op none (some 11) (.mov (.t 0)),
    .op none (some 12) (.lenV (.t 11)),
    .op none (some 13) (.bin .lss (.t 10) (.t 12))])
  (.cond (.t 13)
    .skip
    (.exit 0)))
  (.seq
  (.block 1
  (.seq
  (.reg [.op none (some 16) (.mov (.t 0)),
    .op none (some 17) (.mov (.t 5)),
    .op none (some 18) (.iadV 1 (.t 16) (.t 17)),
    .op none (some 19) (.ld1 (.t 18)),
    .op none (some 20) (.lenS (.t 19)),
    .op none (some 21) (.bin .gtr (.t 20) (.c (.int .i64 200)))])
  (.cond (.t 21)
    (.seq
    (.reg [.op none (some 4) (.mov (.c (.bool false)))])
    .ret)
    .skip)))
  (.reg [.op none (some 14) (.mov (.t 5)),
    .op none (some 15) (.bin .add (.t 14) (.c (.int .i64 1))),
    .op none (some 5) (.mov (.t 15))])))

def F25 : AFun :=
  { n := 22, res := [.t 4], code :=
  (.seq
  (.reg [.op none (some 4) (.mov (.c (.bool false)))])
  (.seq
  (.seq
  (.reg [.op none (some 6) (.mov (.t 0)),
    .op none (some 7) (.lenV (.t 6)),
    .op none (some 8) (.mov (.t 1)),
    .op none (some 9) (.bin .gtr (.t 7) (.t 8))])
  (.cond (.t 9)
    (.seq
    (.reg [.op none (some 4) (.mov (.c (.bool false)))])
    .ret)
    .skip))
  (.seq
  (.seq
  (.reg [.op none (some 5) (.mov (.c (.int .i64 0)))])
  (.block 0
  (.loop F25_l0)))
  (.seq
  (.reg [.op none (some 4) (.mov (.c (.bool true)))])
  .ret)))) }
theorem F25_ok : compFun Tryd.prog 3 Tryd.f25 = some F25 := by kernel_rfl

def F26_l0 : ACode :=
  (.seq
  (.seq
  (.reg [.op none (some 29) (.mov (.t 11)),
    .op none (some 30) (.lenV (.t 29)),
    .op none (some 31) (.bin .gtr (.t 30) (.c (.int .i64 0)))])
  (.cond (.t 31)
    .skip
    (.exit 0)))
  (.block 1
  (.seq
  (.reg [.op none (some 33) (.mov (.t 8)),
    .op none (some 34) (.mov (.t 11)),
    .op none (some 35) (.iadV 1 (.t 34) (.c (.int .i64 0))),
    .op none (some 36) (.ld1 (.t 35)),
    .op none (some 37) (.lkp (.int .i64 0) true (.t 33) (.t 36)),
    .op none (some 32) (.mov (.t 37)),
    .op none (some 38) (.ext 0 (.t 32)),
    .op none (some 39) (.ext 1 (.t 32)),
    .op none (some 12) (.mov (.t 38)),
    .op none (some 13) (.mov (.t 39))])
  (.seq
  (.reg [.op none (some 40) (.mov (.t 11)),
    .op none (some 41) (.slV 1 (.t 40) (some (.c (.int .i64 1))) none none),
    .op none (some 11) (.mov (.t 41))])
  (.seq
  (.reg [.op none (some 42) (.mov (.t 13)),
    .op none (some 43) (.mov (.t 42)),
    .op (some (43, true)) (some 44) (.mov (.t 10)),
    .op (some (43, true)) (some 45) (.mov (.t 12)),
    .op (some (43, true)) (some 46) (.iadV 1 (.t 44) (.t 45)),
    .op (some (43, true)) (some 47) (.ld1 (.t 46)),
    .op (some (43, true)) (some 48) (.un .not (.t 47)),
    .op none (some 49) (.pick (.t 43) (.t 48) (.c (.bool false)))])
  (.cond (.t 49)
    (.seq
    (.reg [.op none (some 50) (.mov (.t 10)),
      .op none (some 51) (.mov (.t 12)),
      .op none (some 52) (.iadV 1 (.t 50) (.t 51)),
      .op none none (.st 1 (.t 52) (.c (.bool true)))])
    (.reg [.op none (some 53) (.mov (.t 11)),
      .op none (some 54) (.mov (.t 1)),
      .op none (some 55) (.mov (.t 12)),
      .call none (some 56) 50 [.t 54, .t 55],
      .op none (some 57) (.app 9 1 16 [.string (⟨#[]⟩)] (.t 53) (.t 56)),
      .op none (some 11) (.mov (.t 57))]))
    .skip))))))

def F26_l1 : ACode :=
  (.seq
  (.reg [.op none (some 61) (.bin .lss (.t 60) (.t 59))])
  (.seq
  (.cond (.t 61)
    .skip
    (.exit 2))
  (.seq
  (.block 3
  (.seq
  (.reg [.op none (some 62) (.mov (.t 60)),
    .op none (some 63) (.iadV 1 (.t 58) (.t 60)),
    .op none (some 64) (.ld1 (.t 63)),
    .op none (some 15) (.mov (.t 62)),
    .op none (some 16) (.mov (.t 64))])
  (.seq
  (.reg [.op none (some 65) (.mov (.t 16))])
  (.cond (.t 65)
    (.reg [.op none (some 66) (.mov (.t 14)),
      .op none (some 67) (.mov (.t 15)),
      .op none (some 68) (.bldSl 3 1 [.int .i64 0] [(0, 1, .t 67)]),
      .op none (some 69) (.app 3 1 8 [.int .i64 0] (.t 66) (.t 68)),
      .op none (some 14) (.mov (.t 69))])
    .skip))))
  (.reg [.op none (some 70) (.bin .add (.t 60) (.c (.int .i64 1))),
    .op none (some 60) (.mov (.t 70))]))))

def F26 : AFun :=
  { n := 72, res := [.t 6, .t 7], code :=
  (.seq
  (.reg [.op none (some 6) (.mov (.c (.slice none 0 0))),
    .op none (some 7) (.mov (.c (.int .i64 0)))])
  (.seq
  (.reg [.op none (some 18) (.mov (.t 0)),
    .call none (some 19) 47 [.t 18],
    .op none (some 17) (.mov (.t 19)),
    .op none (some 20) (.ext 0 (.t 17)),
    .op none (some 21) (.ext 1 (.t 17)),
    .op none (some 8) (.mov (.t 20)),
    .op none (some 9) (.mov (.t 21))])
  (.seq
  (.seq
  (.reg [.op none (some 22) (.mov (.t 9)),
    .op none (some 23) (.un .not (.t 22))])
  (.cond (.t 23)
    (.seq
    (.reg [.op none (some 6) (.mov (.c (.slice none 0 0))),
      .op none (some 7) (.mov (.c (.int .i64 151)))])
    .ret)
    .skip))
  (.seq
  (.reg [.op none (some 24) (.mov (.t 0)),
    .op none (some 25) (.lenV (.t 24)),
    .op none (some 26) (.mkSl 4 1 [.bool false] 1 (.t 25) (.t 25)),
    .op none (some 10) (.mov (.t 26))])
  (.seq
  (.seq
  (.reg [.op none (some 27) (.mov (.t 2)),
    .call none (some 28) 56 [.t 27],
    .op none (some 11) (.mov (.t 28))])
  (.block 0
  (.loop F26_l0)))
  (.seq
  (.reg [.op none (some 14) (.mov (.c (.slice none 0 0)))])
  (.seq
  (.seq
  (.reg [.op none (some 58) (.mov (.t 10)),
    .op none (some 59) (.lenV (.t 58)),
    .op none (some 60) (.mov (.c (.int .i64 0)))])
  (.block 2
  (.loop F26_l1)))
  (.seq
  (.reg [.op none (some 71) (.mov (.t 14)),
    .op none (some 6) (.mov (.t 71)),
    .op none (some 7) (.mov (.c (.int .i64 0)))])
  .ret)))))))) }
theorem F26_ok : compFun Tryd.prog 3 Tryd.f26 = some F26 := by kernel_rfl

def F28_l0 : ACode :=
  (.seq
  (.seq
  (.reg [.op none (some 6) (.mov (.t 5)),
    .op none (some 7) (.mov (.t 0)),
    .op none (some 8) (.lenV (.t 7)),
    .op none (some 9) (.bin .lss (.t 6) (.t 8))])
  (.cond (.t 9)
    .skip
    (.exit 0)))
  (.seq
  (.block 1
  (.seq
  (.reg [.op none (some 12) (.mov (.t 0)),
    .op none (some 13) (.mov (.t 5)),
    .op none (some 14) (.iadV 1 (.t 12) (.t 13)),
    .op none (some 15) (.ld1 (.t 14)),
    .op none (some 16) (.mov (.t 1)),
    .op none (some 17) (.bin .eql (.t 15) (.t 16))])
  (.cond (.t 17)
    (.seq
    (.reg [.op none (some 18) (.mov (.t 5)),
      .op none (some 4) (.mov (.t 18))])
    .ret)
    .skip)))
  (.reg [.op none (some 10) (.mov (.t 5)),
    .op none (some 11) (.bin .add (.t 10) (.c (.int .i64 1))),
    .op none (some 5) (.mov (.t 11))])))

def F28 : AFun :=
  { n := 19, res := [.t 4], code :=
  (.seq
  (.reg [.op none (some 4) (.mov (.c (.int .i64 0)))])
  (.seq
  (.seq
  (.reg [.op none (some 5) (.mov (.c (.int .i64 0)))])
  (.block 0
  (.loop F28_l0)))
  (.seq
  (.reg [.op none (some 4) (.mov (.c (.int .i64 (-1))))])
  .ret))) }
theorem F28_ok : compFun Tryd.prog 3 Tryd.f28 = some F28 := by kernel_rfl

def F29_l0 : ACode :=
  (.seq
  (.seq
  (.reg [.op none (some 6) (.mov (.t 5)),
    .op none (some 7) (.mov (.t 0)),
    .op none (some 8) (.lenV (.t 7)),
    .op none (some 9) (.bin .lss (.t 6) (.t 8))])
  (.cond (.t 9)
    .skip
    (.exit 0)))
  (.seq
  (.block 1
  (.seq
  (.reg [.op none (some 12) (.mov (.t 0)),
    .op none (some 13) (.mov (.t 5)),
    .op none (some 14) (.iadV 1 (.t 12) (.t 13)),
    .op none (some 15) (.ld1 (.t 14)),
    .op none (some 16) (.mov (.t 1)),
    .op none (some 17) (.bin .eql (.t 15) (.t 16))])
  (.cond (.t 17)
    (.seq
    (.reg [.op none (some 18) (.mov (.t 5)),
      .op none (some 4) (.mov (.t 18))])
    .ret)
    .skip)))
  (.reg [.op none (some 10) (.mov (.t 5)),
    .op none (some 11) (.bin .add (.t 10) (.c (.int .i64 1))),
    .op none (some 5) (.mov (.t 11))])))

def F29 : AFun :=
  { n := 19, res := [.t 4], code :=
  (.seq
  (.reg [.op none (some 4) (.mov (.c (.int .i64 0)))])
  (.seq
  (.seq
  (.reg [.op none (some 5) (.mov (.c (.int .i64 0)))])
  (.block 0
  (.loop F29_l0)))
  (.seq
  (.reg [.op none (some 4) (.mov (.c (.int .i64 (-1))))])
  .ret))) }
theorem F29_ok : compFun Tryd.prog 3 Tryd.f29 = some F29 := by kernel_rfl

def F30_l1 : ACode :=
  (.seq
  (.seq
  (.reg [.op none (some 21) (.mov (.t 5)),
    .op none (some 22) (.bin .geq (.t 21) (.c (.int .i64 5)))])
  (.cond (.t 22)
    .skip
    (.exit 2)))
  (.block 3
  (.seq
  (.reg [.op none (some 23) (.mov (.t 5)),
    .op none (some 24) (.bin .sub (.t 23) (.c (.int .i64 5))),
    .op none (some 5) (.mov (.t 24))])
  (.reg [.op none (some 25) (.mov (.t 4)),
    .op none (some 26) (.mov (.t 5)),
    .op none (some 27) (.bin .shr (.t 25) (.t 26)),
    .op none (some 28) (.bin .and (.t 27) (.c (.int .u64 31))),
    .op none (some 29) (.ixS (.c (.string (⟨#[48, 49, 50, 51, 52, 53, 54, 55, 56, 57, 97, 98, 99, 100, 102, 103, 104, 105, 106, 107, 108, 109, 110, 112, 113, 114, 115, 118, 119, 120, 121, 122]⟩))) (.t 28)),
    .call none (some 30) 57 [.t 3, .t 29]]))))

def F30_l0 : ACode :=
  (.seq
  (.reg [.op none (some 11) (.bin .lss (.t 10) (.t 9))])
  (.seq
  (.cond (.t 11)
    .skip
    (.exit 0))
  (.seq
  (.block 1
  (.seq
  (.reg [.op none (some 12) (.iadV 1 (.t 8) (.t 10)),
    .op none (some 13) (.ld1 (.t 12)),
    .op none (some 7) (.mov (.t 13))])
  (.seq
  (.reg [.op none (some 14) (.mov (.t 4)),
    .op none (some 15) (.bin .shl (.t 14) (.c (.int .u64 8))),
    .op none (some 16) (.mov (.t 7)),
    .op none (some 17) (.cvt .u64 (.t 16)),
    .op none (some 18) (.bin .or (.t 15) (.t 17)),
    .op none (some 19) (.mov (.t 5)),
    .op none (some 20) (.bin .add (.t 19) (.c (.int .i64 8))),
    .op none (some 4) (.mov (.t 18)),
    .op none (some 5) (.mov (.t 20))])
  (.block 2
  (.loop F30_l1)))))
  (.reg [.op none (some 31) (.bin .add (.t 10) (.c (.int .i64 1))),
    .op none (some 10) (.mov (.t 31))]))))

def F30 : AFun :=
  { n := 33, res := [.t 2], code :=
  (.seq
  (.reg [.op none (some 1) (.box 52 (.t 0)),
    .op none (some 2) (.mov (.c (.string (⟨#[]⟩))))])
  (.seq
  (.reg [.op none (some 3) (.new 86 [.pointer none, .slice none 0 0])])
  (.seq
  (.reg [.op none (some 4) (.mov (.c (.int .u64 0))),
    .op none (some 5) (.mov (.c (.int .i64 0)))])
  (.seq
  (.seq
  (.reg [.op none (some 8) (.slA 32 1 (.t 1) none (some (.c (.int .i64 20))) none),
    .op none (some 9) (.lenV (.t 8)),
    .op none (some 10) (.mov (.c (.int .i64 0)))])
  (.block 0
  (.loop F30_l0)))
  (.seq
  (.reg [.call none (some 32) 58 [.t 3],
    .op none (some 2) (.mov (.t 32))])
  .ret))))) }
theorem F30_ok : compFun Tryd.prog 3 Tryd.f30 = some F30 := by kernel_rfl

def F31_l0 : ACode :=
  (.seq
  (.seq
  (.reg [.op none (some 8) (.mov (.t 5)),
    .op none (some 9) (.bin .geq (.t 8) (.c (.int .i64 0)))])
  (.cond (.t 9)
    .skip
    (.exit 0)))
  (.seq
  (.block 1
  (.draw [.f (.op none (some 12) (.ld1 (.t 2))),
    .f (.op none (some 13) (.mov (.t 0))),
    .f (.op none (some 14) (.mov (.t 5))),
    .f (.op none (some 15) (.bin .mul (.c (.int .i64 8)) (.t 14))),
    .f (.op none (some 16) (.bin .shr (.t 13) (.t 15))),
    .f (.op none (some 17) (.cvt .u8 (.t 16))),
    .b (.op none (some 18) (.bldSl 5 1 [.int .u8 0] [(0, 1, .t 17)])) [.op none (some 12) (.ld1 (.t 2))],
    .b (.op none (some 19) (.app 5 1 1 [.int .u8 0] (.t 12) (.t 18))) [],
    .b (.op none none (.st 1 (.t 2) (.t 19))) []]))
  (.reg [.op none (some 10) (.mov (.t 5)),
    .op none (some 11) (.bin .sub (.t 10) (.c (.int .i64 1))),
    .op none (some 5) (.mov (.t 11))])))

def F31 : AFun :=
  { n := 20, res := [], code :=
  (.seq
  (.reg [.op none (some 6) (.mov (.t 1)),
    .op none (some 7) (.bin .sub (.t 6) (.c (.int .i64 1))),
    .op none (some 5) (.mov (.t 7))])
  (.block 0
  (.loop F31_l0))) }
theorem F31_ok : compFun Tryd.prog 3 Tryd.f31 = some F31 := by kernel_rfl

def F32 : AFun :=
  { n := 11, res := [], code :=
  (.seq
  (.reg [.op none (some 4) (.ld1 (.t 1)),
    .op none (some 5) (.mov (.t 0)),
    .op none (some 6) (.lenS (.t 5)),
    .callv none (some 7) (.t 4) [.t 6, .c (.int .i64 4)]])
  (.reg [.op none (some 8) (.ld1 (.t 2)),
    .op none (some 9) (.mov (.t 0)),
    .op none (some 10) (.app 5 1 1 [.int .u8 0] (.t 8) (.t 9)),
    .op none none (.st 1 (.t 2) (.t 10))])) }
theorem F32_ok : compFun Tryd.prog 3 Tryd.f32 = some F32 := by kernel_rfl

def F34 : AFun :=
  { n := 14, res := [.t 4, .t 5], code :=
  (.seq
  (.reg [.op none (some 2) (.box 52 (.t 0)),
    .op none (some 4) (.mov (.c (.string (⟨#[]⟩)))),
    .op none (some 5) (.mov (.c (.int .i64 0)))])
  (.seq
  (.seq
  (.reg [.op none (some 6) (.mov (.t 1)),
    .call none (some 7) 38 [.t 6],
    .op none (some 8) (.un .not (.t 7))])
  (.cond (.t 8)
    (.seq
    (.reg [.op none (some 4) (.mov (.c (.string (⟨#[]⟩)))),
      .op none (some 5) (.mov (.c (.int .i64 2)))])
    .ret)
    .skip))
  (.seq
  (.reg [.op none (some 9) (.ldn 32 (.t 2)),
    .call none (some 10) 30 [.t 9],
    .op none (some 11) (.bin .add (.t 10) (.c (.string (⟨#[45]⟩)))),
    .op none (some 12) (.mov (.t 1)),
    .op none (some 13) (.bin .add (.t 11) (.t 12)),
    .op none (some 4) (.mov (.t 13)),
    .op none (some 5) (.mov (.c (.int .i64 0)))])
  .ret))) }
theorem F34_ok : compFun Tryd.prog 3 Tryd.f34 = some F34 := by kernel_rfl

def F35 : AFun :=
  { n := 7, res := [.cn 2 32], code :=
  (.seq
  (.reg [.op none (some 2) (.new 52 [.int .u8 0, .int .u8 0, .int .u8 0, .int .u8 0, .int .u8 0, .int .u8 0, .int .u8 0, .int .u8 0, .int .u8 0, .int .u8 0, .int .u8 0, .int .u8 0, .int .u8 0, .int .u8 0, .int .u8 0, .int .u8 0, .int .u8 0, .int .u8 0, .int .u8 0, .int .u8 0, .int .u8 0, .int .u8 0, .int .u8 0, .int .u8 0, .int .u8 0, .int .u8 0, .int .u8 0, .int .u8 0, .int .u8 0, .int .u8 0, .int .u8 0, .int .u8 0])])
  (.seq
  (.reg [.op none (some 3) (.new 96 [.int .u32 0, .int .u32 0, .int .u32 0, .int .u32 0, .int .u32 0, .int .u32 0, .int .u32 0, .int .u32 0, .int .u8 0, .int .u8 0, .int .u8 0, .int .u8 0, .int .u8 0, .int .u8 0, .int .u8 0, .int .u8 0, .int .u8 0, .int .u8 0, .int .u8 0, .int .u8 0, .int .u8 0, .int .u8 0, .int .u8 0, .int .u8 0, .int .u8 0, .int .u8 0, .int .u8 0, .int .u8 0, .int .u8 0, .int .u8 0, .int .u8 0, .int .u8 0, .int .u8 0, .int .u8 0, .int .u8 0, .int .u8 0, .int .u8 0, .int .u8 0, .int .u8 0, .int .u8 0, .int .u8 0, .int .u8 0, .int .u8 0, .int .u8 0, .int .u8 0, .int .u8 0, .int .u8 0, .int .u8 0, .int .u8 0, .int .u8 0, .int .u8 0, .int .u8 0, .int .u8 0, .int .u8 0, .int .u8 0, .int .u8 0, .int .u8 0, .int .u8 0, .int .u8 0, .int .u8 0, .int .u8 0, .int .u8 0, .int .u8 0, .int .u8 0, .int .u8 0, .int .u8 0, .int .u8 0, .int .u8 0, .int .u8 0, .int .u8 0, .int .u8 0, .int .u8 0, .int .u64 0])])
  (.seq
  (.reg [.op none (some 4) (.mov (.t 0)),
    .call none (some 5) 59 [.t 3, .t 4]])
  (.seq
  (.reg [.call none (some 6) 60 [.t 3],
    .op none none (.st 32 (.t 2) (.t 6))])
  .ret)))) }
theorem F35_ok : compFun Tryd.prog 3 Tryd.f35 = some F35 := by kernel_rfl

def F38 : AFun :=
  { n := 20, res := [.t 2], code :=
  (.seq
  (.reg [.op none (some 2) (.mov (.c (.bool false)))])
  (.seq
  (.reg [.op none (some 3) (.mov (.t 0)),
    .op none (some 4) (.bin .neq (.t 3) (.c (.string (⟨#[]⟩)))),
    .op none (some 5) (.mov (.t 4)),
    .op (some (5, true)) (some 6) (.mov (.t 0)),
    .op (some (5, true)) (some 7) (.lenS (.t 6)),
    .op (some (5, true)) (some 8) (.bin .leq (.t 7) (.c (.int .i64 64))),
    .op none (some 9) (.pick (.t 5) (.t 8) (.c (.bool false))),
    .op none (some 10) (.mov (.t 9)),
    .op (some (10, true)) (some 11) (.mov (.t 0)),
    .op (some (10, true)) (some 12) (.ixS (.t 11) (.c (.int .i64 0))),
    .op (some (10, true)) (some 13) (.bin .neq (.t 12) (.c (.int .u8 46))),
    .op none (some 14) (.pick (.t 10) (.t 13) (.c (.bool false))),
    .op none (some 15) (.mov (.t 14)),
    .op (some (15, true)) (some 16) (.mov (.t 0)),
    .call (some (15, true)) (some 17) 65 [.t 16, .c (.func (Fn.func 66) (#[]) (#[]))],
    .op (some (15, true)) (some 18) (.un .not (.t 17)),
    .op none (some 19) (.pick (.t 15) (.t 18) (.c (.bool false))),
    .op none (some 2) (.mov (.t 19))])
  .ret)) }
theorem F38_ok : compFun Tryd.prog 3 Tryd.f38 = some F38 := by kernel_rfl

def F39 : AFun :=
  { n := 34, res := [.t 2, .t 3, .t 4], code :=
  (.seq
  (.reg [.op none (some 2) (.mov (.c (.string (⟨#[]⟩)))),
    .op none (some 3) (.mov (.c (.string (⟨#[]⟩)))),
    .op none (some 4) (.mov (.c (.int .i64 0)))])
  (.seq
  (.reg [.op none (some 11) (.mov (.t 0)),
    .call none (some 12) 68 [.t 11, .c (.string (⟨#[45]⟩))],
    .op none (some 10) (.mov (.t 12)),
    .op none (some 13) (.ext 0 (.t 10)),
    .op none (some 14) (.ext 1 (.t 10)),
    .op none (some 15) (.ext 2 (.t 10)),
    .op none (some 5) (.mov (.t 13)),
    .op none (some 6) (.mov (.t 14)),
    .op none (some 7) (.mov (.t 15))])
  (.seq
  (.reg [.op none (some 17) (.mov (.t 5)),
    .call none (some 18) 69 [.t 17],
    .op none (some 16) (.mov (.t 18)),
    .op none (some 19) (.ext 0 (.t 16)),
    .op none (some 20) (.ext 1 (.t 16)),
    .op none (some 8) (.new 107 [.int .u8 0, .int .u8 0, .int .u8 0, .int .u8 0, .int .u8 0, .int .u8 0, .int .u8 0, .int .u8 0, .int .u8 0, .int .u8 0, .int .u8 0, .int .u8 0, .int .u8 0, .int .u8 0, .int .u8 0, .int .u8 0, .int .u8 0, .int .u8 0, .int .u8 0, .int .u8 0]),
    .op none none (.st 20 (.t 8) (.t 19)),
    .op none (some 9) (.mov (.t 20))])
  (.seq
  (.seq
  (.reg [.op none (some 21) (.mov (.t 7)),
    .op none (some 22) (.un .not (.t 21)),
    .op none (some 23) (.mov (.t 22)),
    .op (some (23, false)) (some 24) (.mov (.t 9)),
    .op (some (23, false)) (some 25) (.un .not (.t 24)),
    .op none (some 26) (.pick (.t 23) (.c (.bool true)) (.t 25)),
    .op none (some 27) (.mov (.t 26)),
    .op (some (27, false)) (some 28) (.mov (.t 6)),
    .call (some (27, false)) (some 29) 38 [.t 28],
    .op (some (27, false)) (some 30) (.un .not (.t 29)),
    .op none (some 31) (.pick (.t 27) (.c (.bool true)) (.t 30))])
  (.cond (.t 31)
    (.seq
    (.reg [.op none (some 2) (.mov (.c (.string (⟨#[]⟩)))),
      .op none (some 3) (.mov (.c (.string (⟨#[]⟩)))),
      .op none (some 4) (.mov (.c (.int .i64 90)))])
    .ret)
    .skip))
  (.seq
  (.reg [.op none (some 32) (.mov (.t 5)),
    .op none (some 33) (.mov (.t 6)),
    .op none (some 2) (.mov (.t 32)),
    .op none (some 3) (.mov (.t 33)),
    .op none (some 4) (.mov (.c (.int .i64 0)))])
  .ret))))) }
theorem F39_ok : compFun Tryd.prog 3 Tryd.f39 = some F39 := by kernel_rfl

def F42 : AFun :=
  { n := 15, res := [.t 4, .t 5], code :=
  (.seq
  (.reg [.op none (some 4) (.mov (.c (.slice none 0 0))),
    .op none (some 5) (.mov (.c (.bool false)))])
  (.seq
  (.seq
  (.reg [.op none (some 6) (.mov (.t 0)),
    .op none (some 7) (.mov (.t 1)),
    .call none (some 8) 71 [.t 6, .t 7],
    .op none (some 9) (.un .not (.t 8))])
  (.cond (.t 9)
    (.seq
    (.reg [.op none (some 10) (.mov (.t 0)),
      .op none (some 4) (.mov (.t 10)),
      .op none (some 5) (.mov (.c (.bool false)))])
    .ret)
    .skip))
  (.seq
  (.reg [.op none (some 11) (.mov (.t 0)),
    .op none (some 12) (.mov (.t 1)),
    .op none (some 13) (.lenV (.t 12)),
    .op none (some 14) (.slV 1 (.t 11) (some (.t 13)) none none),
    .op none (some 4) (.mov (.t 14)),
    .op none (some 5) (.mov (.c (.bool true)))])
  .ret))) }
theorem F42_ok : compFun Tryd.prog 3 Tryd.f42 = some F42 := by kernel_rfl

def F43 : AFun :=
  { n := 8, res := [.t 2], code :=
  (.seq
  (.reg [.op none (some 2) (.mov (.c (.string (⟨#[]⟩))))])
  (.seq
  (.reg [.op none (some 3) (.mov (.t 0)),
    .op none (some 4) (.mov (.t 0)),
    .call none (some 5) 44 [.t 4, .c (.int .i64 4)],
    .call none (some 6) 72 [.t 3, .t 5],
    .op none (some 7) (.b2s (.t 6)),
    .op none (some 2) (.mov (.t 7))])
  .ret)) }
theorem F43_ok : compFun Tryd.prog 3 Tryd.f43 = some F43 := by kernel_rfl

def F44_l0 : ACode :=
  (.seq
  (.reg [.op none (some 13) (.bin .lss (.t 12) (.t 11))])
  (.seq
  (.cond (.t 13)
    .skip
    (.exit 0))
  (.seq
  (.block 1
  (.seq
  (.reg [.op none (some 14) (.iadV 1 (.t 10) (.t 12)),
    .op none (some 15) (.ld1 (.t 14)),
    .op none (some 7) (.mov (.t 15))])
  (.reg [.op none (some 16) (.mov (.t 5)),
    .op none (some 17) (.bin .shl (.t 16) (.c (.int .u64 8))),
    .op none (some 18) (.mov (.t 7)),
    .op none (some 19) (.cvt .i64 (.t 18)),
    .op none (some 20) (.bin .or (.t 17) (.t 19)),
    .op none (some 5) (.mov (.t 20))])))
  (.reg [.op none (some 21) (.bin .add (.t 12) (.c (.int .i64 1))),
    .op none (some 12) (.mov (.t 21))]))))

def F44 : AFun :=
  { n := 23, res := [.t 4], code :=
  (.seq
  (.reg [.op none (some 4) (.mov (.c (.int .i64 0)))])
  (.seq
  (.reg [.op none (some 5) (.mov (.c (.int .i64 0)))])
  (.seq
  (.seq
  (.reg [.op none (some 8) (.mov (.t 0)),
    .op none (some 9) (.mov (.t 1)),
    .call none (some 10) 72 [.t 8, .t 9],
    .op none (some 11) (.lenV (.t 10)),
    .op none (some 12) (.mov (.c (.int .i64 0)))])
  (.block 0
  (.loop F44_l0)))
  (.seq
  (.reg [.op none (some 22) (.mov (.t 5)),
    .op none (some 4) (.mov (.t 22))])
  .ret)))) }
theorem F44_ok : compFun Tryd.prog 3 Tryd.f44 = some F44 := by kernel_rfl

def F47_l0 : ACode :=
  (.seq
  (.reg [.op none (some 13) (.bin .lss (.t 12) (.t 11))])
  (.seq
  (.cond (.t 13)
    .skip
    (.exit 0))
  (.seq
  (.block 1
  (.seq
  (.reg [.op none (some 14) (.mov (.t 12)),
    .op none (some 15) (.iadV 1 (.t 10) (.t 12)),
    .op none (some 16) (.ld1 (.t 15)),
    .op none (some 5) (.mov (.t 14)),
    .op none (some 6) (.mov (.t 16))])
  (.seq
  (.seq
  (.reg [.op none (some 18) (.mov (.t 4)),
    .op none (some 19) (.mov (.t 6)),
    .op none (some 20) (.lkp (.int .i64 0) true (.t 18) (.t 19)),
    .op none (some 17) (.mov (.t 20)),
    .op none (some 21) (.ext 0 (.t 17)),
    .op none (some 22) (.ext 1 (.t 17)),
    .op none (some 7) (.mov (.t 21)),
    .op none (some 8) (.mov (.t 22))])
  (.seq
  (.reg [.op none (some 23) (.mov (.t 8))])
  (.cond (.t 23)
    (.seq
    (.reg [.op none (some 2) (.mov (.c (.map none))),
      .op none (some 3) (.mov (.c (.bool false)))])
    .ret)
    .skip)))
  (.reg [.op none (some 24) (.mov (.t 4)),
    .op none (some 25) (.mov (.t 6)),
    .op none (some 26) (.mov (.t 5)),
    .op none none (.mup (.t 24) (.t 25) (.t 26))]))))
  (.reg [.op none (some 27) (.bin .add (.t 12) (.c (.int .i64 1))),
    .op none (some 12) (.mov (.t 27))]))))

def F47 : AFun :=
  { n := 29, res := [.t 2, .t 3], code :=
  (.seq
  (.reg [.op none (some 2) (.mov (.c (.map none))),
    .op none (some 3) (.mov (.c (.bool false)))])
  (.seq
  (.reg [.op none (some 9) .mkM,
    .op none (some 4) (.mov (.t 9))])
  (.seq
  (.seq
  (.reg [.op none (some 10) (.mov (.t 0)),
    .op none (some 11) (.lenV (.t 10)),
    .op none (some 12) (.mov (.c (.int .i64 0)))])
  (.block 0
  (.loop F47_l0)))
  (.seq
  (.reg [.op none (some 28) (.mov (.t 4)),
    .op none (some 2) (.mov (.t 28)),
    .op none (some 3) (.mov (.c (.bool true)))])
  .ret)))) }
theorem F47_ok : compFun Tryd.prog 3 Tryd.f47 = some F47 := by kernel_rfl

def F48 : AFun :=
  { n := 19, res := [.t 5], code :=
  (.seq
  (.reg [.op none (some 5) (.mov (.c (.bool false)))])
  (.seq
  (.reg [.op none (some 6) (.ld1 (.t 1)),
    .op none (some 7) (.mov (.t 0)),
    .op none (some 8) (.iadV 1 (.t 6) (.t 7)),
    .op none (some 9) (.ld1 (.t 8)),
    .op none (some 10) (.un .not (.t 9)),
    .op none (some 11) (.mov (.t 10)),
    .op (some (11, true)) (some 12) (.ld1 (.t 2)),
    .op (some (11, true)) (some 13) (.mov (.t 0)),
    .call (some (11, true)) (some 14) 50 [.t 12, .t 13],
    .op (some (11, true)) (some 15) (.mkF 51 [] [.t 3, .t 1]),
    .call (some (11, true)) (some 16) 49 [.t 14, .t 15],
    .op (some (11, true)) (some 17) (.un .not (.t 16)),
    .op none (some 18) (.pick (.t 11) (.t 17) (.c (.bool false))),
    .op none (some 5) (.mov (.t 18))])
  .ret)) }
theorem F48_ok : compFun Tryd.prog 3 Tryd.f48 = some F48 := by kernel_rfl

def F49 : AFun :=
  { n := 9, res := [.t 4], code :=
  (.seq
  (.reg [.op none (some 4) (.mov (.c (.bool false)))])
  (.seq
  (.reg [.op none (some 5) (.mov (.t 0)),
    .op none (some 6) (.mov (.t 1)),
    .call none (some 7) 74 [.t 5, .t 6],
    .op none (some 8) (.bin .geq (.t 7) (.c (.int .i64 0))),
    .op none (some 4) (.mov (.t 8))])
  .ret)) }
theorem F49_ok : compFun Tryd.prog 3 Tryd.f49 = some F49 := by kernel_rfl

def F50 : AFun :=
  { n := 13, res := [.t 4], code :=
  (.seq
  (.reg [.op none (some 4) (.mov (.c (.slice none 0 0)))])
  (.seq
  (.seq
  (.reg [.op none (some 5) (.mov (.t 1)),
    .op none (some 6) (.mov (.t 0)),
    .op none (some 7) (.lenV (.t 6)),
    .op none (some 8) (.bin .lss (.t 5) (.t 7))])
  (.cond (.t 8)
    (.seq
    (.reg [.op none (some 9) (.mov (.t 0)),
      .op none (some 10) (.mov (.t 1)),
      .op none (some 11) (.iadV 1 (.t 9) (.t 10)),
      .op none (some 12) (.ld1 (.t 11)),
      .op none (some 4) (.mov (.t 12))])
    .ret)
    .skip))
  (.seq
  (.reg [.op none (some 4) (.mov (.c (.slice none 0 0)))])
  .ret))) }
theorem F50_ok : compFun Tryd.prog 3 Tryd.f50 = some F50 := by kernel_rfl

def F51 : AFun :=
  { n := 21, res := [.t 4], code :=
  (.seq
  (.reg [.op none (some 4) (.mov (.c (.bool false)))])
  (.seq
  (.reg [.op none (some 8) (.ld1 (.t 1)),
    .op none (some 9) (.mov (.t 0)),
    .op none (some 10) (.lkp (.int .i64 0) true (.t 8) (.t 9)),
    .op none (some 7) (.mov (.t 10)),
    .op none (some 11) (.ext 0 (.t 7)),
    .op none (some 12) (.ext 1 (.t 7)),
    .op none (some 5) (.mov (.t 11)),
    .op none (some 6) (.mov (.t 12))])
  (.seq
  (.reg [.op none (some 13) (.mov (.t 6)),
    .op none (some 14) (.mov (.t 13)),
    .op (some (14, true)) (some 15) (.ld1 (.t 2)),
    .op (some (14, true)) (some 16) (.mov (.t 5)),
    .op (some (14, true)) (some 17) (.iadV 1 (.t 15) (.t 16)),
    .op (some (14, true)) (some 18) (.ld1 (.t 17)),
    .op (some (14, true)) (some 19) (.un .not (.t 18)),
    .op none (some 20) (.pick (.t 14) (.t 19) (.c (.bool false))),
    .op none (some 4) (.mov (.t 20))])
  .ret))) }
theorem F51_ok : compFun Tryd.prog 3 Tryd.f51 = some F51 := by kernel_rfl

def F56 : AFun :=
  { n := 8, res := [.t 2], code :=
  (.seq
  (.reg [.op none (some 2) (.mov (.c (.slice none 0 0)))])
  (.seq
  (.seq
  (.reg [.op none (some 3) (.mov (.t 0)),
    .op none (some 4) (.eql false .nilS (.t 3) (.c (.slice none 0 0)))])
  (.cond (.t 4)
    (.seq
    (.reg [.op none (some 2) (.mov (.c (.slice none 0 0)))])
    .ret)
    .skip))
  (.seq
  (.reg [.op none (some 5) (.bldSl 9 0 [] []),
    .op none (some 6) (.mov (.t 0)),
    .op none (some 7) (.app 9 1 16 [.string (⟨#[]⟩)] (.t 5) (.t 6)),
    .op none (some 2) (.mov (.t 7))])
  .ret))) }
theorem F56_ok : compFun Tryd.prog 3 Tryd.f56 = some F56 := by kernel_rfl

def F57 : AFun :=
  { n := 17, res := [.t 4], code :=
  (.seq
  (.reg [.op none (some 4) (.mov (.c .nilIface))])
  (.seq
  (.reg [.op none (some 5) (.mov (.t 0)),
    .call none (some 6) 75 [.t 5]])
  (.seq
  (.reg [.op none (some 7) (.mov (.t 0)),
    .op none (some 8) (.mov (.t 0)),
    .op none (some 9) (.nchk (.t 8)),
    .op none (some 10) (.fad 1 (.t 9)),
    .op none (some 11) (.ld1 (.t 10)),
    .op none (some 12) (.mov (.t 1)),
    .op none (some 13) (.bldSl 5 1 [.int .u8 0] [(0, 1, .t 12)]),
    .op none (some 14) (.app 5 1 1 [.int .u8 0] (.t 11) (.t 13)),
    .op none (some 15) (.nchk (.t 7)),
    .op none (some 16) (.fad 1 (.t 15)),
    .op none none (.st 1 (.t 16) (.t 14))])
  (.seq
  (.reg [.op none (some 4) (.mov (.c .nilIface))])
  .ret)))) }
theorem F57_ok : compFun Tryd.prog 3 Tryd.f57 = some F57 := by kernel_rfl

def F58 : AFun :=
  { n := 14, res := [.t 2], code :=
  (.seq
  (.reg [.op none (some 2) (.mov (.c (.string (⟨#[]⟩))))])
  (.seq
  (.draw [.f (.op none (some 3) (.mov (.t 0))),
    .f (.op none (some 4) (.nchk (.t 3))),
    .f (.op none (some 5) (.fad 1 (.t 4))),
    .f (.op none (some 6) (.ld1 (.t 5))),
    .f (.op none (some 7) (.sdat (.t 6))),
    .f (.op none (some 8) (.mov (.t 0))),
    .f (.op none (some 9) (.nchk (.t 8))),
    .f (.op none (some 10) (.fad 1 (.t 9))),
    .f (.op none (some 11) (.ld1 (.t 10))),
    .f (.op none (some 12) (.lenV (.t 11))),
    .b (.op none (some 13) (.ustr 5 (.t 7) (.t 12))) [],
    .f (.op none (some 2) (.mov (.t 13)))])
  .ret)) }
theorem F58_ok : compFun Tryd.prog 3 Tryd.f58 = some F58 := by kernel_rfl

def F59_l0 : ACode :=
  (.seq
  (.seq
  (.reg [.op none (some 6) (.mov (.t 0)),
    .op none (some 7) (.eql true .ptr (.t 6) (.c (.pointer none))),
    .op none (some 8) (.mov (.t 7)),
    .op (some (8, true)) (some 9) (.mov (.t 1)),
    .op (some (8, true)) (some 10) (.lenV (.t 9)),
    .op (some (8, true)) (some 11) (.bin .gtr (.t 10) (.c (.int .i64 0))),
    .op none (some 12) (.pick (.t 8) (.t 11) (.c (.bool false)))])
  (.cond (.t 12)
    .skip
    (.exit 0)))
  (.block 1
  (.seq
  (.reg [.op none (some 13) (.mov (.t 0)),
    .op none (some 14) (.nchk (.t 13)),
    .op none (some 15) (.fad 72 (.t 14)),
    .op none (some 16) (.ld1 (.t 15)),
    .op none (some 17) (.bin .rem (.t 16) (.c (.int .u64 64))),
    .op none (some 18) (.cvt .i64 (.t 17)),
    .op none (some 4) (.mov (.t 18))])
  (.seq
  (.reg [.op none (some 19) (.mov (.t 0)),
    .op none (some 20) (.nchk (.t 19)),
    .op none (some 21) (.fad 8 (.t 20)),
    .op none (some 22) (.mov (.t 4)),
    .op none (some 23) (.slA 64 1 (.t 21) (some (.t 22)) none none),
    .op none (some 24) (.mov (.t 1)),
    .op none (some 25) (.cpy 1 (.t 23) (.t 24)),
    .op none (some 5) (.mov (.t 25))])
  (.seq
  (.draw [.f (.op none (some 26) (.mov (.t 0))),
    .f (.op none (some 27) (.mov (.t 1))),
    .f (.op none (some 28) (.mov (.t 5))),
    .f (.op none (some 29) (.slV 1 (.t 27) (some (.t 28)) none none)),
    .f (.op none (some 30) (.mov (.t 0))),
    .f (.op none (some 31) (.nchk (.t 30))),
    .f (.op none (some 32) (.fad 72 (.t 31))),
    .f (.op none (some 33) (.ld1 (.t 32))),
    .f (.op none (some 34) (.mov (.t 5))),
    .f (.op none (some 35) (.cvt .u64 (.t 34))),
    .f (.op none (some 36) (.bin .add (.t 33) (.t 35))),
    .f (.op none (some 1) (.mov (.t 29))),
    .f (.op none (some 37) (.nchk (.t 26))),
    .f (.op none (some 38) (.fad 72 (.t 37))),
    .b (.op none none (.st 1 (.t 38) (.t 36))) []])
  (.seq
  (.reg [.op none (some 39) (.mov (.t 4)),
    .op none (some 40) (.mov (.t 5)),
    .op none (some 41) (.bin .add (.t 39) (.t 40)),
    .op none (some 42) (.bin .eql (.t 41) (.c (.int .i64 64)))])
  (.cond (.t 42)
    (.reg [.op none (some 43) (.mov (.t 0)),
      .call none (some 44) 76 [.t 43]])
    .skip)))))))

def F59 : AFun :=
  { n := 45, res := [], code :=
  (.block 0
  (.loop F59_l0)) }
theorem F59_ok : compFun Tryd.prog 3 Tryd.f59 = some F59 := by kernel_rfl

def F60_l0 : ACode :=
  (.seq
  (.seq
  (.reg [.op none (some 19) (.fad 72 (.t 3)),
    .op none (some 20) (.ld1 (.t 19)),
    .op none (some 21) (.bin .rem (.t 20) (.c (.int .u64 64))),
    .op none (some 22) (.bin .neq (.t 21) (.c (.int .u64 56))),
    .op none (some 23) (.mov (.t 22)),
    .op (some (23, false)) (some 24) (.mov (.t 5)),
    .op (some (23, false)) (some 25) (.bin .gtr (.t 24) (.c (.int .u8 0))),
    .op none (some 26) (.pick (.t 23) (.c (.bool true)) (.t 25))])
  (.cond (.t 26)
    .skip
    (.exit 0)))
  (.seq
  (.block 1
  (.reg [.op none (some 27) (.mov (.t 5)),
    .op none (some 28) (.bldSl 5 1 [.int .u8 0] [(0, 1, .t 27)]),
    .call none (some 29) 59 [.t 3, .t 28]]))
  (.reg [.op none (some 5) (.mov (.c (.int .u8 0)))])))

def F60_l1 : ACode :=
  (.seq
  (.seq
  (.reg [.op none (some 30) (.mov (.t 6)),
    .op none (some 31) (.bin .geq (.t 30) (.c (.int .i64 0)))])
  (.cond (.t 31)
    .skip
    (.exit 2)))
  (.seq
  (.block 3
  (.reg [.op none (some 34) (.mov (.t 4)),
    .op none (some 35) (.mov (.t 6)),
    .op none (some 36) (.bin .shr (.t 34) (.t 35)),
    .op none (some 37) (.cvt .u8 (.t 36)),
    .op none (some 38) (.bldSl 5 1 [.int .u8 0] [(0, 1, .t 37)]),
    .call none (some 39) 59 [.t 3, .t 38]]))
  (.reg [.op none (some 32) (.mov (.t 6)),
    .op none (some 33) (.bin .sub (.t 32) (.c (.int .i64 8))),
    .op none (some 6) (.mov (.t 33))])))

def F60_l3 : ACode :=
  (.seq
  (.reg [.op none (some 46) (.bin .lss (.t 45) (.c (.int .i64 4)))])
  (.seq
  (.cond (.t 46)
    .skip
    (.exit 6))
  (.seq
  (.block 7
  (.seq
  (.reg [.op none (some 47) (.mov (.t 45)),
    .op none (some 9) (.mov (.t 47))])
  (.reg [.op none (some 48) (.mov (.t 7)),
    .op none (some 49) (.bin .mul (.c (.int .i64 4)) (.t 48)),
    .op none (some 50) (.mov (.t 9)),
    .op none (some 51) (.bin .add (.t 49) (.t 50)),
    .op none (some 52) (.mov (.t 8)),
    .op none (some 53) (.mov (.t 9)),
    .op none (some 54) (.bin .mul (.c (.int .i64 8)) (.t 53)),
    .op none (some 55) (.bin .sub (.c (.int .i64 24)) (.t 54)),
    .op none (some 56) (.bin .shr (.t 52) (.t 55)),
    .op none (some 57) (.cvt .u8 (.t 56)),
    .op none (some 58) (.iadA 32 1 (.t 2) (.t 51)),
    .op none none (.st 1 (.t 58) (.t 57))])))
  (.reg [.op none (some 59) (.bin .add (.t 45) (.c (.int .i64 1))),
    .op none (some 45) (.mov (.t 59))]))))

def F60_l2 : ACode :=
  (.seq
  (.reg [.op none (some 42) (.bin .lss (.t 41) (.c (.int .i64 8)))])
  (.seq
  (.cond (.t 42)
    .skip
    (.exit 4))
  (.seq
  (.block 5
  (.seq
  (.reg [.op none (some 43) (.mov (.t 41)),
    .op none (some 44) (.ixA 8 1 false (.t 40) (.t 41)),
    .op none (some 7) (.mov (.t 43)),
    .op none (some 8) (.mov (.t 44))])
  (.seq
  (.reg [.op none (some 45) (.mov (.c (.int .i64 0)))])
  (.block 6
  (.loop F60_l3)))))
  (.reg [.op none (some 60) (.bin .add (.t 41) (.c (.int .i64 1))),
    .op none (some 41) (.mov (.t 60))]))))

def F60 : AFun :=
  { n := 62, res := [.cn 2 32], code :=
  (.seq
  (.reg [.op none (some 2) (.new 52 [.int .u8 0, .int .u8 0, .int .u8 0, .int .u8 0, .int .u8 0, .int .u8 0, .int .u8 0, .int .u8 0, .int .u8 0, .int .u8 0, .int .u8 0, .int .u8 0, .int .u8 0, .int .u8 0, .int .u8 0, .int .u8 0, .int .u8 0, .int .u8 0, .int .u8 0, .int .u8 0, .int .u8 0, .int .u8 0, .int .u8 0, .int .u8 0, .int .u8 0, .int .u8 0, .int .u8 0, .int .u8 0, .int .u8 0, .int .u8 0, .int .u8 0, .int .u8 0])])
  (.seq
  (.seq
  (.reg [.op none (some 10) (.mov (.t 0)),
    .op none (some 11) (.eql false .ptr (.t 10) (.c (.pointer none)))])
  (.cond (.t 11)
    (.seq
    (.reg [.op none (some 12) (.ldn 32 (.t 2)),
      .op none none (.st 32 (.t 2) (.t 12))])
    .ret)
    .skip))
  (.seq
  (.reg [.op none (some 13) (.mov (.t 0)),
    .op none (some 14) (.nchk (.t 13)),
    .op none (some 15) (.ldn 73 (.t 14)),
    .op none (some 3) (.new 96 [.int .u32 0, .int .u32 0, .int .u32 0, .int .u32 0, .int .u32 0, .int .u32 0, .int .u32 0, .int .u32 0, .int .u8 0, .int .u8 0, .int .u8 0, .int .u8 0, .int .u8 0, .int .u8 0, .int .u8 0, .int .u8 0, .int .u8 0, .int .u8 0, .int .u8 0, .int .u8 0, .int .u8 0, .int .u8 0, .int .u8 0, .int .u8 0, .int .u8 0, .int .u8 0, .int .u8 0, .int .u8 0, .int .u8 0, .int .u8 0, .int .u8 0, .int .u8 0, .int .u8 0, .int .u8 0, .int .u8 0, .int .u8 0, .int .u8 0, .int .u8 0, .int .u8 0, .int .u8 0, .int .u8 0, .int .u8 0, .int .u8 0, .int .u8 0, .int .u8 0, .int .u8 0, .int .u8 0, .int .u8 0, .int .u8 0, .int .u8 0, .int .u8 0, .int .u8 0, .int .u8 0, .int .u8 0, .int .u8 0, .int .u8 0, .int .u8 0, .int .u8 0, .int .u8 0, .int .u8 0, .int .u8 0, .int .u8 0, .int .u8 0, .int .u8 0, .int .u8 0, .int .u8 0, .int .u8 0, .int .u8 0, .int .u8 0, .int .u8 0, .int .u8 0, .int .u8 0, .int .u64 0]),
    .op none none (.st 73 (.t 3) (.t 15))])
  (.seq
  (.reg [.op none (some 16) (.fad 72 (.t 3)),
    .op none (some 17) (.ld1 (.t 16)),
    .op none (some 18) (.bin .mul (.c (.int .u64 8)) (.t 17)),
    .op none (some 4) (.mov (.t 18))])
  (.seq
  (.seq
  (.reg [.op none (some 5) (.mov (.c (.int .u8 128)))])
  (.block 0
  (.loop F60_l0)))
  (.seq
  (.seq
  (.reg [.op none (some 6) (.mov (.c (.int .i64 56)))])
  (.block 2
  (.loop F60_l1)))
  (.seq
  (.seq
  (.reg [.call none (some 40) 77 [.t 3],
    .op none (some 41) (.mov (.c (.int .i64 0)))])
  (.block 4
  (.loop F60_l2)))
  (.seq
  (.reg [.op none (some 61) (.ldn 32 (.t 2)),
    .op none none (.st 32 (.t 2) (.t 61))])
  .ret)))))))) }
theorem F60_ok : compFun Tryd.prog 3 Tryd.f60 = some F60 := by kernel_rfl

def F65 : AFun :=
  { n := 9, res := [.t 4], code :=
  (.seq
  (.reg [.op none (some 4) (.mov (.c (.bool false)))])
  (.seq
  (.reg [.op none (some 5) (.mov (.t 0)),
    .op none (some 6) (.mov (.t 1)),
    .call none (some 7) 82 [.t 5, .t 6],
    .op none (some 8) (.bin .geq (.t 7) (.c (.int .i64 0))),
    .op none (some 4) (.mov (.t 8))])
  .ret)) }
theorem F65_ok : compFun Tryd.prog 3 Tryd.f65 = some F65 := by kernel_rfl

def F66 : AFun :=
  { n := 6, res := [.t 2], code :=
  (.seq
  (.reg [.op none (some 2) (.mov (.c (.bool false)))])
  (.seq
  (.reg [.op none (some 3) (.mov (.t 0)),
    .call none (some 4) 67 [.t 3],
    .op none (some 5) (.un .not (.t 4)),
    .op none (some 2) (.mov (.t 5))])
  .ret)) }
theorem F66_ok : compFun Tryd.prog 3 Tryd.f66 = some F66 := by kernel_rfl

def F67 : AFun :=
  { n := 41, res := [.t 2], code :=
  (.seq
  (.reg [.op none (some 2) (.mov (.c (.bool false)))])
  (.seq
  (.reg [.op none (some 3) (.mov (.t 0)),
    .op none (some 4) (.bin .geq (.t 3) (.c (.int .i32 97))),
    .op none (some 5) (.mov (.t 4)),
    .op (some (5, true)) (some 6) (.mov (.t 0)),
    .op (some (5, true)) (some 7) (.bin .leq (.t 6) (.c (.int .i32 122))),
    .op none (some 8) (.pick (.t 5) (.t 7) (.c (.bool false))),
    .op none (some 9) (.mov (.t 8)),
    .op (some (9, false)) (some 10) (.mov (.t 0)),
    .op (some (9, false)) (some 11) (.bin .geq (.t 10) (.c (.int .i32 65))),
    .op (some (9, false)) (some 12) (.mov (.t 11)),
    .op (some (12, true)) (some 13) (.mov (.t 0)),
    .op (some (12, true)) (some 14) (.bin .leq (.t 13) (.c (.int .i32 90))),
    .op (some (9, false)) (some 15) (.pick (.t 12) (.t 14) (.c (.bool false))),
    .op none (some 16) (.pick (.t 9) (.c (.bool true)) (.t 15)),
    .op none (some 17) (.mov (.t 16)),
    .op (some (17, false)) (some 18) (.mov (.t 0)),
    .op (some (17, false)) (some 19) (.bin .geq (.t 18) (.c (.int .i32 48))),
    .op (some (17, false)) (some 20) (.mov (.t 19)),
    .op (some (20, true)) (some 21) (.mov (.t 0)),
    .op (some (20, true)) (some 22) (.bin .leq (.t 21) (.c (.int .i32 57))),
    .op (some (17, false)) (some 23) (.pick (.t 20) (.t 22) (.c (.bool false))),
    .op none (some 24) (.pick (.t 17) (.c (.bool true)) (.t 23)),
    .op none (some 25) (.mov (.t 24)),
    .op (some (25, false)) (some 26) (.mov (.t 0)),
    .op (some (25, false)) (some 27) (.bin .eql (.t 26) (.c (.int .i32 43))),
    .op none (some 28) (.pick (.t 25) (.c (.bool true)) (.t 27)),
    .op none (some 29) (.mov (.t 28)),
    .op (some (29, false)) (some 30) (.mov (.t 0)),
    .op (some (29, false)) (some 31) (.bin .eql (.t 30) (.c (.int .i32 45))),
    .op none (some 32) (.pick (.t 29) (.c (.bool true)) (.t 31)),
    .op none (some 33) (.mov (.t 32)),
    .op (some (33, false)) (some 34) (.mov (.t 0)),
    .op (some (33, false)) (some 35) (.bin .eql (.t 34) (.c (.int .i32 46))),
    .op none (some 36) (.pick (.t 33) (.c (.bool true)) (.t 35)),
    .op none (some 37) (.mov (.t 36)),
    .op (some (37, false)) (some 38) (.mov (.t 0)),
    .op (some (37, false)) (some 39) (.bin .eql (.t 38) (.c (.int .i32 95))),
    .op none (some 40) (.pick (.t 37) (.c (.bool true)) (.t 39)),
    .op none (some 2) (.mov (.t 40))])
  .ret)) }
theorem F67_ok : compFun Tryd.prog 3 Tryd.f67 = some F67 := by kernel_rfl

def F68 : AFun :=
  { n := 13, res := [.t 4, .t 5, .t 6], code :=
  (.seq
  (.reg [.op none (some 4) (.mov (.c (.string (⟨#[]⟩)))),
    .op none (some 5) (.mov (.c (.string (⟨#[]⟩)))),
    .op none (some 6) (.mov (.c (.bool false)))])
  (.seq
  (.reg [.op none (some 7) (.mov (.t 0)),
    .op none (some 8) (.mov (.t 1)),
    .call none (some 9) 83 [.t 7, .t 8],
    .op none (some 10) (.ext 0 (.t 9)),
    .op none (some 11) (.ext 1 (.t 9)),
    .op none (some 12) (.ext 2 (.t 9)),
    .op none (some 4) (.mov (.t 10)),
    .op none (some 5) (.mov (.t 11)),
    .op none (some 6) (.mov (.t 12))])
  .ret)) }
theorem F68_ok : compFun Tryd.prog 3 Tryd.f68 = some F68 := by kernel_rfl

def F69_l0 : ACode :=
  (.seq
  (.reg [.op none (some 17) (.bin .lss (.t 16) (.t 15))])
  (.seq
  (.cond (.t 17)
    .skip
    (.exit 0))
  (.seq
  (.block 1
  (.seq
  (.reg [.op none (some 18) (.mov (.t 16)),
    .op none (some 8) (.mov (.t 18))])
  (.seq
  (.reg [.op none (some 19) (.mov (.t 0)),
    .op none (some 20) (.mov (.t 8)),
    .op none (some 21) (.ixS (.t 19) (.t 20)),
    .call none (some 22) 84 [.c (.string (⟨#[48, 49, 50, 51, 52, 53, 54, 55, 56, 57, 97, 98, 99, 100, 102, 103, 104, 105, 106, 107, 108, 109, 110, 112, 113, 114, 115, 118, 119, 120, 121, 122]⟩)), .t 21],
    .op none (some 9) (.mov (.t 22))])
  (.seq
  (.seq
  (.reg [.op none (some 23) (.mov (.t 9)),
    .op none (some 24) (.bin .lss (.t 23) (.c (.int .i64 0)))])
  (.cond (.t 24)
    (.seq
    (.reg [.op none (some 25) (.bld [.int .u8 0, .int .u8 0, .int .u8 0, .int .u8 0, .int .u8 0, .int .u8 0, .int .u8 0, .int .u8 0, .int .u8 0, .int .u8 0, .int .u8 0, .int .u8 0, .int .u8 0, .int .u8 0, .int .u8 0, .int .u8 0, .int .u8 0, .int .u8 0, .int .u8 0, .int .u8 0] []),
      .op none none (.st 20 (.t 2) (.t 25)),
      .op none (some 3) (.mov (.c (.bool false)))])
    .ret)
    .skip))
  (.seq
  (.reg [.op none (some 26) (.mov (.t 5)),
    .op none (some 27) (.bin .shl (.t 26) (.c (.int .u64 5))),
    .op none (some 28) (.mov (.t 9)),
    .op none (some 29) (.cvt .u64 (.t 28)),
    .op none (some 30) (.bin .or (.t 27) (.t 29)),
    .op none (some 31) (.mov (.t 6)),
    .op none (some 32) (.bin .add (.t 31) (.c (.int .i64 5))),
    .op none (some 5) (.mov (.t 30)),
    .op none (some 6) (.mov (.t 32))])
  (.seq
  (.reg [.op none (some 33) (.mov (.t 6)),
    .op none (some 34) (.bin .geq (.t 33) (.c (.int .i64 8)))])
  (.cond (.t 34)
    (.seq
    (.reg [.op none (some 35) (.mov (.t 6)),
      .op none (some 36) (.bin .sub (.t 35) (.c (.int .i64 8))),
      .op none (some 6) (.mov (.t 36))])
    (.seq
    (.reg [.op none (some 37) (.mov (.t 7)),
      .op none (some 38) (.mov (.t 5)),
      .op none (some 39) (.mov (.t 6)),
      .op none (some 40) (.bin .shr (.t 38) (.t 39)),
      .op none (some 41) (.cvt .u8 (.t 40)),
      .op none (some 42) (.iadA 20 1 (.t 4) (.t 37)),
      .op none none (.st 1 (.t 42) (.t 41))])
    (.reg [.op none (some 43) (.mov (.t 7)),
      .op none (some 44) (.bin .add (.t 43) (.c (.int .i64 1))),
      .op none (some 7) (.mov (.t 44))])))
    .skip)))))))
  (.reg [.op none (some 45) (.bin .add (.t 16) (.c (.int .i64 1))),
    .op none (some 16) (.mov (.t 45))]))))

def F69 : AFun :=
  { n := 47, res := [.cn 2 20, .t 3], code :=
  (.seq
  (.reg [.op none (some 2) (.new 107 [.int .u8 0, .int .u8 0, .int .u8 0, .int .u8 0, .int .u8 0, .int .u8 0, .int .u8 0, .int .u8 0, .int .u8 0, .int .u8 0, .int .u8 0, .int .u8 0, .int .u8 0, .int .u8 0, .int .u8 0, .int .u8 0, .int .u8 0, .int .u8 0, .int .u8 0, .int .u8 0]),
    .op none (some 3) (.mov (.c (.bool false)))])
  (.seq
  (.reg [.op none (some 4) (.new 107 [.int .u8 0, .int .u8 0, .int .u8 0, .int .u8 0, .int .u8 0, .int .u8 0, .int .u8 0, .int .u8 0, .int .u8 0, .int .u8 0, .int .u8 0, .int .u8 0, .int .u8 0, .int .u8 0, .int .u8 0, .int .u8 0, .int .u8 0, .int .u8 0, .int .u8 0, .int .u8 0])])
  (.seq
  (.seq
  (.reg [.op none (some 10) (.mov (.t 0)),
    .op none (some 11) (.lenS (.t 10)),
    .op none (some 12) (.bin .neq (.t 11) (.c (.int .i64 32)))])
  (.cond (.t 12)
    (.seq
    (.reg [.op none (some 13) (.ldn 20 (.t 4)),
      .op none none (.st 20 (.t 2) (.t 13)),
      .op none (some 3) (.mov (.c (.bool false)))])
    .ret)
    .skip))
  (.seq
  (.reg [.op none (some 5) (.mov (.c (.int .u64 0))),
    .op none (some 6) (.mov (.c (.int .i64 0))),
    .op none (some 7) (.mov (.c (.int .i64 0)))])
  (.seq
  (.seq
  (.reg [.op none (some 14) (.mov (.t 0)),
    .op none (some 15) (.lenS (.t 14)),
    .op none (some 16) (.mov (.c (.int .i64 0)))])
  (.block 0
  (.loop F69_l0)))
  (.seq
  (.reg [.op none (some 46) (.ldn 20 (.t 4)),
    .op none none (.st 20 (.t 2) (.t 46)),
    .op none (some 3) (.mov (.c (.bool true)))])
  .ret)))))) }
theorem F69_ok : compFun Tryd.prog 3 Tryd.f69 = some F69 := by kernel_rfl

def F71 : AFun :=
  { n := 18, res := [.t 4], code :=
  (.seq
  (.reg [.op none (some 4) (.mov (.c (.bool false)))])
  (.seq
  (.reg [.op none (some 5) (.mov (.t 0)),
    .op none (some 6) (.lenV (.t 5)),
    .op none (some 7) (.mov (.t 1)),
    .op none (some 8) (.lenV (.t 7)),
    .op none (some 9) (.bin .geq (.t 6) (.t 8)),
    .op none (some 10) (.mov (.t 9)),
    .op (some (10, true)) (some 11) (.mov (.t 0)),
    .op (some (10, true)) (some 12) (.mov (.t 1)),
    .op (some (10, true)) (some 13) (.lenV (.t 12)),
    .op (some (10, true)) (some 14) (.slV 1 (.t 11) none (some (.t 13)) none),
    .op (some (10, true)) (some 15) (.mov (.t 1)),
    .call (some (10, true)) (some 16) 86 [.t 14, .t 15],
    .op none (some 17) (.pick (.t 10) (.t 16) (.c (.bool false))),
    .op none (some 4) (.mov (.t 17))])
  .ret)) }
theorem F71_ok : compFun Tryd.prog 3 Tryd.f71 = some F71 := by kernel_rfl

def F72 : AFun :=
  { n := 38, res := [.t 4], code :=
  (.seq
  (.reg [.op none (some 4) (.mov (.c (.slice none 0 0)))])
  (.seq
  (.seq
  (.reg [.op none (some 6) (.mov (.t 0)),
    .op none (some 7) (.nchk (.t 6)),
    .op none (some 8) (.fad 1 (.t 7)),
    .op none (some 9) (.ld1 (.t 8)),
    .op none (some 10) (.mov (.t 9)),
    .op (some (10, false)) (some 11) (.mov (.t 1)),
    .op (some (10, false)) (some 12) (.mov (.t 0)),
    .op (some (10, false)) (some 13) (.nchk (.t 12)),
    .op (some (10, false)) (some 14) (.fad 0 (.t 13)),
    .op (some (10, false)) (some 15) (.ld1 (.t 14)),
    .op (some (10, false)) (some 16) (.lenV (.t 15)),
    .op (some (10, false)) (some 17) (.bin .gtr (.t 11) (.t 16)),
    .op none (some 18) (.pick (.t 10) (.c (.bool true)) (.t 17))])
  (.cond (.t 18)
    (.seq
    (.reg [.op none (some 19) (.mov (.t 0)),
      .op none (some 20) (.nchk (.t 19)),
      .op none (some 21) (.fad 1 (.t 20)),
      .op none none (.st 1 (.t 21) (.c (.bool true)))])
    (.seq
    (.reg [.op none (some 4) (.mov (.c (.slice none 0 0)))])
    .ret))
    .skip))
  (.seq
  (.reg [.op none (some 22) (.mov (.t 0)),
    .op none (some 23) (.nchk (.t 22)),
    .op none (some 24) (.fad 0 (.t 23)),
    .op none (some 25) (.ld1 (.t 24)),
    .op none (some 26) (.mov (.t 1)),
    .op none (some 27) (.slV 1 (.t 25) none (some (.t 26)) none),
    .op none (some 5) (.mov (.t 27))])
  (.seq
  (.reg [.op none (some 28) (.mov (.t 0)),
    .op none (some 29) (.mov (.t 0)),
    .op none (some 30) (.nchk (.t 29)),
    .op none (some 31) (.fad 0 (.t 30)),
    .op none (some 32) (.ld1 (.t 31)),
    .op none (some 33) (.mov (.t 1)),
    .op none (some 34) (.slV 1 (.t 32) (some (.t 33)) none none),
    .op none (some 35) (.nchk (.t 28)),
    .op none (some 36) (.fad 0 (.t 35)),
    .op none none (.st 1 (.t 36) (.t 34))])
  (.seq
  (.reg [.op none (some 37) (.mov (.t 5)),
    .op none (some 4) (.mov (.t 37))])
  .ret))))) }
theorem F72_ok : compFun Tryd.prog 3 Tryd.f72 = some F72 := by kernel_rfl

def F74_l0 : ACode :=
  (.seq
  (.reg [.op none (some 9) (.bin .lss (.t 8) (.t 7))])
  (.seq
  (.cond (.t 9)
    .skip
    (.exit 0))
  (.seq
  (.block 1
  (.seq
  (.reg [.op none (some 10) (.mov (.t 8)),
    .op none (some 5) (.mov (.t 10))])
  (.seq
  (.reg [.op none (some 11) (.mov (.t 1)),
    .op none (some 12) (.mov (.t 0)),
    .op none (some 13) (.mov (.t 5)),
    .op none (some 14) (.iadV 1 (.t 12) (.t 13)),
    .op none (some 15) (.ld1 (.t 14)),
    .callv none (some 16) (.t 11) [.t 15]])
  (.cond (.t 16)
    (.seq
    (.reg [.op none (some 17) (.mov (.t 5)),
      .op none (some 4) (.mov (.t 17))])
    .ret)
    .skip))))
  (.reg [.op none (some 18) (.bin .add (.t 8) (.c (.int .i64 1))),
    .op none (some 8) (.mov (.t 18))]))))

def F74 : AFun :=
  { n := 19, res := [.t 4], code :=
  (.seq
  (.reg [.op none (some 4) (.mov (.c (.int .i64 0)))])
  (.seq
  (.seq
  (.reg [.op none (some 6) (.mov (.t 0)),
    .op none (some 7) (.lenV (.t 6)),
    .op none (some 8) (.mov (.c (.int .i64 0)))])
  (.block 0
  (.loop F74_l0)))
  (.seq
  (.reg [.op none (some 4) (.mov (.c (.int .i64 (-1))))])
  .ret))) }
theorem F74_ok : compFun Tryd.prog 3 Tryd.f74 = some F74 := by kernel_rfl

def F75 : AFun :=
  { n := 20, res := [], code :=
  (.seq
  (.reg [.op none (some 2) (.mov (.t 0)),
    .op none (some 3) (.nchk (.t 2)),
    .op none (some 4) (.fad 0 (.t 3)),
    .op none (some 5) (.ld1 (.t 4)),
    .op none (some 6) (.eql false .ptr (.t 5) (.c (.pointer none)))])
  (.cond (.t 6)
    (.reg [.op none (some 7) (.mov (.t 0)),
      .op none (some 8) (.mov (.t 0)),
      .op none (some 9) (.toU (.t 8)),
      .call none (some 10) 87 [.t 9],
      .op none (some 11) (.frU 86 2 (.t 10)),
      .op none (some 12) (.nchk (.t 7)),
      .op none (some 13) (.fad 0 (.t 12)),
      .op none none (.st 1 (.t 13) (.t 11))])
    (.seq
    (.reg [.op none (some 14) (.mov (.t 0)),
      .op none (some 15) (.nchk (.t 14)),
      .op none (some 16) (.fad 0 (.t 15)),
      .op none (some 17) (.ld1 (.t 16)),
      .op none (some 18) (.mov (.t 0)),
      .op none (some 19) (.eql true .ptr (.t 17) (.t 18))])
    (.cond (.t 19)
      .refuse
      .skip)))) }
theorem F75_ok : compFun Tryd.prog 3 Tryd.f75 = some F75 := by kernel_rfl

def F76_l1 : ACode :=
  (.seq
  (.reg [.op none (some 52) (.bin .lss (.t 51) (.t 50))])
  (.seq
  (.cond (.t 52)
    .skip
    (.exit 2))
  (.seq
  (.block 3
  (.seq
  (.reg [.op none (some 53) (.iadV 1 (.t 49) (.t 51)),
    .op none (some 54) (.ld1 (.t 53)),
    .op none (some 5) (.mov (.t 54))])
  (.reg [.op none (some 55) (.mov (.t 3)),
    .op none (some 56) (.mov (.t 3)),
    .op none (some 57) (.iadA 64 1 (.t 2) (.t 56)),
    .op none (some 58) (.ld1 (.t 57)),
    .op none (some 59) (.bin .shl (.t 58) (.c (.int .u64 8))),
    .op none (some 60) (.mov (.t 5)),
    .op none (some 61) (.cvt .u32 (.t 60)),
    .op none (some 62) (.bin .or (.t 59) (.t 61)),
    .op none (some 63) (.iadA 64 1 (.t 2) (.t 55)),
    .op none none (.st 1 (.t 63) (.t 62))])))
  (.reg [.op none (some 64) (.bin .add (.t 51) (.c (.int .i64 1))),
    .op none (some 51) (.mov (.t 64))]))))

def F76_l0 : ACode :=
  (.seq
  (.reg [.op none (some 14) (.bin .lss (.t 13) (.c (.int .i64 64)))])
  (.seq
  (.cond (.t 14)
    .skip
    (.exit 0))
  (.seq
  (.block 1
  (.seq
  (.reg [.op none (some 15) (.mov (.t 13)),
    .op none (some 3) (.mov (.t 15))])
  (.seq
  (.seq
  (.reg [.op none (some 16) (.mov (.t 3)),
    .op none (some 17) (.bin .geq (.t 16) (.c (.int .i64 16)))])
  (.cond (.t 17)
    (.seq
    (.draw [.f (.op none (some 18) (.mov (.t 3))),
      .f (.op none (some 19) (.mov (.t 3))),
      .f (.op none (some 20) (.bin .sub (.t 19) (.c (.int .i64 2)))),
      .f (.op none (some 21) (.iadA 64 1 (.t 2) (.t 20))),
      .f (.op none (some 22) (.ld1 (.t 21))),
      .f (.op none (some 24) (.mov (.t 3))),
      .f (.op none (some 25) (.bin .sub (.t 24) (.c (.int .i64 7)))),
      .f (.op none (some 26) (.iadA 64 1 (.t 2) (.t 25))),
      .f (.op none (some 27) (.ld1 (.t 26))),
      .f (.op none (some 29) (.mov (.t 3))),
      .f (.op none (some 30) (.bin .sub (.t 29) (.c (.int .i64 15)))),
      .f (.op none (some 31) (.iadA 64 1 (.t 2) (.t 30))),
      .f (.op none (some 32) (.ld1 (.t 31))),
      .f (.op none (some 35) (.mov (.t 3))),
      .f (.op none (some 36) (.bin .sub (.t 35) (.c (.int .i64 16)))),
      .f (.op none (some 37) (.iadA 64 1 (.t 2) (.t 36))),
      .f (.op none (some 38) (.ld1 (.t 37))),
      .b (.call none (some 23) 88 [.t 22, .c (.int .i64 17), .c (.int .i64 19), .c (.int .i64 10)]) [.op none (some 27) (.ld1 (.t 26)), .op none (some 32) (.ld1 (.t 31)), .op none (some 38) (.ld1 (.t 37))],
      .f (.op none (some 28) (.bin .add (.t 23) (.t 27))),
      .b (.call none (some 33) 88 [.t 32, .c (.int .i64 7), .c (.int .i64 18), .c (.int .i64 3)]) [.op none (some 27) (.ld1 (.t 26)), .op none (some 38) (.ld1 (.t 37))],
      .f (.op none (some 34) (.bin .add (.t 28) (.t 33))),
      .f (.op none (some 39) (.bin .add (.t 34) (.t 38))),
      .f (.op none (some 40) (.iadA 64 1 (.t 2) (.t 18))),
      .b (.op none none (.st 1 (.t 40) (.t 39))) []])
    (.exit 1))
    .skip))
  (.seq
  (.reg [.op none (some 41) (.mov (.t 0)),
    .op none (some 42) (.nchk (.t 41)),
    .op none (some 43) (.fad 8 (.t 42)),
    .op none (some 44) (.mov (.t 3)),
    .op none (some 45) (.bin .mul (.c (.int .i64 4)) (.t 44)),
    .op none (some 46) (.mov (.t 3)),
    .op none (some 47) (.bin .mul (.c (.int .i64 4)) (.t 46)),
    .op none (some 48) (.bin .add (.t 47) (.c (.int .i64 4))),
    .op none (some 49) (.slA 64 1 (.t 43) (some (.t 45)) (some (.t 48)) none),
    .op none (some 50) (.lenV (.t 49)),
    .op none (some 51) (.mov (.c (.int .i64 0)))])
  (.block 2
  (.loop F76_l1))))))
  (.reg [.op none (some 65) (.bin .add (.t 13) (.c (.int .i64 1))),
    .op none (some 13) (.mov (.t 65))]))))

def F76_l2 : ACode :=
  (.seq
  (.reg [.op none (some 70) (.bin .lss (.t 69) (.c (.int .i64 64)))])
  (.seq
  (.cond (.t 70)
    .skip
    (.exit 4))
  (.seq
  (.block 5
  (.seq
  (.reg [.op none (some 71) (.mov (.t 69)),
    .op none (some 72) (.ixA 64 1 false (.t 68) (.t 69)),
    .op none (some 7) (.mov (.t 71)),
    .op none (some 8) (.mov (.t 72))])
  (.seq
  (.draw [.f (.op none (some 73) (.iadA 8 1 (.t 6) (.c (.int .i64 7)))),
    .f (.op none (some 74) (.ld1 (.t 73))),
    .f (.op none (some 75) (.iadA 8 1 (.t 6) (.c (.int .i64 4)))),
    .f (.op none (some 76) (.ld1 (.t 75))),
    .f (.op none (some 79) (.iadA 8 1 (.t 6) (.c (.int .i64 4)))),
    .f (.op none (some 80) (.ld1 (.t 79))),
    .f (.op none (some 81) (.iadA 8 1 (.t 6) (.c (.int .i64 5)))),
    .f (.op none (some 82) (.ld1 (.t 81))),
    .f (.op none (some 83) (.bin .and (.t 80) (.t 82))),
    .f (.op none (some 84) (.iadA 8 1 (.t 6) (.c (.int .i64 6)))),
    .f (.op none (some 85) (.ld1 (.t 84))),
    .f (.op none (some 86) (.iadA 8 1 (.t 6) (.c (.int .i64 4)))),
    .f (.op none (some 87) (.ld1 (.t 86))),
    .f (.op none (some 88) (.bin .andNot (.t 85) (.t 87))),
    .f (.op none (some 89) (.bin .or (.t 83) (.t 88))),
    .f (.op none (some 91) (.mov (.t 8))),
    .f (.op none (some 93) (.mov (.t 7))),
    .f (.op none (some 94) (.iadA 64 1 (.t 2) (.t 93))),
    .f (.op none (some 95) (.ld1 (.t 94))),
    .b (.call none (some 77) 89 [.t 76, .c (.int .i64 6), .c (.int .i64 11), .c (.int .i64 25)]) [.op none (some 74) (.ld1 (.t 73)), .op none (some 80) (.ld1 (.t 79)), .op none (some 82) (.ld1 (.t 81)), .op none (some 85) (.ld1 (.t 84)), .op none (some 87) (.ld1 (.t 86)), .op none (some 95) (.ld1 (.t 94))],
    .f (.op none (some 78) (.bin .add (.t 74) (.t 77))),
    .f (.op none (some 90) (.bin .add (.t 78) (.t 89))),
    .f (.op none (some 92) (.bin .add (.t 90) (.t 91))),
    .f (.op none (some 96) (.bin .add (.t 92) (.t 95))),
    .f (.op none (some 9) (.mov (.t 96)))])
  (.seq
  (.draw [.f (.op none (some 97) (.iadA 8 1 (.t 6) (.c (.int .i64 0)))),
    .f (.op none (some 98) (.ld1 (.t 97))),
    .f (.op none (some 100) (.iadA 8 1 (.t 6) (.c (.int .i64 0)))),
    .f (.op none (some 101) (.ld1 (.t 100))),
    .f (.op none (some 102) (.iadA 8 1 (.t 6) (.c (.int .i64 1)))),
    .f (.op none (some 103) (.ld1 (.t 102))),
    .f (.op none (some 104) (.bin .and (.t 101) (.t 103))),
    .f (.op none (some 105) (.iadA 8 1 (.t 6) (.c (.int .i64 0)))),
    .f (.op none (some 106) (.ld1 (.t 105))),
    .f (.op none (some 107) (.iadA 8 1 (.t 6) (.c (.int .i64 2)))),
    .f (.op none (some 108) (.ld1 (.t 107))),
    .f (.op none (some 109) (.bin .and (.t 106) (.t 108))),
    .f (.op none (some 110) (.bin .xor (.t 104) (.t 109))),
    .f (.op none (some 111) (.iadA 8 1 (.t 6) (.c (.int .i64 1)))),
    .f (.op none (some 112) (.ld1 (.t 111))),
    .f (.op none (some 113) (.iadA 8 1 (.t 6) (.c (.int .i64 2)))),
    .f (.op none (some 114) (.ld1 (.t 113))),
    .f (.op none (some 115) (.bin .and (.t 112) (.t 114))),
    .f (.op none (some 116) (.bin .xor (.t 110) (.t 115))),
    .b (.call none (some 99) 89 [.t 98, .c (.int .i64 2), .c (.int .i64 13), .c (.int .i64 22)]) [.op none (some 101) (.ld1 (.t 100)), .op none (some 103) (.ld1 (.t 102)), .op none (some 106) (.ld1 (.t 105)), .op none (some 108) (.ld1 (.t 107)), .op none (some 112) (.ld1 (.t 111)), .op none (some 114) (.ld1 (.t 113))],
    .f (.op none (some 117) (.bin .add (.t 99) (.t 116))),
    .f (.op none (some 10) (.mov (.t 117)))])
  (.seq
  (.draw [.f (.op none (some 118) (.slA 8 1 (.t 6) (some (.c (.int .i64 1))) none none)),
    .f (.op none (some 119) (.slA 8 1 (.t 6) none (some (.c (.int .i64 7))) none)),
    .b (.op none (some 120) (.cpy 1 (.t 118) (.t 119))) []])
  (.reg [.op none (some 121) (.mov (.t 9)),
    .op none (some 122) (.mov (.t 10)),
    .op none (some 123) (.bin .add (.t 121) (.t 122)),
    .op none (some 124) (.iadA 8 1 (.t 6) (.c (.int .i64 4))),
    .op none (some 125) (.ld1 (.t 124)),
    .op none (some 126) (.mov (.t 9)),
    .op none (some 127) (.bin .add (.t 125) (.t 126)),
    .op none (some 128) (.iadA 8 1 (.t 6) (.c (.int .i64 0))),
    .op none none (.st 1 (.t 128) (.t 123)),
    .op none (some 129) (.iadA 8 1 (.t 6) (.c (.int .i64 4))),
    .op none none (.st 1 (.t 129) (.t 127))]))))))
  (.reg [.op none (some 130) (.bin .add (.t 69) (.c (.int .i64 1))),
    .op none (some 69) (.mov (.t 130))]))))

def F76_l3 : ACode :=
  (.seq
  (.reg [.op none (some 133) (.bin .lss (.t 132) (.c (.int .i64 8)))])
  (.seq
  (.cond (.t 133)
    .skip
    (.exit 6))
  (.seq
  (.block 7
  (.seq
  (.reg [.op none (some 134) (.mov (.t 132)),
    .op none (some 135) (.ixA 8 1 false (.t 131) (.t 132)),
    .op none (some 11) (.mov (.t 134)),
    .op none (some 12) (.mov (.t 135))])
  (.draw [.f (.op none (some 136) (.mov (.t 0))),
    .f (.op none (some 137) (.mov (.t 11))),
    .f (.op none (some 138) (.nchk (.t 136))),
    .f (.op none (some 139) (.fad 0 (.t 138))),
    .f (.op none (some 140) (.iadA 8 1 (.t 139) (.t 137))),
    .f (.op none (some 141) (.ld1 (.t 140))),
    .f (.op none (some 142) (.mov (.t 12))),
    .f (.op none (some 143) (.bin .add (.t 141) (.t 142))),
    .f (.op none (some 144) (.nchk (.t 136))),
    .f (.op none (some 145) (.fad 0 (.t 144))),
    .f (.op none (some 146) (.iadA 8 1 (.t 145) (.t 137))),
    .b (.op none none (.st 1 (.t 146) (.t 143))) []])))
  (.reg [.op none (some 147) (.bin .add (.t 132) (.c (.int .i64 1))),
    .op none (some 132) (.mov (.t 147))]))))

def F76 : AFun :=
  { n := 148, res := [], code :=
  (.seq
  (.reg [.op none (some 2) (.new 127 [.int .u32 0, .int .u32 0, .int .u32 0, .int .u32 0, .int .u32 0, .int .u32 0, .int .u32 0, .int .u32 0, .int .u32 0, .int .u32 0, .int .u32 0, .int .u32 0, .int .u32 0, .int .u32 0, .int .u32 0, .int .u32 0, .int .u32 0, .int .u32 0, .int .u32 0, .int .u32 0, .int .u32 0, .int .u32 0, .int .u32 0, .int .u32 0, .int .u32 0, .int .u32 0, .int .u32 0, .int .u32 0, .int .u32 0, .int .u32 0, .int .u32 0, .int .u32 0, .int .u32 0, .int .u32 0, .int .u32 0, .int .u32 0, .int .u32 0, .int .u32 0, .int .u32 0, .int .u32 0, .int .u32 0, .int .u32 0, .int .u32 0, .int .u32 0, .int .u32 0, .int .u32 0, .int .u32 0, .int .u32 0, .int .u32 0, .int .u32 0, .int .u32 0, .int .u32 0, .int .u32 0, .int .u32 0, .int .u32 0, .int .u32 0, .int .u32 0, .int .u32 0, .int .u32 0, .int .u32 0, .int .u32 0, .int .u32 0, .int .u32 0, .int .u32 0])])
  (.seq
  (.seq
  (.reg [.op none (some 13) (.mov (.c (.int .i64 0)))])
  (.block 0
  (.loop F76_l0)))
  (.seq
  (.reg [.op none (some 66) (.mov (.t 0)),
    .call none (some 67) 77 [.t 66],
    .op none (some 6) (.new 92 [.int .u32 0, .int .u32 0, .int .u32 0, .int .u32 0, .int .u32 0, .int .u32 0, .int .u32 0, .int .u32 0]),
    .op none none (.st 8 (.t 6) (.t 67))])
  (.seq
  (.seq
  (.reg [.op none (some 68) (.ldn 64 (.c (.pointer (some ({ block := 0, off := 0 }))))),
    .op none (some 69) (.mov (.c (.int .i64 0)))])
  (.block 4
  (.loop F76_l2)))
  (.seq
  (.reg [.op none (some 131) (.ldn 8 (.t 6)),
    .op none (some 132) (.mov (.c (.int .i64 0)))])
  (.block 6
  (.loop F76_l3))))))) }
theorem F76_ok : compFun Tryd.prog 3 Tryd.f76 = some F76 := by kernel_rfl

def F77_l0 : ACode :=
  (.seq
  (.reg [.op none (some 12) (.bin .lss (.t 11) (.c (.int .i64 8)))])
  (.seq
  (.cond (.t 12)
    .skip
    (.exit 0))
  (.seq
  (.block 1
  (.seq
  (.reg [.op none (some 13) (.mov (.t 11)),
    .op none (some 14) (.ixA 8 1 false (.t 10) (.t 11)),
    .op none (some 4) (.mov (.t 13)),
    .op none (some 5) (.mov (.t 14))])
  (.reg [.op none (some 15) (.mov (.t 4)),
    .op none (some 16) (.iadA 8 1 (.t 3) (.t 15)),
    .op none (some 17) (.ld1 (.t 16)),
    .op none (some 18) (.mov (.t 5)),
    .op none (some 19) (.bin .add (.t 17) (.t 18)),
    .op none (some 20) (.iadA 8 1 (.t 3) (.t 15)),
    .op none none (.st 1 (.t 20) (.t 19))])))
  (.reg [.op none (some 21) (.bin .add (.t 11) (.c (.int .i64 1))),
    .op none (some 11) (.mov (.t 21))]))))

def F77 : AFun :=
  { n := 23, res := [.cn 2 8], code :=
  (.seq
  (.reg [.op none (some 2) (.new 92 [.int .u32 0, .int .u32 0, .int .u32 0, .int .u32 0, .int .u32 0, .int .u32 0, .int .u32 0, .int .u32 0])])
  (.seq
  (.reg [.op none (some 6) (.ldn 8 (.c (.pointer (some ({ block := 1, off := 0 }))))),
    .op none (some 3) (.new 92 [.int .u32 0, .int .u32 0, .int .u32 0, .int .u32 0, .int .u32 0, .int .u32 0, .int .u32 0, .int .u32 0]),
    .op none none (.st 8 (.t 3) (.t 6))])
  (.seq
  (.seq
  (.reg [.op none (some 7) (.mov (.t 0)),
    .op none (some 8) (.nchk (.t 7)),
    .op none (some 9) (.fad 0 (.t 8)),
    .op none (some 10) (.ldn 8 (.t 9)),
    .op none (some 11) (.mov (.c (.int .i64 0)))])
  (.block 0
  (.loop F77_l0)))
  (.seq
  (.reg [.op none (some 22) (.ldn 8 (.t 3)),
    .op none none (.st 8 (.t 2) (.t 22))])
  .ret)))) }
theorem F77_ok : compFun Tryd.prog 3 Tryd.f77 = some F77 := by kernel_rfl

def F82 : AFun :=
  { n := 8, res := [.t 4], code :=
  (.seq
  (.reg [.op none (some 4) (.mov (.c (.int .i64 0)))])
  (.seq
  (.reg [.op none (some 5) (.mov (.t 0)),
    .op none (some 6) (.mov (.t 1)),
    .call none (some 7) 91 [.t 5, .t 6, .c (.bool true)],
    .op none (some 4) (.mov (.t 7))])
  .ret)) }
theorem F82_ok : compFun Tryd.prog 3 Tryd.f82 = some F82 := by kernel_rfl

def F83 : AFun :=
  { n := 23, res := [.t 4, .t 5, .t 6], code :=
  (.seq
  (.reg [.op none (some 4) (.mov (.c (.string (⟨#[]⟩)))),
    .op none (some 5) (.mov (.c (.string (⟨#[]⟩)))),
    .op none (some 6) (.mov (.c (.bool false)))])
  (.seq
  (.seq
  (.reg [.op none (some 8) (.mov (.t 0)),
    .op none (some 9) (.mov (.t 1)),
    .call none (some 10) 92 [.t 8, .t 9],
    .op none (some 7) (.mov (.t 10))])
  (.seq
  (.reg [.op none (some 11) (.mov (.t 7)),
    .op none (some 12) (.bin .geq (.t 11) (.c (.int .i64 0)))])
  (.cond (.t 12)
    (.seq
    (.draw [.f (.op none (some 13) (.mov (.t 0))),
      .f (.op none (some 14) (.mov (.t 7))),
      .f (.op none (some 15) (.slS (.t 13) none (some (.t 14)))),
      .f (.op none (some 16) (.mov (.t 0))),
      .f (.op none (some 17) (.mov (.t 7))),
      .f (.op none (some 18) (.mov (.t 1))),
      .f (.op none (some 19) (.lenS (.t 18))),
      .f (.op none (some 20) (.bin .add (.t 17) (.t 19))),
      .f (.op none (some 21) (.slS (.t 16) (some (.t 20)) none)),
      .f (.op none (some 4) (.mov (.t 15))),
      .f (.op none (some 5) (.mov (.t 21))),
      .f (.op none (some 6) (.mov (.c (.bool true))))])
    .ret)
    .skip)))
  (.seq
  (.reg [.op none (some 22) (.mov (.t 0)),
    .op none (some 4) (.mov (.t 22)),
    .op none (some 5) (.mov (.c (.string (⟨#[]⟩)))),
    .op none (some 6) (.mov (.c (.bool false)))])
  .ret))) }
theorem F83_ok : compFun Tryd.prog 3 Tryd.f83 = some F83 := by kernel_rfl

def F84 : AFun :=
  { n := 8, res := [.t 4], code :=
  (.seq
  (.reg [.op none (some 4) (.mov (.c (.int .i64 0)))])
  (.seq
  (.reg [.op none (some 5) (.mov (.t 0)),
    .op none (some 6) (.mov (.t 1)),
    .call none (some 7) 93 [.t 5, .t 6],
    .op none (some 4) (.mov (.t 7))])
  .ret)) }
theorem F84_ok : compFun Tryd.prog 3 Tryd.f84 = some F84 := by kernel_rfl

def F86 : AFun :=
  { n := 10, res := [.t 4], code :=
  (.seq
  (.reg [.op none (some 4) (.mov (.c (.bool false)))])
  (.seq
  (.reg [.op none (some 5) (.mov (.t 0)),
    .op none (some 6) (.b2s (.t 5)),
    .op none (some 7) (.mov (.t 1)),
    .op none (some 8) (.b2s (.t 7)),
    .op none (some 9) (.bin .eql (.t 6) (.t 8)),
    .op none (some 4) (.mov (.t 9))])
  .ret)) }
theorem F86_ok : compFun Tryd.prog 3 Tryd.f86 = some F86 := by kernel_rfl

def F88 : AFun :=
  { n := 22, res := [.t 8], code :=
  (.seq
  (.reg [.op none (some 8) (.mov (.c (.int .u32 0)))])
  (.seq
  (.draw [.f (.op none (some 9) (.mov (.t 0))),
    .f (.op none (some 10) (.mov (.t 1))),
    .f (.op none (some 11) (.un .neg (.t 10))),
    .f (.op none (some 13) (.mov (.t 0))),
    .f (.op none (some 14) (.mov (.t 2))),
    .f (.op none (some 15) (.un .neg (.t 14))),
    .f (.op none (some 18) (.mov (.t 0))),
    .f (.op none (some 19) (.mov (.t 3))),
    .f (.op none (some 20) (.bin .shr (.t 18) (.t 19))),
    .b (.call none (some 12) 94 [.t 9, .t 11]) [],
    .b (.call none (some 16) 94 [.t 13, .t 15]) [],
    .f (.op none (some 17) (.bin .xor (.t 12) (.t 16))),
    .f (.op none (some 21) (.bin .xor (.t 17) (.t 20))),
    .f (.op none (some 8) (.mov (.t 21)))])
  .ret)) }
theorem F88_ok : compFun Tryd.prog 3 Tryd.f88 = some F88 := by kernel_rfl

def F89 : AFun :=
  { n := 23, res := [.t 8], code :=
  (.seq
  (.reg [.op none (some 8) (.mov (.c (.int .u32 0)))])
  (.seq
  (.reg [.op none (some 9) (.mov (.t 0)),
    .op none (some 10) (.mov (.t 1)),
    .op none (some 11) (.un .neg (.t 10)),
    .call none (some 12) 94 [.t 9, .t 11],
    .op none (some 13) (.mov (.t 0)),
    .op none (some 14) (.mov (.t 2)),
    .op none (some 15) (.un .neg (.t 14)),
    .call none (some 16) 94 [.t 13, .t 15],
    .op none (some 17) (.bin .xor (.t 12) (.t 16)),
    .op none (some 18) (.mov (.t 0)),
    .op none (some 19) (.mov (.t 3)),
    .op none (some 20) (.un .neg (.t 19)),
    .call none (some 21) 94 [.t 18, .t 20],
    .op none (some 22) (.bin .xor (.t 17) (.t 21)),
    .op none (some 8) (.mov (.t 22))])
  .ret)) }
theorem F89_ok : compFun Tryd.prog 3 Tryd.f89 = some F89 := by kernel_rfl

def F91_l0 : ACode :=
  (.seq
  (.reg [.op none (some 11) (.nxt (.t 10)),
    .op none (some 12) (.ext 0 (.t 11))])
  (.seq
  (.cond (.t 12)
    .skip
    (.exit 0))
  (.block 1
  (.seq
  (.reg [.op none (some 13) (.ext 1 (.t 11)),
    .op none (some 14) (.ext 2 (.t 11)),
    .op none (some 7) (.mov (.t 13)),
    .op none (some 8) (.mov (.t 14))])
  (.seq
  (.reg [.op none (some 15) (.mov (.t 1)),
    .op none (some 16) (.mov (.t 8)),
    .callv none (some 17) (.t 15) [.t 16],
    .op none (some 18) (.mov (.t 2)),
    .op none (some 19) (.eql false .bool (.t 17) (.t 18))])
  (.cond (.t 19)
    (.seq
    (.reg [.op none (some 20) (.mov (.t 7)),
      .op none (some 6) (.mov (.t 20))])
    .ret)
    .skip))))))

def F91 : AFun :=
  { n := 21, res := [.t 6], code :=
  (.seq
  (.reg [.op none (some 6) (.mov (.c (.int .i64 0)))])
  (.seq
  (.seq
  (.reg [.op none (some 9) (.mov (.t 0)),
    .op none (some 10) (.rng (.t 9))])
  (.block 0
  (.loop F91_l0)))
  (.seq
  (.reg [.op none (some 6) (.mov (.c (.int .i64 (-1))))])
  .ret))) }
theorem F91_ok : compFun Tryd.prog 3 Tryd.f91 = some F91 := by kernel_rfl

def F92_l0 : ACode :=
  (.seq
  (.seq
  (.reg [.op none (some 57) (.mov (.t 8)),
    .op none (some 58) (.mov (.t 9)),
    .op none (some 59) (.bin .lss (.t 57) (.t 58))])
  (.cond (.t 59)
    .skip
    (.exit 1)))
  (.block 2
  (.seq
  (.seq
  (.reg [.op none (some 60) (.mov (.t 0)),
    .op none (some 61) (.mov (.t 8)),
    .op none (some 62) (.ixS (.t 60) (.t 61)),
    .op none (some 63) (.mov (.t 6)),
    .op none (some 64) (.bin .neq (.t 62) (.t 63))])
  (.cond (.t 64)
    (.seq
    (.reg [.op none (some 65) (.mov (.t 0)),
      .op none (some 66) (.mov (.t 8)),
      .op none (some 67) (.bin .add (.t 66) (.c (.int .i64 1))),
      .op none (some 68) (.mov (.t 9)),
      .op none (some 69) (.slS (.t 65) (some (.t 67)) (some (.t 68))),
      .op none (some 70) (.mov (.t 6)),
      .call none (some 71) 93 [.t 69, .t 70],
      .op none (some 11) (.mov (.t 71))])
    (.seq
    (.seq
    (.reg [.op none (some 72) (.mov (.t 11)),
      .op none (some 73) (.bin .lss (.t 72) (.c (.int .i64 0)))])
    (.cond (.t 73)
      (.seq
      (.reg [.op none (some 4) (.mov (.c (.int .i64 (-1))))])
      .ret)
      .skip))
    (.reg [.op none (some 74) (.mov (.t 8)),
      .op none (some 75) (.mov (.t 11)),
      .op none (some 76) (.bin .add (.t 75) (.c (.int .i64 1))),
      .op none (some 77) (.bin .add (.t 74) (.t 76)),
      .op none (some 8) (.mov (.t 77))])))
    .skip))
  (.seq
  (.seq
  (.reg [.op none (some 78) (.mov (.t 0)),
    .op none (some 79) (.mov (.t 8)),
    .op none (some 80) (.bin .add (.t 79) (.c (.int .i64 1))),
    .op none (some 81) (.ixS (.t 78) (.t 80)),
    .op none (some 82) (.mov (.t 7)),
    .op none (some 83) (.bin .eql (.t 81) (.t 82)),
    .op none (some 84) (.mov (.t 83)),
    .op (some (84, true)) (some 85) (.mov (.t 0)),
    .op (some (84, true)) (some 86) (.mov (.t 8)),
    .op (some (84, true)) (some 87) (.mov (.t 8)),
    .op (some (84, true)) (some 88) (.mov (.t 5)),
    .op (some (84, true)) (some 89) (.bin .add (.t 87) (.t 88)),
    .op (some (84, true)) (some 90) (.slS (.t 85) (some (.t 86)) (some (.t 89))),
    .op (some (84, true)) (some 91) (.mov (.t 1)),
    .op (some (84, true)) (some 92) (.bin .eql (.t 90) (.t 91)),
    .op none (some 93) (.pick (.t 84) (.t 92) (.c (.bool false)))])
  (.cond (.t 93)
    (.seq
    (.reg [.op none (some 94) (.mov (.t 8)),
      .op none (some 4) (.mov (.t 94))])
    .ret)
    .skip))
  (.seq
  (.reg [.op none (some 95) (.mov (.t 8)),
    .op none (some 96) (.bin .add (.t 95) (.c (.int .i64 1))),
    .op none (some 8) (.mov (.t 96))])
  (.seq
  (.reg [.op none (some 97) (.mov (.t 10)),
    .op none (some 98) (.bin .add (.t 97) (.c (.int .i64 1))),
    .op none (some 10) (.mov (.t 98))])
  (.seq
  (.reg [.op none (some 99) (.mov (.t 5)),
    .op none (some 100) (.ld1 (.c (.pointer (some ({ block := 2, off := 0 }))))),
    .op none (some 101) (.bin .leq (.t 99) (.t 100)),
    .op none (some 102) (.mov (.t 101)),
    .op (some (102, true)) (some 103) (.mov (.t 10)),
    .op (some (102, true)) (some 104) (.mov (.t 8)),
    .call (some (102, true)) (some 105) 96 [.t 104],
    .op (some (102, true)) (some 106) (.bin .gtr (.t 103) (.t 105)),
    .op none (some 107) (.pick (.t 102) (.t 106) (.c (.bool false)))])
  (.cond (.t 107)
    (.seq
    (.reg [.op none (some 108) (.mov (.t 0)),
      .op none (some 109) (.mov (.t 8)),
      .op none (some 110) (.slS (.t 108) (some (.t 109)) none),
      .op none (some 111) (.mov (.t 1)),
      .call none (some 112) 95 [.t 110, .t 111],
      .op none (some 12) (.mov (.t 112))])
    (.seq
    (.seq
    (.reg [.op none (some 113) (.mov (.t 12)),
      .op none (some 114) (.bin .geq (.t 113) (.c (.int .i64 0)))])
    (.cond (.t 114)
      (.seq
      (.reg [.op none (some 115) (.mov (.t 12)),
        .op none (some 116) (.mov (.t 8)),
        .op none (some 117) (.bin .add (.t 115) (.t 116)),
        .op none (some 4) (.mov (.t 117))])
      .ret)
      .skip))
    (.seq
    (.reg [.op none (some 4) (.mov (.c (.int .i64 (-1))))])
    .ret)))
    (.seq
    (.reg [.op none (some 118) (.mov (.t 5)),
      .op none (some 119) (.ld1 (.c (.pointer (some ({ block := 2, off := 0 }))))),
      .op none (some 120) (.bin .gtr (.t 118) (.t 119)),
      .op none (some 121) (.mov (.t 120)),
      .op (some (121, true)) (some 122) (.mov (.t 10)),
      .op (some (121, true)) (some 123) (.mov (.t 8)),
      .op (some (121, true)) (some 124) (.bin .shr (.t 123) (.c (.int .u64 4))),
      .op (some (121, true)) (some 125) (.bin .add (.c (.int .i64 4)) (.t 124)),
      .op (some (121, true)) (some 126) (.bin .geq (.t 122) (.t 125)),
      .op none (some 127) (.pick (.t 121) (.t 126) (.c (.bool false))),
      .op none (some 128) (.mov (.t 127)),
      .op (some (128, true)) (some 129) (.mov (.t 8)),
      .op (some (128, true)) (some 130) (.mov (.t 9)),
      .op (some (128, true)) (some 131) (.bin .lss (.t 129) (.t 130)),
      .op none (some 132) (.pick (.t 128) (.t 131) (.c (.bool false)))])
    (.cond (.t 132)
      (.seq
      (.reg [.op none (some 133) (.mov (.t 0)),
        .op none (some 134) (.mov (.t 8)),
        .op none (some 135) (.slS (.t 133) (some (.t 134)) none),
        .op none (some 136) (.mov (.t 1)),
        .call none (some 137) 97 [.t 135, .t 136],
        .op none (some 13) (.mov (.t 137))])
      (.seq
      (.seq
      (.reg [.op none (some 138) (.mov (.t 13)),
        .op none (some 139) (.bin .lss (.t 138) (.c (.int .i64 0)))])
      (.cond (.t 139)
        (.seq
        (.reg [.op none (some 4) (.mov (.c (.int .i64 (-1))))])
        .ret)
        .skip))
      (.seq
      (.reg [.op none (some 140) (.mov (.t 8)),
        .op none (some 141) (.mov (.t 13)),
        .op none (some 142) (.bin .add (.t 140) (.t 141)),
        .op none (some 4) (.mov (.t 142))])
      .ret)))
      .skip))))))))))

def F92 : AFun :=
  { n := 143, res := [.t 4], code :=
  (.seq
  (.reg [.op none (some 4) (.mov (.c (.int .i64 0)))])
  (.seq
  (.reg [.op none (some 14) (.mov (.t 1)),
    .op none (some 15) (.lenS (.t 14)),
    .op none (some 5) (.mov (.t 15))])
  (.seq
  (.block 0
  (.seq
  (.reg [.op none (some 17) (.mov (.t 5)),
    .op none (some 18) (.bin .eql (.t 17) (.c (.int .i64 0))),
    .op none (some 19) (.mov (.t 18)),
    .op (some (19, false)) (some 20) (.mov (.t 1)),
    .op (some (19, false)) (some 21) (.mov (.t 0)),
    .op (some (19, false)) (some 22) (.bin .eql (.t 20) (.t 21)),
    .op none (some 23) (.pick (.t 19) (.c (.bool true)) (.t 22)),
    .op none (some 16) (.mov (.t 23))])
  (.cond (.t 16)
    (.seq
    (.reg [.op none (some 4) (.mov (.c (.int .i64 0)))])
    .ret)
    (.seq
    (.reg [.op none (some 25) (.mov (.t 5)),
      .op none (some 26) (.bin .eql (.t 25) (.c (.int .i64 1))),
      .op none (some 24) (.mov (.t 26))])
    (.cond (.t 24)
      (.seq
      (.reg [.op none (some 27) (.mov (.t 0)),
        .op none (some 28) (.mov (.t 1)),
        .op none (some 29) (.ixS (.t 28) (.c (.int .i64 0))),
        .call none (some 30) 93 [.t 27, .t 29],
        .op none (some 4) (.mov (.t 30))])
      .ret)
      (.seq
      (.reg [.op none (some 32) (.mov (.t 5)),
        .op none (some 33) (.mov (.t 0)),
        .op none (some 34) (.lenS (.t 33)),
        .op none (some 35) (.bin .geq (.t 32) (.t 34)),
        .op none (some 31) (.mov (.t 35))])
      (.cond (.t 31)
        (.seq
        (.reg [.op none (some 4) (.mov (.c (.int .i64 (-1))))])
        .ret)
        (.seq
        (.reg [.op none (some 37) (.mov (.t 5)),
          .op none (some 38) (.ld1 (.c (.pointer (some ({ block := 2, off := 0 }))))),
          .op none (some 39) (.bin .leq (.t 37) (.t 38)),
          .op none (some 40) (.mov (.t 39)),
          .op (some (40, true)) (some 41) (.mov (.t 0)),
          .op (some (40, true)) (some 42) (.lenS (.t 41)),
          .op (some (40, true)) (some 43) (.bin .leq (.t 42) (.c (.int .i64 64))),
          .op none (some 44) (.pick (.t 40) (.t 43) (.c (.bool false))),
          .op none (some 36) (.mov (.t 44))])
        (.cond (.t 36)
          (.seq
          (.reg [.op none (some 45) (.mov (.t 0)),
            .op none (some 46) (.mov (.t 1)),
            .call none (some 47) 95 [.t 45, .t 46],
            .op none (some 4) (.mov (.t 47))])
          .ret)
          .skip)))))))))
  (.seq
  (.reg [.op none (some 48) (.mov (.t 1)),
    .op none (some 49) (.ixS (.t 48) (.c (.int .i64 0))),
    .op none (some 6) (.mov (.t 49))])
  (.seq
  (.reg [.op none (some 50) (.mov (.t 1)),
    .op none (some 51) (.ixS (.t 50) (.c (.int .i64 1))),
    .op none (some 7) (.mov (.t 51))])
  (.seq
  (.reg [.op none (some 8) (.mov (.c (.int .i64 0)))])
  (.seq
  (.reg [.op none (some 52) (.mov (.t 0)),
    .op none (some 53) (.lenS (.t 52)),
    .op none (some 54) (.mov (.t 5)),
    .op none (some 55) (.bin .sub (.t 53) (.t 54)),
    .op none (some 56) (.bin .add (.t 55) (.c (.int .i64 1))),
    .op none (some 9) (.mov (.t 56))])
  (.seq
  (.reg [.op none (some 10) (.mov (.c (.int .i64 0)))])
  (.seq
  (.block 1
  (.loop F92_l0))
  (.seq
  (.reg [.op none (some 4) (.mov (.c (.int .i64 (-1))))])
  .ret)))))))))) }
theorem F92_ok : compFun Tryd.prog 3 Tryd.f92 = some F92 := by kernel_rfl

def F93 : AFun :=
  { n := 8, res := [.t 4], code :=
  (.seq
  (.reg [.op none (some 4) (.mov (.c (.int .i64 0)))])
  (.seq
  (.reg [.op none (some 5) (.mov (.t 0)),
    .op none (some 6) (.mov (.t 1)),
    .call none (some 7) 98 [.t 5, .t 6],
    .op none (some 4) (.mov (.t 7))])
  .ret)) }
theorem F93_ok : compFun Tryd.prog 3 Tryd.f93 = some F93 := by kernel_rfl

def F94 : AFun :=
  { n := 17, res := [.t 4], code :=
  (.seq
  (.reg [.op none (some 4) (.mov (.c (.int .u32 0)))])
  (.seq
  (.reg [.op none (some 6) (.mov (.t 1)),
    .op none (some 7) (.cvt .u64 (.t 6)),
    .op none (some 8) (.bin .and (.t 7) (.c (.int .u64 31))),
    .op none (some 5) (.mov (.t 8))])
  (.seq
  (.reg [.op none (some 9) (.mov (.t 0)),
    .op none (some 10) (.mov (.t 5)),
    .op none (some 11) (.bin .shl (.t 9) (.t 10)),
    .op none (some 12) (.mov (.t 0)),
    .op none (some 13) (.mov (.t 5)),
    .op none (some 14) (.bin .sub (.c (.int .u64 32)) (.t 13)),
    .op none (some 15) (.bin .shr (.t 12) (.t 14)),
    .op none (some 16) (.bin .or (.t 11) (.t 15)),
    .op none (some 4) (.mov (.t 16))])
  .ret))) }
theorem F94_ok : compFun Tryd.prog 3 Tryd.f94 = some F94 := by kernel_rfl

end Go.Proofs.YtgkmlbkocgjmmaaDoor
