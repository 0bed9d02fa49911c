/-
  Functions of the program, compiled for the abstract machine: printed by a program of ours (gen.py).
-/
import Derived.Test.YtfjgpeoblnpelaaDoorA5
import Derived.Test.YtfjgpeoblnpelaaDoorProg
import Derived.KernelRfl
set_option linter.unusedVariables false
set_option linter.unusedSimpArgs false
set_option linter.unnecessarySimpa false
namespace Go.Proofs.YtfjgpeoblnpelaaDoor
open Go Go.AM
set_option maxRecDepth 100000

def F8_l0 : ACode :=
  (.seq
  (.seq
  (.reg [.op none (some 52) (.mov (.t 11)),
    .op none (some 53) (.mov (.t 7)),
    .op none (some 54) (.lenV (.t 53)),
    .op none (some 55) (.bin .lss (.t 52) (.t 54))])
  (.cond (.t 55)
    .skip
    (.exit 0)))
  (.seq
  (.block 1
  (.seq
  (.drawA 1 [.f (.op none (some 59) (.ldn 3 (.t 3))),
    .f (.op none (some 60) (.mov (.t 7))),
    .f (.op none (some 61) (.mov (.t 11))),
    .f (.op none (some 62) (.iadV 1 (.t 60) (.t 61))),
    .f (.op none (some 63) (.ld1 (.t 62))),
    .a (.op none (some 12) (.new 26 [.int .u8 0, .string (⟨#[]⟩), .slice none 0 0])) 0,
    .b (.call none (some 64) 22 [.t 59, .t 63]) [] [0],
    .f (.op none (some 58) (.mov (.t 64))),
    .f (.op none (some 65) (.ext 0 (.t 58))),
    .f (.op none (some 66) (.ext 1 (.t 58))),
    .b (.op none none (.st 3 (.t 12) (.t 65))) [] [],
    .f (.op none (some 13) (.mov (.t 66)))])
  (.seq
  (.seq
  (.draw [.f (.op none (some 67) (.mov (.t 13))),
    .f (.op none (some 68) (.bin .neq (.t 67) (.c (.int .i64 0)))),
    .f (.op none (some 69) (.mov (.t 68))),
    .f (.op (some (69, false)) (some 70) (.mov (.t 7))),
    .f (.op (some (69, false)) (some 71) (.lenV (.t 70))),
    .f (.op (some (69, false)) (some 72) (.ldn 3 (.t 3))),
    .b (.call (some (69, false)) (some 73) 16 [.t 72]) [],
    .f (.op (some (69, false)) (some 74) (.bin .neq (.t 71) (.t 73))),
    .f (.op none (some 75) (.pick (.t 69) (.c (.bool true)) (.t 74))),
    .f (.op none (some 76) (.mov (.t 75))),
    .f (.op (some (76, false)) (some 77) (.mov (.t 11))),
    .f (.op (some (76, false)) (some 78) (.bin .gtr (.t 77) (.c (.int .i64 0)))),
    .f (.op (some (76, false)) (some 79) (.mov (.t 78))),
    .f (.op (some (79, true)) (some 80) (.mov (.t 7))),
    .f (.op (some (79, true)) (some 81) (.mov (.t 11))),
    .f (.op (some (79, true)) (some 82) (.slV 1 (.t 80) none (some (.t 81)) none)),
    .f (.op (some (79, true)) (some 83) (.mov (.t 7))),
    .f (.op (some (79, true)) (some 84) (.mov (.t 11))),
    .f (.op (some (79, true)) (some 85) (.iadV 1 (.t 83) (.t 84))),
    .f (.op (some (79, true)) (some 86) (.ld1 (.t 85))),
    .b (.call (some (79, true)) (some 87) 32 [.t 82, .t 86]) [],
    .f (.op (some (76, false)) (some 88) (.pick (.t 79) (.t 87) (.c (.bool false)))),
    .f (.op none (some 89) (.pick (.t 76) (.c (.bool true)) (.t 88)))])
  (.cond (.t 89)
    (.seq
    (.reg [.op none (some 6) (.mov (.c (.bool false)))])
    .ret)
    .skip))
  (.seq
  (.seq
  (.reg [.op none (some 90) (.mov (.t 10)),
    .op none (some 91) (.bin .neq (.t 90) (.c (.int .i64 0))),
    .op none (some 92) (.mov (.t 91)),
    .op (some (92, false)) (some 93) (.mov (.t 8)),
    .op (some (92, false)) (some 94) (.mov (.t 7)),
    .op (some (92, false)) (some 95) (.mov (.t 11)),
    .op (some (92, false)) (some 96) (.iadV 1 (.t 94) (.t 95)),
    .op (some (92, false)) (some 97) (.ld1 (.t 96)),
    .call (some (92, false)) (some 98) 33 [.t 93, .t 97],
    .op none (some 99) (.pick (.t 92) (.c (.bool true)) (.t 98)),
    .op none (some 100) (.mov (.t 99)),
    .op (some (100, false)) (some 101) (.mov (.t 7)),
    .op (some (100, false)) (some 102) (.mov (.t 11)),
    .op (some (100, false)) (some 103) (.iadV 1 (.t 101) (.t 102)),
    .op (some (100, false)) (some 104) (.ld1 (.t 103)),
    .op (some (100, false)) (some 105) (.mov (.t 8)),
    .call (some (100, false)) (some 106) 33 [.t 104, .t 105],
    .op none (some 107) (.pick (.t 100) (.c (.bool true)) (.t 106))])
  (.cond (.t 107)
    (.exit 1)
    .skip))
  (.seq
  (.drawA 1 [.f (.op none (some 109) (.ldn 3 (.t 9))),
    .f (.op none (some 110) (.mov (.t 7))),
    .f (.op none (some 111) (.mov (.t 11))),
    .f (.op none (some 112) (.iadV 1 (.t 110) (.t 111))),
    .f (.op none (some 113) (.ld1 (.t 112))),
    .a (.op none (some 14) (.new 26 [.int .u8 0, .string (⟨#[]⟩), .slice none 0 0])) 0,
    .b (.call none (some 114) 22 [.t 109, .t 113]) [] [0],
    .f (.op none (some 108) (.mov (.t 114))),
    .f (.op none (some 115) (.ext 0 (.t 108))),
    .f (.op none (some 116) (.ext 1 (.t 108))),
    .b (.op none none (.st 3 (.t 14) (.t 115))) [] [],
    .f (.op none (some 15) (.mov (.t 116)))])
  (.seq
  (.reg [.op none (some 117) (.mov (.t 15)),
    .op none (some 118) (.bin .neq (.t 117) (.c (.int .i64 0))),
    .op none (some 119) (.mov (.t 118)),
    .op (some (119, false)) (some 120) (.ldn 3 (.t 12)),
    .op (some (119, false)) (some 121) (.ldn 3 (.t 14)),
    .call (some (119, false)) (some 122) 29 [.t 120, .t 121],
    .op (some (119, false)) (some 123) (.un .not (.t 122)),
    .op none (some 124) (.pick (.t 119) (.c (.bool true)) (.t 123))])
  (.cond (.t 124)
    (.seq
    (.reg [.op none (some 6) (.mov (.c (.bool false)))])
    .ret)
    .skip)))))))
  (.reg [.op none (some 56) (.mov (.t 11)),
    .op none (some 57) (.bin .add (.t 56) (.c (.int .i64 1))),
    .op none (some 11) (.mov (.t 57))])))

def F8 : AFun :=
  { n := 148, res := [.t 6], code :=
  (.seq
  (.reg [.op none (some 3) (.box 26 (.t 0)),
    .op none (some 5) (.box 26 (.t 2)),
    .op none (some 6) (.mov (.c (.bool false)))])
  (.seq
  (.seq
  (.reg [.op none (some 18) (.ldn 3 (.t 3)),
    .call none (some 19) 13 [.t 18, .c (.int .i64 600)],
    .op none (some 20) (.bin .gtr (.t 19) (.c (.int .i64 600))),
    .op none (some 21) (.mov (.t 20)),
    .op (some (21, false)) (some 22) (.ldn 3 (.t 5)),
    .call (some (21, false)) (some 23) 13 [.t 22, .c (.int .i64 600)],
    .op (some (21, false)) (some 24) (.bin .gtr (.t 23) (.c (.int .i64 600))),
    .op none (some 25) (.pick (.t 21) (.c (.bool true)) (.t 24))])
  (.cond (.t 25)
    (.seq
    (.reg [.call none (some 26) 12 [],
      .op none (some 6) (.mov (.t 26))])
    .ret)
    .skip))
  (.seq
  (.reg [.op none (some 27) (.ldn 3 (.t 3)),
    .call none (some 28) 30 [.t 27],
    .op none (some 7) (.mov (.t 28))])
  (.seq
  (.seq
  (.reg [.op none (some 29) (.mov (.t 7)),
    .op none (some 30) (.ldn 3 (.t 3)),
    .call none (some 31) 25 [.t 30],
    .call none (some 32) 28 [.t 29, .t 31],
    .op none (some 33) (.un .not (.t 32))])
  (.cond (.t 33)
    (.seq
    (.reg [.op none (some 6) (.mov (.c (.bool false)))])
    .ret)
    .skip))
  (.seq
  (.seq
  (.reg [.op none (some 34) (.mov (.t 7)),
    .op none (some 35) (.lenV (.t 34)),
    .op none (some 36) (.bin .eql (.t 35) (.c (.int .i64 0)))])
  (.cond (.t 36)
    (.seq
    (.reg [.call none (some 37) 12 [],
      .op none (some 6) (.mov (.t 37))])
    .ret)
    .skip))
  (.seq
  (.reg [.op none (some 38) (.mov (.t 7)),
    .op none (some 39) (.mov (.t 1)),
    .op none (some 40) (.mov (.t 7)),
    .op none (some 41) (.lenV (.t 40)),
    .call none (some 42) 31 [.t 39, .t 41],
    .op none (some 43) (.iadV 1 (.t 38) (.t 42)),
    .op none (some 44) (.ld1 (.t 43)),
    .op none (some 8) (.mov (.t 44))])
  (.seq
  (.reg [.op none (some 46) (.ldn 3 (.t 3)),
    .op none (some 47) (.mov (.t 8)),
    .op none (some 48) (.ldn 3 (.t 5)),
    .call none (some 49) 26 [.t 46, .t 47, .t 48],
    .op none (some 45) (.mov (.t 49)),
    .op none (some 50) (.ext 0 (.t 45)),
    .op none (some 51) (.ext 1 (.t 45)),
    .op none (some 9) (.new 26 [.int .u8 0, .string (⟨#[]⟩), .slice none 0 0]),
    .op none none (.st 3 (.t 9) (.t 50)),
    .op none (some 10) (.mov (.t 51))])
  (.seq
  (.seq
  (.reg [.op none (some 11) (.mov (.c (.int .i64 0)))])
  (.block 0
  (.loop F8_l0)))
  (.seq
  (.seq
  (.reg [.op none (some 125) (.mov (.t 10)),
    .op none (some 126) (.bin .eql (.t 125) (.c (.int .i64 0)))])
  (.cond (.t 126)
    (.seq
    (.reg [.op none (some 128) (.ldn 3 (.t 9)),
      .op none (some 129) (.mov (.t 8)),
      .call none (some 130) 22 [.t 128, .t 129],
      .op none (some 127) (.mov (.t 130)),
      .op none (some 131) (.ext 0 (.t 127)),
      .op none (some 132) (.ext 1 (.t 127)),
      .op none (some 16) (.new 26 [.int .u8 0, .string (⟨#[]⟩), .slice none 0 0]),
      .op none none (.st 3 (.t 16) (.t 131)),
      .op none (some 17) (.mov (.t 132))])
    (.seq
    (.reg [.op none (some 133) (.mov (.t 17)),
      .op none (some 134) (.bin .eql (.t 133) (.c (.int .i64 0))),
      .op none (some 135) (.mov (.t 134)),
      .op (some (135, true)) (some 136) (.ldn 3 (.t 16)),
      .op (some (135, true)) (some 137) (.ldn 3 (.t 5)),
      .call (some (135, true)) (some 138) 29 [.t 136, .t 137],
      .op none (some 139) (.pick (.t 135) (.t 138) (.c (.bool false))),
      .op none (some 140) (.mov (.t 139)),
      .op (some (140, true)) (some 141) (.ldn 3 (.t 9)),
      .call (some (140, true)) (some 142) 14 [.t 141],
      .op none (some 143) (.pick (.t 140) (.t 142) (.c (.bool false))),
      .op none (some 144) (.mov (.t 143)),
      .call (some (144, true)) (some 145) 12 [],
      .op none (some 146) (.pick (.t 144) (.t 145) (.c (.bool false))),
      .op none (some 6) (.mov (.t 146))])
    .ret))
    .skip))
  (.seq
  (.reg [.call none (some 147) 12 [],
    .op none (some 6) (.mov (.t 147))])
  .ret)))))))))) }
theorem F8_ok : compFun Tryd.prog 3 Tryd.f8 = some F8 := by kernel_rfl

def F10 : AFun :=
  { n := 23, res := [.t 2], code :=
  (.seq
  (.reg [.op none (some 2) (.mov (.c (.bool false)))])
  (.seq
  (.reg [.op none (some 3) (.mov (.t 0)),
    .op none (some 4) (.bin .neq (.t 3) (.c (.string (⟨#[]⟩)))),
    .op none (some 5) (.mov (.t 4)),
    .op (some (5, true)) (some 6) (.mov (.t 0)),
    .op (some (5, true)) (some 7) (.lenS (.t 6)),
    .op (some (5, true)) (some 8) (.bin .leq (.t 7) (.c (.int .i64 255))),
    .op none (some 9) (.pick (.t 5) (.t 8) (.c (.bool false))),
    .op none (some 10) (.mov (.t 9)),
    .op (some (10, true)) (some 11) (.mov (.t 0)),
    .op (some (10, true)) (some 12) (.bin .neq (.t 11) (.c (.string (⟨#[46]⟩)))),
    .op none (some 13) (.pick (.t 10) (.t 12) (.c (.bool false))),
    .op none (some 14) (.mov (.t 13)),
    .op (some (14, true)) (some 15) (.mov (.t 0)),
    .op (some (14, true)) (some 16) (.bin .neq (.t 15) (.c (.string (⟨#[46, 46]⟩)))),
    .op none (some 17) (.pick (.t 14) (.t 16) (.c (.bool false))),
    .op none (some 18) (.mov (.t 17)),
    .op (some (18, true)) (some 19) (.mov (.t 0)),
    .call (some (18, true)) (some 20) 37 [.t 19, .c (.string (⟨#[47, 0]⟩))],
    .op (some (18, true)) (some 21) (.un .not (.t 20)),
    .op none (some 22) (.pick (.t 18) (.t 21) (.c (.bool false))),
    .op none (some 2) (.mov (.t 22))])
  .ret)) }
theorem F10_ok : compFun Tryd.prog 3 Tryd.f10 = some F10 := by kernel_rfl

def F11_l0 : ACode :=
  (.seq
  (.seq
  (.reg [.op none (some 4) (.mov (.t 3)),
    .op none (some 5) (.mov (.t 0)),
    .op none (some 6) (.lenS (.t 5)),
    .op none (some 7) (.bin .lss (.t 4) (.t 6))])
  (.cond (.t 7)
    .skip
    (.exit 0)))
  (.seq
  (.block 1
  (.seq
  (.reg [.op none (some 10) (.mov (.t 0)),
    .op none (some 11) (.mov (.t 3)),
    .op none (some 12) (.ixS (.t 10) (.t 11)),
    .op none (some 13) (.bin .eql (.t 12) (.c (.int .u8 47))),
    .op none (some 14) (.mov (.t 13)),
    .op (some (14, false)) (some 15) (.mov (.t 0)),
    .op (some (14, false)) (some 16) (.mov (.t 3)),
    .op (some (14, false)) (some 17) (.ixS (.t 15) (.t 16)),
    .op (some (14, false)) (some 18) (.bin .eql (.t 17) (.c (.int .u8 0))),
    .op none (some 19) (.pick (.t 14) (.c (.bool true)) (.t 18))])
  (.cond (.t 19)
    (.seq
    (.reg [.op none (some 2) (.mov (.c (.bool false)))])
    .ret)
    .skip)))
  (.reg [.op none (some 8) (.mov (.t 3)),
    .op none (some 9) (.bin .add (.t 8) (.c (.int .i64 1))),
    .op none (some 3) (.mov (.t 9))])))

def F11 : AFun :=
  { n := 36, res := [.t 2], code :=
  (.seq
  (.reg [.op none (some 2) (.mov (.c (.bool false)))])
  (.seq
  (.seq
  (.reg [.op none (some 3) (.mov (.c (.int .i64 0)))])
  (.block 0
  (.loop F11_l0)))
  (.seq
  (.reg [.op none (some 20) (.mov (.t 0)),
    .op none (some 21) (.lenS (.t 20)),
    .op none (some 22) (.bin .geq (.t 21) (.c (.int .i64 1))),
    .op none (some 23) (.mov (.t 22)),
    .op (some (23, true)) (some 24) (.mov (.t 0)),
    .op (some (23, true)) (some 25) (.lenS (.t 24)),
    .op (some (23, true)) (some 26) (.bin .leq (.t 25) (.c (.int .i64 255))),
    .op none (some 27) (.pick (.t 23) (.t 26) (.c (.bool false))),
    .op none (some 28) (.mov (.t 27)),
    .op (some (28, true)) (some 29) (.mov (.t 0)),
    .op (some (28, true)) (some 30) (.bin .neq (.t 29) (.c (.string (⟨#[46]⟩)))),
    .op none (some 31) (.pick (.t 28) (.t 30) (.c (.bool false))),
    .op none (some 32) (.mov (.t 31)),
    .op (some (32, true)) (some 33) (.mov (.t 0)),
    .op (some (32, true)) (some 34) (.bin .neq (.t 33) (.c (.string (⟨#[46, 46]⟩)))),
    .op none (some 35) (.pick (.t 32) (.t 34) (.c (.bool false))),
    .op none (some 2) (.mov (.t 35))])
  .ret))) }
theorem F11_ok : compFun Tryd.prog 3 Tryd.f11 = some F11 := by kernel_rfl

def F12 : AFun :=
  { n := 95, res := [.t 0], code :=
  (.seq
  (.reg [.op none (some 0) (.mov (.c (.bool false)))])
  (.seq
  (.reg [.op none (some 11) (.bld [.int .u8 0, .string (⟨#[]⟩), .slice none 0 0] [(0, 1, .c (.int .u8 3)), (1, 1, .c (.string (⟨#[46, 46, 47, 97]⟩)))]),
    .op none (some 12) (.bld [.string (⟨#[]⟩), .int .u8 0, .string (⟨#[]⟩), .slice none 0 0] [(0, 1, .c (.string (⟨#[120]⟩))), (1, 3, .t 11)]),
    .op none (some 13) (.bldSl 48 1 [.string (⟨#[]⟩), .int .u8 0, .string (⟨#[]⟩), .slice none 0 0] [(0, 4, .t 12)]),
    .op none (some 14) (.bld [.int .u8 0, .string (⟨#[]⟩), .slice none 0 0] [(0, 1, .c (.int .u8 4)), (2, 1, .t 13)]),
    .op none (some 1) (.new 26 [.int .u8 0, .string (⟨#[]⟩), .slice none 0 0]),
    .op none none (.st 3 (.t 1) (.t 14))])
  (.seq
  (.drawA 2 [.f (.op none (some 17) (.ldn 3 (.t 1))),
    .f (.op none (some 18) (.bld [.string (⟨#[]⟩), .int .u8 0, .string (⟨#[]⟩), .slice none 0 0] [(0, 1, .c (.string (⟨#[100]⟩))), (1, 3, .t 17)])),
    .a (.op none (some 2) (.new 26 [.int .u8 0, .string (⟨#[]⟩), .slice none 0 0])) 1,
    .b (.call none (some 15) 35 [.c (.string (⟨#[104, 105]⟩))]) [.op none (some 17) (.ldn 3 (.t 1))] [1],
    .f (.op none (some 16) (.bld [.string (⟨#[]⟩), .int .u8 0, .string (⟨#[]⟩), .slice none 0 0] [(0, 1, .c (.string (⟨#[97]⟩))), (1, 3, .t 15)])),
    .a (.op none (some 19) (.bldSl 48 2 [.string (⟨#[]⟩), .int .u8 0, .string (⟨#[]⟩), .slice none 0 0, .string (⟨#[]⟩), .int .u8 0, .string (⟨#[]⟩), .slice none 0 0] [(0, 4, .t 16), (4, 4, .t 18)])) 0,
    .f (.op none (some 20) (.bld [.int .u8 0, .string (⟨#[]⟩), .slice none 0 0] [(0, 1, .c (.int .u8 4)), (2, 1, .t 19)])),
    .b (.op none none (.st 3 (.t 2) (.t 20))) [] []])
  (.seq
  (.reg [.op none (some 22) (.ldn 3 (.t 2)),
    .call none (some 23) 22 [.t 22, .c (.string (⟨#[100, 47, 120]⟩))],
    .op none (some 21) (.mov (.t 23)),
    .op none (some 24) (.ext 0 (.t 21)),
    .op none (some 25) (.ext 1 (.t 21)),
    .op none (some 3) (.new 26 [.int .u8 0, .string (⟨#[]⟩), .slice none 0 0]),
    .op none none (.st 3 (.t 3) (.t 24)),
    .op none (some 4) (.mov (.t 25))])
  (.seq
  (.reg [.op none (some 27) (.ldn 3 (.t 2)),
    .call none (some 28) 22 [.t 27, .c (.string (⟨#[100, 47, 121]⟩))],
    .op none (some 26) (.mov (.t 28)),
    .op none (some 29) (.ext 0 (.t 26)),
    .op none (some 30) (.ext 1 (.t 26)),
    .op none (some 5) (.new 26 [.int .u8 0, .string (⟨#[]⟩), .slice none 0 0]),
    .op none none (.st 3 (.t 5) (.t 29)),
    .op none (some 6) (.mov (.t 30))])
  (.seq
  (.reg [.op none (some 32) (.ldn 3 (.t 2)),
    .call none (some 33) 22 [.t 32, .c (.string (⟨#[47, 100]⟩))],
    .op none (some 31) (.mov (.t 33)),
    .op none (some 34) (.ext 0 (.t 31)),
    .op none (some 35) (.ext 1 (.t 31)),
    .op none (some 7) (.new 26 [.int .u8 0, .string (⟨#[]⟩), .slice none 0 0]),
    .op none none (.st 3 (.t 7) (.t 34)),
    .op none (some 8) (.mov (.t 35))])
  (.seq
  (.drawA 1 [.f (.op none (some 37) (.ldn 3 (.t 2))),
    .a (.op none (some 9) (.new 26 [.int .u8 0, .string (⟨#[]⟩), .slice none 0 0])) 0,
    .b (.call none (some 38) 35 [.c (.string (⟨#[]⟩))]) [.op none (some 37) (.ldn 3 (.t 2))] [0],
    .b (.call none (some 39) 26 [.t 37, .c (.string (⟨#[100, 47, 121]⟩)), .t 38]) [] [0],
    .f (.op none (some 36) (.mov (.t 39))),
    .f (.op none (some 40) (.ext 0 (.t 36))),
    .f (.op none (some 41) (.ext 1 (.t 36))),
    .b (.op none none (.st 3 (.t 9) (.t 40))) [] [],
    .f (.op none (some 10) (.mov (.t 41)))])
  (.seq
  (.reg [.op none (some 42) (.ldn 3 (.t 2)),
    .call none (some 43) 16 [.t 42],
    .op none (some 44) (.bin .eql (.t 43) (.c (.int .i64 4))),
    .op none (some 45) (.mov (.t 44)),
    .op (some (45, true)) (some 46) (.ldn 3 (.t 2)),
    .call (some (45, true)) (some 47) 18 [.t 46],
    .op (some (45, true)) (some 48) (.bin .eql (.t 47) (.c (.int .i64 2))),
    .op none (some 49) (.pick (.t 45) (.t 48) (.c (.bool false))),
    .op none (some 50) (.mov (.t 49)),
    .op (some (50, true)) (some 51) (.ldn 3 (.t 2)),
    .call (some (50, true)) (some 52) 20 [.t 51],
    .op (some (50, true)) (some 53) (.bin .eql (.t 52) (.c (.int .i64 6))),
    .op none (some 54) (.pick (.t 50) (.t 53) (.c (.bool false))),
    .op none (some 55) (.mov (.t 54)),
    .op (some (55, true)) (some 56) (.ldn 3 (.t 2)),
    .call (some (55, true)) (some 57) 30 [.t 56],
    .op (some (55, true)) (some 58) (.bldSl 9 4 [.string (⟨#[]⟩), .string (⟨#[]⟩), .string (⟨#[]⟩), .string (⟨#[]⟩)] [(0, 1, .c (.string (⟨#[]⟩))), (1, 1, .c (.string (⟨#[97]⟩))), (2, 1, .c (.string (⟨#[100]⟩))), (3, 1, .c (.string (⟨#[100, 47, 120]⟩)))]),
    .call (some (55, true)) (some 59) 28 [.t 57, .t 58],
    .op none (some 60) (.pick (.t 55) (.t 59) (.c (.bool false))),
    .op none (some 61) (.mov (.t 60)),
    .op (some (61, true)) (some 62) (.mov (.t 4)),
    .op (some (61, true)) (some 63) (.bin .eql (.t 62) (.c (.int .i64 0))),
    .op none (some 64) (.pick (.t 61) (.t 63) (.c (.bool false))),
    .op none (some 65) (.mov (.t 64)),
    .op (some (65, true)) (some 66) (.fad 0 (.t 3)),
    .op (some (65, true)) (some 67) (.ld1 (.t 66)),
    .op (some (65, true)) (some 68) (.bin .eql (.t 67) (.c (.int .u8 3))),
    .op none (some 69) (.pick (.t 65) (.t 68) (.c (.bool false))),
    .op none (some 70) (.mov (.t 69)),
    .op (some (70, true)) (some 71) (.mov (.t 6)),
    .op (some (70, true)) (some 72) (.bin .eql (.t 71) (.c (.int .i64 5))),
    .op none (some 73) (.pick (.t 70) (.t 72) (.c (.bool false))),
    .op none (some 74) (.mov (.t 73)),
    .op (some (74, true)) (some 75) (.mov (.t 8)),
    .op (some (74, true)) (some 76) (.bin .eql (.t 75) (.c (.int .i64 2))),
    .op none (some 77) (.pick (.t 74) (.t 76) (.c (.bool false))),
    .op none (some 78) (.mov (.t 77)),
    .op (some (78, true)) (some 79) (.mov (.t 10)),
    .op (some (78, true)) (some 80) (.bin .eql (.t 79) (.c (.int .i64 0))),
    .op none (some 81) (.pick (.t 78) (.t 80) (.c (.bool false))),
    .op none (some 82) (.mov (.t 81)),
    .op (some (82, true)) (some 83) (.ldn 3 (.t 9)),
    .call (some (82, true)) (some 84) 30 [.t 83],
    .op (some (82, true)) (some 85) (.bldSl 9 5 [.string (⟨#[]⟩), .string (⟨#[]⟩), .string (⟨#[]⟩), .string (⟨#[]⟩), .string (⟨#[]⟩)] [(0, 1, .c (.string (⟨#[]⟩))), (1, 1, .c (.string (⟨#[97]⟩))), (2, 1, .c (.string (⟨#[100]⟩))), (3, 1, .c (.string (⟨#[100, 47, 120]⟩))), (4, 1, .c (.string (⟨#[100, 47, 121]⟩)))]),
    .call (some (82, true)) (some 86) 28 [.t 84, .t 85],
    .op none (some 87) (.pick (.t 82) (.t 86) (.c (.bool false))),
    .op none (some 88) (.mov (.t 87)),
    .call (some (88, true)) (some 89) 10 [.c (.string (⟨#[97]⟩))],
    .op none (some 90) (.pick (.t 88) (.t 89) (.c (.bool false))),
    .op none (some 91) (.mov (.t 90)),
    .op (some (91, true)) (some 92) (.ldn 3 (.t 2)),
    .call (some (91, true)) (some 93) 14 [.t 92],
    .op none (some 94) (.pick (.t 91) (.t 93) (.c (.bool false))),
    .op none (some 0) (.mov (.t 94))])
  .ret)))))))) }
theorem F12_ok : compFun Tryd.prog 3 Tryd.f12 = some F12 := by kernel_rfl

def F13_l0 : ACode :=
  (.seq
  (.seq
  (.reg [.op none (some 18) (.mov (.t 6)),
    .op none (some 19) (.fad 2 (.t 2)),
    .op none (some 20) (.ld1 (.t 19)),
    .op none (some 21) (.lenV (.t 20)),
    .op none (some 22) (.bin .lss (.t 18) (.t 21)),
    .op none (some 23) (.mov (.t 22)),
    .op (some (23, true)) (some 24) (.mov (.t 5)),
    .op (some (23, true)) (some 25) (.mov (.t 1)),
    .op (some (23, true)) (some 26) (.bin .leq (.t 24) (.t 25)),
    .op none (some 27) (.pick (.t 23) (.t 26) (.c (.bool false)))])
  (.cond (.t 27)
    .skip
    (.exit 0)))
  (.seq
  (.block 1
  (.seq
  (.seq
  (.reg [.op none (some 30) (.fad 2 (.t 2)),
    .op none (some 31) (.ld1 (.t 30)),
    .op none (some 32) (.mov (.t 6)),
    .op none (some 33) (.iadV 4 (.t 31) (.t 32)),
    .op none (some 34) (.fad 0 (.t 33)),
    .op none (some 35) (.ld1 (.t 34)),
    .op none (some 36) (.lenS (.t 35)),
    .op none (some 37) (.mov (.t 1)),
    .op none (some 38) (.bin .gtr (.t 36) (.t 37))])
  (.cond (.t 38)
    (.seq
    (.reg [.op none (some 39) (.mov (.t 1)),
      .op none (some 40) (.bin .add (.t 39) (.c (.int .i64 1))),
      .op none (some 4) (.mov (.t 40))])
    .ret)
    .skip))
  (.seq
  (.reg [.op none (some 41) (.mov (.t 5)),
    .op none (some 42) (.fad 2 (.t 2)),
    .op none (some 43) (.ld1 (.t 42)),
    .op none (some 44) (.mov (.t 6)),
    .op none (some 45) (.iadV 4 (.t 43) (.t 44)),
    .op none (some 46) (.fad 0 (.t 45)),
    .op none (some 47) (.ld1 (.t 46)),
    .op none (some 48) (.lenS (.t 47)),
    .op none (some 49) (.bin .add (.t 41) (.t 48)),
    .op none (some 5) (.mov (.t 49))])
  (.seq
  (.reg [.op none (some 50) (.mov (.t 5)),
    .op none (some 51) (.mov (.t 1)),
    .op none (some 52) (.bin .leq (.t 50) (.t 51))])
  (.cond (.t 52)
    (.reg [.op none (some 53) (.mov (.t 5)),
      .op none (some 54) (.fad 2 (.t 2)),
      .op none (some 55) (.ld1 (.t 54)),
      .op none (some 56) (.mov (.t 6)),
      .op none (some 57) (.iadV 4 (.t 55) (.t 56)),
      .op none (some 58) (.fad 1 (.t 57)),
      .op none (some 59) (.ldn 3 (.t 58)),
      .op none (some 60) (.mov (.t 1)),
      .op none (some 61) (.mov (.t 5)),
      .op none (some 62) (.bin .sub (.t 60) (.t 61)),
      .call none (some 63) 13 [.t 59, .t 62],
      .op none (some 64) (.bin .add (.t 53) (.t 63)),
      .op none (some 5) (.mov (.t 64))])
    .skip)))))
  (.reg [.op none (some 28) (.mov (.t 6)),
    .op none (some 29) (.bin .add (.t 28) (.c (.int .i64 1))),
    .op none (some 6) (.mov (.t 29))])))

def F13 : AFun :=
  { n := 66, res := [.t 4], code :=
  (.seq
  (.reg [.op none (some 2) (.box 26 (.t 0)),
    .op none (some 4) (.mov (.c (.int .i64 0)))])
  (.seq
  (.seq
  (.reg [.op none (some 7) (.fad 1 (.t 2)),
    .op none (some 8) (.ld1 (.t 7)),
    .op none (some 9) (.lenS (.t 8)),
    .op none (some 10) (.mov (.t 1)),
    .op none (some 11) (.bin .gtr (.t 9) (.t 10))])
  (.cond (.t 11)
    (.seq
    (.reg [.op none (some 12) (.mov (.t 1)),
      .op none (some 13) (.bin .add (.t 12) (.c (.int .i64 1))),
      .op none (some 4) (.mov (.t 13))])
    .ret)
    .skip))
  (.seq
  (.reg [.op none (some 14) (.fad 1 (.t 2)),
    .op none (some 15) (.ld1 (.t 14)),
    .op none (some 16) (.lenS (.t 15)),
    .op none (some 17) (.bin .add (.c (.int .i64 1)) (.t 16)),
    .op none (some 5) (.mov (.t 17))])
  (.seq
  (.seq
  (.reg [.op none (some 6) (.mov (.c (.int .i64 0)))])
  (.block 0
  (.loop F13_l0)))
  (.seq
  (.reg [.op none (some 65) (.mov (.t 5)),
    .op none (some 4) (.mov (.t 65))])
  .ret))))) }
theorem F13_ok : compFun Tryd.prog 3 Tryd.f13 = some F13 := by kernel_rfl

def F14 : AFun :=
  { n := 8, res := [.t 2], code :=
  (.seq
  (.reg [.op none (some 1) (.box 26 (.t 0)),
    .op none (some 2) (.mov (.c (.bool false)))])
  (.seq
  (.reg [.op none (some 3) (.new 30 [.int .i64 0]),
    .op none none (.st 1 (.t 3) (.c (.int .i64 0)))])
  (.seq
  (.reg [.op none (some 4) (.mkF 38 [] [.t 3, .t 1]),
    .callv none (some 5) (.t 4) []])
  (.seq
  (.reg [.op none (some 6) (.ld1 (.t 3)),
    .op none (some 7) (.bin .eql (.t 6) (.c (.int .i64 0))),
    .op none (some 2) (.mov (.t 7))])
  .ret)))) }
theorem F14_ok : compFun Tryd.prog 3 Tryd.f14 = some F14 := by kernel_rfl

def F15 : AFun :=
  { n := 15, res := [.t 2], code :=
  (.seq
  (.reg [.op none (some 1) (.box 26 (.t 0)),
    .op none (some 2) (.mov (.c (.bool false)))])
  (.seq
  (.reg [.op none (some 3) (.ldn 3 (.t 1)),
    .call none (some 4) 17 [.t 3],
    .op none (some 5) (.bin .leq (.t 4) (.c (.int .i64 4096))),
    .op none (some 6) (.mov (.t 5)),
    .op (some (6, true)) (some 7) (.ldn 3 (.t 1)),
    .call (some (6, true)) (some 8) 19 [.t 7],
    .op (some (6, true)) (some 9) (.bin .leq (.t 8) (.c (.int .i64 32))),
    .op none (some 10) (.pick (.t 6) (.t 9) (.c (.bool false))),
    .op none (some 11) (.mov (.t 10)),
    .op (some (11, true)) (some 12) (.ldn 3 (.t 1)),
    .call (some (11, true)) (some 13) 42 [.t 12],
    .op none (some 14) (.pick (.t 11) (.t 13) (.c (.bool false))),
    .op none (some 2) (.mov (.t 14))])
  .ret)) }
theorem F15_ok : compFun Tryd.prog 3 Tryd.f15 = some F15 := by kernel_rfl

def F16_g0 : ACode :=
  .skip

def F16_b0 : ACode :=
  (.block 1
  (.reg [.op none (some 8) (.ld1 (.t 3)),
    .op none (some 9) (.bin .add (.t 8) (.c (.int .i64 1))),
    .op none none (.st 1 (.t 3) (.t 9))]))

def F16 : AFun :=
  { n := 11, res := [.t 2], code :=
  (.seq
  (.reg [.op none (some 1) (.box 26 (.t 0)),
    .op none (some 2) (.mov (.c (.int .i64 0)))])
  (.seq
  (.reg [.op none (some 3) (.new 3 [.int .i64 0]),
    .op none none (.st 1 (.t 3) (.c (.int .i64 0)))])
  (.seq
  (.seq
  (.reg [.op none (some 4) (.ldn 3 (.t 1)),
    .call none (some 5) 43 [.t 4]])
  (.block 0
  (.rangeF (.t 5) [6, 7] F16_g0 F16_b0)))
  (.seq
  (.reg [.op none (some 10) (.ld1 (.t 3)),
    .op none (some 2) (.mov (.t 10))])
  .ret)))) }
theorem F16_ok : compFun Tryd.prog 3 Tryd.f16 = some F16 := by kernel_rfl

def F17_l0 : ACode :=
  (.seq
  (.seq
  (.reg [.op none (some 5) (.mov (.t 4)),
    .op none (some 6) (.fad 2 (.t 1)),
    .op none (some 7) (.ld1 (.t 6)),
    .op none (some 8) (.lenV (.t 7)),
    .op none (some 9) (.bin .lss (.t 5) (.t 8))])
  (.cond (.t 9)
    .skip
    (.exit 0)))
  (.seq
  (.block 1
  (.reg [.op none (some 12) (.mov (.t 3)),
    .op none (some 13) (.fad 2 (.t 1)),
    .op none (some 14) (.ld1 (.t 13)),
    .op none (some 15) (.mov (.t 4)),
    .op none (some 16) (.iadV 4 (.t 14) (.t 15)),
    .op none (some 17) (.fad 1 (.t 16)),
    .op none (some 18) (.ldn 3 (.t 17)),
    .call none (some 19) 17 [.t 18],
    .op none (some 20) (.bin .add (.t 12) (.t 19)),
    .op none (some 3) (.mov (.t 20))]))
  (.reg [.op none (some 10) (.mov (.t 4)),
    .op none (some 11) (.bin .add (.t 10) (.c (.int .i64 1))),
    .op none (some 4) (.mov (.t 11))])))

def F17 : AFun :=
  { n := 22, res := [.t 2], code :=
  (.seq
  (.reg [.op none (some 1) (.box 26 (.t 0)),
    .op none (some 2) (.mov (.c (.int .i64 0)))])
  (.seq
  (.reg [.op none (some 3) (.mov (.c (.int .i64 1)))])
  (.seq
  (.seq
  (.reg [.op none (some 4) (.mov (.c (.int .i64 0)))])
  (.block 0
  (.loop F17_l0)))
  (.seq
  (.reg [.op none (some 21) (.mov (.t 3)),
    .op none (some 2) (.mov (.t 21))])
  .ret)))) }
theorem F17_ok : compFun Tryd.prog 3 Tryd.f17 = some F17 := by kernel_rfl

def F18_g0 : ACode :=
  (.reg [.op none (some 4) (.mov (.t 7))])

def F18_b0 : ACode :=
  (.block 1
  (.reg [.op none (some 9) (.ld1 (.t 3)),
    .op none (some 10) (.mov (.t 4)),
    .op none (some 11) (.mnx true (.t 9) [.t 10]),
    .op none none (.st 1 (.t 3) (.t 11))]))

def F18 : AFun :=
  { n := 13, res := [.t 2], code :=
  (.seq
  (.reg [.op none (some 1) (.box 26 (.t 0)),
    .op none (some 2) (.mov (.c (.int .i64 0)))])
  (.seq
  (.reg [.op none (some 3) (.new 3 [.int .i64 0]),
    .op none none (.st 1 (.t 3) (.c (.int .i64 0)))])
  (.seq
  (.seq
  (.reg [.op none (some 5) (.ldn 3 (.t 1)),
    .call none (some 6) 43 [.t 5]])
  (.block 0
  (.rangeF (.t 6) [7, 8] F18_g0 F18_b0)))
  (.seq
  (.reg [.op none (some 12) (.ld1 (.t 3)),
    .op none (some 2) (.mov (.t 12))])
  .ret)))) }
theorem F18_ok : compFun Tryd.prog 3 Tryd.f18 = some F18 := by kernel_rfl

def F19_l0 : ACode :=
  (.seq
  (.seq
  (.reg [.op none (some 5) (.mov (.t 4)),
    .op none (some 6) (.fad 2 (.t 1)),
    .op none (some 7) (.ld1 (.t 6)),
    .op none (some 8) (.lenV (.t 7)),
    .op none (some 9) (.bin .lss (.t 5) (.t 8))])
  (.cond (.t 9)
    .skip
    (.exit 0)))
  (.seq
  (.block 1
  (.reg [.op none (some 12) (.mov (.t 3)),
    .op none (some 13) (.fad 2 (.t 1)),
    .op none (some 14) (.ld1 (.t 13)),
    .op none (some 15) (.mov (.t 4)),
    .op none (some 16) (.iadV 4 (.t 14) (.t 15)),
    .op none (some 17) (.fad 1 (.t 16)),
    .op none (some 18) (.ldn 3 (.t 17)),
    .call none (some 19) 19 [.t 18],
    .op none (some 20) (.bin .add (.c (.int .i64 1)) (.t 19)),
    .op none (some 21) (.mnx true (.t 12) [.t 20]),
    .op none (some 3) (.mov (.t 21))]))
  (.reg [.op none (some 10) (.mov (.t 4)),
    .op none (some 11) (.bin .add (.t 10) (.c (.int .i64 1))),
    .op none (some 4) (.mov (.t 11))])))

def F19 : AFun :=
  { n := 23, res := [.t 2], code :=
  (.seq
  (.reg [.op none (some 1) (.box 26 (.t 0)),
    .op none (some 2) (.mov (.c (.int .i64 0)))])
  (.seq
  (.reg [.op none (some 3) (.mov (.c (.int .i64 0)))])
  (.seq
  (.seq
  (.reg [.op none (some 4) (.mov (.c (.int .i64 0)))])
  (.block 0
  (.loop F19_l0)))
  (.seq
  (.reg [.op none (some 22) (.mov (.t 3)),
    .op none (some 2) (.mov (.t 22))])
  .ret)))) }
theorem F19_ok : compFun Tryd.prog 3 Tryd.f19 = some F19 := by kernel_rfl

def F20_g0 : ACode :=
  (.reg [.op none (some 5) (.new 26 [.int .u8 0, .string (⟨#[]⟩), .slice none 0 0]),
    .op none none (.st 3 (.t 5) (.t 9))])

def F20_b0 : ACode :=
  (.block 1
  (.reg [.op none (some 10) (.ld1 (.t 3)),
    .op none (some 11) (.fad 1 (.t 5)),
    .op none (some 12) (.ld1 (.t 11)),
    .op none (some 13) (.lenS (.t 12)),
    .op none (some 14) (.bin .add (.t 10) (.t 13)),
    .op none none (.st 1 (.t 3) (.t 14))]))

def F20 : AFun :=
  { n := 16, res := [.t 2], code :=
  (.seq
  (.reg [.op none (some 1) (.box 26 (.t 0)),
    .op none (some 2) (.mov (.c (.int .i64 0)))])
  (.seq
  (.reg [.op none (some 3) (.new 3 [.int .i64 0]),
    .op none none (.st 1 (.t 3) (.c (.int .i64 0)))])
  (.seq
  (.seq
  (.reg [.op none (some 6) (.ldn 3 (.t 1)),
    .call none (some 7) 43 [.t 6]])
  (.block 0
  (.rangeF (.t 7) [8, 9] F20_g0 F20_b0)))
  (.seq
  (.reg [.op none (some 15) (.ld1 (.t 3)),
    .op none (some 2) (.mov (.t 15))])
  .ret)))) }
theorem F20_ok : compFun Tryd.prog 3 Tryd.f20 = some F20 := by kernel_rfl

def F22_l0 : ACode :=
  (.seq
  (.reg [.op none (some 15) (.bin .lss (.t 14) (.t 13))])
  (.seq
  (.cond (.t 15)
    .skip
    (.exit 0))
  (.seq
  (.block 1
  (.seq
  (.reg [.op none (some 16) (.iadV 1 (.t 12) (.t 14)),
    .op none (some 17) (.ld1 (.t 16)),
    .op none (some 7) (.mov (.t 17))])
  (.seq
  (.reg [.op none (some 19) (.ldn 3 (.t 2)),
    .op none (some 20) (.mov (.t 7)),
    .call none (some 21) 46 [.t 19, .t 20],
    .op none (some 18) (.mov (.t 21)),
    .op none (some 22) (.ext 0 (.t 18)),
    .op none (some 23) (.ext 1 (.t 18)),
    .op none (some 8) (.mov (.t 22)),
    .op none (some 9) (.mov (.t 23))])
  (.seq
  (.reg [.op none (some 24) (.mov (.t 9)),
    .call none (some 25) 47 [.t 24, .c (.int .i64 5)]])
  (.reg [.op none (some 26) (.fad 2 (.t 2)),
    .op none (some 27) (.ld1 (.t 26)),
    .op none (some 28) (.mov (.t 8)),
    .op none (some 29) (.iadV 4 (.t 27) (.t 28)),
    .op none (some 30) (.fad 1 (.t 29)),
    .op none (some 31) (.ldn 3 (.t 30)),
    .op none none (.st 3 (.t 2) (.t 31))])))))
  (.reg [.op none (some 32) (.bin .add (.t 14) (.c (.int .i64 1))),
    .op none (some 14) (.mov (.t 32))]))))

def F22 : AFun :=
  { n := 34, res := [.cn 4 3, .c1 5], code :=
  (.seq
  (.reg [.op none (some 2) (.box 26 (.t 0)),
    .op none (some 4) (.new 26 [.int .u8 0, .string (⟨#[]⟩), .slice none 0 0]),
    .op none (some 5) (.new 30 [.int .i64 0])])
  (.seq
  (.dfr [.op none (some 10) (.mkF 44 [] [.t 5, .t 4])] (.t 10) [])
  (.seq
  (.seq
  (.reg [.op none (some 11) (.mov (.t 1)),
    .call none (some 12) 45 [.t 11],
    .op none (some 13) (.lenV (.t 12)),
    .op none (some 14) (.mov (.c (.int .i64 0)))])
  (.block 0
  (.loop F22_l0)))
  (.seq
  (.reg [.op none (some 33) (.ldn 3 (.t 2)),
    .op none none (.st 3 (.t 4) (.t 33)),
    .op none none (.st 1 (.t 5) (.c (.int .i64 0)))])
  .ret)))) }
theorem F22_ok : compFun Tryd.prog 3 Tryd.f22 = some F22 := by kernel_rfl

def F25 : AFun :=
  { n := 8, res := [.t 2], code :=
  (.seq
  (.reg [.op none (some 1) (.box 26 (.t 0)),
    .op none (some 2) (.mov (.c (.slice none 0 0)))])
  (.seq
  (.seq
  (.reg [.op none (some 3) (.ldn 3 (.t 1)),
    .call none (some 4) 15 [.t 3],
    .op none (some 5) (.un .not (.t 4))])
  (.cond (.t 5)
    (.seq
    (.reg [.op none (some 2) (.mov (.c (.slice none 0 0)))])
    .ret)
    .skip))
  (.seq
  (.reg [.op none (some 6) (.ldn 3 (.t 1)),
    .call none (some 7) 50 [.t 6],
    .op none (some 2) (.mov (.t 7))])
  .ret))) }
theorem F25_ok : compFun Tryd.prog 3 Tryd.f25 = some F25 := by kernel_rfl

def F26 : AFun :=
  { n := 21, res := [.cn 6 3, .c1 7], code :=
  (.seq
  (.reg [.op none (some 3) (.box 26 (.t 0)),
    .op none (some 5) (.box 26 (.t 2)),
    .op none (some 6) (.new 26 [.int .u8 0, .string (⟨#[]⟩), .slice none 0 0]),
    .op none (some 7) (.new 30 [.int .i64 0])])
  (.seq
  (.dfr [.op none (some 8) (.mkF 51 [] [.t 7, .t 6])] (.t 8) [])
  (.seq
  (.reg [.op none (some 9) (.ldn 3 (.t 3)),
    .call none (some 10) 41 [.t 9]])
  (.seq
  (.reg [.op none (some 11) (.ldn 3 (.t 5)),
    .call none (some 12) 41 [.t 11]])
  (.seq
  (.draw [.f (.op none (some 13) (.ldn 3 (.t 3))),
    .f (.op none (some 14) (.mov (.t 1))),
    .f (.op none (some 16) (.ldn 3 (.t 5))),
    .b (.call none (some 15) 45 [.t 14]) [.op none (some 13) (.ldn 3 (.t 3)), .op none (some 16) (.ldn 3 (.t 5))],
    .b (.call none (some 17) 52 [.t 13, .t 15, .t 16]) [],
    .b (.op none none (.st 3 (.t 6) (.t 17))) []])
  (.seq
  (.reg [.op none (some 18) (.ldn 3 (.t 6)),
    .call none (some 19) 41 [.t 18]])
  (.seq
  (.reg [.op none (some 20) (.ldn 3 (.t 6)),
    .op none none (.st 3 (.t 6) (.t 20)),
    .op none none (.st 1 (.t 7) (.c (.int .i64 0)))])
  .ret))))))) }
theorem F26_ok : compFun Tryd.prog 3 Tryd.f26 = some F26 := by kernel_rfl

def F28_l0 : ACode :=
  (.seq
  (.seq
  (.reg [.op none (some 11) (.mov (.t 5)),
    .op none (some 12) (.mov (.t 0)),
    .op none (some 13) (.lenV (.t 12)),
    .op none (some 14) (.bin .lss (.t 11) (.t 13))])
  (.cond (.t 14)
    .skip
    (.exit 0)))
  (.seq
  (.block 1
  (.seq
  (.draw [.f (.op none (some 17) (.mov (.t 0))),
    .f (.op none (some 18) (.mov (.t 5))),
    .f (.op none (some 19) (.iadV 1 (.t 17) (.t 18))),
    .f (.op none (some 20) (.ld1 (.t 19))),
    .f (.op none (some 21) (.mov (.t 1))),
    .f (.op none (some 22) (.mov (.t 5))),
    .f (.op none (some 23) (.iadV 1 (.t 21) (.t 22))),
    .f (.op none (some 24) (.ld1 (.t 23))),
    .f (.op none (some 25) (.bin .neq (.t 20) (.t 24)))])
  (.cond (.t 25)
    (.seq
    (.reg [.op none (some 4) (.mov (.c (.bool false)))])
    .ret)
    .skip)))
  (.reg [.op none (some 15) (.mov (.t 5)),
    .op none (some 16) (.bin .add (.t 15) (.c (.int .i64 1))),
    .op none (some 5) (.mov (.t 16))])))

def F28 : AFun :=
  { n := 26, res := [.t 4], code :=
  (.seq
  (.reg [.op none (some 4) (.mov (.c (.bool false)))])
  (.seq
  (.seq
  (.reg [.op none (some 6) (.mov (.t 0)),
    .op none (some 7) (.lenV (.t 6)),
    .op none (some 8) (.mov (.t 1)),
    .op none (some 9) (.lenV (.t 8)),
    .op none (some 10) (.bin .neq (.t 7) (.t 9))])
  (.cond (.t 10)
    (.seq
    (.reg [.op none (some 4) (.mov (.c (.bool false)))])
    .ret)
    .skip))
  (.seq
  (.seq
  (.reg [.op none (some 5) (.mov (.c (.int .i64 0)))])
  (.block 0
  (.loop F28_l0)))
  (.seq
  (.reg [.op none (some 4) (.mov (.c (.bool true)))])
  .ret)))) }
theorem F28_ok : compFun Tryd.prog 3 Tryd.f28 = some F28 := by kernel_rfl

def F29 : AFun :=
  { n := 24, res := [.t 4], code :=
  (.seq
  (.reg [.op none (some 2) (.box 26 (.t 0)),
    .op none (some 3) (.box 26 (.t 1)),
    .op none (some 4) (.mov (.c (.bool false)))])
  (.seq
  (.reg [.op none (some 5) (.fad 0 (.t 2)),
    .op none (some 6) (.ld1 (.t 5)),
    .op none (some 7) (.fad 0 (.t 3)),
    .op none (some 8) (.ld1 (.t 7)),
    .op none (some 9) (.bin .eql (.t 6) (.t 8)),
    .op none (some 10) (.mov (.t 9)),
    .op (some (10, true)) (some 11) (.fad 1 (.t 2)),
    .op (some (10, true)) (some 12) (.ld1 (.t 11)),
    .op (some (10, true)) (some 13) (.fad 1 (.t 3)),
    .op (some (10, true)) (some 14) (.ld1 (.t 13)),
    .op (some (10, true)) (some 15) (.bin .eql (.t 12) (.t 14)),
    .op none (some 16) (.pick (.t 10) (.t 15) (.c (.bool false))),
    .op none (some 17) (.mov (.t 16)),
    .op (some (17, true)) (some 18) (.fad 2 (.t 2)),
    .op (some (17, true)) (some 19) (.ld1 (.t 18)),
    .op (some (17, true)) (some 20) (.fad 2 (.t 3)),
    .op (some (17, true)) (some 21) (.ld1 (.t 20)),
    .call (some (17, true)) (some 22) 54 [.t 19, .t 21, .c (.func (Fn.func 55) (#[]) (#[]))],
    .op none (some 23) (.pick (.t 17) (.t 22) (.c (.bool false))),
    .op none (some 4) (.mov (.t 23))])
  .ret)) }
theorem F29_ok : compFun Tryd.prog 3 Tryd.f29 = some F29 := by kernel_rfl

def F30 : AFun :=
  { n := 13, res := [.t 2], code :=
  (.seq
  (.reg [.op none (some 1) (.box 26 (.t 0)),
    .op none (some 2) (.mov (.c (.slice none 0 0)))])
  (.seq
  (.seq
  (.reg [.op none (some 5) (.ldn 3 (.t 1)),
    .call none (some 6) 14 [.t 5],
    .op none (some 7) (.un .not (.t 6))])
  (.cond (.t 7)
    (.seq
    (.reg [.op none (some 2) (.mov (.c (.slice none 0 0)))])
    .ret)
    .skip))
  (.seq
  (.reg [.op none (some 3) (.new 35 [.slice none 0 0])])
  (.seq
  (.reg [.op none (some 4) (.new 69 [.nilFunc])])
  (.seq
  (.reg [.op none (some 8) (.mkF 56 [] [.t 3, .t 4]),
    .op none none (.st 1 (.t 4) (.t 8))])
  (.seq
  (.reg [.op none (some 9) (.ld1 (.t 4)),
    .op none (some 10) (.ldn 3 (.t 1)),
    .callv none (some 11) (.t 9) [.c (.string (⟨#[]⟩)), .t 10]])
  (.seq
  (.reg [.op none (some 12) (.ld1 (.t 3)),
    .op none (some 2) (.mov (.t 12))])
  .ret))))))) }
theorem F30_ok : compFun Tryd.prog 3 Tryd.f30 = some F30 := by kernel_rfl

def F31 : AFun :=
  { n := 14, res := [.t 4], code :=
  (.seq
  (.reg [.op none (some 4) (.mov (.c (.int .i64 0)))])
  (.seq
  (.seq
  (.reg [.op none (some 5) (.mov (.t 1)),
    .op none (some 6) (.bin .leq (.t 5) (.c (.int .i64 0)))])
  (.cond (.t 6)
    (.seq
    (.reg [.op none (some 4) (.mov (.c (.int .i64 0)))])
    .ret)
    .skip))
  (.seq
  (.reg [.op none (some 7) (.mov (.t 0)),
    .op none (some 8) (.mov (.t 1)),
    .op none (some 9) (.bin .rem (.t 7) (.t 8)),
    .op none (some 10) (.mov (.t 1)),
    .op none (some 11) (.bin .add (.t 9) (.t 10)),
    .op none (some 12) (.mov (.t 1)),
    .op none (some 13) (.bin .rem (.t 11) (.t 12)),
    .op none (some 4) (.mov (.t 13))])
  .ret))) }
theorem F31_ok : compFun Tryd.prog 3 Tryd.f31 = some F31 := by kernel_rfl

def F32_l0 : ACode :=
  (.seq
  (.seq
  (.reg [.op none (some 6) (.mov (.t 5)),
    .op none (some 7) (.mov (.t 0)),
    .op none (some 8) (.lenV (.t 7)),
    .op none (some 9) (.bin .lss (.t 6) (.t 8))])
  (.cond (.t 9)
    .skip
    (.exit 0)))
  (.seq
  (.block 1
  (.seq
  (.reg [.op none (some 12) (.mov (.t 0)),
    .op none (some 13) (.mov (.t 5)),
    .op none (some 14) (.iadV 1 (.t 12) (.t 13)),
    .op none (some 15) (.ld1 (.t 14)),
    .op none (some 16) (.mov (.t 1)),
    .op none (some 17) (.bin .eql (.t 15) (.t 16))])
  (.cond (.t 17)
    (.seq
    (.reg [.op none (some 4) (.mov (.c (.bool true)))])
    .ret)
    .skip)))
  (.reg [.op none (some 10) (.mov (.t 5)),
    .op none (some 11) (.bin .add (.t 10) (.c (.int .i64 1))),
    .op none (some 5) (.mov (.t 11))])))

def F32 : AFun :=
  { n := 18, res := [.t 4], code :=
  (.seq
  (.reg [.op none (some 4) (.mov (.c (.bool false)))])
  (.seq
  (.seq
  (.reg [.op none (some 5) (.mov (.c (.int .i64 0)))])
  (.block 0
  (.loop F32_l0)))
  (.seq
  (.reg [.op none (some 4) (.mov (.c (.bool false)))])
  .ret))) }
theorem F32_ok : compFun Tryd.prog 3 Tryd.f32 = some F32 := by kernel_rfl

def F33 : AFun :=
  { n := 34, res := [.t 4], code :=
  (.seq
  (.reg [.op none (some 4) (.mov (.c (.bool false)))])
  (.seq
  (.reg [.op none (some 5) (.mov (.t 0)),
    .op none (some 6) (.bin .eql (.t 5) (.c (.string (⟨#[]⟩)))),
    .op none (some 7) (.mov (.t 6)),
    .op (some (7, false)) (some 8) (.mov (.t 0)),
    .op (some (7, false)) (some 9) (.mov (.t 1)),
    .op (some (7, false)) (some 10) (.bin .eql (.t 8) (.t 9)),
    .op none (some 11) (.pick (.t 7) (.c (.bool true)) (.t 10)),
    .op none (some 12) (.mov (.t 11)),
    .op (some (12, false)) (some 13) (.mov (.t 1)),
    .op (some (12, false)) (some 14) (.lenS (.t 13)),
    .op (some (12, false)) (some 15) (.mov (.t 0)),
    .op (some (12, false)) (some 16) (.lenS (.t 15)),
    .op (some (12, false)) (some 17) (.bin .gtr (.t 14) (.t 16)),
    .op (some (12, false)) (some 18) (.mov (.t 17)),
    .op (some (18, true)) (some 19) (.mov (.t 1)),
    .op (some (18, true)) (some 20) (.mov (.t 0)),
    .op (some (18, true)) (some 21) (.lenS (.t 20)),
    .op (some (18, true)) (some 22) (.slS (.t 19) none (some (.t 21))),
    .op (some (18, true)) (some 23) (.mov (.t 0)),
    .op (some (18, true)) (some 24) (.bin .eql (.t 22) (.t 23)),
    .op (some (12, false)) (some 25) (.pick (.t 18) (.t 24) (.c (.bool false))),
    .op (some (12, false)) (some 26) (.mov (.t 25)),
    .op (some (26, true)) (some 27) (.mov (.t 1)),
    .op (some (26, true)) (some 28) (.mov (.t 0)),
    .op (some (26, true)) (some 29) (.lenS (.t 28)),
    .op (some (26, true)) (some 30) (.ixS (.t 27) (.t 29)),
    .op (some (26, true)) (some 31) (.bin .eql (.t 30) (.c (.int .u8 47))),
    .op (some (12, false)) (some 32) (.pick (.t 26) (.t 31) (.c (.bool false))),
    .op none (some 33) (.pick (.t 12) (.c (.bool true)) (.t 32)),
    .op none (some 4) (.mov (.t 33))])
  .ret)) }
theorem F33_ok : compFun Tryd.prog 3 Tryd.f33 = some F33 := by kernel_rfl

def F35 : AFun :=
  { n := 5, res := [.cn 2 3], code :=
  (.seq
  (.reg [.op none (some 2) (.new 26 [.int .u8 0, .string (⟨#[]⟩), .slice none 0 0])])
  (.seq
  (.reg [.op none (some 3) (.mov (.t 0)),
    .op none (some 4) (.bld [.int .u8 0, .string (⟨#[]⟩), .slice none 0 0] [(0, 1, .c (.int .u8 1)), (1, 1, .t 3)]),
    .op none none (.st 3 (.t 2) (.t 4))])
  .ret)) }
theorem F35_ok : compFun Tryd.prog 3 Tryd.f35 = some F35 := by kernel_rfl

def F37 : AFun :=
  { n := 9, res := [.t 4], code :=
  (.seq
  (.reg [.op none (some 4) (.mov (.c (.bool false)))])
  (.seq
  (.reg [.op none (some 5) (.mov (.t 0)),
    .op none (some 6) (.mov (.t 1)),
    .call none (some 7) 58 [.t 5, .t 6],
    .op none (some 8) (.bin .geq (.t 7) (.c (.int .i64 0))),
    .op none (some 4) (.mov (.t 8))])
  .ret)) }
theorem F37_ok : compFun Tryd.prog 3 Tryd.f37 = some F37 := by kernel_rfl

def F38 : AFun :=
  { n := 5, res := [], code :=
  (.seq
  (.dfr [.op none (some 2) (.mkF 39 [] [.t 0])] (.t 2) [])
  (.reg [.op none (some 3) (.ldn 3 (.t 1)),
    .call none (some 4) 41 [.t 3]])) }
theorem F38_ok : compFun Tryd.prog 3 Tryd.f38 = some F38 := by kernel_rfl

def F39 : ARec :=
  { n := 3, d := 1, is := [.call none (some 2) 40 [.t 1, .t 0]], res := [], c := none }
theorem F39_ok : compRec Tryd.prog 3 Tryd.f39 = some F39 := by kernel_rfl

def F40 : AFun :=
  { n := 16, res := [.t 4], code :=
  (.seq
  (.reg [.op none (some 4) (.mov (.c (.bool false)))])
  (.seq
  (.seq
  (.reg [.op none (some 7) (.mov (.t 0))])
  (.block 0
  (.seq
  (.reg [.op none (some 8) (.eql false .iface (.t 7) (.c .nilIface))])
  (.cond (.t 8)
    (.seq
    (.reg [.op none (some 5) (.mov (.t 7))])
    (.seq
    (.reg [.op none (some 4) (.mov (.c (.bool false)))])
    .ret))
    (.seq
    (.reg [.op none (some 9) (.tas 30 (.int .i64 0) (.t 7)),
      .op none (some 10) (.ext 1 (.t 9)),
      .op none (some 11) (.ext 0 (.t 9))])
    (.cond (.t 10)
      (.seq
      (.reg [.op none (some 6) (.mov (.t 11))])
      (.seq
      (.reg [.op none (some 12) (.mov (.t 1)),
        .op none (some 13) (.mov (.t 6)),
        .op none (some 14) (.nchk (.t 12)),
        .op none none (.st 1 (.t 14) (.t 13))])
      (.seq
      (.reg [.op none (some 4) (.mov (.c (.bool true)))])
      .ret)))
      .skip))))))
  (.reg [.op none (some 15) (.mov (.t 0)),
    .panic none none (.t 15)]))) }
theorem F40_ok : compFun Tryd.prog 3 Tryd.f40 = some F40 := by kernel_rfl

def F41_g0 : ACode :=
  (.seq
  (.reg [.op none (some 3) (.mov (.t 7))])
  (.reg [.op none (some 4) (.new 26 [.int .u8 0, .string (⟨#[]⟩), .slice none 0 0]),
    .op none none (.st 3 (.t 4) (.t 8))]))

def F41_b0 : ACode :=
  (.block 1
  (.seq
  (.reg [.op none (some 9) (.ld1 (.t 2)),
    .op none (some 10) (.bin .add (.t 9) (.c (.int .i64 1))),
    .op none none (.st 1 (.t 2) (.t 10))])
  (.seq
  (.reg [.op none (some 11) (.mov (.t 3)),
    .op none (some 12) (.bin .leq (.t 11) (.c (.int .i64 32))),
    .op none (some 13) (.mov (.t 12)),
    .op (some (13, true)) (some 14) (.ld1 (.t 2)),
    .op (some (13, true)) (some 15) (.bin .leq (.t 14) (.c (.int .i64 4096))),
    .op none (some 16) (.pick (.t 13) (.t 15) (.c (.bool false))),
    .call none (some 17) 47 [.t 16, .c (.int .i64 70)]])
  (.reg [.op none (some 18) (.ldn 3 (.t 4)),
    .call none (some 19) 59 [.t 18]]))))

def F41 : AFun :=
  { n := 20, res := [], code :=
  (.seq
  (.reg [.op none (some 1) (.box 26 (.t 0))])
  (.seq
  (.reg [.op none (some 2) (.new 3 [.int .i64 0]),
    .op none none (.st 1 (.t 2) (.c (.int .i64 0)))])
  (.seq
  (.reg [.op none (some 5) (.ldn 3 (.t 1)),
    .call none (some 6) 43 [.t 5]])
  (.block 0
  (.rangeF (.t 6) [7, 8] F41_g0 F41_b0))))) }
theorem F41_ok : compFun Tryd.prog 3 Tryd.f41 = some F41 := by kernel_rfl

def F42_l0 : ACode :=
  (.seq
  (.seq
  (.reg [.op none (some 22) (.mov (.t 3)),
    .op none (some 23) (.fad 1 (.t 1)),
    .op none (some 24) (.ld1 (.t 23)),
    .op none (some 25) (.lenS (.t 24)),
    .op none (some 26) (.bin .lss (.t 22) (.t 25)),
    .op none (some 27) (.mov (.t 26)),
    .op (some (27, true)) (some 28) (.mov (.t 3)),
    .op (some (27, true)) (some 29) (.bin .lss (.t 28) (.c (.int .i64 256))),
    .op none (some 30) (.pick (.t 27) (.t 29) (.c (.bool false)))])
  (.cond (.t 30)
    .skip
    (.exit 1)))
  (.seq
  (.block 2
  (.seq
  (.reg [.op none (some 33) (.fad 1 (.t 1)),
    .op none (some 34) (.ld1 (.t 33)),
    .op none (some 35) (.mov (.t 3)),
    .op none (some 36) (.ixS (.t 34) (.t 35)),
    .op none (some 37) (.bin .eql (.t 36) (.c (.int .u8 0)))])
  (.cond (.t 37)
    (.seq
    (.reg [.op none (some 2) (.mov (.c (.bool false)))])
    .ret)
    .skip)))
  (.reg [.op none (some 31) (.mov (.t 3)),
    .op none (some 32) (.bin .add (.t 31) (.c (.int .i64 1))),
    .op none (some 3) (.mov (.t 32))])))

def F42_l1 : ACode :=
  (.seq
  (.seq
  (.reg [.op none (some 56) (.mov (.t 4)),
    .op none (some 57) (.fad 2 (.t 1)),
    .op none (some 58) (.ld1 (.t 57)),
    .op none (some 59) (.lenV (.t 58)),
    .op none (some 60) (.bin .lss (.t 56) (.t 59))])
  (.cond (.t 60)
    .skip
    (.exit 3)))
  (.seq
  (.block 4
  (.seq
  (.draw [.f (.op none (some 63) (.fad 2 (.t 1))),
    .f (.op none (some 64) (.ld1 (.t 63))),
    .f (.op none (some 65) (.mov (.t 4))),
    .f (.op none (some 66) (.iadV 4 (.t 64) (.t 65))),
    .f (.op none (some 67) (.fad 0 (.t 66))),
    .f (.op none (some 68) (.ld1 (.t 67))),
    .b (.call none (some 69) 11 [.t 68]) [],
    .f (.op none (some 70) (.un .not (.t 69))),
    .f (.op none (some 71) (.mov (.t 70))),
    .f (.op (some (71, false)) (some 72) (.mov (.t 4))),
    .f (.op (some (71, false)) (some 73) (.bin .gtr (.t 72) (.c (.int .i64 0)))),
    .f (.op (some (71, false)) (some 74) (.mov (.t 73))),
    .f (.op (some (74, true)) (some 75) (.fad 2 (.t 1))),
    .f (.op (some (74, true)) (some 76) (.ld1 (.t 75))),
    .f (.op (some (74, true)) (some 77) (.mov (.t 4))),
    .f (.op (some (74, true)) (some 78) (.iadV 4 (.t 76) (.t 77))),
    .f (.op (some (74, true)) (some 79) (.fad 0 (.t 78))),
    .f (.op (some (74, true)) (some 80) (.ld1 (.t 79))),
    .f (.op (some (74, true)) (some 81) (.fad 2 (.t 1))),
    .f (.op (some (74, true)) (some 82) (.ld1 (.t 81))),
    .f (.op (some (74, true)) (some 83) (.mov (.t 4))),
    .f (.op (some (74, true)) (some 84) (.bin .sub (.t 83) (.c (.int .i64 1)))),
    .f (.op (some (74, true)) (some 85) (.iadV 4 (.t 82) (.t 84))),
    .f (.op (some (74, true)) (some 86) (.fad 0 (.t 85))),
    .f (.op (some (74, true)) (some 87) (.ld1 (.t 86))),
    .f (.op (some (74, true)) (some 88) (.bin .leq (.t 80) (.t 87))),
    .f (.op (some (71, false)) (some 89) (.pick (.t 74) (.t 88) (.c (.bool false)))),
    .f (.op none (some 90) (.pick (.t 71) (.c (.bool true)) (.t 89))),
    .f (.op none (some 91) (.mov (.t 90))),
    .f (.op (some (91, false)) (some 92) (.fad 2 (.t 1))),
    .f (.op (some (91, false)) (some 93) (.ld1 (.t 92))),
    .f (.op (some (91, false)) (some 94) (.mov (.t 4))),
    .f (.op (some (91, false)) (some 95) (.iadV 4 (.t 93) (.t 94))),
    .f (.op (some (91, false)) (some 96) (.fad 1 (.t 95))),
    .f (.op (some (91, false)) (some 97) (.ldn 3 (.t 96))),
    .b (.call (some (91, false)) (some 98) 42 [.t 97]) [],
    .f (.op (some (91, false)) (some 99) (.un .not (.t 98))),
    .f (.op none (some 100) (.pick (.t 91) (.c (.bool true)) (.t 99)))])
  (.cond (.t 100)
    (.seq
    (.reg [.op none (some 2) (.mov (.c (.bool false)))])
    .ret)
    .skip)))
  (.reg [.op none (some 61) (.mov (.t 4)),
    .op none (some 62) (.bin .add (.t 61) (.c (.int .i64 1))),
    .op none (some 4) (.mov (.t 62))])))

def F42 : AFun :=
  { n := 104, res := [.t 2], code :=
  (.seq
  (.reg [.op none (some 1) (.box 26 (.t 0)),
    .op none (some 2) (.mov (.c (.bool false)))])
  (.seq
  (.seq
  (.reg [.op none (some 5) (.fad 0 (.t 1)),
    .op none (some 6) (.ld1 (.t 5))])
  (.block 0
  (.seq
  (.seq
  (.reg [.op none (some 8) (.bin .eql (.t 6) (.c (.int .u8 1))),
    .op none (some 7) (.mov (.t 8))])
  (.cond (.t 7)
    .skip
    (.reg [.op none (some 9) (.bin .eql (.t 6) (.c (.int .u8 2))),
      .op none (some 7) (.mov (.t 9))])))
  (.cond (.t 7)
    (.seq
    (.reg [.op none (some 10) (.fad 1 (.t 1)),
      .op none (some 11) (.ld1 (.t 10)),
      .op none (some 12) (.lenS (.t 11)),
      .op none (some 13) (.bin .leq (.t 12) (.c (.int .i64 65536))),
      .op none (some 14) (.mov (.t 13)),
      .op (some (14, true)) (some 15) (.fad 2 (.t 1)),
      .op (some (14, true)) (some 16) (.ld1 (.t 15)),
      .op (some (14, true)) (some 17) (.lenV (.t 16)),
      .op (some (14, true)) (some 18) (.bin .eql (.t 17) (.c (.int .i64 0))),
      .op none (some 19) (.pick (.t 14) (.t 18) (.c (.bool false))),
      .op none (some 2) (.mov (.t 19))])
    .ret)
    (.seq
    (.reg [.op none (some 21) (.bin .eql (.t 6) (.c (.int .u8 3))),
      .op none (some 20) (.mov (.t 21))])
    (.cond (.t 20)
      (.seq
      (.seq
      (.reg [.op none (some 3) (.mov (.c (.int .i64 0)))])
      (.block 1
      (.loop F42_l0)))
      (.seq
      (.reg [.op none (some 38) (.fad 1 (.t 1)),
        .op none (some 39) (.ld1 (.t 38)),
        .op none (some 40) (.lenS (.t 39)),
        .op none (some 41) (.bin .geq (.t 40) (.c (.int .i64 1))),
        .op none (some 42) (.mov (.t 41)),
        .op (some (42, true)) (some 43) (.fad 1 (.t 1)),
        .op (some (42, true)) (some 44) (.ld1 (.t 43)),
        .op (some (42, true)) (some 45) (.lenS (.t 44)),
        .op (some (42, true)) (some 46) (.bin .leq (.t 45) (.c (.int .i64 255))),
        .op none (some 47) (.pick (.t 42) (.t 46) (.c (.bool false))),
        .op none (some 48) (.mov (.t 47)),
        .op (some (48, true)) (some 49) (.fad 2 (.t 1)),
        .op (some (48, true)) (some 50) (.ld1 (.t 49)),
        .op (some (48, true)) (some 51) (.lenV (.t 50)),
        .op (some (48, true)) (some 52) (.bin .eql (.t 51) (.c (.int .i64 0))),
        .op none (some 53) (.pick (.t 48) (.t 52) (.c (.bool false))),
        .op none (some 2) (.mov (.t 53))])
      .ret))
      (.seq
      (.reg [.op none (some 55) (.bin .eql (.t 6) (.c (.int .u8 4))),
        .op none (some 54) (.mov (.t 55))])
      (.cond (.t 54)
        (.seq
        (.seq
        (.reg [.op none (some 4) (.mov (.c (.int .i64 0)))])
        (.block 3
        (.loop F42_l1)))
        (.seq
        (.reg [.op none (some 101) (.fad 1 (.t 1)),
          .op none (some 102) (.ld1 (.t 101)),
          .op none (some 103) (.bin .eql (.t 102) (.c (.string (⟨#[]⟩)))),
          .op none (some 2) (.mov (.t 103))])
        .ret))
        .skip))))))))
  (.seq
  (.reg [.op none (some 2) (.mov (.c (.bool false)))])
  .ret))) }
theorem F42_ok : compFun Tryd.prog 3 Tryd.f42 = some F42 := by kernel_rfl

def F43 : AFun :=
  { n := 4, res := [.t 2], code :=
  (.seq
  (.reg [.op none (some 1) (.box 26 (.t 0)),
    .op none (some 2) (.mov (.c .nilFunc))])
  (.seq
  (.reg [.op none (some 3) (.mkF 60 [] [.t 1]),
    .op none (some 2) (.mov (.t 3))])
  .ret)) }
theorem F43_ok : compFun Tryd.prog 3 Tryd.f43 = some F43 := by kernel_rfl

def F44 : ARec :=
  { n := 5, d := 2, is := [.call none (some 3) 40 [.t 2, .t 0]], res := [], c := some (
  (.cond (.t 3)
    (.reg [.op none (some 4) (.bld [.int .u8 0, .string (⟨#[]⟩), .slice none 0 0] []),
      .op none none (.st 3 (.t 1) (.t 4))])
    .skip)) }
theorem F44_ok : compRec Tryd.prog 3 Tryd.f44 = some F44 := by kernel_rfl

def F45_l0 : ACode :=
  (.seq
  (.reg [.op none (some 13) (.bin .lss (.t 12) (.t 11))])
  (.seq
  (.cond (.t 13)
    .skip
    (.exit 0))
  (.seq
  (.block 1
  (.seq
  (.reg [.op none (some 14) (.iadV 1 (.t 10) (.t 12)),
    .op none (some 15) (.ld1 (.t 14)),
    .op none (some 5) (.mov (.t 15))])
  (.reg [.op none (some 16) (.mov (.t 5)),
    .call none (some 17) 10 [.t 16],
    .call none (some 18) 47 [.t 17, .c (.int .i64 2)]])))
  (.reg [.op none (some 19) (.bin .add (.t 12) (.c (.int .i64 1))),
    .op none (some 12) (.mov (.t 19))]))))

def F45 : AFun :=
  { n := 21, res := [.t 2], code :=
  (.seq
  (.reg [.op none (some 2) (.mov (.c (.slice none 0 0)))])
  (.seq
  (.seq
  (.reg [.op none (some 6) (.mov (.t 0)),
    .op none (some 7) (.bin .eql (.t 6) (.c (.string (⟨#[]⟩))))])
  (.cond (.t 7)
    (.seq
    (.reg [.op none (some 2) (.mov (.c (.slice none 0 0)))])
    .ret)
    .skip))
  (.seq
  (.reg [.op none (some 8) (.mov (.t 0)),
    .call none (some 9) 62 [.t 8, .c (.string (⟨#[47]⟩))],
    .op none (some 3) (.mov (.t 9))])
  (.seq
  (.seq
  (.reg [.op none (some 10) (.mov (.t 3)),
    .op none (some 11) (.lenV (.t 10)),
    .op none (some 12) (.mov (.c (.int .i64 0)))])
  (.block 0
  (.loop F45_l0)))
  (.seq
  (.reg [.op none (some 20) (.mov (.t 3)),
    .op none (some 2) (.mov (.t 20))])
  .ret))))) }
theorem F45_ok : compFun Tryd.prog 3 Tryd.f45 = some F45 := by kernel_rfl

def F46 : AFun :=
  { n := 18, res := [.t 4, .t 5], code :=
  (.seq
  (.reg [.op none (some 2) (.box 26 (.t 0)),
    .op none (some 3) (.box 9 (.t 1)),
    .op none (some 4) (.mov (.c (.int .i64 0))),
    .op none (some 5) (.mov (.c (.bool false)))])
  (.seq
  (.reg [.op none (some 7) (.fad 0 (.t 2)),
    .op none (some 8) (.ld1 (.t 7)),
    .op none (some 9) (.bin .eql (.t 8) (.c (.int .u8 4))),
    .call none (some 10) 47 [.t 9, .c (.int .i64 5)]])
  (.seq
  (.reg [.op none (some 11) (.fad 2 (.t 2)),
    .op none (some 12) (.ld1 (.t 11)),
    .op none (some 13) (.mkF 64 [] [.t 3]),
    .call none (some 14) 63 [.t 12, .t 13],
    .op none (some 6) (.mov (.t 14))])
  (.seq
  (.reg [.op none (some 15) (.mov (.t 6)),
    .op none (some 16) (.mov (.t 6)),
    .op none (some 17) (.bin .geq (.t 16) (.c (.int .i64 0))),
    .op none (some 4) (.mov (.t 15)),
    .op none (some 5) (.mov (.t 17))])
  .ret)))) }
theorem F46_ok : compFun Tryd.prog 3 Tryd.f46 = some F46 := by kernel_rfl

def F47 : AFun :=
  { n := 8, res := [], code :=
  (.seq
  (.reg [.op none (some 4) (.mov (.t 0)),
    .op none (some 5) (.un .not (.t 4))])
  (.cond (.t 5)
    (.reg [.op none (some 6) (.mov (.t 1)),
      .op none (some 7) (.mkI 30 (.t 6)),
      .panic none none (.t 7)])
    .skip)) }
theorem F47_ok : compFun Tryd.prog 3 Tryd.f47 = some F47 := by kernel_rfl

def F50_l1 : ACode :=
  (.seq
  (.seq
  (.reg [.op none (some 23) (.mov (.t 6)),
    .op none (some 24) (.mov (.t 5)),
    .op none (some 25) (.lenV (.t 24)),
    .op none (some 26) (.bin .lss (.t 23) (.t 25))])
  (.cond (.t 26)
    .skip
    (.exit 2)))
  (.seq
  (.block 3
  (.seq
  (.reg [.op none (some 29) (.fad 2 (.t 1)),
    .op none (some 30) (.ld1 (.t 29)),
    .op none (some 31) (.mov (.t 4)),
    .op none (some 32) (.iadV 4 (.t 30) (.t 31)),
    .op none (some 33) (.fad 0 (.t 32)),
    .op none (some 34) (.ld1 (.t 33)),
    .op none (some 7) (.mov (.t 34))])
  (.seq
  (.seq
  (.reg [.op none (some 35) (.mov (.t 5)),
    .op none (some 36) (.mov (.t 6)),
    .op none (some 37) (.iadV 1 (.t 35) (.t 36)),
    .op none (some 38) (.ld1 (.t 37)),
    .op none (some 39) (.bin .neq (.t 38) (.c (.string (⟨#[]⟩))))])
  (.cond (.t 39)
    (.reg [.op none (some 40) (.mov (.t 7)),
      .op none (some 41) (.bin .add (.t 40) (.c (.string (⟨#[47]⟩)))),
      .op none (some 42) (.mov (.t 5)),
      .op none (some 43) (.mov (.t 6)),
      .op none (some 44) (.iadV 1 (.t 42) (.t 43)),
      .op none (some 45) (.ld1 (.t 44)),
      .op none (some 46) (.bin .add (.t 41) (.t 45)),
      .op none (some 7) (.mov (.t 46))])
    .skip))
  (.reg [.op none (some 47) (.mov (.t 3)),
    .op none (some 48) (.mov (.t 7)),
    .op none (some 49) (.bldSl 9 1 [.string (⟨#[]⟩)] [(0, 1, .t 48)]),
    .op none (some 50) (.app 9 1 16 [.string (⟨#[]⟩)] (.t 47) (.t 49)),
    .op none (some 3) (.mov (.t 50))]))))
  (.reg [.op none (some 27) (.mov (.t 6)),
    .op none (some 28) (.bin .add (.t 27) (.c (.int .i64 1))),
    .op none (some 6) (.mov (.t 28))])))

def F50_l0 : ACode :=
  (.seq
  (.seq
  (.reg [.op none (some 9) (.mov (.t 4)),
    .op none (some 10) (.fad 2 (.t 1)),
    .op none (some 11) (.ld1 (.t 10)),
    .op none (some 12) (.lenV (.t 11)),
    .op none (some 13) (.bin .lss (.t 9) (.t 12))])
  (.cond (.t 13)
    .skip
    (.exit 0)))
  (.seq
  (.block 1
  (.seq
  (.reg [.op none (some 16) (.fad 2 (.t 1)),
    .op none (some 17) (.ld1 (.t 16)),
    .op none (some 18) (.mov (.t 4)),
    .op none (some 19) (.iadV 4 (.t 17) (.t 18)),
    .op none (some 20) (.fad 1 (.t 19)),
    .op none (some 21) (.ldn 3 (.t 20)),
    .call none (some 22) 50 [.t 21],
    .op none (some 5) (.mov (.t 22))])
  (.seq
  (.reg [.op none (some 6) (.mov (.c (.int .i64 0)))])
  (.block 2
  (.loop F50_l1)))))
  (.reg [.op none (some 14) (.mov (.t 4)),
    .op none (some 15) (.bin .add (.t 14) (.c (.int .i64 1))),
    .op none (some 4) (.mov (.t 15))])))

def F50 : AFun :=
  { n := 52, res := [.t 2], code :=
  (.seq
  (.reg [.op none (some 1) (.box 26 (.t 0)),
    .op none (some 2) (.mov (.c (.slice none 0 0)))])
  (.seq
  (.reg [.op none (some 8) (.bldSl 9 1 [.string (⟨#[]⟩)] [(0, 1, .c (.string (⟨#[]⟩)))]),
    .op none (some 3) (.mov (.t 8))])
  (.seq
  (.seq
  (.reg [.op none (some 4) (.mov (.c (.int .i64 0)))])
  (.block 0
  (.loop F50_l0)))
  (.seq
  (.reg [.op none (some 51) (.mov (.t 3)),
    .op none (some 2) (.mov (.t 51))])
  .ret)))) }
theorem F50_ok : compFun Tryd.prog 3 Tryd.f50 = some F50 := by kernel_rfl

def F51 : ARec :=
  { n := 5, d := 2, is := [.call none (some 3) 40 [.t 2, .t 0]], res := [], c := some (
  (.cond (.t 3)
    (.reg [.op none (some 4) (.bld [.int .u8 0, .string (⟨#[]⟩), .slice none 0 0] []),
      .op none none (.st 3 (.t 1) (.t 4))])
    .skip)) }
theorem F51_ok : compRec Tryd.prog 3 Tryd.f51 = some F51 := by kernel_rfl

def F52 : AFun :=
  { n := 73, res := [.cn 6 3], code :=
  (.seq
  (.reg [.op none (some 3) (.box 26 (.t 0)),
    .op none (some 5) (.box 26 (.t 2)),
    .op none (some 6) (.new 26 [.int .u8 0, .string (⟨#[]⟩), .slice none 0 0])])
  (.seq
  (.seq
  (.reg [.op none (some 9) (.mov (.t 1)),
    .op none (some 10) (.lenV (.t 9)),
    .op none (some 11) (.bin .eql (.t 10) (.c (.int .i64 0)))])
  (.cond (.t 11)
    (.seq
    (.reg [.op none (some 12) (.ldn 3 (.t 5)),
      .op none none (.st 3 (.t 6) (.t 12))])
    .ret)
    .skip))
  (.seq
  (.draw [.f (.op none (some 14) (.ldn 3 (.t 3))),
    .f (.op none (some 15) (.mov (.t 1))),
    .f (.op none (some 16) (.iadV 1 (.t 15) (.c (.int .i64 0)))),
    .f (.op none (some 17) (.ld1 (.t 16))),
    .b (.call none (some 18) 46 [.t 14, .t 17]) [],
    .f (.op none (some 13) (.mov (.t 18))),
    .f (.op none (some 19) (.ext 0 (.t 13))),
    .f (.op none (some 20) (.ext 1 (.t 13))),
    .f (.op none (some 7) (.mov (.t 19))),
    .f (.op none (some 8) (.mov (.t 20)))])
  (.seq
  (.seq
  (.reg [.op none (some 21) (.mov (.t 8))])
  (.cond (.t 21)
    (.seq
    (.reg [.op none (some 22) (.fad 2 (.t 3)),
      .op none (some 23) (.ld1 (.t 22)),
      .call none (some 24) 65 [.t 23],
      .op none (some 25) (.fad 2 (.t 3)),
      .op none none (.st 1 (.t 25) (.t 24))])
    (.seq
    (.draw [.f (.op none (some 26) (.fad 2 (.t 3))),
      .f (.op none (some 27) (.ld1 (.t 26))),
      .f (.op none (some 28) (.mov (.t 7))),
      .f (.op none (some 29) (.fad 2 (.t 3))),
      .f (.op none (some 30) (.ld1 (.t 29))),
      .f (.op none (some 31) (.mov (.t 7))),
      .f (.op none (some 32) (.iadV 4 (.t 30) (.t 31))),
      .f (.op none (some 33) (.fad 1 (.t 32))),
      .f (.op none (some 34) (.ldn 3 (.t 33))),
      .f (.op none (some 35) (.mov (.t 1))),
      .f (.op none (some 36) (.slV 1 (.t 35) (some (.c (.int .i64 1))) none none)),
      .f (.op none (some 37) (.ldn 3 (.t 5))),
      .b (.call none (some 38) 52 [.t 34, .t 36, .t 37]) [.op none (some 27) (.ld1 (.t 26))],
      .f (.op none (some 39) (.iadV 4 (.t 27) (.t 28))),
      .f (.op none (some 40) (.fad 1 (.t 39))),
      .b (.op none none (.st 3 (.t 40) (.t 38))) []])
    (.seq
    (.reg [.op none (some 41) (.ldn 3 (.t 3)),
      .op none none (.st 3 (.t 6) (.t 41))])
    .ret)))
    .skip))
  (.seq
  (.reg [.op none (some 42) (.mov (.t 1)),
    .op none (some 43) (.lenV (.t 42)),
    .op none (some 44) (.bin .eql (.t 43) (.c (.int .i64 1))),
    .call none (some 45) 47 [.t 44, .c (.int .i64 5)]])
  (.seq
  (.draw [.f (.op none (some 47) (.fad 2 (.t 3))),
    .f (.op none (some 48) (.ld1 (.t 47))),
    .f (.op none (some 49) (.mov (.t 1))),
    .f (.op none (some 50) (.iadV 1 (.t 49) (.c (.int .i64 0)))),
    .f (.op none (some 51) (.ld1 (.t 50))),
    .b (.call none (some 52) 66 [.t 48, .t 51, .c (.func (Fn.func 67) (#[]) (#[]))]) [],
    .f (.op none (some 46) (.mov (.t 52))),
    .f (.op none (some 53) (.ext 0 (.t 46))),
    .f (.op none (some 54) (.ext 1 (.t 46))),
    .f (.op none (some 7) (.mov (.t 53)))])
  (.seq
  (.draw [.f (.op none (some 55) (.fad 2 (.t 3))),
    .f (.op none (some 56) (.ld1 (.t 55))),
    .f (.op none (some 57) (.mov (.t 7))),
    .f (.op none (some 58) (.slV 4 (.t 56) none (some (.t 57)) none)),
    .f (.op none (some 59) (.mov (.t 1))),
    .f (.op none (some 60) (.iadV 1 (.t 59) (.c (.int .i64 0)))),
    .f (.op none (some 61) (.ld1 (.t 60))),
    .f (.op none (some 62) (.ldn 3 (.t 5))),
    .f (.op none (some 63) (.bld [.string (⟨#[]⟩), .int .u8 0, .string (⟨#[]⟩), .slice none 0 0] [(0, 1, .t 61), (1, 3, .t 62)])),
    .f (.op none (some 65) (.fad 2 (.t 3))),
    .f (.op none (some 66) (.ld1 (.t 65))),
    .f (.op none (some 67) (.mov (.t 7))),
    .f (.op none (some 68) (.slV 4 (.t 66) (some (.t 67)) none none)),
    .b (.op none (some 64) (.bldSl 48 1 [.string (⟨#[]⟩), .int .u8 0, .string (⟨#[]⟩), .slice none 0 0] [(0, 4, .t 63)])) [.op none (some 56) (.ld1 (.t 55)), .op none (some 58) (.slV 4 (.t 56) none (some (.t 57)) none), .op none (some 66) (.ld1 (.t 65)), .op none (some 68) (.slV 4 (.t 66) (some (.t 67)) none none)],
    .b (.op none (some 69) (.bldSl 24 3 [.slice none 0 0, .slice none 0 0, .slice none 0 0] [(0, 1, .t 58), (1, 1, .t 64), (2, 1, .t 68)])) [],
    .b (.call none (some 70) 69 [.t 69]) [],
    .f (.op none (some 71) (.fad 2 (.t 3))),
    .b (.op none none (.st 1 (.t 71) (.t 70))) []])
  (.seq
  (.reg [.op none (some 72) (.ldn 3 (.t 3)),
    .op none none (.st 3 (.t 6) (.t 72))])
  .ret)))))))) }
theorem F52_ok : compFun Tryd.prog 3 Tryd.f52 = some F52 := by kernel_rfl

def F54_l0 : ACode :=
  (.seq
  (.reg [.op none (some 18) (.bin .lss (.t 17) (.t 16))])
  (.seq
  (.cond (.t 18)
    .skip
    (.exit 0))
  (.seq
  (.block 1
  (.seq
  (.reg [.op none (some 19) (.mov (.t 17)),
    .op none (some 20) (.iadV 4 (.t 15) (.t 17)),
    .op none (some 21) (.ldn 4 (.t 20)),
    .op none (some 8) (.new 48 [.string (⟨#[]⟩), .int .u8 0, .string (⟨#[]⟩), .slice none 0 0]),
    .op none (some 7) (.mov (.t 19)),
    .op none none (.st 4 (.t 8) (.t 21))])
  (.seq
  (.reg [.op none (some 22) (.mov (.t 1)),
    .op none (some 23) (.mov (.t 7)),
    .op none (some 24) (.iadV 4 (.t 22) (.t 23)),
    .op none (some 25) (.ldn 4 (.t 24)),
    .op none (some 9) (.new 48 [.string (⟨#[]⟩), .int .u8 0, .string (⟨#[]⟩), .slice none 0 0]),
    .op none none (.st 4 (.t 9) (.t 25))])
  (.seq
  (.reg [.op none (some 26) (.mov (.t 2)),
    .op none (some 27) (.ldn 4 (.t 8)),
    .op none (some 28) (.ldn 4 (.t 9)),
    .callv none (some 29) (.t 26) [.t 27, .t 28],
    .op none (some 30) (.un .not (.t 29))])
  (.cond (.t 30)
    (.seq
    (.reg [.op none (some 6) (.mov (.c (.bool false)))])
    .ret)
    .skip)))))
  (.reg [.op none (some 31) (.bin .add (.t 17) (.c (.int .i64 1))),
    .op none (some 17) (.mov (.t 31))]))))

def F54 : AFun :=
  { n := 32, res := [.t 6], code :=
  (.seq
  (.reg [.op none (some 6) (.mov (.c (.bool false)))])
  (.seq
  (.seq
  (.reg [.op none (some 10) (.mov (.t 0)),
    .op none (some 11) (.lenV (.t 10)),
    .op none (some 12) (.mov (.t 1)),
    .op none (some 13) (.lenV (.t 12)),
    .op none (some 14) (.bin .neq (.t 11) (.t 13))])
  (.cond (.t 14)
    (.seq
    (.reg [.op none (some 6) (.mov (.c (.bool false)))])
    .ret)
    .skip))
  (.seq
  (.seq
  (.reg [.op none (some 15) (.mov (.t 0)),
    .op none (some 16) (.lenV (.t 15)),
    .op none (some 17) (.mov (.c (.int .i64 0)))])
  (.block 0
  (.loop F54_l0)))
  (.seq
  (.reg [.op none (some 6) (.mov (.c (.bool true)))])
  .ret)))) }
theorem F54_ok : compFun Tryd.prog 3 Tryd.f54 = some F54 := by kernel_rfl

def F55 : AFun :=
  { n := 17, res := [.t 4], code :=
  (.seq
  (.reg [.op none (some 2) (.box 48 (.t 0)),
    .op none (some 3) (.box 48 (.t 1)),
    .op none (some 4) (.mov (.c (.bool false)))])
  (.seq
  (.reg [.op none (some 5) (.fad 0 (.t 2)),
    .op none (some 6) (.ld1 (.t 5)),
    .op none (some 7) (.fad 0 (.t 3)),
    .op none (some 8) (.ld1 (.t 7)),
    .op none (some 9) (.bin .eql (.t 6) (.t 8)),
    .op none (some 10) (.mov (.t 9)),
    .op (some (10, true)) (some 11) (.fad 1 (.t 2)),
    .op (some (10, true)) (some 12) (.ldn 3 (.t 11)),
    .op (some (10, true)) (some 13) (.fad 1 (.t 3)),
    .op (some (10, true)) (some 14) (.ldn 3 (.t 13)),
    .call (some (10, true)) (some 15) 29 [.t 12, .t 14],
    .op none (some 16) (.pick (.t 10) (.t 15) (.c (.bool false))),
    .op none (some 4) (.mov (.t 16))])
  .ret)) }
theorem F55_ok : compFun Tryd.prog 3 Tryd.f55 = some F55 := by kernel_rfl

def F56_l0 : ACode :=
  (.seq
  (.reg [.op none (some 16) (.bin .lss (.t 15) (.t 14))])
  (.seq
  (.cond (.t 16)
    .skip
    (.exit 0))
  (.seq
  (.block 1
  (.seq
  (.reg [.op none (some 17) (.iadV 4 (.t 13) (.t 15)),
    .op none (some 18) (.ldn 4 (.t 17)),
    .op none (some 7) (.new 48 [.string (⟨#[]⟩), .int .u8 0, .string (⟨#[]⟩), .slice none 0 0]),
    .op none none (.st 4 (.t 7) (.t 18))])
  (.draw [.f (.op none (some 19) (.ld1 (.t 3))),
    .f (.op none (some 20) (.mov (.t 0))),
    .f (.op none (some 21) (.bin .add (.t 20) (.c (.string (⟨#[47]⟩))))),
    .f (.op none (some 22) (.fad 0 (.t 7))),
    .f (.op none (some 23) (.ld1 (.t 22))),
    .f (.op none (some 24) (.bin .add (.t 21) (.t 23))),
    .f (.op none (some 26) (.fad 1 (.t 7))),
    .f (.op none (some 27) (.ldn 3 (.t 26))),
    .b (.call none (some 25) 57 [.t 24, .c (.string (⟨#[47]⟩))]) [.op none (some 19) (.ld1 (.t 3)), .op none (some 27) (.ldn 3 (.t 26))],
    .b (.callv none (some 28) (.t 19) [.t 25, .t 27]) []])))
  (.reg [.op none (some 29) (.bin .add (.t 15) (.c (.int .i64 1))),
    .op none (some 15) (.mov (.t 29))]))))

def F56 : AFun :=
  { n := 30, res := [], code :=
  (.seq
  (.reg [.op none (some 5) (.box 26 (.t 1))])
  (.seq
  (.reg [.op none (some 8) (.ld1 (.t 2)),
    .op none (some 9) (.mov (.t 0)),
    .op none (some 10) (.bldSl 9 1 [.string (⟨#[]⟩)] [(0, 1, .t 9)]),
    .op none (some 11) (.app 9 1 16 [.string (⟨#[]⟩)] (.t 8) (.t 10)),
    .op none none (.st 1 (.t 2) (.t 11))])
  (.seq
  (.reg [.op none (some 12) (.fad 2 (.t 5)),
    .op none (some 13) (.ld1 (.t 12)),
    .op none (some 14) (.lenV (.t 13)),
    .op none (some 15) (.mov (.c (.int .i64 0)))])
  (.block 0
  (.loop F56_l0))))) }
theorem F56_ok : compFun Tryd.prog 3 Tryd.f56 = some F56 := by kernel_rfl

def F57 : AFun :=
  { n := 8, res := [.t 4], code :=
  (.seq
  (.reg [.op none (some 4) (.mov (.c (.string (⟨#[]⟩))))])
  (.seq
  (.reg [.op none (some 5) (.mov (.t 0)),
    .op none (some 6) (.mov (.t 1)),
    .call none (some 7) 70 [.t 5, .t 6],
    .op none (some 4) (.mov (.t 7))])
  .ret)) }
theorem F57_ok : compFun Tryd.prog 3 Tryd.f57 = some F57 := by kernel_rfl

def F58_l0 : ACode :=
  (.seq
  (.seq
  (.reg [.op none (some 33) (.mov (.t 8)),
    .op none (some 34) (.mov (.t 0)),
    .op none (some 35) (.lenS (.t 34)),
    .op none (some 36) (.bin .lss (.t 33) (.t 35))])
  (.cond (.t 36)
    .skip
    (.exit 0)))
  (.seq
  (.block 1
  (.seq
  (.reg [.op none (some 39) (.mov (.t 0)),
    .op none (some 40) (.mov (.t 8)),
    .op none (some 41) (.ixS (.t 39) (.t 40)),
    .call none (some 42) 74 [.t 6, .t 41]])
  (.cond (.t 42)
    (.seq
    (.reg [.op none (some 43) (.mov (.t 8)),
      .op none (some 4) (.mov (.t 43))])
    .ret)
    .skip)))
  (.reg [.op none (some 37) (.mov (.t 8)),
    .op none (some 38) (.bin .add (.t 37) (.c (.int .i64 1))),
    .op none (some 8) (.mov (.t 38))])))

def F58_l1 : ACode :=
  (.seq
  (.reg [.op none (some 46) (.nxt (.t 45)),
    .op none (some 47) (.ext 0 (.t 46))])
  (.seq
  (.cond (.t 47)
    .skip
    (.exit 2))
  (.block 3
  (.seq
  (.reg [.op none (some 48) (.ext 1 (.t 46)),
    .op none (some 49) (.ext 2 (.t 46)),
    .op none (some 9) (.mov (.t 48)),
    .op none (some 10) (.mov (.t 49))])
  (.seq
  (.reg [.op none (some 50) (.mov (.t 1)),
    .op none (some 51) (.mov (.t 10)),
    .call none (some 52) 71 [.t 50, .t 51],
    .op none (some 53) (.bin .geq (.t 52) (.c (.int .i64 0)))])
  (.cond (.t 53)
    (.seq
    (.reg [.op none (some 54) (.mov (.t 9)),
      .op none (some 4) (.mov (.t 54))])
    .ret)
    .skip))))))

def F58 : AFun :=
  { n := 55, res := [.t 4], code :=
  (.seq
  (.reg [.op none (some 4) (.mov (.c (.int .i64 0)))])
  (.seq
  (.seq
  (.reg [.op none (some 11) (.mov (.t 1)),
    .op none (some 12) (.bin .eql (.t 11) (.c (.string (⟨#[]⟩))))])
  (.cond (.t 12)
    (.seq
    (.reg [.op none (some 4) (.mov (.c (.int .i64 (-1))))])
    .ret)
    .skip))
  (.seq
  (.seq
  (.reg [.op none (some 13) (.mov (.t 1)),
    .op none (some 14) (.lenS (.t 13)),
    .op none (some 15) (.bin .eql (.t 14) (.c (.int .i64 1)))])
  (.cond (.t 15)
    (.seq
    (.reg [.op none (some 16) (.mov (.t 1)),
      .op none (some 17) (.ixS (.t 16) (.c (.int .i64 0))),
      .op none (some 18) (.cvt .i32 (.t 17)),
      .op none (some 5) (.mov (.t 18))])
    (.seq
    (.seq
    (.reg [.op none (some 19) (.mov (.t 5)),
      .op none (some 20) (.bin .geq (.t 19) (.c (.int .i32 128)))])
    (.cond (.t 20)
      (.reg [.op none (some 5) (.mov (.c (.int .i32 65533)))])
      .skip))
    (.seq
    (.reg [.op none (some 21) (.mov (.t 0)),
      .op none (some 22) (.mov (.t 5)),
      .call none (some 23) 71 [.t 21, .t 22],
      .op none (some 4) (.mov (.t 23))])
    .ret)))
    .skip))
  (.seq
  (.seq
  (.reg [.op none (some 24) (.mov (.t 0)),
    .op none (some 25) (.lenS (.t 24)),
    .call none (some 26) 72 [.t 25]])
  (.cond (.t 26)
    (.seq
    (.reg [.op none (some 28) (.mov (.t 1)),
      .call none (some 29) 73 [.t 28],
      .op none (some 27) (.mov (.t 29)),
      .op none (some 30) (.ext 0 (.t 27)),
      .op none (some 31) (.ext 1 (.t 27)),
      .op none (some 6) (.new 84 [.bool false, .bool false, .bool false, .bool false, .bool false, .bool false, .bool false, .bool false, .bool false, .bool false, .bool false, .bool false, .bool false, .bool false, .bool false, .bool false, .bool false, .bool false, .bool false, .bool false, .bool false, .bool false, .bool false, .bool false, .bool false, .bool false, .bool false, .bool false, .bool false, .bool false, .bool false, .bool false, .bool false, .bool false, .bool false, .bool false, .bool false, .bool false, .bool false, .bool false, .bool false, .bool false, .bool false, .bool false, .bool false, .bool false, .bool false, .bool false, .bool false, .bool false, .bool false, .bool false, .bool false, .bool false, .bool false, .bool false, .bool false, .bool false, .bool false, .bool false, .bool false, .bool false, .bool false, .bool false, .bool false, .bool false, .bool false, .bool false, .bool false, .bool false, .bool false, .bool false, .bool false, .bool false, .bool false, .bool false, .bool false, .bool false, .bool false, .bool false, .bool false, .bool false, .bool false, .bool false, .bool false, .bool false, .bool false, .bool false, .bool false, .bool false, .bool false, .bool false, .bool false, .bool false, .bool false, .bool false, .bool false, .bool false, .bool false, .bool false, .bool false, .bool false, .bool false, .bool false, .bool false, .bool false, .bool false, .bool false, .bool false, .bool false, .bool false, .bool false, .bool false, .bool false, .bool false, .bool false, .bool false, .bool false, .bool false, .bool false, .bool false, .bool false, .bool false, .bool false, .bool false, .bool false, .bool false, .bool false, .bool false, .bool false, .bool false, .bool false, .bool false, .bool false, .bool false, .bool false, .bool false, .bool false, .bool false, .bool false, .bool false, .bool false, .bool false, .bool false, .bool false, .bool false, .bool false, .bool false, .bool false, .bool false, .bool false, .bool false, .bool false, .bool false, .bool false, .bool false, .bool false, .bool false, .bool false, .bool false, .bool false, .bool false, .bool false, .bool false, .bool false, .bool false, .bool false, .bool false, .bool false, .bool false, .bool false, .bool false, .bool false, .bool false, .bool false, .bool false, .bool false, .bool false, .bool false, .bool false, .bool false, .bool false, .bool false, .bool false, .bool false, .bool false, .bool false, .bool false, .bool false, .bool false, .bool false, .bool false, .bool false, .bool false, .bool false, .bool false, .bool false, .bool false, .bool false, .bool false, .bool false, .bool false, .bool false, .bool false, .bool false, .bool false, .bool false, .bool false, .bool false, .bool false, .bool false, .bool false, .bool false, .bool false, .bool false, .bool false, .bool false, .bool false, .bool false, .bool false, .bool false, .bool false, .bool false, .bool false, .bool false, .bool false, .bool false, .bool false, .bool false, .bool false, .bool false, .bool false, .bool false, .bool false, .bool false, .bool false, .bool false, .bool false, .bool false, .bool false, .bool false, .bool false, .bool false, .bool false, .bool false, .bool false, .bool false, .bool false, .bool false, .bool false, .bool false, .bool false, .bool false, .bool false, .bool false, .bool false]),
      .op none none (.st 256 (.t 6) (.t 30)),
      .op none (some 7) (.mov (.t 31))])
    (.seq
    (.reg [.op none (some 32) (.mov (.t 7))])
    (.cond (.t 32)
      (.seq
      (.seq
      (.reg [.op none (some 8) (.mov (.c (.int .i64 0)))])
      (.block 0
      (.loop F58_l0)))
      (.seq
      (.reg [.op none (some 4) (.mov (.c (.int .i64 (-1))))])
      .ret))
      .skip)))
    .skip))
  (.seq
  (.seq
  (.reg [.op none (some 44) (.mov (.t 0)),
    .op none (some 45) (.rng (.t 44))])
  (.block 2
  (.loop F58_l1)))
  (.seq
  (.reg [.op none (some 4) (.mov (.c (.int .i64 (-1))))])
  .ret)))))) }
theorem F58_ok : compFun Tryd.prog 3 Tryd.f58 = some F58 := by kernel_rfl

def F59_l0 : ACode :=
  (.seq
  (.reg [.op none (some 53) (.bin .lss (.t 52) (.t 51))])
  (.seq
  (.cond (.t 53)
    .skip
    (.exit 1))
  (.seq
  (.block 2
  (.seq
  (.reg [.op none (some 54) (.mov (.t 52)),
    .op none (some 55) (.iadV 4 (.t 50) (.t 52)),
    .op none (some 56) (.ldn 4 (.t 55)),
    .op none (some 3) (.new 48 [.string (⟨#[]⟩), .int .u8 0, .string (⟨#[]⟩), .slice none 0 0]),
    .op none (some 2) (.mov (.t 54)),
    .op none none (.st 4 (.t 3) (.t 56))])
  (.draw [.f (.op none (some 57) (.fad 0 (.t 3))),
    .f (.op none (some 58) (.ld1 (.t 57))),
    .b (.call none (some 59) 10 [.t 58]) [],
    .f (.op none (some 60) (.mov (.t 59))),
    .f (.op (some (60, true)) (some 61) (.mov (.t 2))),
    .f (.op (some (60, true)) (some 62) (.bin .eql (.t 61) (.c (.int .i64 0)))),
    .f (.op (some (60, true)) (some 63) (.mov (.t 62))),
    .f (.op (some (63, false)) (some 64) (.fad 0 (.t 3))),
    .f (.op (some (63, false)) (some 65) (.ld1 (.t 64))),
    .f (.op (some (63, false)) (some 66) (.fad 2 (.t 1))),
    .f (.op (some (63, false)) (some 67) (.ld1 (.t 66))),
    .f (.op (some (63, false)) (some 68) (.mov (.t 2))),
    .f (.op (some (63, false)) (some 69) (.bin .sub (.t 68) (.c (.int .i64 1)))),
    .f (.op (some (63, false)) (some 70) (.iadV 4 (.t 67) (.t 69))),
    .f (.op (some (63, false)) (some 71) (.fad 0 (.t 70))),
    .f (.op (some (63, false)) (some 72) (.ld1 (.t 71))),
    .f (.op (some (63, false)) (some 73) (.bin .gtr (.t 65) (.t 72))),
    .f (.op (some (60, true)) (some 74) (.pick (.t 63) (.c (.bool true)) (.t 73))),
    .f (.op none (some 75) (.pick (.t 60) (.t 74) (.c (.bool false)))),
    .b (.call none (some 76) 47 [.t 75, .c (.int .i64 70)]) []])))
  (.reg [.op none (some 77) (.bin .add (.t 52) (.c (.int .i64 1))),
    .op none (some 52) (.mov (.t 77))]))))

def F59 : AFun :=
  { n := 78, res := [], code :=
  (.seq
  (.reg [.op none (some 1) (.box 26 (.t 0))])
  (.seq
  (.reg [.op none (some 4) (.fad 0 (.t 1)),
    .op none (some 5) (.ld1 (.t 4)),
    .op none (some 6) (.bin .eql (.t 5) (.c (.int .u8 4))),
    .op none (some 7) (.mov (.t 6)),
    .op (some (7, false)) (some 8) (.fad 2 (.t 1)),
    .op (some (7, false)) (some 9) (.ld1 (.t 8)),
    .op (some (7, false)) (some 10) (.lenV (.t 9)),
    .op (some (7, false)) (some 11) (.bin .eql (.t 10) (.c (.int .i64 0))),
    .op none (some 12) (.pick (.t 7) (.c (.bool true)) (.t 11)),
    .call none (some 13) 47 [.t 12, .c (.int .i64 70)]])
  (.seq
  (.reg [.op none (some 14) (.fad 0 (.t 1)),
    .op none (some 15) (.ld1 (.t 14))])
  (.block 0
  (.seq
  (.seq
  (.reg [.op none (some 18) (.bin .eql (.t 15) (.c (.int .u8 1))),
    .op none (some 17) (.mov (.t 18))])
  (.cond (.t 17)
    .skip
    (.reg [.op none (some 19) (.bin .eql (.t 15) (.c (.int .u8 2))),
      .op none (some 17) (.mov (.t 19))])))
  (.cond (.t 17)
    (.reg [.op none (some 20) (.fad 1 (.t 1)),
      .op none (some 21) (.ld1 (.t 20)),
      .op none (some 22) (.lenS (.t 21)),
      .op none (some 23) (.bin .leq (.t 22) (.c (.int .i64 65536))),
      .call none (some 24) 47 [.t 23, .c (.int .i64 70)]])
    (.seq
    (.reg [.op none (some 26) (.bin .eql (.t 15) (.c (.int .u8 3))),
      .op none (some 25) (.mov (.t 26))])
    (.cond (.t 25)
      (.reg [.op none (some 27) (.fad 1 (.t 1)),
        .op none (some 28) (.ld1 (.t 27)),
        .op none (some 29) (.bin .neq (.t 28) (.c (.string (⟨#[]⟩)))),
        .op none (some 30) (.mov (.t 29)),
        .op (some (30, true)) (some 31) (.fad 1 (.t 1)),
        .op (some (30, true)) (some 32) (.ld1 (.t 31)),
        .op (some (30, true)) (some 33) (.lenS (.t 32)),
        .op (some (30, true)) (some 34) (.bin .leq (.t 33) (.c (.int .i64 255))),
        .op none (some 35) (.pick (.t 30) (.t 34) (.c (.bool false))),
        .op none (some 36) (.mov (.t 35)),
        .op (some (36, true)) (some 37) (.fad 1 (.t 1)),
        .op (some (36, true)) (some 38) (.ld1 (.t 37)),
        .call (some (36, true)) (some 39) 75 [.t 38, .c (.int .u8 0)],
        .op (some (36, true)) (some 40) (.bin .lss (.t 39) (.c (.int .i64 0))),
        .op none (some 41) (.pick (.t 36) (.t 40) (.c (.bool false))),
        .call none (some 42) 47 [.t 41, .c (.int .i64 70)]])
      (.seq
      (.reg [.op none (some 44) (.bin .eql (.t 15) (.c (.int .u8 4))),
        .op none (some 43) (.mov (.t 44))])
      (.cond (.t 43)
        (.seq
        (.reg [.op none (some 45) (.fad 1 (.t 1)),
          .op none (some 46) (.ld1 (.t 45)),
          .op none (some 47) (.bin .eql (.t 46) (.c (.string (⟨#[]⟩)))),
          .call none (some 48) 47 [.t 47, .c (.int .i64 70)]])
        (.seq
        (.reg [.op none (some 49) (.fad 2 (.t 1)),
          .op none (some 50) (.ld1 (.t 49)),
          .op none (some 51) (.lenV (.t 50)),
          .op none (some 52) (.mov (.c (.int .i64 0)))])
        (.block 1
        (.loop F59_l0))))
        (.reg [.call none (some 16) 47 [.c (.bool false), .c (.int .i64 70)]]))))))))))) }
theorem F59_ok : compFun Tryd.prog 3 Tryd.f59 = some F59 := by kernel_rfl

def F60 : AFun :=
  { n := 6, res := [], code :=
  (.reg [.op none (some 3) (.ldn 3 (.t 1)),
    .op none (some 4) (.mov (.t 0)),
    .call none (some 5) 61 [.t 3, .c (.int .i64 0), .t 4]]) }
theorem F60_ok : compFun Tryd.prog 3 Tryd.f60 = some F60 := by kernel_rfl

def F61_l0 : ACode :=
  (.seq
  (.reg [.op none (some 18) (.bin .lss (.t 17) (.t 16))])
  (.seq
  (.cond (.t 18)
    .skip
    (.exit 0))
  (.seq
  (.block 1
  (.seq
  (.reg [.op none (some 19) (.iadV 4 (.t 15) (.t 17)),
    .op none (some 20) (.ldn 4 (.t 19)),
    .op none (some 8) (.new 48 [.string (⟨#[]⟩), .int .u8 0, .string (⟨#[]⟩), .slice none 0 0]),
    .op none none (.st 4 (.t 8) (.t 20))])
  (.seq
  (.reg [.op none (some 21) (.fad 1 (.t 8)),
    .op none (some 22) (.ldn 3 (.t 21)),
    .op none (some 23) (.mov (.t 1)),
    .op none (some 24) (.bin .add (.t 23) (.c (.int .i64 1))),
    .op none (some 25) (.mov (.t 2)),
    .call none (some 26) 61 [.t 22, .t 24, .t 25],
    .op none (some 27) (.un .not (.t 26))])
  (.cond (.t 27)
    (.seq
    (.reg [.op none (some 6) (.mov (.c (.bool false)))])
    .ret)
    .skip))))
  (.reg [.op none (some 28) (.bin .add (.t 17) (.c (.int .i64 1))),
    .op none (some 17) (.mov (.t 28))]))))

def F61 : AFun :=
  { n := 29, res := [.t 6], code :=
  (.seq
  (.reg [.op none (some 3) (.box 26 (.t 0)),
    .op none (some 6) (.mov (.c (.bool false)))])
  (.seq
  (.seq
  (.reg [.op none (some 9) (.mov (.t 2)),
    .op none (some 10) (.mov (.t 1)),
    .op none (some 11) (.ldn 3 (.t 3)),
    .callv none (some 12) (.t 9) [.t 10, .t 11],
    .op none (some 13) (.un .not (.t 12))])
  (.cond (.t 13)
    (.seq
    (.reg [.op none (some 6) (.mov (.c (.bool false)))])
    .ret)
    .skip))
  (.seq
  (.seq
  (.reg [.op none (some 14) (.fad 2 (.t 3)),
    .op none (some 15) (.ld1 (.t 14)),
    .op none (some 16) (.lenV (.t 15)),
    .op none (some 17) (.mov (.c (.int .i64 0)))])
  (.block 0
  (.loop F61_l0)))
  (.seq
  (.reg [.op none (some 6) (.mov (.c (.bool true)))])
  .ret)))) }
theorem F61_ok : compFun Tryd.prog 3 Tryd.f61 = some F61 := by kernel_rfl

def F62 : AFun :=
  { n := 8, res := [.t 4], code :=
  (.seq
  (.reg [.op none (some 4) (.mov (.c (.slice none 0 0)))])
  (.seq
  (.reg [.op none (some 5) (.mov (.t 0)),
    .op none (some 6) (.mov (.t 1)),
    .call none (some 7) 76 [.t 5, .t 6, .c (.int .i64 0), .c (.int .i64 (-1))],
    .op none (some 4) (.mov (.t 7))])
  .ret)) }
theorem F62_ok : compFun Tryd.prog 3 Tryd.f62 = some F62 := by kernel_rfl

def F63_l0 : ACode :=
  (.seq
  (.reg [.op none (some 9) (.bin .lss (.t 8) (.t 7))])
  (.seq
  (.cond (.t 9)
    .skip
    (.exit 0))
  (.seq
  (.block 1
  (.seq
  (.reg [.op none (some 10) (.mov (.t 8)),
    .op none (some 5) (.mov (.t 10))])
  (.seq
  (.reg [.op none (some 11) (.mov (.t 1)),
    .op none (some 12) (.mov (.t 0)),
    .op none (some 13) (.mov (.t 5)),
    .op none (some 14) (.iadV 4 (.t 12) (.t 13)),
    .op none (some 15) (.ldn 4 (.t 14)),
    .callv none (some 16) (.t 11) [.t 15]])
  (.cond (.t 16)
    (.seq
    (.reg [.op none (some 17) (.mov (.t 5)),
      .op none (some 4) (.mov (.t 17))])
    .ret)
    .skip))))
  (.reg [.op none (some 18) (.bin .add (.t 8) (.c (.int .i64 1))),
    .op none (some 8) (.mov (.t 18))]))))

def F63 : AFun :=
  { n := 19, res := [.t 4], code :=
  (.seq
  (.reg [.op none (some 4) (.mov (.c (.int .i64 0)))])
  (.seq
  (.seq
  (.reg [.op none (some 6) (.mov (.t 0)),
    .op none (some 7) (.lenV (.t 6)),
    .op none (some 8) (.mov (.c (.int .i64 0)))])
  (.block 0
  (.loop F63_l0)))
  (.seq
  (.reg [.op none (some 4) (.mov (.c (.int .i64 (-1))))])
  .ret))) }
theorem F63_ok : compFun Tryd.prog 3 Tryd.f63 = some F63 := by kernel_rfl

def F64 : AFun :=
  { n := 8, res := [.t 3], code :=
  (.seq
  (.reg [.op none (some 2) (.box 48 (.t 0)),
    .op none (some 3) (.mov (.c (.bool false)))])
  (.seq
  (.reg [.op none (some 4) (.fad 0 (.t 2)),
    .op none (some 5) (.ld1 (.t 4)),
    .op none (some 6) (.ld1 (.t 1)),
    .op none (some 7) (.bin .eql (.t 5) (.t 6)),
    .op none (some 3) (.mov (.t 7))])
  .ret)) }
theorem F64_ok : compFun Tryd.prog 3 Tryd.f64 = some F64 := by kernel_rfl

def F65 : AFun :=
  { n := 8, res := [.t 2], code :=
  (.seq
  (.reg [.op none (some 2) (.mov (.c (.slice none 0 0)))])
  (.seq
  (.seq
  (.reg [.op none (some 3) (.mov (.t 0)),
    .op none (some 4) (.eql false .nilS (.t 3) (.c (.slice none 0 0)))])
  (.cond (.t 4)
    (.seq
    (.reg [.op none (some 2) (.mov (.c (.slice none 0 0)))])
    .ret)
    .skip))
  (.seq
  (.reg [.op none (some 5) (.bldSl 48 0 [] []),
    .op none (some 6) (.mov (.t 0)),
    .op none (some 7) (.app 48 4 64 [.string (⟨#[]⟩), .int .u8 0, .string (⟨#[]⟩), .slice none 0 0] (.t 5) (.t 6)),
    .op none (some 2) (.mov (.t 7))])
  .ret))) }
theorem F65_ok : compFun Tryd.prog 3 Tryd.f65 = some F65 := by kernel_rfl

def F66_l0 : ACode :=
  (.seq
  (.seq
  (.reg [.op none (some 15) (.mov (.t 9)),
    .op none (some 16) (.mov (.t 10)),
    .op none (some 17) (.bin .lss (.t 15) (.t 16))])
  (.cond (.t 17)
    .skip
    (.exit 0)))
  (.block 1
  (.seq
  (.reg [.op none (some 18) (.mov (.t 9)),
    .op none (some 19) (.mov (.t 10)),
    .op none (some 20) (.bin .add (.t 18) (.t 19)),
    .op none (some 21) (.cvt .u64 (.t 20)),
    .op none (some 22) (.bin .shr (.t 21) (.c (.int .u64 1))),
    .op none (some 23) (.cvt .i64 (.t 22)),
    .op none (some 11) (.mov (.t 23))])
  (.seq
  (.reg [.op none (some 24) (.mov (.t 2)),
    .op none (some 25) (.mov (.t 0)),
    .op none (some 26) (.mov (.t 11)),
    .op none (some 27) (.iadV 4 (.t 25) (.t 26)),
    .op none (some 28) (.ldn 4 (.t 27)),
    .op none (some 29) (.mov (.t 1)),
    .callv none (some 30) (.t 24) [.t 28, .t 29],
    .op none (some 31) (.bin .lss (.t 30) (.c (.int .i64 0)))])
  (.cond (.t 31)
    (.reg [.op none (some 32) (.mov (.t 11)),
      .op none (some 33) (.bin .add (.t 32) (.c (.int .i64 1))),
      .op none (some 9) (.mov (.t 33))])
    (.reg [.op none (some 34) (.mov (.t 11)),
      .op none (some 10) (.mov (.t 34))]))))))

def F66 : AFun :=
  { n := 49, res := [.t 6, .t 7], code :=
  (.seq
  (.reg [.op none (some 6) (.mov (.c (.int .i64 0))),
    .op none (some 7) (.mov (.c (.bool false)))])
  (.seq
  (.reg [.op none (some 12) (.mov (.t 0)),
    .op none (some 13) (.lenV (.t 12)),
    .op none (some 8) (.mov (.t 13))])
  (.seq
  (.reg [.op none (some 14) (.mov (.t 8)),
    .op none (some 9) (.mov (.c (.int .i64 0))),
    .op none (some 10) (.mov (.t 14))])
  (.seq
  (.block 0
  (.loop F66_l0))
  (.seq
  (.reg [.op none (some 35) (.mov (.t 9)),
    .op none (some 36) (.mov (.t 9)),
    .op none (some 37) (.mov (.t 8)),
    .op none (some 38) (.bin .lss (.t 36) (.t 37)),
    .op none (some 39) (.mov (.t 38)),
    .op (some (39, true)) (some 40) (.mov (.t 2)),
    .op (some (39, true)) (some 41) (.mov (.t 0)),
    .op (some (39, true)) (some 42) (.mov (.t 9)),
    .op (some (39, true)) (some 43) (.iadV 4 (.t 41) (.t 42)),
    .op (some (39, true)) (some 44) (.ldn 4 (.t 43)),
    .op (some (39, true)) (some 45) (.mov (.t 1)),
    .callv (some (39, true)) (some 46) (.t 40) [.t 44, .t 45],
    .op (some (39, true)) (some 47) (.bin .eql (.t 46) (.c (.int .i64 0))),
    .op none (some 48) (.pick (.t 39) (.t 47) (.c (.bool false))),
    .op none (some 6) (.mov (.t 35)),
    .op none (some 7) (.mov (.t 48))])
  .ret))))) }
theorem F66_ok : compFun Tryd.prog 3 Tryd.f66 = some F66 := by kernel_rfl

def F67 : AFun :=
  { n := 9, res := [.t 4], code :=
  (.seq
  (.reg [.op none (some 2) (.box 48 (.t 0)),
    .op none (some 4) (.mov (.c (.int .i64 0)))])
  (.seq
  (.reg [.op none (some 5) (.fad 0 (.t 2)),
    .op none (some 6) (.ld1 (.t 5)),
    .op none (some 7) (.mov (.t 1)),
    .call none (some 8) 68 [.t 6, .t 7],
    .op none (some 4) (.mov (.t 8))])
  .ret)) }
theorem F67_ok : compFun Tryd.prog 3 Tryd.f67 = some F67 := by kernel_rfl

def F68 : AFun :=
  { n := 8, res := [.t 4], code :=
  (.seq
  (.reg [.op none (some 4) (.mov (.c (.int .i64 0)))])
  (.seq
  (.reg [.op none (some 5) (.mov (.t 0)),
    .op none (some 6) (.mov (.t 1)),
    .call none (some 7) 77 [.t 5, .t 6],
    .op none (some 4) (.mov (.t 7))])
  .ret)) }
theorem F68_ok : compFun Tryd.prog 3 Tryd.f68 = some F68 := by kernel_rfl

def F69_l0 : ACode :=
  (.seq
  (.reg [.op none (some 12) (.bin .lss (.t 11) (.t 10))])
  (.seq
  (.cond (.t 12)
    .skip
    (.exit 0))
  (.seq
  (.block 1
  (.seq
  (.reg [.op none (some 13) (.iadV 1 (.t 9) (.t 11)),
    .op none (some 14) (.ld1 (.t 13)),
    .op none (some 5) (.mov (.t 14))])
  (.seq
  (.reg [.op none (some 15) (.mov (.t 3)),
    .op none (some 16) (.mov (.t 5)),
    .op none (some 17) (.lenV (.t 16)),
    .op none (some 18) (.bin .add (.t 15) (.t 17)),
    .op none (some 3) (.mov (.t 18))])
  (.seq
  (.reg [.op none (some 19) (.mov (.t 3)),
    .op none (some 20) (.bin .lss (.t 19) (.c (.int .i64 0)))])
  (.cond (.t 20)
    (.reg [.op none (some 21) (.mkI 9 (.c (.string (⟨#[108, 101, 110, 32, 111, 117, 116, 32, 111, 102, 32, 114, 97, 110, 103, 101]⟩)))),
      .panic none none (.t 21)])
    .skip)))))
  (.reg [.op none (some 22) (.bin .add (.t 11) (.c (.int .i64 1))),
    .op none (some 11) (.mov (.t 22))]))))

def F69_l1 : ACode :=
  (.seq
  (.reg [.op none (some 28) (.bin .lss (.t 27) (.t 26))])
  (.seq
  (.cond (.t 28)
    .skip
    (.exit 2))
  (.seq
  (.block 3
  (.seq
  (.reg [.op none (some 29) (.iadV 1 (.t 25) (.t 27)),
    .op none (some 30) (.ld1 (.t 29)),
    .op none (some 8) (.mov (.t 30))])
  (.reg [.op none (some 31) (.mov (.t 6)),
    .op none (some 32) (.mov (.t 8)),
    .op none (some 33) (.app 48 4 64 [.string (⟨#[]⟩), .int .u8 0, .string (⟨#[]⟩), .slice none 0 0] (.t 31) (.t 32)),
    .op none (some 6) (.mov (.t 33))])))
  (.reg [.op none (some 34) (.bin .add (.t 27) (.c (.int .i64 1))),
    .op none (some 27) (.mov (.t 34))]))))

def F69 : AFun :=
  { n := 36, res := [.t 2], code :=
  (.seq
  (.reg [.op none (some 2) (.mov (.c (.slice none 0 0)))])
  (.seq
  (.reg [.op none (some 3) (.mov (.c (.int .i64 0)))])
  (.seq
  (.seq
  (.reg [.op none (some 9) (.mov (.t 0)),
    .op none (some 10) (.lenV (.t 9)),
    .op none (some 11) (.mov (.c (.int .i64 0)))])
  (.block 0
  (.loop F69_l0)))
  (.seq
  (.reg [.op none (some 23) (.mov (.t 3)),
    .call none (some 24) 78 [.c (.slice none 0 0), .t 23],
    .op none (some 6) (.mov (.t 24))])
  (.seq
  (.seq
  (.reg [.op none (some 25) (.mov (.t 0)),
    .op none (some 26) (.lenV (.t 25)),
    .op none (some 27) (.mov (.c (.int .i64 0)))])
  (.block 2
  (.loop F69_l1)))
  (.seq
  (.reg [.op none (some 35) (.mov (.t 6)),
    .op none (some 2) (.mov (.t 35))])
  .ret)))))) }
theorem F69_ok : compFun Tryd.prog 3 Tryd.f69 = some F69 := by kernel_rfl

def F70 : AFun :=
  { n := 13, res := [.t 4], code :=
  (.seq
  (.reg [.op none (some 4) (.mov (.c (.string (⟨#[]⟩))))])
  (.seq
  (.seq
  (.reg [.op none (some 5) (.mov (.t 0)),
    .op none (some 6) (.mov (.t 1)),
    .call none (some 7) 79 [.t 5, .t 6]])
  (.cond (.t 7)
    (.seq
    (.reg [.op none (some 8) (.mov (.t 0)),
      .op none (some 9) (.mov (.t 1)),
      .op none (some 10) (.lenS (.t 9)),
      .op none (some 11) (.slS (.t 8) (some (.t 10)) none),
      .op none (some 4) (.mov (.t 11))])
    .ret)
    .skip))
  (.seq
  (.reg [.op none (some 12) (.mov (.t 0)),
    .op none (some 4) (.mov (.t 12))])
  .ret))) }
theorem F70_ok : compFun Tryd.prog 3 Tryd.f70 = some F70 := by kernel_rfl

def F71_l0 : ACode :=
  (.seq
  (.reg [.op none (some 176) (.nxt (.t 175)),
    .op none (some 177) (.ext 0 (.t 176))])
  (.seq
  (.cond (.t 177)
    .skip
    (.exit 9))
  (.block 10
  (.seq
  (.reg [.op none (some 178) (.ext 1 (.t 176)),
    .op none (some 179) (.ext 2 (.t 176)),
    .op none (some 5) (.mov (.t 178)),
    .op none (some 6) (.mov (.t 179))])
  (.seq
  (.reg [.op none (some 180) (.mov (.t 6)),
    .op none (some 181) (.bin .eql (.t 180) (.c (.int .i32 65533)))])
  (.cond (.t 181)
    (.seq
    (.reg [.op none (some 182) (.mov (.t 5)),
      .op none (some 4) (.mov (.t 182))])
    .ret)
    .skip))))))

def F71_l4 : ACode :=
  (.seq
  (.seq
  (.reg [.op none (some 48) (.mov (.t 12)),
    .op none (some 49) (.mov (.t 7)),
    .op none (some 50) (.lenS (.t 49)),
    .op none (some 51) (.bin .lss (.t 48) (.t 50))])
  (.cond (.t 51)
    .skip
    (.exit 3)))
  (.seq
  (.block 4
  (.seq
  (.draw [.f (.op none (some 54) (.mov (.t 0))),
    .f (.op none (some 55) (.mov (.t 9))),
    .f (.op none (some 56) (.mov (.t 12))),
    .f (.op none (some 57) (.bin .sub (.t 55) (.t 56))),
    .f (.op none (some 58) (.ixS (.t 54) (.t 57))),
    .f (.op none (some 59) (.mov (.t 7))),
    .f (.op none (some 60) (.mov (.t 8))),
    .f (.op none (some 61) (.mov (.t 12))),
    .f (.op none (some 62) (.bin .sub (.t 60) (.t 61))),
    .f (.op none (some 63) (.ixS (.t 59) (.t 62))),
    .f (.op none (some 64) (.bin .neq (.t 58) (.t 63)))])
  (.cond (.t 64)
    (.goto 0)
    .skip)))
  (.reg [.op none (some 52) (.mov (.t 12)),
    .op none (some 53) (.bin .add (.t 52) (.c (.int .i64 1))),
    .op none (some 12) (.mov (.t 53))])))

def F71_c3 : ACode :=
  (.seq
  (.seq
  (.draw [.f (.op none (some 27) (.mov (.t 0))),
    .f (.op none (some 28) (.mov (.t 9))),
    .f (.op none (some 29) (.ixS (.t 27) (.t 28))),
    .f (.op none (some 30) (.mov (.t 7))),
    .f (.op none (some 31) (.mov (.t 8))),
    .f (.op none (some 32) (.ixS (.t 30) (.t 31))),
    .f (.op none (some 33) (.bin .neq (.t 29) (.t 32)))])
  (.cond (.t 33)
    (.seq
    (.draw [.f (.op none (some 34) (.mov (.t 0))),
      .f (.op none (some 35) (.mov (.t 9))),
      .f (.op none (some 36) (.bin .add (.t 35) (.c (.int .i64 1)))),
      .f (.op none (some 37) (.slS (.t 34) (some (.t 36)) none)),
      .f (.op none (some 38) (.mov (.t 7))),
      .f (.op none (some 39) (.mov (.t 8))),
      .f (.op none (some 40) (.ixS (.t 38) (.t 39))),
      .b (.call none (some 41) 75 [.t 37, .t 40]) [],
      .f (.op none (some 11) (.mov (.t 41)))])
    (.seq
    (.seq
    (.reg [.op none (some 42) (.mov (.t 11)),
      .op none (some 43) (.bin .lss (.t 42) (.c (.int .i64 0)))])
    (.cond (.t 43)
      (.seq
      (.reg [.op none (some 4) (.mov (.c (.int .i64 (-1))))])
      .ret)
      .skip))
    (.reg [.op none (some 44) (.mov (.t 9)),
      .op none (some 45) (.mov (.t 11)),
      .op none (some 46) (.bin .add (.t 45) (.c (.int .i64 1))),
      .op none (some 47) (.bin .add (.t 44) (.t 46)),
      .op none (some 9) (.mov (.t 47))])))
    .skip))
  (.seq
  (.seq
  (.reg [.op none (some 12) (.mov (.c (.int .i64 1)))])
  (.block 3
  (.loop F71_l4)))
  (.seq
  (.seq
  (.reg [.op none (some 65) (.mov (.t 9)),
    .op none (some 66) (.mov (.t 8)),
    .op none (some 67) (.bin .sub (.t 65) (.t 66)),
    .op none (some 4) (.mov (.t 67))])
  .ret)
  (.seq
  (.label 0)
  (.seq
  (.reg [.op none (some 68) (.mov (.t 10)),
    .op none (some 69) (.bin .add (.t 68) (.c (.int .i64 1))),
    .op none (some 10) (.mov (.t 69))])
  (.seq
  (.reg [.op none (some 70) (.mov (.t 9)),
    .op none (some 71) (.bin .add (.t 70) (.c (.int .i64 1))),
    .op none (some 9) (.mov (.t 71))])
  (.seq
  (.reg [.op none (some 72) (.mov (.c (.bool true))),
    .op (some (72, true)) (some 73) (.mov (.t 10)),
    .op (some (72, true)) (some 74) (.mov (.t 9)),
    .call (some (72, true)) (some 75) 81 [.t 74],
    .op (some (72, true)) (some 76) (.bin .gtr (.t 73) (.t 75)),
    .op none (some 77) (.pick (.t 72) (.t 76) (.c (.bool false))),
    .op none (some 78) (.mov (.t 77)),
    .op (some (78, true)) (some 79) (.mov (.t 9)),
    .op (some (78, true)) (some 80) (.mov (.t 0)),
    .op (some (78, true)) (some 81) (.lenS (.t 80)),
    .op (some (78, true)) (some 82) (.bin .lss (.t 79) (.t 81)),
    .op none (some 83) (.pick (.t 78) (.t 82) (.c (.bool false))),
    .op none (some 84) (.mov (.t 83)),
    .op (some (84, false)) (some 85) (.mov (.c (.bool false))),
    .op (some (85, true)) (some 86) (.mov (.t 10)),
    .op (some (85, true)) (some 87) (.mov (.t 9)),
    .op (some (85, true)) (some 88) (.bin .shr (.t 87) (.c (.int .u64 4))),
    .op (some (85, true)) (some 89) (.bin .add (.c (.int .i64 4)) (.t 88)),
    .op (some (85, true)) (some 90) (.bin .geq (.t 86) (.t 89)),
    .op (some (84, false)) (some 91) (.pick (.t 85) (.t 90) (.c (.bool false))),
    .op (some (84, false)) (some 92) (.mov (.t 91)),
    .op (some (92, true)) (some 93) (.mov (.t 9)),
    .op (some (92, true)) (some 94) (.mov (.t 0)),
    .op (some (92, true)) (some 95) (.lenS (.t 94)),
    .op (some (92, true)) (some 96) (.bin .lss (.t 93) (.t 95)),
    .op (some (84, false)) (some 97) (.pick (.t 92) (.t 96) (.c (.bool false))),
    .op none (some 98) (.pick (.t 84) (.c (.bool true)) (.t 97))])
  (.cond (.t 98)
    (.goto 1)
    .skip))))))))

def F71_r3 : ACode :=
  (.seq
  .skip
  (.seq
  (.reg [.op none (some 68) (.mov (.t 10)),
    .op none (some 69) (.bin .add (.t 68) (.c (.int .i64 1))),
    .op none (some 10) (.mov (.t 69))])
  (.seq
  (.reg [.op none (some 70) (.mov (.t 9)),
    .op none (some 71) (.bin .add (.t 70) (.c (.int .i64 1))),
    .op none (some 9) (.mov (.t 71))])
  (.seq
  (.reg [.op none (some 72) (.mov (.c (.bool true))),
    .op (some (72, true)) (some 73) (.mov (.t 10)),
    .op (some (72, true)) (some 74) (.mov (.t 9)),
    .call (some (72, true)) (some 75) 81 [.t 74],
    .op (some (72, true)) (some 76) (.bin .gtr (.t 73) (.t 75)),
    .op none (some 77) (.pick (.t 72) (.t 76) (.c (.bool false))),
    .op none (some 78) (.mov (.t 77)),
    .op (some (78, true)) (some 79) (.mov (.t 9)),
    .op (some (78, true)) (some 80) (.mov (.t 0)),
    .op (some (78, true)) (some 81) (.lenS (.t 80)),
    .op (some (78, true)) (some 82) (.bin .lss (.t 79) (.t 81)),
    .op none (some 83) (.pick (.t 78) (.t 82) (.c (.bool false))),
    .op none (some 84) (.mov (.t 83)),
    .op (some (84, false)) (some 85) (.mov (.c (.bool false))),
    .op (some (85, true)) (some 86) (.mov (.t 10)),
    .op (some (85, true)) (some 87) (.mov (.t 9)),
    .op (some (85, true)) (some 88) (.bin .shr (.t 87) (.c (.int .u64 4))),
    .op (some (85, true)) (some 89) (.bin .add (.c (.int .i64 4)) (.t 88)),
    .op (some (85, true)) (some 90) (.bin .geq (.t 86) (.t 89)),
    .op (some (84, false)) (some 91) (.pick (.t 85) (.t 90) (.c (.bool false))),
    .op (some (84, false)) (some 92) (.mov (.t 91)),
    .op (some (92, true)) (some 93) (.mov (.t 9)),
    .op (some (92, true)) (some 94) (.mov (.t 0)),
    .op (some (92, true)) (some 95) (.lenS (.t 94)),
    .op (some (92, true)) (some 96) (.bin .lss (.t 93) (.t 95)),
    .op (some (84, false)) (some 97) (.pick (.t 92) (.t 96) (.c (.bool false))),
    .op none (some 98) (.pick (.t 84) (.c (.bool true)) (.t 97))])
  (.cond (.t 98)
    (.goto 1)
    .skip)))))

def F71_l2 : ACode :=
  (.seq
  (.seq
  (.reg [.op none (some 23) (.mov (.t 9)),
    .op none (some 24) (.mov (.t 0)),
    .op none (some 25) (.lenS (.t 24)),
    .op none (some 26) (.bin .lss (.t 23) (.t 25))])
  (.cond (.t 26)
    .skip
    (.exit 1)))
  (.block 2
  (.scope 0 F71_c3 F71_r3)))

def F71_l7 : ACode :=
  (.seq
  (.seq
  (.reg [.op none (some 140) (.mov (.t 16)),
    .op none (some 141) (.mov (.t 7)),
    .op none (some 142) (.lenS (.t 141)),
    .op none (some 143) (.bin .lss (.t 140) (.t 142))])
  (.cond (.t 143)
    .skip
    (.exit 7)))
  (.seq
  (.block 8
  (.seq
  (.draw [.f (.op none (some 146) (.mov (.t 0))),
    .f (.op none (some 147) (.mov (.t 9))),
    .f (.op none (some 148) (.mov (.t 16))),
    .f (.op none (some 149) (.bin .sub (.t 147) (.t 148))),
    .f (.op none (some 150) (.ixS (.t 146) (.t 149))),
    .f (.op none (some 151) (.mov (.t 7))),
    .f (.op none (some 152) (.mov (.t 8))),
    .f (.op none (some 153) (.mov (.t 16))),
    .f (.op none (some 154) (.bin .sub (.t 152) (.t 153))),
    .f (.op none (some 155) (.ixS (.t 151) (.t 154))),
    .f (.op none (some 156) (.bin .neq (.t 150) (.t 155)))])
  (.cond (.t 156)
    (.exit 6)
    .skip)))
  (.reg [.op none (some 144) (.mov (.t 16)),
    .op none (some 145) (.bin .add (.t 144) (.c (.int .i64 1))),
    .op none (some 16) (.mov (.t 145))])))

def F71_l6 : ACode :=
  (.seq
  (.seq
  (.reg [.op none (some 121) (.mov (.t 9)),
    .op none (some 122) (.mov (.t 0)),
    .op none (some 123) (.lenS (.t 122)),
    .op none (some 124) (.bin .lss (.t 121) (.t 123))])
  (.cond (.t 124)
    .skip
    (.exit 5)))
  (.seq
  (.block 6
  (.seq
  (.reg [.op none (some 127) (.mov (.t 0)),
    .op none (some 128) (.mov (.t 9)),
    .op none (some 129) (.ixS (.t 127) (.t 128)),
    .op none (some 130) (.mov (.t 14)),
    .op none (some 131) (.bin .eql (.t 129) (.t 130)),
    .op none (some 132) (.mov (.t 131)),
    .op (some (132, true)) (some 133) (.mov (.t 0)),
    .op (some (132, true)) (some 134) (.mov (.t 9)),
    .op (some (132, true)) (some 135) (.bin .sub (.t 134) (.c (.int .i64 1))),
    .op (some (132, true)) (some 136) (.ixS (.t 133) (.t 135)),
    .op (some (132, true)) (some 137) (.mov (.t 15)),
    .op (some (132, true)) (some 138) (.bin .eql (.t 136) (.t 137)),
    .op none (some 139) (.pick (.t 132) (.t 138) (.c (.bool false)))])
  (.cond (.t 139)
    (.seq
    (.seq
    (.reg [.op none (some 16) (.mov (.c (.int .i64 2)))])
    (.block 7
    (.loop F71_l7)))
    (.seq
    (.reg [.op none (some 157) (.mov (.t 9)),
      .op none (some 158) (.mov (.t 8)),
      .op none (some 159) (.bin .sub (.t 157) (.t 158)),
      .op none (some 4) (.mov (.t 159))])
    .ret))
    .skip)))
  (.reg [.op none (some 125) (.mov (.t 9)),
    .op none (some 126) (.bin .add (.t 125) (.c (.int .i64 1))),
    .op none (some 9) (.mov (.t 126))])))

def F71_l9 : ACode :=
  (.seq
  (.seq
  (.reg [.op none (some 140) (.mov (.t 16)),
    .op none (some 141) (.mov (.t 7)),
    .op none (some 142) (.lenS (.t 141)),
    .op none (some 143) (.bin .lss (.t 140) (.t 142))])
  (.cond (.t 143)
    .skip
    (.exit 7)))
  (.seq
  (.block 8
  (.seq
  (.draw [.f (.op none (some 146) (.mov (.t 0))),
    .f (.op none (some 147) (.mov (.t 9))),
    .f (.op none (some 148) (.mov (.t 16))),
    .f (.op none (some 149) (.bin .sub (.t 147) (.t 148))),
    .f (.op none (some 150) (.ixS (.t 146) (.t 149))),
    .f (.op none (some 151) (.mov (.t 7))),
    .f (.op none (some 152) (.mov (.t 8))),
    .f (.op none (some 153) (.mov (.t 16))),
    .f (.op none (some 154) (.bin .sub (.t 152) (.t 153))),
    .f (.op none (some 155) (.ixS (.t 151) (.t 154))),
    .f (.op none (some 156) (.bin .neq (.t 150) (.t 155)))])
  (.cond (.t 156)
    (.exit 6)
    .skip)))
  (.reg [.op none (some 144) (.mov (.t 16)),
    .op none (some 145) (.bin .add (.t 144) (.c (.int .i64 1))),
    .op none (some 16) (.mov (.t 145))])))

def F71_l8 : ACode :=
  (.seq
  (.seq
  (.reg [.op none (some 121) (.mov (.t 9)),
    .op none (some 122) (.mov (.t 0)),
    .op none (some 123) (.lenS (.t 122)),
    .op none (some 124) (.bin .lss (.t 121) (.t 123))])
  (.cond (.t 124)
    .skip
    (.exit 5)))
  (.seq
  (.block 6
  (.seq
  (.reg [.op none (some 127) (.mov (.t 0)),
    .op none (some 128) (.mov (.t 9)),
    .op none (some 129) (.ixS (.t 127) (.t 128)),
    .op none (some 130) (.mov (.t 14)),
    .op none (some 131) (.bin .eql (.t 129) (.t 130)),
    .op none (some 132) (.mov (.t 131)),
    .op (some (132, true)) (some 133) (.mov (.t 0)),
    .op (some (132, true)) (some 134) (.mov (.t 9)),
    .op (some (132, true)) (some 135) (.bin .sub (.t 134) (.c (.int .i64 1))),
    .op (some (132, true)) (some 136) (.ixS (.t 133) (.t 135)),
    .op (some (132, true)) (some 137) (.mov (.t 15)),
    .op (some (132, true)) (some 138) (.bin .eql (.t 136) (.t 137)),
    .op none (some 139) (.pick (.t 132) (.t 138) (.c (.bool false)))])
  (.cond (.t 139)
    (.seq
    (.seq
    (.reg [.op none (some 16) (.mov (.c (.int .i64 2)))])
    (.block 7
    (.loop F71_l9)))
    (.seq
    (.reg [.op none (some 157) (.mov (.t 9)),
      .op none (some 158) (.mov (.t 8)),
      .op none (some 159) (.bin .sub (.t 157) (.t 158)),
      .op none (some 4) (.mov (.t 159))])
    .ret))
    .skip)))
  (.reg [.op none (some 125) (.mov (.t 9)),
    .op none (some 126) (.bin .add (.t 125) (.c (.int .i64 1))),
    .op none (some 9) (.mov (.t 126))])))

def F71_c5 : ACode :=
  (.seq
  (.reg [.op none (some 114) (.mov (.t 7)),
    .op none (some 115) (.mov (.t 8)),
    .op none (some 116) (.ixS (.t 114) (.t 115)),
    .op none (some 14) (.mov (.t 116))])
  (.seq
  (.reg [.op none (some 117) (.mov (.t 7)),
    .op none (some 118) (.mov (.t 8)),
    .op none (some 119) (.bin .sub (.t 118) (.c (.int .i64 1))),
    .op none (some 120) (.ixS (.t 117) (.t 119)),
    .op none (some 15) (.mov (.t 120))])
  (.seq
  (.label 2)
  (.block 5
  (.loop F71_l6)))))

def F71_r5 : ACode :=
  (.seq
  .skip
  (.block 5
  (.loop F71_l8)))

def F71_l12 : ACode :=
  (.seq
  (.seq
  (.reg [.op none (some 140) (.mov (.t 16)),
    .op none (some 141) (.mov (.t 7)),
    .op none (some 142) (.lenS (.t 141)),
    .op none (some 143) (.bin .lss (.t 140) (.t 142))])
  (.cond (.t 143)
    .skip
    (.exit 7)))
  (.seq
  (.block 8
  (.seq
  (.draw [.f (.op none (some 146) (.mov (.t 0))),
    .f (.op none (some 147) (.mov (.t 9))),
    .f (.op none (some 148) (.mov (.t 16))),
    .f (.op none (some 149) (.bin .sub (.t 147) (.t 148))),
    .f (.op none (some 150) (.ixS (.t 146) (.t 149))),
    .f (.op none (some 151) (.mov (.t 7))),
    .f (.op none (some 152) (.mov (.t 8))),
    .f (.op none (some 153) (.mov (.t 16))),
    .f (.op none (some 154) (.bin .sub (.t 152) (.t 153))),
    .f (.op none (some 155) (.ixS (.t 151) (.t 154))),
    .f (.op none (some 156) (.bin .neq (.t 150) (.t 155)))])
  (.cond (.t 156)
    (.exit 6)
    .skip)))
  (.reg [.op none (some 144) (.mov (.t 16)),
    .op none (some 145) (.bin .add (.t 144) (.c (.int .i64 1))),
    .op none (some 16) (.mov (.t 145))])))

def F71_l11 : ACode :=
  (.seq
  (.seq
  (.reg [.op none (some 121) (.mov (.t 9)),
    .op none (some 122) (.mov (.t 0)),
    .op none (some 123) (.lenS (.t 122)),
    .op none (some 124) (.bin .lss (.t 121) (.t 123))])
  (.cond (.t 124)
    .skip
    (.exit 5)))
  (.seq
  (.block 6
  (.seq
  (.reg [.op none (some 127) (.mov (.t 0)),
    .op none (some 128) (.mov (.t 9)),
    .op none (some 129) (.ixS (.t 127) (.t 128)),
    .op none (some 130) (.mov (.t 14)),
    .op none (some 131) (.bin .eql (.t 129) (.t 130)),
    .op none (some 132) (.mov (.t 131)),
    .op (some (132, true)) (some 133) (.mov (.t 0)),
    .op (some (132, true)) (some 134) (.mov (.t 9)),
    .op (some (132, true)) (some 135) (.bin .sub (.t 134) (.c (.int .i64 1))),
    .op (some (132, true)) (some 136) (.ixS (.t 133) (.t 135)),
    .op (some (132, true)) (some 137) (.mov (.t 15)),
    .op (some (132, true)) (some 138) (.bin .eql (.t 136) (.t 137)),
    .op none (some 139) (.pick (.t 132) (.t 138) (.c (.bool false)))])
  (.cond (.t 139)
    (.seq
    (.seq
    (.reg [.op none (some 16) (.mov (.c (.int .i64 2)))])
    (.block 7
    (.loop F71_l12)))
    (.seq
    (.reg [.op none (some 157) (.mov (.t 9)),
      .op none (some 158) (.mov (.t 8)),
      .op none (some 159) (.bin .sub (.t 157) (.t 158)),
      .op none (some 4) (.mov (.t 159))])
    .ret))
    .skip)))
  (.reg [.op none (some 125) (.mov (.t 9)),
    .op none (some 126) (.bin .add (.t 125) (.c (.int .i64 1))),
    .op none (some 9) (.mov (.t 126))])))

def F71_l14 : ACode :=
  (.seq
  (.seq
  (.reg [.op none (some 140) (.mov (.t 16)),
    .op none (some 141) (.mov (.t 7)),
    .op none (some 142) (.lenS (.t 141)),
    .op none (some 143) (.bin .lss (.t 140) (.t 142))])
  (.cond (.t 143)
    .skip
    (.exit 7)))
  (.seq
  (.block 8
  (.seq
  (.draw [.f (.op none (some 146) (.mov (.t 0))),
    .f (.op none (some 147) (.mov (.t 9))),
    .f (.op none (some 148) (.mov (.t 16))),
    .f (.op none (some 149) (.bin .sub (.t 147) (.t 148))),
    .f (.op none (some 150) (.ixS (.t 146) (.t 149))),
    .f (.op none (some 151) (.mov (.t 7))),
    .f (.op none (some 152) (.mov (.t 8))),
    .f (.op none (some 153) (.mov (.t 16))),
    .f (.op none (some 154) (.bin .sub (.t 152) (.t 153))),
    .f (.op none (some 155) (.ixS (.t 151) (.t 154))),
    .f (.op none (some 156) (.bin .neq (.t 150) (.t 155)))])
  (.cond (.t 156)
    (.exit 6)
    .skip)))
  (.reg [.op none (some 144) (.mov (.t 16)),
    .op none (some 145) (.bin .add (.t 144) (.c (.int .i64 1))),
    .op none (some 16) (.mov (.t 145))])))

def F71_l13 : ACode :=
  (.seq
  (.seq
  (.reg [.op none (some 121) (.mov (.t 9)),
    .op none (some 122) (.mov (.t 0)),
    .op none (some 123) (.lenS (.t 122)),
    .op none (some 124) (.bin .lss (.t 121) (.t 123))])
  (.cond (.t 124)
    .skip
    (.exit 5)))
  (.seq
  (.block 6
  (.seq
  (.reg [.op none (some 127) (.mov (.t 0)),
    .op none (some 128) (.mov (.t 9)),
    .op none (some 129) (.ixS (.t 127) (.t 128)),
    .op none (some 130) (.mov (.t 14)),
    .op none (some 131) (.bin .eql (.t 129) (.t 130)),
    .op none (some 132) (.mov (.t 131)),
    .op (some (132, true)) (some 133) (.mov (.t 0)),
    .op (some (132, true)) (some 134) (.mov (.t 9)),
    .op (some (132, true)) (some 135) (.bin .sub (.t 134) (.c (.int .i64 1))),
    .op (some (132, true)) (some 136) (.ixS (.t 133) (.t 135)),
    .op (some (132, true)) (some 137) (.mov (.t 15)),
    .op (some (132, true)) (some 138) (.bin .eql (.t 136) (.t 137)),
    .op none (some 139) (.pick (.t 132) (.t 138) (.c (.bool false)))])
  (.cond (.t 139)
    (.seq
    (.seq
    (.reg [.op none (some 16) (.mov (.c (.int .i64 2)))])
    (.block 7
    (.loop F71_l14)))
    (.seq
    (.reg [.op none (some 157) (.mov (.t 9)),
      .op none (some 158) (.mov (.t 8)),
      .op none (some 159) (.bin .sub (.t 157) (.t 158)),
      .op none (some 4) (.mov (.t 159))])
    .ret))
    .skip)))
  (.reg [.op none (some 125) (.mov (.t 9)),
    .op none (some 126) (.bin .add (.t 125) (.c (.int .i64 1))),
    .op none (some 9) (.mov (.t 126))])))

def F71_c10 : ACode :=
  (.seq
  (.reg [.op none (some 114) (.mov (.t 7)),
    .op none (some 115) (.mov (.t 8)),
    .op none (some 116) (.ixS (.t 114) (.t 115)),
    .op none (some 14) (.mov (.t 116))])
  (.seq
  (.reg [.op none (some 117) (.mov (.t 7)),
    .op none (some 118) (.mov (.t 8)),
    .op none (some 119) (.bin .sub (.t 118) (.c (.int .i64 1))),
    .op none (some 120) (.ixS (.t 117) (.t 119)),
    .op none (some 15) (.mov (.t 120))])
  (.seq
  (.label 2)
  (.block 5
  (.loop F71_l11)))))

def F71_r10 : ACode :=
  (.seq
  .skip
  (.block 5
  (.loop F71_l13)))

def F71_c1 : ACode :=
  (.seq
  (.reg [.op none (some 17) (.mov (.t 1)),
    .op none (some 18) (.i2s (.t 17)),
    .op none (some 7) (.mov (.t 18))])
  (.seq
  (.reg [.op none (some 19) (.mov (.t 7)),
    .op none (some 20) (.lenS (.t 19)),
    .op none (some 21) (.bin .sub (.t 20) (.c (.int .i64 1))),
    .op none (some 8) (.mov (.t 21))])
  (.seq
  (.reg [.op none (some 22) (.mov (.t 8)),
    .op none (some 9) (.mov (.t 22))])
  (.seq
  (.reg [.op none (some 10) (.mov (.c (.int .i64 0)))])
  (.seq
  (.block 1
  (.loop F71_l2))
  (.seq
  (.seq
  (.reg [.op none (some 4) (.mov (.c (.int .i64 (-1))))])
  .ret)
  (.seq
  (.label 1)
  (.seq
  (.cond (.c (.bool true))
    (.seq
    (.reg [.op none (some 99) (.mov (.t 0)),
      .op none (some 100) (.mov (.t 9)),
      .op none (some 101) (.mov (.t 8)),
      .op none (some 102) (.bin .sub (.t 100) (.t 101)),
      .op none (some 103) (.slS (.t 99) (some (.t 102)) none),
      .op none (some 104) (.mov (.t 1)),
      .op none (some 105) (.i2s (.t 104)),
      .call none (some 106) 82 [.t 103, .t 105],
      .op none (some 13) (.mov (.t 106))])
    (.seq
    (.reg [.op none (some 107) (.mov (.t 13)),
      .op none (some 108) (.bin .geq (.t 107) (.c (.int .i64 0)))])
    (.cond (.t 108)
      (.seq
      (.reg [.op none (some 109) (.mov (.t 9)),
        .op none (some 110) (.mov (.t 13)),
        .op none (some 111) (.bin .add (.t 109) (.t 110)),
        .op none (some 112) (.mov (.t 8)),
        .op none (some 113) (.bin .sub (.t 111) (.t 112)),
        .op none (some 4) (.mov (.t 113))])
      .ret)
      .skip)))
    (.scope 2 F71_c5 F71_r5))
  (.seq
  (.reg [.op none (some 4) (.mov (.c (.int .i64 (-1))))])
  .ret)))))))))

def F71_r1 : ACode :=
  (.seq
  .skip
  (.seq
  (.cond (.c (.bool true))
    (.seq
    (.reg [.op none (some 99) (.mov (.t 0)),
      .op none (some 100) (.mov (.t 9)),
      .op none (some 101) (.mov (.t 8)),
      .op none (some 102) (.bin .sub (.t 100) (.t 101)),
      .op none (some 103) (.slS (.t 99) (some (.t 102)) none),
      .op none (some 104) (.mov (.t 1)),
      .op none (some 105) (.i2s (.t 104)),
      .call none (some 106) 82 [.t 103, .t 105],
      .op none (some 13) (.mov (.t 106))])
    (.seq
    (.reg [.op none (some 107) (.mov (.t 13)),
      .op none (some 108) (.bin .geq (.t 107) (.c (.int .i64 0)))])
    (.cond (.t 108)
      (.seq
      (.reg [.op none (some 109) (.mov (.t 9)),
        .op none (some 110) (.mov (.t 13)),
        .op none (some 111) (.bin .add (.t 109) (.t 110)),
        .op none (some 112) (.mov (.t 8)),
        .op none (some 113) (.bin .sub (.t 111) (.t 112)),
        .op none (some 4) (.mov (.t 113))])
      .ret)
      .skip)))
    (.scope 2 F71_c10 F71_r10))
  (.seq
  (.reg [.op none (some 4) (.mov (.c (.int .i64 (-1))))])
  .ret)))

def F71 : AFun :=
  { n := 187, res := [.t 4], code :=
  (.seq
  (.reg [.op none (some 4) (.mov (.c (.int .i64 0)))])
  (.block 0
  (.seq
  (.reg [.op none (some 161) (.mov (.t 1)),
    .op none (some 162) (.bin .leq (.c (.int .i32 0)) (.t 161)),
    .op none (some 163) (.mov (.t 162)),
    .op (some (163, true)) (some 164) (.mov (.t 1)),
    .op (some (163, true)) (some 165) (.bin .lss (.t 164) (.c (.int .i32 128))),
    .op none (some 166) (.pick (.t 163) (.t 165) (.c (.bool false))),
    .op none (some 160) (.mov (.t 166))])
  (.cond (.t 160)
    (.seq
    (.reg [.op none (some 167) (.mov (.t 0)),
      .op none (some 168) (.mov (.t 1)),
      .op none (some 169) (.cvt .u8 (.t 168)),
      .call none (some 170) 75 [.t 167, .t 169],
      .op none (some 4) (.mov (.t 170))])
    .ret)
    (.seq
    (.reg [.op none (some 172) (.mov (.t 1)),
      .op none (some 173) (.bin .eql (.t 172) (.c (.int .i32 65533))),
      .op none (some 171) (.mov (.t 173))])
    (.cond (.t 171)
      (.seq
      (.seq
      (.reg [.op none (some 174) (.mov (.t 0)),
        .op none (some 175) (.rng (.t 174))])
      (.block 9
      (.loop F71_l0)))
      (.seq
      (.reg [.op none (some 4) (.mov (.c (.int .i64 (-1))))])
      .ret))
      (.seq
      (.reg [.op none (some 184) (.mov (.t 1)),
        .call none (some 185) 80 [.t 184],
        .op none (some 186) (.un .not (.t 185)),
        .op none (some 183) (.mov (.t 186))])
      (.cond (.t 183)
        (.seq
        (.reg [.op none (some 4) (.mov (.c (.int .i64 (-1))))])
        .ret)
        (.scope 1 F71_c1 F71_r1))))))))) }
theorem F71_ok : compFun Tryd.prog 3 Tryd.f71 = some F71 := by kernel_rfl

def F72 : AFun :=
  { n := 5, res := [.t 2], code :=
  (.seq
  (.reg [.op none (some 2) (.mov (.c (.bool false)))])
  (.seq
  (.reg [.op none (some 3) (.mov (.t 0)),
    .op none (some 4) (.bin .gtr (.t 3) (.c (.int .i64 8))),
    .op none (some 2) (.mov (.t 4))])
  .ret)) }
theorem F72_ok : compFun Tryd.prog 3 Tryd.f72 = some F72 := by kernel_rfl

def F73_l0 : ACode :=
  (.seq
  (.seq
  (.reg [.op none (some 6) (.mov (.t 4)),
    .op none (some 7) (.mov (.t 0)),
    .op none (some 8) (.lenS (.t 7)),
    .op none (some 9) (.bin .lss (.t 6) (.t 8))])
  (.cond (.t 9)
    .skip
    (.exit 0)))
  (.seq
  (.block 1
  (.seq
  (.reg [.op none (some 12) (.mov (.t 0)),
    .op none (some 13) (.mov (.t 4)),
    .op none (some 14) (.ixS (.t 12) (.t 13)),
    .op none (some 5) (.mov (.t 14))])
  (.seq
  (.seq
  (.reg [.op none (some 15) (.mov (.t 5)),
    .op none (some 16) (.bin .geq (.t 15) (.c (.int .u8 128)))])
  (.cond (.t 16)
    (.seq
    (.reg [.op none (some 17) (.ldn 256 (.t 2)),
      .op none none (.st 256 (.t 2) (.t 17)),
      .op none (some 3) (.mov (.c (.bool false)))])
    .ret)
    .skip))
  (.reg [.op none (some 18) (.mov (.t 5)),
    .op none (some 19) (.iadA 256 1 (.t 2) (.t 18)),
    .op none none (.st 1 (.t 19) (.c (.bool true)))]))))
  (.reg [.op none (some 10) (.mov (.t 4)),
    .op none (some 11) (.bin .add (.t 10) (.c (.int .i64 1))),
    .op none (some 4) (.mov (.t 11))])))

def F73 : AFun :=
  { n := 21, res := [.cn 2 256, .t 3], code :=
  (.seq
  (.reg [.op none (some 2) (.new 84 [.bool false, .bool false, .bool false, .bool false, .bool false, .bool false, .bool false, .bool false, .bool false, .bool false, .bool false, .bool false, .bool false, .bool false, .bool false, .bool false, .bool false, .bool false, .bool false, .bool false, .bool false, .bool false, .bool false, .bool false, .bool false, .bool false, .bool false, .bool false, .bool false, .bool false, .bool false, .bool false, .bool false, .bool false, .bool false, .bool false, .bool false, .bool false, .bool false, .bool false, .bool false, .bool false, .bool false, .bool false, .bool false, .bool false, .bool false, .bool false, .bool false, .bool false, .bool false, .bool false, .bool false, .bool false, .bool false, .bool false, .bool false, .bool false, .bool false, .bool false, .bool false, .bool false, .bool false, .bool false, .bool false, .bool false, .bool false, .bool false, .bool false, .bool false, .bool false, .bool false, .bool false, .bool false, .bool false, .bool false, .bool false, .bool false, .bool false, .bool false, .bool false, .bool false, .bool false, .bool false, .bool false, .bool false, .bool false, .bool false, .bool false, .bool false, .bool false, .bool false, .bool false, .bool false, .bool false, .bool false, .bool false, .bool false, .bool false, .bool false, .bool false, .bool false, .bool false, .bool false, .bool false, .bool false, .bool false, .bool false, .bool false, .bool false, .bool false, .bool false, .bool false, .bool false, .bool false, .bool false, .bool false, .bool false, .bool false, .bool false, .bool false, .bool false, .bool false, .bool false, .bool false, .bool false, .bool false, .bool false, .bool false, .bool false, .bool false, .bool false, .bool false, .bool false, .bool false, .bool false, .bool false, .bool false, .bool false, .bool false, .bool false, .bool false, .bool false, .bool false, .bool false, .bool false, .bool false, .bool false, .bool false, .bool false, .bool false, .bool false, .bool false, .bool false, .bool false, .bool false, .bool false, .bool false, .bool false, .bool false, .bool false, .bool false, .bool false, .bool false, .bool false, .bool false, .bool false, .bool false, .bool false, .bool false, .bool false, .bool false, .bool false, .bool false, .bool false, .bool false, .bool false, .bool false, .bool false, .bool false, .bool false, .bool false, .bool false, .bool false, .bool false, .bool false, .bool false, .bool false, .bool false, .bool false, .bool false, .bool false, .bool false, .bool false, .bool false, .bool false, .bool false, .bool false, .bool false, .bool false, .bool false, .bool false, .bool false, .bool false, .bool false, .bool false, .bool false, .bool false, .bool false, .bool false, .bool false, .bool false, .bool false, .bool false, .bool false, .bool false, .bool false, .bool false, .bool false, .bool false, .bool false, .bool false, .bool false, .bool false, .bool false, .bool false, .bool false, .bool false, .bool false, .bool false, .bool false, .bool false, .bool false, .bool false, .bool false, .bool false, .bool false, .bool false, .bool false, .bool false, .bool false, .bool false, .bool false, .bool false, .bool false, .bool false, .bool false, .bool false, .bool false, .bool false, .bool false, .bool false, .bool false, .bool false, .bool false, .bool false]),
    .op none (some 3) (.mov (.c (.bool false)))])
  (.seq
  (.seq
  (.reg [.op none (some 4) (.mov (.c (.int .i64 0)))])
  (.block 0
  (.loop F73_l0)))
  (.seq
  (.reg [.op none (some 20) (.ldn 256 (.t 2)),
    .op none none (.st 256 (.t 2) (.t 20)),
    .op none (some 3) (.mov (.c (.bool true)))])
  .ret))) }
theorem F73_ok : compFun Tryd.prog 3 Tryd.f73 = some F73 := by kernel_rfl

def F74 : AFun :=
  { n := 10, res := [.t 4], code :=
  (.seq
  (.reg [.op none (some 4) (.mov (.c (.bool false)))])
  (.seq
  (.reg [.op none (some 5) (.mov (.t 0)),
    .op none (some 6) (.mov (.t 1)),
    .op none (some 7) (.nchk (.t 5)),
    .op none (some 8) (.iadA 256 1 (.t 7) (.t 6)),
    .op none (some 9) (.ld1 (.t 8)),
    .op none (some 4) (.mov (.t 9))])
  .ret)) }
theorem F74_ok : compFun Tryd.prog 3 Tryd.f74 = some F74 := by kernel_rfl

def F75 : AFun :=
  { n := 8, res := [.t 4], code :=
  (.seq
  (.reg [.op none (some 4) (.mov (.c (.int .i64 0)))])
  (.seq
  (.reg [.op none (some 5) (.mov (.t 0)),
    .op none (some 6) (.mov (.t 1)),
    .call none (some 7) 83 [.t 5, .t 6],
    .op none (some 4) (.mov (.t 7))])
  .ret)) }
theorem F75_ok : compFun Tryd.prog 3 Tryd.f75 = some F75 := by kernel_rfl

def F76_l0 : ACode :=
  (.seq
  (.seq
  (.reg [.op none (some 34) (.mov (.t 10)),
    .op none (some 35) (.mov (.t 3)),
    .op none (some 36) (.bin .lss (.t 34) (.t 35))])
  (.cond (.t 36)
    .skip
    (.exit 0)))
  (.block 1
  (.seq
  (.reg [.op none (some 37) (.mov (.t 0)),
    .op none (some 38) (.mov (.t 1)),
    .call none (some 39) 86 [.t 37, .t 38],
    .op none (some 11) (.mov (.t 39))])
  (.seq
  (.seq
  (.reg [.op none (some 40) (.mov (.t 11)),
    .op none (some 41) (.bin .lss (.t 40) (.c (.int .i64 0)))])
  (.cond (.t 41)
    (.exit 0)
    .skip))
  (.seq
  (.reg [.op none (some 42) (.mov (.t 9)),
    .op none (some 43) (.mov (.t 10)),
    .op none (some 44) (.mov (.t 0)),
    .op none (some 45) (.mov (.t 11)),
    .op none (some 46) (.mov (.t 2)),
    .op none (some 47) (.bin .add (.t 45) (.t 46)),
    .op none (some 48) (.slS (.t 44) none (some (.t 47))),
    .op none (some 49) (.iadV 1 (.t 42) (.t 43)),
    .op none none (.st 1 (.t 49) (.t 48))])
  (.seq
  (.reg [.op none (some 50) (.mov (.t 0)),
    .op none (some 51) (.mov (.t 11)),
    .op none (some 52) (.mov (.t 1)),
    .op none (some 53) (.lenS (.t 52)),
    .op none (some 54) (.bin .add (.t 51) (.t 53)),
    .op none (some 55) (.slS (.t 50) (some (.t 54)) none),
    .op none (some 0) (.mov (.t 55))])
  (.reg [.op none (some 56) (.mov (.t 10)),
    .op none (some 57) (.bin .add (.t 56) (.c (.int .i64 1))),
    .op none (some 10) (.mov (.t 57))])))))))

def F76 : AFun :=
  { n := 66, res := [.t 8], code :=
  (.seq
  (.reg [.op none (some 8) (.mov (.c (.slice none 0 0)))])
  (.seq
  (.seq
  (.reg [.op none (some 12) (.mov (.t 3)),
    .op none (some 13) (.bin .eql (.t 12) (.c (.int .i64 0)))])
  (.cond (.t 13)
    (.seq
    (.reg [.op none (some 8) (.mov (.c (.slice none 0 0)))])
    .ret)
    .skip))
  (.seq
  (.seq
  (.reg [.op none (some 14) (.mov (.t 1)),
    .op none (some 15) (.bin .eql (.t 14) (.c (.string (⟨#[]⟩))))])
  (.cond (.t 15)
    (.seq
    (.reg [.op none (some 16) (.mov (.t 0)),
      .op none (some 17) (.mov (.t 3)),
      .call none (some 18) 84 [.t 16, .t 17],
      .op none (some 8) (.mov (.t 18))])
    .ret)
    .skip))
  (.seq
  (.seq
  (.reg [.op none (some 19) (.mov (.t 3)),
    .op none (some 20) (.bin .lss (.t 19) (.c (.int .i64 0)))])
  (.cond (.t 20)
    (.reg [.op none (some 21) (.mov (.t 0)),
      .op none (some 22) (.mov (.t 1)),
      .call none (some 23) 85 [.t 21, .t 22],
      .op none (some 24) (.bin .add (.t 23) (.c (.int .i64 1))),
      .op none (some 3) (.mov (.t 24))])
    .skip))
  (.seq
  (.reg [.op none (some 25) (.mov (.t 3)),
    .op none (some 26) (.mov (.t 0)),
    .op none (some 27) (.lenS (.t 26)),
    .op none (some 28) (.bin .add (.t 27) (.c (.int .i64 1))),
    .op none (some 29) (.mnx false (.t 25) [.t 28]),
    .op none (some 3) (.mov (.t 29))])
  (.seq
  (.reg [.op none (some 30) (.mov (.t 3)),
    .op none (some 31) (.mkSl 9 1 [.string (⟨#[]⟩)] 16 (.t 30) (.t 30)),
    .op none (some 9) (.mov (.t 31))])
  (.seq
  (.reg [.op none (some 32) (.mov (.t 3)),
    .op none (some 33) (.bin .sub (.t 32) (.c (.int .i64 1))),
    .op none (some 3) (.mov (.t 33))])
  (.seq
  (.reg [.op none (some 10) (.mov (.c (.int .i64 0)))])
  (.seq
  (.block 0
  (.loop F76_l0))
  (.seq
  (.reg [.op none (some 58) (.mov (.t 9)),
    .op none (some 59) (.mov (.t 10)),
    .op none (some 60) (.mov (.t 0)),
    .op none (some 61) (.iadV 1 (.t 58) (.t 59)),
    .op none none (.st 1 (.t 61) (.t 60))])
  (.seq
  (.reg [.op none (some 62) (.mov (.t 9)),
    .op none (some 63) (.mov (.t 10)),
    .op none (some 64) (.bin .add (.t 63) (.c (.int .i64 1))),
    .op none (some 65) (.slV 1 (.t 62) none (some (.t 64)) none),
    .op none (some 8) (.mov (.t 65))])
  .ret))))))))))) }
theorem F76_ok : compFun Tryd.prog 3 Tryd.f76 = some F76 := by kernel_rfl

def F77 : AFun :=
  { n := 8, res := [.t 4], code :=
  (.seq
  (.reg [.op none (some 4) (.mov (.c (.int .i64 0)))])
  (.seq
  (.reg [.op none (some 5) (.mov (.t 0)),
    .op none (some 6) (.mov (.t 1)),
    .call none (some 7) 87 [.t 5, .t 6],
    .op none (some 4) (.mov (.t 7))])
  .ret)) }
theorem F77_ok : compFun Tryd.prog 3 Tryd.f77 = some F77 := by kernel_rfl

def F78 : AFun :=
  { n := 27, res := [.t 4], code :=
  (.seq
  (.reg [.op none (some 4) (.mov (.c (.slice none 0 0)))])
  (.seq
  (.seq
  (.reg [.op none (some 5) (.mov (.t 1)),
    .op none (some 6) (.bin .lss (.t 5) (.c (.int .i64 0)))])
  (.cond (.t 6)
    (.reg [.op none (some 7) (.mkI 9 (.c (.string (⟨#[99, 97, 110, 110, 111, 116, 32, 98, 101, 32, 110, 101, 103, 97, 116, 105, 118, 101]⟩)))),
      .panic none none (.t 7)])
    .skip))
  (.seq
  (.seq
  (.reg [.op none (some 8) (.mov (.t 1)),
    .op none (some 9) (.mov (.t 0)),
    .cap none (some 10) 4 (.t 9),
    .op none (some 11) (.mov (.t 0)),
    .op none (some 12) (.lenV (.t 11)),
    .op none (some 13) (.bin .sub (.t 10) (.t 12)),
    .op none (some 14) (.bin .sub (.t 8) (.t 13)),
    .op none (some 1) (.mov (.t 14))])
  (.seq
  (.reg [.op none (some 15) (.mov (.t 1)),
    .op none (some 16) (.bin .gtr (.t 15) (.c (.int .i64 0)))])
  (.cond (.t 16)
    (.reg [.op none (some 17) (.mov (.t 0)),
      .op none (some 18) (.mov (.t 0)),
      .cap none (some 19) 4 (.t 18),
      .op none (some 20) (.slV 4 (.t 17) none (some (.t 19)) none),
      .op none (some 21) (.mov (.t 1)),
      .op none (some 22) (.appN 48 4 64 [.string (⟨#[]⟩), .int .u8 0, .string (⟨#[]⟩), .slice none 0 0] (.t 20) (.t 21)),
      .op none (some 23) (.mov (.t 0)),
      .op none (some 24) (.lenV (.t 23)),
      .op none (some 25) (.slV 4 (.t 22) none (some (.t 24)) none),
      .op none (some 0) (.mov (.t 25))])
    .skip)))
  (.seq
  (.reg [.op none (some 26) (.mov (.t 0)),
    .op none (some 4) (.mov (.t 26))])
  .ret)))) }
theorem F78_ok : compFun Tryd.prog 3 Tryd.f78 = some F78 := by kernel_rfl

def F79 : AFun :=
  { n := 18, res := [.t 4], code :=
  (.seq
  (.reg [.op none (some 4) (.mov (.c (.bool false)))])
  (.seq
  (.reg [.op none (some 5) (.mov (.t 0)),
    .op none (some 6) (.lenS (.t 5)),
    .op none (some 7) (.mov (.t 1)),
    .op none (some 8) (.lenS (.t 7)),
    .op none (some 9) (.bin .geq (.t 6) (.t 8)),
    .op none (some 10) (.mov (.t 9)),
    .op (some (10, true)) (some 11) (.mov (.t 0)),
    .op (some (10, true)) (some 12) (.mov (.t 1)),
    .op (some (10, true)) (some 13) (.lenS (.t 12)),
    .op (some (10, true)) (some 14) (.slS (.t 11) none (some (.t 13))),
    .op (some (10, true)) (some 15) (.mov (.t 1)),
    .op (some (10, true)) (some 16) (.bin .eql (.t 14) (.t 15)),
    .op none (some 17) (.pick (.t 10) (.t 16) (.c (.bool false))),
    .op none (some 4) (.mov (.t 17))])
  .ret)) }
theorem F79_ok : compFun Tryd.prog 3 Tryd.f79 = some F79 := by kernel_rfl

def F80 : AFun :=
  { n := 17, res := [.t 2], code :=
  (.seq
  (.reg [.op none (some 2) (.mov (.c (.bool false)))])
  (.seq
  (.block 0
  (.seq
  (.reg [.op none (some 4) (.mov (.t 0)),
    .op none (some 5) (.bin .leq (.c (.int .i32 0)) (.t 4)),
    .op none (some 6) (.mov (.t 5)),
    .op (some (6, true)) (some 7) (.mov (.t 0)),
    .op (some (6, true)) (some 8) (.bin .lss (.t 7) (.c (.int .i32 55296))),
    .op none (some 9) (.pick (.t 6) (.t 8) (.c (.bool false))),
    .op none (some 3) (.mov (.t 9))])
  (.cond (.t 3)
    (.seq
    (.reg [.op none (some 2) (.mov (.c (.bool true)))])
    .ret)
    (.seq
    (.reg [.op none (some 11) (.mov (.t 0)),
      .op none (some 12) (.bin .lss (.c (.int .i32 57343)) (.t 11)),
      .op none (some 13) (.mov (.t 12)),
      .op (some (13, true)) (some 14) (.mov (.t 0)),
      .op (some (13, true)) (some 15) (.bin .leq (.t 14) (.c (.int .i32 1114111))),
      .op none (some 16) (.pick (.t 13) (.t 15) (.c (.bool false))),
      .op none (some 10) (.mov (.t 16))])
    (.cond (.t 10)
      (.seq
      (.reg [.op none (some 2) (.mov (.c (.bool true)))])
      .ret)
      .skip)))))
  (.seq
  (.reg [.op none (some 2) (.mov (.c (.bool false)))])
  .ret))) }
theorem F80_ok : compFun Tryd.prog 3 Tryd.f80 = some F80 := by kernel_rfl

def F83 : AFun :=
  { n := 8, res := [.t 4], code :=
  (.seq
  (.reg [.op none (some 4) (.mov (.c (.int .i64 0)))])
  (.seq
  (.reg [.op none (some 5) (.mov (.t 0)),
    .op none (some 6) (.mov (.t 1)),
    .call none (some 7) 88 [.t 5, .t 6],
    .op none (some 4) (.mov (.t 7))])
  .ret)) }
theorem F83_ok : compFun Tryd.prog 3 Tryd.f83 = some F83 := by kernel_rfl

def F85_l0 : ACode :=
  (.block 1
  (.seq
  (.reg [.op none (some 20) (.mov (.t 0)),
    .op none (some 21) (.mov (.t 1)),
    .call none (some 22) 86 [.t 20, .t 21],
    .op none (some 6) (.mov (.t 22))])
  (.seq
  (.seq
  (.reg [.op none (some 23) (.mov (.t 6)),
    .op none (some 24) (.bin .eql (.t 23) (.c (.int .i64 (-1))))])
  (.cond (.t 24)
    (.seq
    (.reg [.op none (some 25) (.mov (.t 5)),
      .op none (some 4) (.mov (.t 25))])
    .ret)
    .skip))
  (.seq
  (.reg [.op none (some 26) (.mov (.t 5)),
    .op none (some 27) (.bin .add (.t 26) (.c (.int .i64 1))),
    .op none (some 5) (.mov (.t 27))])
  (.reg [.op none (some 28) (.mov (.t 0)),
    .op none (some 29) (.mov (.t 6)),
    .op none (some 30) (.mov (.t 1)),
    .op none (some 31) (.lenS (.t 30)),
    .op none (some 32) (.bin .add (.t 29) (.t 31)),
    .op none (some 33) (.slS (.t 28) (some (.t 32)) none),
    .op none (some 0) (.mov (.t 33))])))))

def F85 : AFun :=
  { n := 34, res := [.t 4], code :=
  (.seq
  (.reg [.op none (some 4) (.mov (.c (.int .i64 0)))])
  (.seq
  (.seq
  (.reg [.op none (some 7) (.mov (.t 1)),
    .op none (some 8) (.lenS (.t 7)),
    .op none (some 9) (.bin .eql (.t 8) (.c (.int .i64 0)))])
  (.cond (.t 9)
    (.seq
    (.reg [.op none (some 10) (.mov (.t 0)),
      .call none (some 11) 89 [.t 10],
      .op none (some 12) (.bin .add (.t 11) (.c (.int .i64 1))),
      .op none (some 4) (.mov (.t 12))])
    .ret)
    .skip))
  (.seq
  (.seq
  (.reg [.op none (some 13) (.mov (.t 1)),
    .op none (some 14) (.lenS (.t 13)),
    .op none (some 15) (.bin .eql (.t 14) (.c (.int .i64 1)))])
  (.cond (.t 15)
    (.seq
    (.reg [.op none (some 16) (.mov (.t 0)),
      .op none (some 17) (.mov (.t 1)),
      .op none (some 18) (.ixS (.t 17) (.c (.int .i64 0))),
      .call none (some 19) 91 [.t 16, .t 18],
      .op none (some 4) (.mov (.t 19))])
    .ret)
    .skip))
  (.seq
  (.reg [.op none (some 5) (.mov (.c (.int .i64 0)))])
  (.block 0
  (.loop F85_l0)))))) }
theorem F85_ok : compFun Tryd.prog 3 Tryd.f85 = some F85 := by kernel_rfl

def F86 : AFun :=
  { n := 8, res := [.t 4], code :=
  (.seq
  (.reg [.op none (some 4) (.mov (.c (.int .i64 0)))])
  (.seq
  (.reg [.op none (some 5) (.mov (.t 0)),
    .op none (some 6) (.mov (.t 1)),
    .call none (some 7) 92 [.t 5, .t 6],
    .op none (some 4) (.mov (.t 7))])
  .ret)) }
theorem F86_ok : compFun Tryd.prog 3 Tryd.f86 = some F86 := by kernel_rfl

def F92_l0 : ACode :=
  (.seq
  (.seq
  (.reg [.op none (some 57) (.mov (.t 8)),
    .op none (some 58) (.mov (.t 9)),
    .op none (some 59) (.bin .lss (.t 57) (.t 58))])
  (.cond (.t 59)
    .skip
    (.exit 1)))
  (.block 2
  (.seq
  (.seq
  (.reg [.op none (some 60) (.mov (.t 0)),
    .op none (some 61) (.mov (.t 8)),
    .op none (some 62) (.ixS (.t 60) (.t 61)),
    .op none (some 63) (.mov (.t 6)),
    .op none (some 64) (.bin .neq (.t 62) (.t 63))])
  (.cond (.t 64)
    (.seq
    (.reg [.op none (some 65) (.mov (.t 0)),
      .op none (some 66) (.mov (.t 8)),
      .op none (some 67) (.bin .add (.t 66) (.c (.int .i64 1))),
      .op none (some 68) (.mov (.t 9)),
      .op none (some 69) (.slS (.t 65) (some (.t 67)) (some (.t 68))),
      .op none (some 70) (.mov (.t 6)),
      .call none (some 71) 83 [.t 69, .t 70],
      .op none (some 11) (.mov (.t 71))])
    (.seq
    (.seq
    (.reg [.op none (some 72) (.mov (.t 11)),
      .op none (some 73) (.bin .lss (.t 72) (.c (.int .i64 0)))])
    (.cond (.t 73)
      (.seq
      (.reg [.op none (some 4) (.mov (.c (.int .i64 (-1))))])
      .ret)
      .skip))
    (.reg [.op none (some 74) (.mov (.t 8)),
      .op none (some 75) (.mov (.t 11)),
      .op none (some 76) (.bin .add (.t 75) (.c (.int .i64 1))),
      .op none (some 77) (.bin .add (.t 74) (.t 76)),
      .op none (some 8) (.mov (.t 77))])))
    .skip))
  (.seq
  (.seq
  (.reg [.op none (some 78) (.mov (.t 0)),
    .op none (some 79) (.mov (.t 8)),
    .op none (some 80) (.bin .add (.t 79) (.c (.int .i64 1))),
    .op none (some 81) (.ixS (.t 78) (.t 80)),
    .op none (some 82) (.mov (.t 7)),
    .op none (some 83) (.bin .eql (.t 81) (.t 82)),
    .op none (some 84) (.mov (.t 83)),
    .op (some (84, true)) (some 85) (.mov (.t 0)),
    .op (some (84, true)) (some 86) (.mov (.t 8)),
    .op (some (84, true)) (some 87) (.mov (.t 8)),
    .op (some (84, true)) (some 88) (.mov (.t 5)),
    .op (some (84, true)) (some 89) (.bin .add (.t 87) (.t 88)),
    .op (some (84, true)) (some 90) (.slS (.t 85) (some (.t 86)) (some (.t 89))),
    .op (some (84, true)) (some 91) (.mov (.t 1)),
    .op (some (84, true)) (some 92) (.bin .eql (.t 90) (.t 91)),
    .op none (some 93) (.pick (.t 84) (.t 92) (.c (.bool false)))])
  (.cond (.t 93)
    (.seq
    (.reg [.op none (some 94) (.mov (.t 8)),
      .op none (some 4) (.mov (.t 94))])
    .ret)
    .skip))
  (.seq
  (.reg [.op none (some 95) (.mov (.t 8)),
    .op none (some 96) (.bin .add (.t 95) (.c (.int .i64 1))),
    .op none (some 8) (.mov (.t 96))])
  (.seq
  (.reg [.op none (some 97) (.mov (.t 10)),
    .op none (some 98) (.bin .add (.t 97) (.c (.int .i64 1))),
    .op none (some 10) (.mov (.t 98))])
  (.seq
  (.reg [.op none (some 99) (.mov (.t 5)),
    .op none (some 100) (.ld1 (.c (.pointer (some ({ block := 0, off := 0 }))))),
    .op none (some 101) (.bin .leq (.t 99) (.t 100)),
    .op none (some 102) (.mov (.t 101)),
    .op (some (102, true)) (some 103) (.mov (.t 10)),
    .op (some (102, true)) (some 104) (.mov (.t 8)),
    .call (some (102, true)) (some 105) 81 [.t 104],
    .op (some (102, true)) (some 106) (.bin .gtr (.t 103) (.t 105)),
    .op none (some 107) (.pick (.t 102) (.t 106) (.c (.bool false)))])
  (.cond (.t 107)
    (.seq
    (.reg [.op none (some 108) (.mov (.t 0)),
      .op none (some 109) (.mov (.t 8)),
      .op none (some 110) (.slS (.t 108) (some (.t 109)) none),
      .op none (some 111) (.mov (.t 1)),
      .call none (some 112) 82 [.t 110, .t 111],
      .op none (some 12) (.mov (.t 112))])
    (.seq
    (.seq
    (.reg [.op none (some 113) (.mov (.t 12)),
      .op none (some 114) (.bin .geq (.t 113) (.c (.int .i64 0)))])
    (.cond (.t 114)
      (.seq
      (.reg [.op none (some 115) (.mov (.t 12)),
        .op none (some 116) (.mov (.t 8)),
        .op none (some 117) (.bin .add (.t 115) (.t 116)),
        .op none (some 4) (.mov (.t 117))])
      .ret)
      .skip))
    (.seq
    (.reg [.op none (some 4) (.mov (.c (.int .i64 (-1))))])
    .ret)))
    (.seq
    (.reg [.op none (some 118) (.mov (.t 5)),
      .op none (some 119) (.ld1 (.c (.pointer (some ({ block := 0, off := 0 }))))),
      .op none (some 120) (.bin .gtr (.t 118) (.t 119)),
      .op none (some 121) (.mov (.t 120)),
      .op (some (121, true)) (some 122) (.mov (.t 10)),
      .op (some (121, true)) (some 123) (.mov (.t 8)),
      .op (some (121, true)) (some 124) (.bin .shr (.t 123) (.c (.int .u64 4))),
      .op (some (121, true)) (some 125) (.bin .add (.c (.int .i64 4)) (.t 124)),
      .op (some (121, true)) (some 126) (.bin .geq (.t 122) (.t 125)),
      .op none (some 127) (.pick (.t 121) (.t 126) (.c (.bool false))),
      .op none (some 128) (.mov (.t 127)),
      .op (some (128, true)) (some 129) (.mov (.t 8)),
      .op (some (128, true)) (some 130) (.mov (.t 9)),
      .op (some (128, true)) (some 131) (.bin .lss (.t 129) (.t 130)),
      .op none (some 132) (.pick (.t 128) (.t 131) (.c (.bool false)))])
    (.cond (.t 132)
      (.seq
      (.reg [.op none (some 133) (.mov (.t 0)),
        .op none (some 134) (.mov (.t 8)),
        .op none (some 135) (.slS (.t 133) (some (.t 134)) none),
        .op none (some 136) (.mov (.t 1)),
        .call none (some 137) 94 [.t 135, .t 136],
        .op none (some 13) (.mov (.t 137))])
      (.seq
      (.seq
      (.reg [.op none (some 138) (.mov (.t 13)),
        .op none (some 139) (.bin .lss (.t 138) (.c (.int .i64 0)))])
      (.cond (.t 139)
        (.seq
        (.reg [.op none (some 4) (.mov (.c (.int .i64 (-1))))])
        .ret)
        .skip))
      (.seq
      (.reg [.op none (some 140) (.mov (.t 8)),
        .op none (some 141) (.mov (.t 13)),
        .op none (some 142) (.bin .add (.t 140) (.t 141)),
        .op none (some 4) (.mov (.t 142))])
      .ret)))
      .skip))))))))))

def F92 : AFun :=
  { n := 143, res := [.t 4], code :=
  (.seq
  (.reg [.op none (some 4) (.mov (.c (.int .i64 0)))])
  (.seq
  (.reg [.op none (some 14) (.mov (.t 1)),
    .op none (some 15) (.lenS (.t 14)),
    .op none (some 5) (.mov (.t 15))])
  (.seq
  (.block 0
  (.seq
  (.reg [.op none (some 17) (.mov (.t 5)),
    .op none (some 18) (.bin .eql (.t 17) (.c (.int .i64 0))),
    .op none (some 19) (.mov (.t 18)),
    .op (some (19, false)) (some 20) (.mov (.t 1)),
    .op (some (19, false)) (some 21) (.mov (.t 0)),
    .op (some (19, false)) (some 22) (.bin .eql (.t 20) (.t 21)),
    .op none (some 23) (.pick (.t 19) (.c (.bool true)) (.t 22)),
    .op none (some 16) (.mov (.t 23))])
  (.cond (.t 16)
    (.seq
    (.reg [.op none (some 4) (.mov (.c (.int .i64 0)))])
    .ret)
    (.seq
    (.reg [.op none (some 25) (.mov (.t 5)),
      .op none (some 26) (.bin .eql (.t 25) (.c (.int .i64 1))),
      .op none (some 24) (.mov (.t 26))])
    (.cond (.t 24)
      (.seq
      (.reg [.op none (some 27) (.mov (.t 0)),
        .op none (some 28) (.mov (.t 1)),
        .op none (some 29) (.ixS (.t 28) (.c (.int .i64 0))),
        .call none (some 30) 83 [.t 27, .t 29],
        .op none (some 4) (.mov (.t 30))])
      .ret)
      (.seq
      (.reg [.op none (some 32) (.mov (.t 5)),
        .op none (some 33) (.mov (.t 0)),
        .op none (some 34) (.lenS (.t 33)),
        .op none (some 35) (.bin .geq (.t 32) (.t 34)),
        .op none (some 31) (.mov (.t 35))])
      (.cond (.t 31)
        (.seq
        (.reg [.op none (some 4) (.mov (.c (.int .i64 (-1))))])
        .ret)
        (.seq
        (.reg [.op none (some 37) (.mov (.t 5)),
          .op none (some 38) (.ld1 (.c (.pointer (some ({ block := 0, off := 0 }))))),
          .op none (some 39) (.bin .leq (.t 37) (.t 38)),
          .op none (some 40) (.mov (.t 39)),
          .op (some (40, true)) (some 41) (.mov (.t 0)),
          .op (some (40, true)) (some 42) (.lenS (.t 41)),
          .op (some (40, true)) (some 43) (.bin .leq (.t 42) (.c (.int .i64 64))),
          .op none (some 44) (.pick (.t 40) (.t 43) (.c (.bool false))),
          .op none (some 36) (.mov (.t 44))])
        (.cond (.t 36)
          (.seq
          (.reg [.op none (some 45) (.mov (.t 0)),
            .op none (some 46) (.mov (.t 1)),
            .call none (some 47) 82 [.t 45, .t 46],
            .op none (some 4) (.mov (.t 47))])
          .ret)
          .skip)))))))))
  (.seq
  (.reg [.op none (some 48) (.mov (.t 1)),
    .op none (some 49) (.ixS (.t 48) (.c (.int .i64 0))),
    .op none (some 6) (.mov (.t 49))])
  (.seq
  (.reg [.op none (some 50) (.mov (.t 1)),
    .op none (some 51) (.ixS (.t 50) (.c (.int .i64 1))),
    .op none (some 7) (.mov (.t 51))])
  (.seq
  (.reg [.op none (some 8) (.mov (.c (.int .i64 0)))])
  (.seq
  (.reg [.op none (some 52) (.mov (.t 0)),
    .op none (some 53) (.lenS (.t 52)),
    .op none (some 54) (.mov (.t 5)),
    .op none (some 55) (.bin .sub (.t 53) (.t 54)),
    .op none (some 56) (.bin .add (.t 55) (.c (.int .i64 1))),
    .op none (some 9) (.mov (.t 56))])
  (.seq
  (.reg [.op none (some 10) (.mov (.c (.int .i64 0)))])
  (.seq
  (.block 1
  (.loop F92_l0))
  (.seq
  (.reg [.op none (some 4) (.mov (.c (.int .i64 (-1))))])
  .ret)))))))))) }
theorem F92_ok : compFun Tryd.prog 3 Tryd.f92 = some F92 := by kernel_rfl

end Go.Proofs.YtfjgpeoblnpelaaDoor
