/-
  Functions of the program, compiled for the abstract machine: printed by a program of ours (gen.py).
-/
import Derived.Test.YtighienjnhglnaaA3
import Derived.Test.YtighienjnhglnaaProg
import Derived.KernelRfl
set_option linter.unusedVariables false
set_option linter.unusedSimpArgs false
set_option linter.unnecessarySimpa false
namespace Go.Proofs.Ytighienjnhglnaa
open Go Go.AM
set_option maxRecDepth 100000

def F4_l0 : ACode :=
  (.seq
  (.seq
  (.reg [.op none (some 66) (.mov (.t 14)),
    .op none (some 67) (.mov (.t 11)),
    .op none (some 68) (.lenV (.t 67)),
    .op none (some 69) (.bin .lss (.t 66) (.t 68))])
  (.cond (.t 69)
    .skip
    (.exit 0)))
  (.seq
  (.block 1
  (.seq
  (.reg [.op none (some 72) (.mov (.t 13)),
    .op none (some 73) (.mov (.t 11)),
    .op none (some 74) (.mov (.t 14)),
    .op none (some 75) (.iadV 1 (.t 73) (.t 74)),
    .op none (some 76) (.ld1 (.t 75)),
    .call none (some 77) 13 [.t 72, .t 76],
    .op none (some 78) (.un .not (.t 77))])
  (.cond (.t 78)
    (.seq
    (.reg [.op none (some 6) (.mov (.c (.bool false)))])
    .ret)
    .skip)))
  (.reg [.op none (some 70) (.mov (.t 14)),
    .op none (some 71) (.bin .add (.t 70) (.c (.int .i64 1))),
    .op none (some 14) (.mov (.t 71))])))

def F4_l1 : ACode :=
  (.seq
  (.seq
  (.reg [.op none (some 79) (.mov (.t 15)),
    .op none (some 80) (.mov (.t 12)),
    .op none (some 81) (.lenV (.t 80)),
    .op none (some 82) (.bin .lss (.t 79) (.t 81))])
  (.cond (.t 82)
    .skip
    (.exit 2)))
  (.seq
  (.block 3
  (.seq
  (.reg [.op none (some 85) (.mov (.t 13)),
    .op none (some 86) (.mov (.t 12)),
    .op none (some 87) (.mov (.t 15)),
    .op none (some 88) (.iadV 1 (.t 86) (.t 87)),
    .op none (some 89) (.ld1 (.t 88)),
    .call none (some 90) 13 [.t 85, .t 89],
    .op none (some 91) (.un .not (.t 90))])
  (.cond (.t 91)
    (.seq
    (.reg [.op none (some 6) (.mov (.c (.bool false)))])
    .ret)
    .skip)))
  (.reg [.op none (some 83) (.mov (.t 15)),
    .op none (some 84) (.bin .add (.t 83) (.c (.int .i64 1))),
    .op none (some 15) (.mov (.t 84))])))

def F4_l2 : ACode :=
  (.seq
  (.seq
  (.reg [.op none (some 106) (.mov (.t 18)),
    .op none (some 107) (.mov (.t 13)),
    .op none (some 108) (.lenV (.t 107)),
    .op none (some 109) (.bin .lss (.t 106) (.t 108))])
  (.cond (.t 109)
    .skip
    (.exit 4)))
  (.seq
  (.block 5
  (.seq
  (.reg [.op none (some 112) (.mov (.t 11)),
    .op none (some 113) (.mov (.t 13)),
    .op none (some 114) (.mov (.t 18)),
    .op none (some 115) (.iadV 1 (.t 113) (.t 114)),
    .op none (some 116) (.ld1 (.t 115)),
    .call none (some 117) 13 [.t 112, .t 116],
    .op none (some 118) (.un .not (.t 117)),
    .op none (some 119) (.mov (.t 118)),
    .op (some (119, true)) (some 120) (.mov (.t 12)),
    .op (some (119, true)) (some 121) (.mov (.t 13)),
    .op (some (119, true)) (some 122) (.mov (.t 18)),
    .op (some (119, true)) (some 123) (.iadV 1 (.t 121) (.t 122)),
    .op (some (119, true)) (some 124) (.ld1 (.t 123)),
    .call (some (119, true)) (some 125) 13 [.t 120, .t 124],
    .op (some (119, true)) (some 126) (.un .not (.t 125)),
    .op none (some 127) (.pick (.t 119) (.t 126) (.c (.bool false))),
    .op none (some 128) (.mov (.t 127)),
    .op (some (128, true)) (some 129) (.mov (.t 17)),
    .op (some (128, true)) (some 130) (.mov (.t 13)),
    .op (some (128, true)) (some 131) (.mov (.t 18)),
    .op (some (128, true)) (some 132) (.iadV 1 (.t 130) (.t 131)),
    .op (some (128, true)) (some 133) (.ld1 (.t 132)),
    .call (some (128, true)) (some 134) 13 [.t 129, .t 133],
    .op (some (128, true)) (some 135) (.un .not (.t 134)),
    .op none (some 136) (.pick (.t 128) (.t 135) (.c (.bool false)))])
  (.cond (.t 136)
    (.seq
    (.reg [.op none (some 6) (.mov (.c (.bool false)))])
    .ret)
    .skip)))
  (.reg [.op none (some 110) (.mov (.t 18)),
    .op none (some 111) (.bin .add (.t 110) (.c (.int .i64 1))),
    .op none (some 18) (.mov (.t 111))])))

def F4 : AFun :=
  { n := 138, res := [.t 6], code :=
  (.seq
  (.reg [.op none (some 5) (.box 29 (.t 2)),
    .op none (some 6) (.mov (.c (.bool false)))])
  (.seq
  (.seq
  (.reg [.op none (some 19) (.mov (.t 0)),
    .op none (some 20) (.lenV (.t 19)),
    .op none (some 21) (.bin .gtr (.t 20) (.c (.int .i64 300))),
    .op none (some 22) (.mov (.t 21)),
    .op (some (22, false)) (some 23) (.mov (.t 1)),
    .op (some (22, false)) (some 24) (.lenV (.t 23)),
    .op (some (22, false)) (some 25) (.bin .gtr (.t 24) (.c (.int .i64 300))),
    .op none (some 26) (.pick (.t 22) (.c (.bool true)) (.t 25))])
  (.cond (.t 26)
    (.seq
    (.reg [.call none (some 27) 6 [],
      .op none (some 6) (.mov (.t 27))])
    .ret)
    .skip))
  (.seq
  (.reg [.op none (some 28) (.ldn 32 (.t 5)),
    .call none (some 29) 10 [.t 28],
    .op none (some 7) (.mov (.t 29))])
  (.seq
  (.reg [.op none (some 31) (.ldn 32 (.t 5)),
    .call none (some 32) 11 [.t 31, .c (.string (⟨#[120]⟩))],
    .op none (some 30) (.mov (.t 32)),
    .op none (some 33) (.ext 0 (.t 30)),
    .op none (some 34) (.ext 1 (.t 30)),
    .op none (some 8) (.mov (.t 33)),
    .op none (some 9) (.mov (.t 34))])
  (.seq
  (.reg [.op none (some 35) (.mov (.t 0)),
    .op none (some 36) (.b2s (.t 35)),
    .op none (some 37) (.mov (.t 1)),
    .op none (some 38) (.b2s (.t 37)),
    .op none (some 39) (.bin .add (.t 36) (.t 38)),
    .op none (some 10) (.mov (.t 39))])
  (.seq
  (.seq
  (.reg [.op none (some 40) (.mov (.t 9)),
    .op none (some 41) (.bin .neq (.t 40) (.c (.int .i64 0))),
    .op none (some 42) (.mov (.t 41)),
    .op (some (42, false)) (some 43) (.mov (.t 0)),
    .op (some (42, false)) (some 44) (.b2s (.t 43)),
    .op (some (42, false)) (some 45) (.mov (.t 7)),
    .op (some (42, false)) (some 46) (.bin .add (.t 44) (.t 45)),
    .op (some (42, false)) (some 47) (.mov (.t 1)),
    .op (some (42, false)) (some 48) (.b2s (.t 47)),
    .op (some (42, false)) (some 49) (.bin .add (.t 46) (.t 48)),
    .op (some (42, false)) (some 50) (.s2b 5 (.t 49)),
    .op (some (42, false)) (some 51) (.mov (.t 8)),
    .op (some (42, false)) (some 52) (.bldSl 9 1 [.string (⟨#[]⟩)] [(0, 1, .t 51)]),
    .call (some (42, false)) (some 53) 12 [.t 50, .t 52],
    .op (some (42, false)) (some 54) (.mov (.t 8)),
    .op (some (42, false)) (some 55) (.bldSl 9 1 [.string (⟨#[]⟩)] [(0, 1, .t 54)]),
    .call (some (42, false)) (some 56) 9 [.t 53, .t 55],
    .op (some (42, false)) (some 57) (.un .not (.t 56)),
    .op none (some 58) (.pick (.t 42) (.c (.bool true)) (.t 57))])
  (.cond (.t 58)
    (.seq
    (.reg [.op none (some 6) (.mov (.c (.bool false)))])
    .ret)
    .skip))
  (.seq
  (.reg [.op none (some 59) (.mov (.t 0)),
    .call none (some 60) 7 [.t 59],
    .op none (some 61) (.mov (.t 1)),
    .call none (some 62) 7 [.t 61],
    .op none (some 63) (.mov (.t 10)),
    .op none (some 64) (.s2b 5 (.t 63)),
    .call none (some 65) 7 [.t 64],
    .op none (some 11) (.mov (.t 60)),
    .op none (some 12) (.mov (.t 62)),
    .op none (some 13) (.mov (.t 65))])
  (.seq
  (.seq
  (.reg [.op none (some 14) (.mov (.c (.int .i64 0)))])
  (.block 0
  (.loop F4_l0)))
  (.seq
  (.seq
  (.reg [.op none (some 15) (.mov (.c (.int .i64 0)))])
  (.block 2
  (.loop F4_l1)))
  (.seq
  (.reg [.op none (some 92) (.mov (.t 0)),
    .op none (some 93) (.lenV (.t 92)),
    .op none (some 16) (.mov (.t 93))])
  (.seq
  (.reg [.op none (some 94) (.mov (.t 10)),
    .op none (some 95) (.mov (.t 16)),
    .op none (some 96) (.bin .sub (.t 95) (.c (.int .i64 31))),
    .op none (some 97) (.mnx true (.c (.int .i64 0)) [.t 96]),
    .op none (some 98) (.mov (.t 10)),
    .op none (some 99) (.lenS (.t 98)),
    .op none (some 100) (.mov (.t 16)),
    .op none (some 101) (.bin .add (.t 100) (.c (.int .i64 31))),
    .op none (some 102) (.mnx false (.t 99) [.t 101]),
    .op none (some 103) (.slS (.t 94) (some (.t 97)) (some (.t 102))),
    .op none (some 104) (.s2b 5 (.t 103)),
    .call none (some 105) 7 [.t 104],
    .op none (some 17) (.mov (.t 105))])
  (.seq
  (.seq
  (.reg [.op none (some 18) (.mov (.c (.int .i64 0)))])
  (.block 4
  (.loop F4_l2)))
  (.seq
  (.reg [.call none (some 137) 6 [],
    .op none (some 6) (.mov (.t 137))])
  .ret))))))))))))) }
theorem F4_ok : compFun Try.prog 1 Try.f4 = some F4 := by kernel_rfl

def F6 : AFun :=
  { n := 58, res := [.t 0], code :=
  (.seq
  (.reg [.op none (some 0) (.mov (.c (.bool false)))])
  (.seq
  (.reg [.op none (some 2) (.bld [.int .u8 0, .int .u8 0, .int .u8 0, .int .u8 0, .int .u8 0, .int .u8 0, .int .u8 0, .int .u8 0, .int .u8 0, .int .u8 0, .int .u8 0, .int .u8 0, .int .u8 0, .int .u8 0, .int .u8 0, .int .u8 0, .int .u8 0, .int .u8 0, .int .u8 0, .int .u8 0, .int .u8 0, .int .u8 0, .int .u8 0, .int .u8 0, .int .u8 0, .int .u8 0, .int .u8 0, .int .u8 0, .int .u8 0, .int .u8 0, .int .u8 0, .int .u8 0] []),
    .call none (some 3) 10 [.t 2],
    .op none (some 1) (.mov (.t 3))])
  (.seq
  (.drawA 10 [.f (.op none (some 4) (.mov (.t 1))),
    .f (.op none (some 5) (.lenS (.t 4))),
    .f (.op none (some 6) (.bin .eql (.t 5) (.c (.int .i64 32)))),
    .f (.op none (some 7) (.mov (.t 6))),
    .f (.op (some (7, true)) (some 8) (.mov (.t 1))),
    .f (.op (some (7, true)) (some 9) (.slS (.t 8) (some (.c (.int .i64 1))) none)),
    .a (.op (some (7, true)) (some 10) (.s2b 5 (.t 9))) 0,
    .b (.call (some (7, true)) (some 11) 7 [.t 10]) [] [],
    .f (.op (some (7, true)) (some 12) (.lenV (.t 11))),
    .f (.op (some (7, true)) (some 13) (.bin .eql (.t 12) (.c (.int .i64 0)))),
    .f (.op none (some 14) (.pick (.t 7) (.t 13) (.c (.bool false)))),
    .f (.op none (some 15) (.mov (.t 14))),
    .f (.op (some (15, true)) (some 16) (.mov (.t 1))),
    .f (.op (some (15, true)) (some 17) (.bin .add (.t 16) (.c (.string (⟨#[48]⟩))))),
    .a (.op (some (15, true)) (some 18) (.s2b 5 (.t 17))) 1,
    .f (.op (some (15, true)) (some 20) (.mov (.t 1))),
    .a (.op (some (15, true)) (some 21) (.bldSl 9 1 [.string (⟨#[]⟩)] [(0, 1, .t 20)])) 2,
    .b (.call (some (15, true)) (some 19) 7 [.t 18]) [] [2],
    .b (.call (some (15, true)) (some 22) 9 [.t 19, .t 21]) [] [],
    .f (.op none (some 23) (.pick (.t 15) (.t 22) (.c (.bool false)))),
    .f (.op none (some 24) (.mov (.t 23))),
    .f (.op (some (24, true)) (some 25) (.mov (.t 1))),
    .f (.op (some (24, true)) (some 26) (.bin .add (.c (.string (⟨#[101]⟩))) (.t 25))),
    .f (.op (some (24, true)) (some 27) (.bin .add (.t 26) (.c (.string (⟨#[101]⟩))))),
    .a (.op (some (24, true)) (some 28) (.s2b 5 (.t 27))) 3,
    .f (.op (some (24, true)) (some 30) (.mov (.t 1))),
    .a (.op (some (24, true)) (some 31) (.bldSl 9 1 [.string (⟨#[]⟩)] [(0, 1, .t 30)])) 4,
    .b (.call (some (24, true)) (some 29) 7 [.t 28]) [] [4],
    .b (.call (some (24, true)) (some 32) 9 [.t 29, .t 31]) [] [],
    .f (.op none (some 33) (.pick (.t 24) (.t 32) (.c (.bool false)))),
    .f (.op none (some 34) (.mov (.t 33))),
    .f (.op (some (34, true)) (some 35) (.mov (.t 1))),
    .f (.op (some (34, true)) (some 36) (.bin .add (.t 35) (.c (.string (⟨#[49]⟩))))),
    .a (.op (some (34, true)) (some 37) (.s2b 5 (.t 36))) 5,
    .f (.op (some (34, true)) (some 39) (.mov (.t 1))),
    .f (.op (some (34, true)) (some 40) (.mov (.t 1))),
    .f (.op (some (34, true)) (some 41) (.slS (.t 40) (some (.c (.int .i64 1))) none)),
    .f (.op (some (34, true)) (some 42) (.bin .add (.t 41) (.c (.string (⟨#[49]⟩))))),
    .a (.op (some (34, true)) (some 43) (.bldSl 9 2 [.string (⟨#[]⟩), .string (⟨#[]⟩)] [(0, 1, .t 39), (1, 1, .t 42)])) 6,
    .b (.call (some (34, true)) (some 38) 7 [.t 37]) [] [6],
    .b (.call (some (34, true)) (some 44) 9 [.t 38, .t 43]) [] [],
    .f (.op none (some 45) (.pick (.t 34) (.t 44) (.c (.bool false)))),
    .f (.op none (some 46) (.mov (.t 45))),
    .f (.op (some (46, true)) (some 47) (.mov (.t 1))),
    .a (.op (some (46, true)) (some 48) (.s2b 5 (.t 47))) 7,
    .f (.op (some (46, true)) (some 49) (.mov (.t 1))),
    .f (.op (some (46, true)) (some 50) (.bin .add (.t 49) (.c (.string (⟨#[45, 97]⟩))))),
    .a (.op (some (46, true)) (some 51) (.bldSl 9 2 [.string (⟨#[]⟩), .string (⟨#[]⟩)] [(0, 1, .t 50), (1, 1, .c (.string (⟨#[98]⟩)))])) 8,
    .f (.op (some (46, true)) (some 53) (.mov (.t 1))),
    .f (.op (some (46, true)) (some 54) (.bin .add (.t 53) (.c (.string (⟨#[45, 97]⟩))))),
    .a (.op (some (46, true)) (some 55) (.bldSl 9 1 [.string (⟨#[]⟩)] [(0, 1, .t 54)])) 9,
    .b (.call (some (46, true)) (some 52) 12 [.t 48, .t 51]) [] [9],
    .b (.call (some (46, true)) (some 56) 9 [.t 52, .t 55]) [] [],
    .f (.op none (some 57) (.pick (.t 46) (.t 56) (.c (.bool false)))),
    .f (.op none (some 0) (.mov (.t 57)))])
  .ret))) }
theorem F6_ok : compFun Try.prog 1 Try.f6 = some F6 := by kernel_rfl

def F7_g0 : ACode :=
  (.reg [.op none (some 5) (.mov (.t 10))])

def F7_b0 : ACode :=
  (.block 1
  (.seq
  (.reg [.op none (some 11) (.ld1 (.t 4)),
    .op none (some 12) (.mov (.t 5)),
    .op none (some 13) (.lkp (.int .i64 0) false (.t 11) (.t 12)),
    .op none (some 14) (.bin .eql (.t 13) (.c (.int .i64 0)))])
  (.cond (.t 14)
    (.seq
    (.reg [.op none (some 15) (.ld1 (.t 4)),
      .op none (some 16) (.mov (.t 5)),
      .op none none (.mup (.t 15) (.t 16) (.c (.int .i64 1)))])
    (.reg [.op none (some 17) (.ld1 (.t 3)),
      .op none (some 18) (.mov (.t 5)),
      .op none (some 19) (.bldSl 9 1 [.string (⟨#[]⟩)] [(0, 1, .t 18)]),
      .op none (some 20) (.app 9 1 16 [.string (⟨#[]⟩)] (.t 17) (.t 19)),
      .op none none (.st 1 (.t 3) (.t 20))]))
    .skip)))

def F7 : AFun :=
  { n := 22, res := [.t 2], code :=
  (.seq
  (.reg [.op none (some 2) (.mov (.c (.slice none 0 0)))])
  (.seq
  (.reg [.op none (some 3) (.new 24 [.slice none 0 0])])
  (.seq
  (.reg [.op none (some 6) .mkM,
    .op none (some 4) (.new 47 [.map none]),
    .op none none (.st 1 (.t 4) (.t 6))])
  (.seq
  (.seq
  (.reg [.op none (some 7) (.mov (.t 0)),
    .op none (some 8) (.b2s (.t 7)),
    .call none (some 9) 18 [.t 8]])
  (.block 0
  (.rangeF (.t 9) [10] F7_g0 F7_b0)))
  (.seq
  (.reg [.op none (some 21) (.ld1 (.t 3)),
    .op none (some 2) (.mov (.t 21))])
  .ret))))) }
theorem F7_ok : compFun Try.prog 1 Try.f7 = some F7 := by kernel_rfl

def F9_l0 : ACode :=
  (.seq
  (.seq
  (.reg [.op none (some 11) (.mov (.t 5)),
    .op none (some 12) (.mov (.t 0)),
    .op none (some 13) (.lenV (.t 12)),
    .op none (some 14) (.bin .lss (.t 11) (.t 13))])
  (.cond (.t 14)
    .skip
    (.exit 0)))
  (.seq
  (.block 1
  (.seq
  (.draw [.f (.op none (some 17) (.mov (.t 0))),
    .f (.op none (some 18) (.mov (.t 5))),
    .f (.op none (some 19) (.iadV 1 (.t 17) (.t 18))),
    .f (.op none (some 20) (.ld1 (.t 19))),
    .f (.op none (some 21) (.mov (.t 1))),
    .f (.op none (some 22) (.mov (.t 5))),
    .f (.op none (some 23) (.iadV 1 (.t 21) (.t 22))),
    .f (.op none (some 24) (.ld1 (.t 23))),
    .f (.op none (some 25) (.bin .neq (.t 20) (.t 24)))])
  (.cond (.t 25)
    (.seq
    (.reg [.op none (some 4) (.mov (.c (.bool false)))])
    .ret)
    .skip)))
  (.reg [.op none (some 15) (.mov (.t 5)),
    .op none (some 16) (.bin .add (.t 15) (.c (.int .i64 1))),
    .op none (some 5) (.mov (.t 16))])))

def F9 : AFun :=
  { n := 26, res := [.t 4], code :=
  (.seq
  (.reg [.op none (some 4) (.mov (.c (.bool false)))])
  (.seq
  (.seq
  (.reg [.op none (some 6) (.mov (.t 0)),
    .op none (some 7) (.lenV (.t 6)),
    .op none (some 8) (.mov (.t 1)),
    .op none (some 9) (.lenV (.t 8)),
    .op none (some 10) (.bin .neq (.t 7) (.t 9))])
  (.cond (.t 10)
    (.seq
    (.reg [.op none (some 4) (.mov (.c (.bool false)))])
    .ret)
    .skip))
  (.seq
  (.seq
  (.reg [.op none (some 5) (.mov (.c (.int .i64 0)))])
  (.block 0
  (.loop F9_l0)))
  (.seq
  (.reg [.op none (some 4) (.mov (.c (.bool true)))])
  .ret)))) }
theorem F9_ok : compFun Try.prog 1 Try.f9 = some F9 := by kernel_rfl

def F10_l1 : ACode :=
  (.seq
  (.seq
  (.reg [.op none (some 21) (.mov (.t 5)),
    .op none (some 22) (.bin .geq (.t 21) (.c (.int .i64 5)))])
  (.cond (.t 22)
    .skip
    (.exit 2)))
  (.block 3
  (.seq
  (.reg [.op none (some 23) (.mov (.t 5)),
    .op none (some 24) (.bin .sub (.t 23) (.c (.int .i64 5))),
    .op none (some 5) (.mov (.t 24))])
  (.reg [.op none (some 25) (.mov (.t 4)),
    .op none (some 26) (.mov (.t 5)),
    .op none (some 27) (.bin .shr (.t 25) (.t 26)),
    .op none (some 28) (.bin .and (.t 27) (.c (.int .u64 31))),
    .op none (some 29) (.ixS (.c (.string (⟨#[48, 49, 50, 51, 52, 53, 54, 55, 56, 57, 97, 98, 99, 100, 102, 103, 104, 105, 106, 107, 108, 109, 110, 112, 113, 114, 115, 118, 119, 120, 121, 122]⟩))) (.t 28)),
    .call none (some 30) 21 [.t 3, .t 29]]))))

def F10_l0 : ACode :=
  (.seq
  (.reg [.op none (some 11) (.bin .lss (.t 10) (.t 9))])
  (.seq
  (.cond (.t 11)
    .skip
    (.exit 0))
  (.seq
  (.block 1
  (.seq
  (.reg [.op none (some 12) (.iadV 1 (.t 8) (.t 10)),
    .op none (some 13) (.ld1 (.t 12)),
    .op none (some 7) (.mov (.t 13))])
  (.seq
  (.reg [.op none (some 14) (.mov (.t 4)),
    .op none (some 15) (.bin .shl (.t 14) (.c (.int .u64 8))),
    .op none (some 16) (.mov (.t 7)),
    .op none (some 17) (.cvt .u64 (.t 16)),
    .op none (some 18) (.bin .or (.t 15) (.t 17)),
    .op none (some 19) (.mov (.t 5)),
    .op none (some 20) (.bin .add (.t 19) (.c (.int .i64 8))),
    .op none (some 4) (.mov (.t 18)),
    .op none (some 5) (.mov (.t 20))])
  (.block 2
  (.loop F10_l1)))))
  (.reg [.op none (some 31) (.bin .add (.t 10) (.c (.int .i64 1))),
    .op none (some 10) (.mov (.t 31))]))))

def F10 : AFun :=
  { n := 33, res := [.t 2], code :=
  (.seq
  (.reg [.op none (some 1) (.box 29 (.t 0)),
    .op none (some 2) (.mov (.c (.string (⟨#[]⟩))))])
  (.seq
  (.reg [.op none (some 3) (.new 56 [.pointer none, .slice none 0 0])])
  (.seq
  (.reg [.op none (some 4) (.mov (.c (.int .u64 0))),
    .op none (some 5) (.mov (.c (.int .i64 0)))])
  (.seq
  (.seq
  (.reg [.op none (some 8) (.slA 32 1 (.t 1) none (some (.c (.int .i64 20))) none),
    .op none (some 9) (.lenV (.t 8)),
    .op none (some 10) (.mov (.c (.int .i64 0)))])
  (.block 0
  (.loop F10_l0)))
  (.seq
  (.reg [.call none (some 32) 22 [.t 3],
    .op none (some 2) (.mov (.t 32))])
  .ret))))) }
theorem F10_ok : compFun Try.prog 1 Try.f10 = some F10 := by kernel_rfl

def F11 : AFun :=
  { n := 14, res := [.t 4, .t 5], code :=
  (.seq
  (.reg [.op none (some 2) (.box 29 (.t 0)),
    .op none (some 4) (.mov (.c (.string (⟨#[]⟩)))),
    .op none (some 5) (.mov (.c (.int .i64 0)))])
  (.seq
  (.seq
  (.reg [.op none (some 6) (.mov (.t 1)),
    .call none (some 7) 23 [.t 6],
    .op none (some 8) (.un .not (.t 7))])
  (.cond (.t 8)
    (.seq
    (.reg [.op none (some 4) (.mov (.c (.string (⟨#[]⟩)))),
      .op none (some 5) (.mov (.c (.int .i64 2)))])
    .ret)
    .skip))
  (.seq
  (.reg [.op none (some 9) (.ldn 32 (.t 2)),
    .call none (some 10) 10 [.t 9],
    .op none (some 11) (.bin .add (.t 10) (.c (.string (⟨#[45]⟩)))),
    .op none (some 12) (.mov (.t 1)),
    .op none (some 13) (.bin .add (.t 11) (.t 12)),
    .op none (some 4) (.mov (.t 13)),
    .op none (some 5) (.mov (.c (.int .i64 0)))])
  .ret))) }
theorem F11_ok : compFun Try.prog 1 Try.f11 = some F11 := by kernel_rfl

def F12_g0 : ACode :=
  (.reg [.op none (some 6) (.mov (.t 11))])

def F12_b0 : ACode :=
  (.block 1
  (.reg [.op none (some 12) (.ld1 (.t 5)),
    .op none (some 13) (.mov (.t 6)),
    .op none none (.mup (.t 12) (.t 13) (.c (.int .i64 1)))]))

def F12 : AFun :=
  { n := 17, res := [.t 4], code :=
  (.seq
  (.reg [.op none (some 4) (.mov (.c (.slice none 0 0)))])
  (.seq
  (.reg [.op none (some 7) .mkM,
    .op none (some 5) (.new 47 [.map none]),
    .op none none (.st 1 (.t 5) (.t 7))])
  (.seq
  (.seq
  (.reg [.op none (some 8) (.mov (.t 0)),
    .op none (some 9) (.b2s (.t 8)),
    .call none (some 10) 18 [.t 9]])
  (.block 0
  (.rangeF (.t 10) [11] F12_g0 F12_b0)))
  (.seq
  (.reg [.op none (some 14) (.ld1 (.t 5)),
    .op none (some 15) (.mov (.t 1)),
    .call none (some 16) 24 [.t 14, .t 15],
    .op none (some 4) (.mov (.t 16))])
  .ret)))) }
theorem F12_ok : compFun Try.prog 1 Try.f12 = some F12 := by kernel_rfl

def F13_l0 : ACode :=
  (.seq
  (.seq
  (.reg [.op none (some 6) (.mov (.t 5)),
    .op none (some 7) (.mov (.t 0)),
    .op none (some 8) (.lenV (.t 7)),
    .op none (some 9) (.bin .lss (.t 6) (.t 8))])
  (.cond (.t 9)
    .skip
    (.exit 0)))
  (.seq
  (.block 1
  (.seq
  (.reg [.op none (some 12) (.mov (.t 0)),
    .op none (some 13) (.mov (.t 5)),
    .op none (some 14) (.iadV 1 (.t 12) (.t 13)),
    .op none (some 15) (.ld1 (.t 14)),
    .op none (some 16) (.mov (.t 1)),
    .op none (some 17) (.bin .eql (.t 15) (.t 16))])
  (.cond (.t 17)
    (.seq
    (.reg [.op none (some 4) (.mov (.c (.bool true)))])
    .ret)
    .skip)))
  (.reg [.op none (some 10) (.mov (.t 5)),
    .op none (some 11) (.bin .add (.t 10) (.c (.int .i64 1))),
    .op none (some 5) (.mov (.t 11))])))

def F13 : AFun :=
  { n := 18, res := [.t 4], code :=
  (.seq
  (.reg [.op none (some 4) (.mov (.c (.bool false)))])
  (.seq
  (.seq
  (.reg [.op none (some 5) (.mov (.c (.int .i64 0)))])
  (.block 0
  (.loop F13_l0)))
  (.seq
  (.reg [.op none (some 4) (.mov (.c (.bool false)))])
  .ret))) }
theorem F13_ok : compFun Try.prog 1 Try.f13 = some F13 := by kernel_rfl

def F18 : AFun :=
  { n := 4, res := [.t 2], code :=
  (.seq
  (.reg [.op none (some 1) (.box 9 (.t 0)),
    .op none (some 2) (.mov (.c .nilFunc))])
  (.seq
  (.reg [.op none (some 3) (.mkF 32 [] [.t 1]),
    .op none (some 2) (.mov (.t 3))])
  .ret)) }
theorem F18_ok : compFun Try.prog 1 Try.f18 = some F18 := by kernel_rfl

def F21 : AFun :=
  { n := 17, res := [.t 4], code :=
  (.seq
  (.reg [.op none (some 4) (.mov (.c .nilIface))])
  (.seq
  (.reg [.op none (some 5) (.mov (.t 0)),
    .call none (some 6) 35 [.t 5]])
  (.seq
  (.reg [.op none (some 7) (.mov (.t 0)),
    .op none (some 8) (.mov (.t 0)),
    .op none (some 9) (.nchk (.t 8)),
    .op none (some 10) (.fad 1 (.t 9)),
    .op none (some 11) (.ld1 (.t 10)),
    .op none (some 12) (.mov (.t 1)),
    .op none (some 13) (.bldSl 5 1 [.int .u8 0] [(0, 1, .t 12)]),
    .op none (some 14) (.app 5 1 1 [.int .u8 0] (.t 11) (.t 13)),
    .op none (some 15) (.nchk (.t 7)),
    .op none (some 16) (.fad 1 (.t 15)),
    .op none none (.st 1 (.t 16) (.t 14))])
  (.seq
  (.reg [.op none (some 4) (.mov (.c .nilIface))])
  .ret)))) }
theorem F21_ok : compFun Try.prog 1 Try.f21 = some F21 := by kernel_rfl

def F22 : AFun :=
  { n := 14, res := [.t 2], code :=
  (.seq
  (.reg [.op none (some 2) (.mov (.c (.string (⟨#[]⟩))))])
  (.seq
  (.draw [.f (.op none (some 3) (.mov (.t 0))),
    .f (.op none (some 4) (.nchk (.t 3))),
    .f (.op none (some 5) (.fad 1 (.t 4))),
    .f (.op none (some 6) (.ld1 (.t 5))),
    .f (.op none (some 7) (.sdat (.t 6))),
    .f (.op none (some 8) (.mov (.t 0))),
    .f (.op none (some 9) (.nchk (.t 8))),
    .f (.op none (some 10) (.fad 1 (.t 9))),
    .f (.op none (some 11) (.ld1 (.t 10))),
    .f (.op none (some 12) (.lenV (.t 11))),
    .b (.op none (some 13) (.ustr 5 (.t 7) (.t 12))) [],
    .f (.op none (some 2) (.mov (.t 13)))])
  .ret)) }
theorem F22_ok : compFun Try.prog 1 Try.f22 = some F22 := by kernel_rfl

def F23 : AFun :=
  { n := 20, res := [.t 2], code :=
  (.seq
  (.reg [.op none (some 2) (.mov (.c (.bool false)))])
  (.seq
  (.reg [.op none (some 3) (.mov (.t 0)),
    .op none (some 4) (.bin .neq (.t 3) (.c (.string (⟨#[]⟩)))),
    .op none (some 5) (.mov (.t 4)),
    .op (some (5, true)) (some 6) (.mov (.t 0)),
    .op (some (5, true)) (some 7) (.lenS (.t 6)),
    .op (some (5, true)) (some 8) (.bin .leq (.t 7) (.c (.int .i64 64))),
    .op none (some 9) (.pick (.t 5) (.t 8) (.c (.bool false))),
    .op none (some 10) (.mov (.t 9)),
    .op (some (10, true)) (some 11) (.mov (.t 0)),
    .op (some (10, true)) (some 12) (.ixS (.t 11) (.c (.int .i64 0))),
    .op (some (10, true)) (some 13) (.bin .neq (.t 12) (.c (.int .u8 46))),
    .op none (some 14) (.pick (.t 10) (.t 13) (.c (.bool false))),
    .op none (some 15) (.mov (.t 14)),
    .op (some (15, true)) (some 16) (.mov (.t 0)),
    .call (some (15, true)) (some 17) 36 [.t 16, .c (.func (Fn.func 37) (#[]) (#[]))],
    .op (some (15, true)) (some 18) (.un .not (.t 17)),
    .op none (some 19) (.pick (.t 15) (.t 18) (.c (.bool false))),
    .op none (some 2) (.mov (.t 19))])
  .ret)) }
theorem F23_ok : compFun Try.prog 1 Try.f23 = some F23 := by kernel_rfl

def F24_l0 : ACode :=
  (.seq
  (.reg [.op none (some 14) (.bin .lss (.t 13) (.t 12))])
  (.seq
  (.cond (.t 14)
    .skip
    (.exit 0))
  (.seq
  (.block 1
  (.seq
  (.reg [.op none (some 15) (.iadV 1 (.t 11) (.t 13)),
    .op none (some 16) (.ld1 (.t 15)),
    .op none (some 7) (.mov (.t 16))])
  (.seq
  (.reg [.op none (some 18) (.mov (.t 7)),
    .call none (some 19) 39 [.t 18],
    .op none (some 17) (.mov (.t 19)),
    .op none (some 20) (.ext 0 (.t 17)),
    .op none (some 21) (.ext 1 (.t 17)),
    .op none (some 22) (.ext 2 (.t 17)),
    .op none (some 8) (.mov (.t 20)),
    .op none (some 9) (.mov (.t 21)),
    .op none (some 10) (.mov (.t 22))])
  (.seq
  (.reg [.op none (some 23) (.mov (.t 10)),
    .op none (some 24) (.bin .eql (.t 23) (.c (.int .i64 0))),
    .op none (some 25) (.mov (.t 24)),
    .op (some (25, true)) (some 26) (.mov (.t 0)),
    .op (some (25, true)) (some 27) (.mov (.t 8)),
    .op (some (25, true)) (some 28) (.lkp (.int .i64 0) false (.t 26) (.t 27)),
    .op (some (25, true)) (some 29) (.bin .gtr (.t 28) (.c (.int .i64 0))),
    .op none (some 30) (.pick (.t 25) (.t 29) (.c (.bool false)))])
  (.cond (.t 30)
    (.reg [.op none (some 31) (.mov (.t 5)),
      .op none (some 32) (.mov (.t 7)),
      .op none (some 33) (.bldSl 9 1 [.string (⟨#[]⟩)] [(0, 1, .t 32)]),
      .op none (some 34) (.app 9 1 16 [.string (⟨#[]⟩)] (.t 31) (.t 33)),
      .op none (some 5) (.mov (.t 34))])
    .skip)))))
  (.reg [.op none (some 35) (.bin .add (.t 13) (.c (.int .i64 1))),
    .op none (some 13) (.mov (.t 35))]))))

def F24 : AFun :=
  { n := 37, res := [.t 4], code :=
  (.seq
  (.reg [.op none (some 4) (.mov (.c (.slice none 0 0)))])
  (.seq
  (.reg [.op none (some 5) (.mov (.c (.slice none 0 0)))])
  (.seq
  (.seq
  (.reg [.op none (some 11) (.mov (.t 1)),
    .op none (some 12) (.lenV (.t 11)),
    .op none (some 13) (.mov (.c (.int .i64 0)))])
  (.block 0
  (.loop F24_l0)))
  (.seq
  (.reg [.op none (some 36) (.mov (.t 5)),
    .op none (some 4) (.mov (.t 36))])
  .ret)))) }
theorem F24_ok : compFun Try.prog 1 Try.f24 = some F24 := by kernel_rfl

def F32_l0 : ACode :=
  (.seq
  (.reg [.op none (some 8) (.bin .lss (.t 7) (.t 6))])
  (.seq
  (.cond (.t 8)
    .skip
    (.exit 0))
  (.seq
  (.block 1
  (.seq
  (.reg [.op none (some 9) (.mov (.t 7)),
    .op none (some 4) (.mov (.t 9))])
  (.seq
  (.reg [.op none (some 10) (.mov (.t 3)),
    .op none (some 11) (.bin .add (.t 10) (.c (.int .i64 1))),
    .op none (some 3) (.mov (.t 11))])
  (.seq
  (.seq
  (.reg [.op none (some 12) (.ld1 (.t 1)),
    .op none (some 13) (.mov (.t 4)),
    .op none (some 14) (.ixS (.t 12) (.t 13)),
    .call none (some 15) 33 [.c (.string (⟨#[48, 49, 50, 51, 52, 53, 54, 55, 56, 57, 97, 98, 99, 100, 102, 103, 104, 105, 106, 107, 108, 109, 110, 112, 113, 114, 115, 118, 119, 120, 121, 122]⟩)), .t 14],
    .op none (some 16) (.bin .lss (.t 15) (.c (.int .i64 0)))])
  (.cond (.t 16)
    (.reg [.op none (some 3) (.mov (.c (.int .i64 0)))])
    .skip))
  (.seq
  (.reg [.op none (some 17) (.mov (.t 3)),
    .op none (some 18) (.bin .geq (.t 17) (.c (.int .i64 32))),
    .op none (some 19) (.mov (.t 18)),
    .op (some (19, true)) (some 20) (.mov (.t 0)),
    .op (some (19, true)) (some 21) (.ld1 (.t 1)),
    .op (some (19, true)) (some 22) (.mov (.t 4)),
    .op (some (19, true)) (some 23) (.bin .add (.t 22) (.c (.int .i64 1))),
    .op (some (19, true)) (some 24) (.bin .sub (.t 23) (.c (.int .i64 32))),
    .op (some (19, true)) (some 25) (.mov (.t 4)),
    .op (some (19, true)) (some 26) (.bin .add (.t 25) (.c (.int .i64 1))),
    .op (some (19, true)) (some 27) (.slS (.t 21) (some (.t 24)) (some (.t 26))),
    .callv (some (19, true)) (some 28) (.t 20) [.t 27],
    .op (some (19, true)) (some 29) (.un .not (.t 28)),
    .op none (some 30) (.pick (.t 19) (.t 29) (.c (.bool false)))])
  (.cond (.t 30)
    .ret
    .skip))))))
  (.reg [.op none (some 31) (.bin .add (.t 7) (.c (.int .i64 1))),
    .op none (some 7) (.mov (.t 31))]))))

def F32 : AFun :=
  { n := 32, res := [], code :=
  (.seq
  (.reg [.op none (some 3) (.mov (.c (.int .i64 0)))])
  (.seq
  (.reg [.op none (some 5) (.ld1 (.t 1)),
    .op none (some 6) (.lenS (.t 5)),
    .op none (some 7) (.mov (.c (.int .i64 0)))])
  (.block 0
  (.loop F32_l0)))) }
theorem F32_ok : compFun Try.prog 1 Try.f32 = some F32 := by kernel_rfl

def F33 : AFun :=
  { n := 8, res := [.t 4], code :=
  (.seq
  (.reg [.op none (some 4) (.mov (.c (.int .i64 0)))])
  (.seq
  (.reg [.op none (some 5) (.mov (.t 0)),
    .op none (some 6) (.mov (.t 1)),
    .call none (some 7) 47 [.t 5, .t 6],
    .op none (some 4) (.mov (.t 7))])
  .ret)) }
theorem F33_ok : compFun Try.prog 1 Try.f33 = some F33 := by kernel_rfl

def F35 : AFun :=
  { n := 20, res := [], code :=
  (.seq
  (.reg [.op none (some 2) (.mov (.t 0)),
    .op none (some 3) (.nchk (.t 2)),
    .op none (some 4) (.fad 0 (.t 3)),
    .op none (some 5) (.ld1 (.t 4)),
    .op none (some 6) (.eql false .ptr (.t 5) (.c (.pointer none)))])
  (.cond (.t 6)
    (.reg [.op none (some 7) (.mov (.t 0)),
      .op none (some 8) (.mov (.t 0)),
      .op none (some 9) (.toU (.t 8)),
      .call none (some 10) 48 [.t 9],
      .op none (some 11) (.frU 56 2 (.t 10)),
      .op none (some 12) (.nchk (.t 7)),
      .op none (some 13) (.fad 0 (.t 12)),
      .op none none (.st 1 (.t 13) (.t 11))])
    (.seq
    (.reg [.op none (some 14) (.mov (.t 0)),
      .op none (some 15) (.nchk (.t 14)),
      .op none (some 16) (.fad 0 (.t 15)),
      .op none (some 17) (.ld1 (.t 16)),
      .op none (some 18) (.mov (.t 0)),
      .op none (some 19) (.eql true .ptr (.t 17) (.t 18))])
    (.cond (.t 19)
      .refuse
      .skip)))) }
theorem F35_ok : compFun Try.prog 1 Try.f35 = some F35 := by kernel_rfl

def F36 : AFun :=
  { n := 9, res := [.t 4], code :=
  (.seq
  (.reg [.op none (some 4) (.mov (.c (.bool false)))])
  (.seq
  (.reg [.op none (some 5) (.mov (.t 0)),
    .op none (some 6) (.mov (.t 1)),
    .call none (some 7) 49 [.t 5, .t 6],
    .op none (some 8) (.bin .geq (.t 7) (.c (.int .i64 0))),
    .op none (some 4) (.mov (.t 8))])
  .ret)) }
theorem F36_ok : compFun Try.prog 1 Try.f36 = some F36 := by kernel_rfl

def F37 : AFun :=
  { n := 6, res := [.t 2], code :=
  (.seq
  (.reg [.op none (some 2) (.mov (.c (.bool false)))])
  (.seq
  (.reg [.op none (some 3) (.mov (.t 0)),
    .call none (some 4) 38 [.t 3],
    .op none (some 5) (.un .not (.t 4)),
    .op none (some 2) (.mov (.t 5))])
  .ret)) }
theorem F37_ok : compFun Try.prog 1 Try.f37 = some F37 := by kernel_rfl

def F38 : AFun :=
  { n := 41, res := [.t 2], code :=
  (.seq
  (.reg [.op none (some 2) (.mov (.c (.bool false)))])
  (.seq
  (.reg [.op none (some 3) (.mov (.t 0)),
    .op none (some 4) (.bin .geq (.t 3) (.c (.int .i32 97))),
    .op none (some 5) (.mov (.t 4)),
    .op (some (5, true)) (some 6) (.mov (.t 0)),
    .op (some (5, true)) (some 7) (.bin .leq (.t 6) (.c (.int .i32 122))),
    .op none (some 8) (.pick (.t 5) (.t 7) (.c (.bool false))),
    .op none (some 9) (.mov (.t 8)),
    .op (some (9, false)) (some 10) (.mov (.t 0)),
    .op (some (9, false)) (some 11) (.bin .geq (.t 10) (.c (.int .i32 65))),
    .op (some (9, false)) (some 12) (.mov (.t 11)),
    .op (some (12, true)) (some 13) (.mov (.t 0)),
    .op (some (12, true)) (some 14) (.bin .leq (.t 13) (.c (.int .i32 90))),
    .op (some (9, false)) (some 15) (.pick (.t 12) (.t 14) (.c (.bool false))),
    .op none (some 16) (.pick (.t 9) (.c (.bool true)) (.t 15)),
    .op none (some 17) (.mov (.t 16)),
    .op (some (17, false)) (some 18) (.mov (.t 0)),
    .op (some (17, false)) (some 19) (.bin .geq (.t 18) (.c (.int .i32 48))),
    .op (some (17, false)) (some 20) (.mov (.t 19)),
    .op (some (20, true)) (some 21) (.mov (.t 0)),
    .op (some (20, true)) (some 22) (.bin .leq (.t 21) (.c (.int .i32 57))),
    .op (some (17, false)) (some 23) (.pick (.t 20) (.t 22) (.c (.bool false))),
    .op none (some 24) (.pick (.t 17) (.c (.bool true)) (.t 23)),
    .op none (some 25) (.mov (.t 24)),
    .op (some (25, false)) (some 26) (.mov (.t 0)),
    .op (some (25, false)) (some 27) (.bin .eql (.t 26) (.c (.int .i32 43))),
    .op none (some 28) (.pick (.t 25) (.c (.bool true)) (.t 27)),
    .op none (some 29) (.mov (.t 28)),
    .op (some (29, false)) (some 30) (.mov (.t 0)),
    .op (some (29, false)) (some 31) (.bin .eql (.t 30) (.c (.int .i32 45))),
    .op none (some 32) (.pick (.t 29) (.c (.bool true)) (.t 31)),
    .op none (some 33) (.mov (.t 32)),
    .op (some (33, false)) (some 34) (.mov (.t 0)),
    .op (some (33, false)) (some 35) (.bin .eql (.t 34) (.c (.int .i32 46))),
    .op none (some 36) (.pick (.t 33) (.c (.bool true)) (.t 35)),
    .op none (some 37) (.mov (.t 36)),
    .op (some (37, false)) (some 38) (.mov (.t 0)),
    .op (some (37, false)) (some 39) (.bin .eql (.t 38) (.c (.int .i32 95))),
    .op none (some 40) (.pick (.t 37) (.c (.bool true)) (.t 39)),
    .op none (some 2) (.mov (.t 40))])
  .ret)) }
theorem F38_ok : compFun Try.prog 1 Try.f38 = some F38 := by kernel_rfl

def F39 : AFun :=
  { n := 34, res := [.t 2, .t 3, .t 4], code :=
  (.seq
  (.reg [.op none (some 2) (.mov (.c (.string (⟨#[]⟩)))),
    .op none (some 3) (.mov (.c (.string (⟨#[]⟩)))),
    .op none (some 4) (.mov (.c (.int .i64 0)))])
  (.seq
  (.reg [.op none (some 11) (.mov (.t 0)),
    .call none (some 12) 50 [.t 11, .c (.string (⟨#[45]⟩))],
    .op none (some 10) (.mov (.t 12)),
    .op none (some 13) (.ext 0 (.t 10)),
    .op none (some 14) (.ext 1 (.t 10)),
    .op none (some 15) (.ext 2 (.t 10)),
    .op none (some 5) (.mov (.t 13)),
    .op none (some 6) (.mov (.t 14)),
    .op none (some 7) (.mov (.t 15))])
  (.seq
  (.reg [.op none (some 17) (.mov (.t 5)),
    .call none (some 18) 51 [.t 17],
    .op none (some 16) (.mov (.t 18)),
    .op none (some 19) (.ext 0 (.t 16)),
    .op none (some 20) (.ext 1 (.t 16)),
    .op none (some 8) (.new 51 [.int .u8 0, .int .u8 0, .int .u8 0, .int .u8 0, .int .u8 0, .int .u8 0, .int .u8 0, .int .u8 0, .int .u8 0, .int .u8 0, .int .u8 0, .int .u8 0, .int .u8 0, .int .u8 0, .int .u8 0, .int .u8 0, .int .u8 0, .int .u8 0, .int .u8 0, .int .u8 0]),
    .op none none (.st 20 (.t 8) (.t 19)),
    .op none (some 9) (.mov (.t 20))])
  (.seq
  (.seq
  (.reg [.op none (some 21) (.mov (.t 7)),
    .op none (some 22) (.un .not (.t 21)),
    .op none (some 23) (.mov (.t 22)),
    .op (some (23, false)) (some 24) (.mov (.t 9)),
    .op (some (23, false)) (some 25) (.un .not (.t 24)),
    .op none (some 26) (.pick (.t 23) (.c (.bool true)) (.t 25)),
    .op none (some 27) (.mov (.t 26)),
    .op (some (27, false)) (some 28) (.mov (.t 6)),
    .call (some (27, false)) (some 29) 23 [.t 28],
    .op (some (27, false)) (some 30) (.un .not (.t 29)),
    .op none (some 31) (.pick (.t 27) (.c (.bool true)) (.t 30))])
  (.cond (.t 31)
    (.seq
    (.reg [.op none (some 2) (.mov (.c (.string (⟨#[]⟩)))),
      .op none (some 3) (.mov (.c (.string (⟨#[]⟩)))),
      .op none (some 4) (.mov (.c (.int .i64 90)))])
    .ret)
    .skip))
  (.seq
  (.reg [.op none (some 32) (.mov (.t 5)),
    .op none (some 33) (.mov (.t 6)),
    .op none (some 2) (.mov (.t 32)),
    .op none (some 3) (.mov (.t 33)),
    .op none (some 4) (.mov (.c (.int .i64 0)))])
  .ret))))) }
theorem F39_ok : compFun Try.prog 1 Try.f39 = some F39 := by kernel_rfl

def F47 : AFun :=
  { n := 8, res := [.t 4], code :=
  (.seq
  (.reg [.op none (some 4) (.mov (.c (.int .i64 0)))])
  (.seq
  (.reg [.op none (some 5) (.mov (.t 0)),
    .op none (some 6) (.mov (.t 1)),
    .call none (some 7) 59 [.t 5, .t 6],
    .op none (some 4) (.mov (.t 7))])
  .ret)) }
theorem F47_ok : compFun Try.prog 1 Try.f47 = some F47 := by kernel_rfl

def F49 : AFun :=
  { n := 8, res := [.t 4], code :=
  (.seq
  (.reg [.op none (some 4) (.mov (.c (.int .i64 0)))])
  (.seq
  (.reg [.op none (some 5) (.mov (.t 0)),
    .op none (some 6) (.mov (.t 1)),
    .call none (some 7) 60 [.t 5, .t 6, .c (.bool true)],
    .op none (some 4) (.mov (.t 7))])
  .ret)) }
theorem F49_ok : compFun Try.prog 1 Try.f49 = some F49 := by kernel_rfl

def F50 : AFun :=
  { n := 13, res := [.t 4, .t 5, .t 6], code :=
  (.seq
  (.reg [.op none (some 4) (.mov (.c (.string (⟨#[]⟩)))),
    .op none (some 5) (.mov (.c (.string (⟨#[]⟩)))),
    .op none (some 6) (.mov (.c (.bool false)))])
  (.seq
  (.reg [.op none (some 7) (.mov (.t 0)),
    .op none (some 8) (.mov (.t 1)),
    .call none (some 9) 61 [.t 7, .t 8],
    .op none (some 10) (.ext 0 (.t 9)),
    .op none (some 11) (.ext 1 (.t 9)),
    .op none (some 12) (.ext 2 (.t 9)),
    .op none (some 4) (.mov (.t 10)),
    .op none (some 5) (.mov (.t 11)),
    .op none (some 6) (.mov (.t 12))])
  .ret)) }
theorem F50_ok : compFun Try.prog 1 Try.f50 = some F50 := by kernel_rfl

def F51_l0 : ACode :=
  (.seq
  (.reg [.op none (some 17) (.bin .lss (.t 16) (.t 15))])
  (.seq
  (.cond (.t 17)
    .skip
    (.exit 0))
  (.seq
  (.block 1
  (.seq
  (.reg [.op none (some 18) (.mov (.t 16)),
    .op none (some 8) (.mov (.t 18))])
  (.seq
  (.reg [.op none (some 19) (.mov (.t 0)),
    .op none (some 20) (.mov (.t 8)),
    .op none (some 21) (.ixS (.t 19) (.t 20)),
    .call none (some 22) 33 [.c (.string (⟨#[48, 49, 50, 51, 52, 53, 54, 55, 56, 57, 97, 98, 99, 100, 102, 103, 104, 105, 106, 107, 108, 109, 110, 112, 113, 114, 115, 118, 119, 120, 121, 122]⟩)), .t 21],
    .op none (some 9) (.mov (.t 22))])
  (.seq
  (.seq
  (.reg [.op none (some 23) (.mov (.t 9)),
    .op none (some 24) (.bin .lss (.t 23) (.c (.int .i64 0)))])
  (.cond (.t 24)
    (.seq
    (.reg [.op none (some 25) (.bld [.int .u8 0, .int .u8 0, .int .u8 0, .int .u8 0, .int .u8 0, .int .u8 0, .int .u8 0, .int .u8 0, .int .u8 0, .int .u8 0, .int .u8 0, .int .u8 0, .int .u8 0, .int .u8 0, .int .u8 0, .int .u8 0, .int .u8 0, .int .u8 0, .int .u8 0, .int .u8 0] []),
      .op none none (.st 20 (.t 2) (.t 25)),
      .op none (some 3) (.mov (.c (.bool false)))])
    .ret)
    .skip))
  (.seq
  (.reg [.op none (some 26) (.mov (.t 5)),
    .op none (some 27) (.bin .shl (.t 26) (.c (.int .u64 5))),
    .op none (some 28) (.mov (.t 9)),
    .op none (some 29) (.cvt .u64 (.t 28)),
    .op none (some 30) (.bin .or (.t 27) (.t 29)),
    .op none (some 31) (.mov (.t 6)),
    .op none (some 32) (.bin .add (.t 31) (.c (.int .i64 5))),
    .op none (some 5) (.mov (.t 30)),
    .op none (some 6) (.mov (.t 32))])
  (.seq
  (.reg [.op none (some 33) (.mov (.t 6)),
    .op none (some 34) (.bin .geq (.t 33) (.c (.int .i64 8)))])
  (.cond (.t 34)
    (.seq
    (.reg [.op none (some 35) (.mov (.t 6)),
      .op none (some 36) (.bin .sub (.t 35) (.c (.int .i64 8))),
      .op none (some 6) (.mov (.t 36))])
    (.seq
    (.reg [.op none (some 37) (.mov (.t 7)),
      .op none (some 38) (.mov (.t 5)),
      .op none (some 39) (.mov (.t 6)),
      .op none (some 40) (.bin .shr (.t 38) (.t 39)),
      .op none (some 41) (.cvt .u8 (.t 40)),
      .op none (some 42) (.iadA 20 1 (.t 4) (.t 37)),
      .op none none (.st 1 (.t 42) (.t 41))])
    (.reg [.op none (some 43) (.mov (.t 7)),
      .op none (some 44) (.bin .add (.t 43) (.c (.int .i64 1))),
      .op none (some 7) (.mov (.t 44))])))
    .skip)))))))
  (.reg [.op none (some 45) (.bin .add (.t 16) (.c (.int .i64 1))),
    .op none (some 16) (.mov (.t 45))]))))

def F51 : AFun :=
  { n := 47, res := [.cn 2 20, .t 3], code :=
  (.seq
  (.reg [.op none (some 2) (.new 51 [.int .u8 0, .int .u8 0, .int .u8 0, .int .u8 0, .int .u8 0, .int .u8 0, .int .u8 0, .int .u8 0, .int .u8 0, .int .u8 0, .int .u8 0, .int .u8 0, .int .u8 0, .int .u8 0, .int .u8 0, .int .u8 0, .int .u8 0, .int .u8 0, .int .u8 0, .int .u8 0]),
    .op none (some 3) (.mov (.c (.bool false)))])
  (.seq
  (.reg [.op none (some 4) (.new 51 [.int .u8 0, .int .u8 0, .int .u8 0, .int .u8 0, .int .u8 0, .int .u8 0, .int .u8 0, .int .u8 0, .int .u8 0, .int .u8 0, .int .u8 0, .int .u8 0, .int .u8 0, .int .u8 0, .int .u8 0, .int .u8 0, .int .u8 0, .int .u8 0, .int .u8 0, .int .u8 0])])
  (.seq
  (.seq
  (.reg [.op none (some 10) (.mov (.t 0)),
    .op none (some 11) (.lenS (.t 10)),
    .op none (some 12) (.bin .neq (.t 11) (.c (.int .i64 32)))])
  (.cond (.t 12)
    (.seq
    (.reg [.op none (some 13) (.ldn 20 (.t 4)),
      .op none none (.st 20 (.t 2) (.t 13)),
      .op none (some 3) (.mov (.c (.bool false)))])
    .ret)
    .skip))
  (.seq
  (.reg [.op none (some 5) (.mov (.c (.int .u64 0))),
    .op none (some 6) (.mov (.c (.int .i64 0))),
    .op none (some 7) (.mov (.c (.int .i64 0)))])
  (.seq
  (.seq
  (.reg [.op none (some 14) (.mov (.t 0)),
    .op none (some 15) (.lenS (.t 14)),
    .op none (some 16) (.mov (.c (.int .i64 0)))])
  (.block 0
  (.loop F51_l0)))
  (.seq
  (.reg [.op none (some 46) (.ldn 20 (.t 4)),
    .op none none (.st 20 (.t 2) (.t 46)),
    .op none (some 3) (.mov (.c (.bool true)))])
  .ret)))))) }
theorem F51_ok : compFun Try.prog 1 Try.f51 = some F51 := by kernel_rfl

def F60_l0 : ACode :=
  (.seq
  (.reg [.op none (some 11) (.nxt (.t 10)),
    .op none (some 12) (.ext 0 (.t 11))])
  (.seq
  (.cond (.t 12)
    .skip
    (.exit 0))
  (.block 1
  (.seq
  (.reg [.op none (some 13) (.ext 1 (.t 11)),
    .op none (some 14) (.ext 2 (.t 11)),
    .op none (some 7) (.mov (.t 13)),
    .op none (some 8) (.mov (.t 14))])
  (.seq
  (.reg [.op none (some 15) (.mov (.t 1)),
    .op none (some 16) (.mov (.t 8)),
    .callv none (some 17) (.t 15) [.t 16],
    .op none (some 18) (.mov (.t 2)),
    .op none (some 19) (.eql false .bool (.t 17) (.t 18))])
  (.cond (.t 19)
    (.seq
    (.reg [.op none (some 20) (.mov (.t 7)),
      .op none (some 6) (.mov (.t 20))])
    .ret)
    .skip))))))

def F60 : AFun :=
  { n := 21, res := [.t 6], code :=
  (.seq
  (.reg [.op none (some 6) (.mov (.c (.int .i64 0)))])
  (.seq
  (.seq
  (.reg [.op none (some 9) (.mov (.t 0)),
    .op none (some 10) (.rng (.t 9))])
  (.block 0
  (.loop F60_l0)))
  (.seq
  (.reg [.op none (some 6) (.mov (.c (.int .i64 (-1))))])
  .ret))) }
theorem F60_ok : compFun Try.prog 1 Try.f60 = some F60 := by kernel_rfl

def F61 : AFun :=
  { n := 23, res := [.t 4, .t 5, .t 6], code :=
  (.seq
  (.reg [.op none (some 4) (.mov (.c (.string (⟨#[]⟩)))),
    .op none (some 5) (.mov (.c (.string (⟨#[]⟩)))),
    .op none (some 6) (.mov (.c (.bool false)))])
  (.seq
  (.seq
  (.reg [.op none (some 8) (.mov (.t 0)),
    .op none (some 9) (.mov (.t 1)),
    .call none (some 10) 67 [.t 8, .t 9],
    .op none (some 7) (.mov (.t 10))])
  (.seq
  (.reg [.op none (some 11) (.mov (.t 7)),
    .op none (some 12) (.bin .geq (.t 11) (.c (.int .i64 0)))])
  (.cond (.t 12)
    (.seq
    (.draw [.f (.op none (some 13) (.mov (.t 0))),
      .f (.op none (some 14) (.mov (.t 7))),
      .f (.op none (some 15) (.slS (.t 13) none (some (.t 14)))),
      .f (.op none (some 16) (.mov (.t 0))),
      .f (.op none (some 17) (.mov (.t 7))),
      .f (.op none (some 18) (.mov (.t 1))),
      .f (.op none (some 19) (.lenS (.t 18))),
      .f (.op none (some 20) (.bin .add (.t 17) (.t 19))),
      .f (.op none (some 21) (.slS (.t 16) (some (.t 20)) none)),
      .f (.op none (some 4) (.mov (.t 15))),
      .f (.op none (some 5) (.mov (.t 21))),
      .f (.op none (some 6) (.mov (.c (.bool true))))])
    .ret)
    .skip)))
  (.seq
  (.reg [.op none (some 22) (.mov (.t 0)),
    .op none (some 4) (.mov (.t 22)),
    .op none (some 5) (.mov (.c (.string (⟨#[]⟩)))),
    .op none (some 6) (.mov (.c (.bool false)))])
  .ret))) }
theorem F61_ok : compFun Try.prog 1 Try.f61 = some F61 := by kernel_rfl

def F67_l0 : ACode :=
  (.seq
  (.seq
  (.reg [.op none (some 57) (.mov (.t 8)),
    .op none (some 58) (.mov (.t 9)),
    .op none (some 59) (.bin .lss (.t 57) (.t 58))])
  (.cond (.t 59)
    .skip
    (.exit 1)))
  (.block 2
  (.seq
  (.seq
  (.reg [.op none (some 60) (.mov (.t 0)),
    .op none (some 61) (.mov (.t 8)),
    .op none (some 62) (.ixS (.t 60) (.t 61)),
    .op none (some 63) (.mov (.t 6)),
    .op none (some 64) (.bin .neq (.t 62) (.t 63))])
  (.cond (.t 64)
    (.seq
    (.reg [.op none (some 65) (.mov (.t 0)),
      .op none (some 66) (.mov (.t 8)),
      .op none (some 67) (.bin .add (.t 66) (.c (.int .i64 1))),
      .op none (some 68) (.mov (.t 9)),
      .op none (some 69) (.slS (.t 65) (some (.t 67)) (some (.t 68))),
      .op none (some 70) (.mov (.t 6)),
      .call none (some 71) 47 [.t 69, .t 70],
      .op none (some 11) (.mov (.t 71))])
    (.seq
    (.seq
    (.reg [.op none (some 72) (.mov (.t 11)),
      .op none (some 73) (.bin .lss (.t 72) (.c (.int .i64 0)))])
    (.cond (.t 73)
      (.seq
      (.reg [.op none (some 4) (.mov (.c (.int .i64 (-1))))])
      .ret)
      .skip))
    (.reg [.op none (some 74) (.mov (.t 8)),
      .op none (some 75) (.mov (.t 11)),
      .op none (some 76) (.bin .add (.t 75) (.c (.int .i64 1))),
      .op none (some 77) (.bin .add (.t 74) (.t 76)),
      .op none (some 8) (.mov (.t 77))])))
    .skip))
  (.seq
  (.seq
  (.reg [.op none (some 78) (.mov (.t 0)),
    .op none (some 79) (.mov (.t 8)),
    .op none (some 80) (.bin .add (.t 79) (.c (.int .i64 1))),
    .op none (some 81) (.ixS (.t 78) (.t 80)),
    .op none (some 82) (.mov (.t 7)),
    .op none (some 83) (.bin .eql (.t 81) (.t 82)),
    .op none (some 84) (.mov (.t 83)),
    .op (some (84, true)) (some 85) (.mov (.t 0)),
    .op (some (84, true)) (some 86) (.mov (.t 8)),
    .op (some (84, true)) (some 87) (.mov (.t 8)),
    .op (some (84, true)) (some 88) (.mov (.t 5)),
    .op (some (84, true)) (some 89) (.bin .add (.t 87) (.t 88)),
    .op (some (84, true)) (some 90) (.slS (.t 85) (some (.t 86)) (some (.t 89))),
    .op (some (84, true)) (some 91) (.mov (.t 1)),
    .op (some (84, true)) (some 92) (.bin .eql (.t 90) (.t 91)),
    .op none (some 93) (.pick (.t 84) (.t 92) (.c (.bool false)))])
  (.cond (.t 93)
    (.seq
    (.reg [.op none (some 94) (.mov (.t 8)),
      .op none (some 4) (.mov (.t 94))])
    .ret)
    .skip))
  (.seq
  (.reg [.op none (some 95) (.mov (.t 8)),
    .op none (some 96) (.bin .add (.t 95) (.c (.int .i64 1))),
    .op none (some 8) (.mov (.t 96))])
  (.seq
  (.reg [.op none (some 97) (.mov (.t 10)),
    .op none (some 98) (.bin .add (.t 97) (.c (.int .i64 1))),
    .op none (some 10) (.mov (.t 98))])
  (.seq
  (.reg [.op none (some 99) (.mov (.t 5)),
    .op none (some 100) (.ld1 (.c (.pointer (some ({ block := 0, off := 0 }))))),
    .op none (some 101) (.bin .leq (.t 99) (.t 100)),
    .op none (some 102) (.mov (.t 101)),
    .op (some (102, true)) (some 103) (.mov (.t 10)),
    .op (some (102, true)) (some 104) (.mov (.t 8)),
    .call (some (102, true)) (some 105) 70 [.t 104],
    .op (some (102, true)) (some 106) (.bin .gtr (.t 103) (.t 105)),
    .op none (some 107) (.pick (.t 102) (.t 106) (.c (.bool false)))])
  (.cond (.t 107)
    (.seq
    (.reg [.op none (some 108) (.mov (.t 0)),
      .op none (some 109) (.mov (.t 8)),
      .op none (some 110) (.slS (.t 108) (some (.t 109)) none),
      .op none (some 111) (.mov (.t 1)),
      .call none (some 112) 69 [.t 110, .t 111],
      .op none (some 12) (.mov (.t 112))])
    (.seq
    (.seq
    (.reg [.op none (some 113) (.mov (.t 12)),
      .op none (some 114) (.bin .geq (.t 113) (.c (.int .i64 0)))])
    (.cond (.t 114)
      (.seq
      (.reg [.op none (some 115) (.mov (.t 12)),
        .op none (some 116) (.mov (.t 8)),
        .op none (some 117) (.bin .add (.t 115) (.t 116)),
        .op none (some 4) (.mov (.t 117))])
      .ret)
      .skip))
    (.seq
    (.reg [.op none (some 4) (.mov (.c (.int .i64 (-1))))])
    .ret)))
    (.seq
    (.reg [.op none (some 118) (.mov (.t 5)),
      .op none (some 119) (.ld1 (.c (.pointer (some ({ block := 0, off := 0 }))))),
      .op none (some 120) (.bin .gtr (.t 118) (.t 119)),
      .op none (some 121) (.mov (.t 120)),
      .op (some (121, true)) (some 122) (.mov (.t 10)),
      .op (some (121, true)) (some 123) (.mov (.t 8)),
      .op (some (121, true)) (some 124) (.bin .shr (.t 123) (.c (.int .u64 4))),
      .op (some (121, true)) (some 125) (.bin .add (.c (.int .i64 4)) (.t 124)),
      .op (some (121, true)) (some 126) (.bin .geq (.t 122) (.t 125)),
      .op none (some 127) (.pick (.t 121) (.t 126) (.c (.bool false))),
      .op none (some 128) (.mov (.t 127)),
      .op (some (128, true)) (some 129) (.mov (.t 8)),
      .op (some (128, true)) (some 130) (.mov (.t 9)),
      .op (some (128, true)) (some 131) (.bin .lss (.t 129) (.t 130)),
      .op none (some 132) (.pick (.t 128) (.t 131) (.c (.bool false)))])
    (.cond (.t 132)
      (.seq
      (.reg [.op none (some 133) (.mov (.t 0)),
        .op none (some 134) (.mov (.t 8)),
        .op none (some 135) (.slS (.t 133) (some (.t 134)) none),
        .op none (some 136) (.mov (.t 1)),
        .call none (some 137) 71 [.t 135, .t 136],
        .op none (some 13) (.mov (.t 137))])
      (.seq
      (.seq
      (.reg [.op none (some 138) (.mov (.t 13)),
        .op none (some 139) (.bin .lss (.t 138) (.c (.int .i64 0)))])
      (.cond (.t 139)
        (.seq
        (.reg [.op none (some 4) (.mov (.c (.int .i64 (-1))))])
        .ret)
        .skip))
      (.seq
      (.reg [.op none (some 140) (.mov (.t 8)),
        .op none (some 141) (.mov (.t 13)),
        .op none (some 142) (.bin .add (.t 140) (.t 141)),
        .op none (some 4) (.mov (.t 142))])
      .ret)))
      .skip))))))))))

def F67 : AFun :=
  { n := 143, res := [.t 4], code :=
  (.seq
  (.reg [.op none (some 4) (.mov (.c (.int .i64 0)))])
  (.seq
  (.reg [.op none (some 14) (.mov (.t 1)),
    .op none (some 15) (.lenS (.t 14)),
    .op none (some 5) (.mov (.t 15))])
  (.seq
  (.block 0
  (.seq
  (.reg [.op none (some 17) (.mov (.t 5)),
    .op none (some 18) (.bin .eql (.t 17) (.c (.int .i64 0))),
    .op none (some 19) (.mov (.t 18)),
    .op (some (19, false)) (some 20) (.mov (.t 1)),
    .op (some (19, false)) (some 21) (.mov (.t 0)),
    .op (some (19, false)) (some 22) (.bin .eql (.t 20) (.t 21)),
    .op none (some 23) (.pick (.t 19) (.c (.bool true)) (.t 22)),
    .op none (some 16) (.mov (.t 23))])
  (.cond (.t 16)
    (.seq
    (.reg [.op none (some 4) (.mov (.c (.int .i64 0)))])
    .ret)
    (.seq
    (.reg [.op none (some 25) (.mov (.t 5)),
      .op none (some 26) (.bin .eql (.t 25) (.c (.int .i64 1))),
      .op none (some 24) (.mov (.t 26))])
    (.cond (.t 24)
      (.seq
      (.reg [.op none (some 27) (.mov (.t 0)),
        .op none (some 28) (.mov (.t 1)),
        .op none (some 29) (.ixS (.t 28) (.c (.int .i64 0))),
        .call none (some 30) 47 [.t 27, .t 29],
        .op none (some 4) (.mov (.t 30))])
      .ret)
      (.seq
      (.reg [.op none (some 32) (.mov (.t 5)),
        .op none (some 33) (.mov (.t 0)),
        .op none (some 34) (.lenS (.t 33)),
        .op none (some 35) (.bin .geq (.t 32) (.t 34)),
        .op none (some 31) (.mov (.t 35))])
      (.cond (.t 31)
        (.seq
        (.reg [.op none (some 4) (.mov (.c (.int .i64 (-1))))])
        .ret)
        (.seq
        (.reg [.op none (some 37) (.mov (.t 5)),
          .op none (some 38) (.ld1 (.c (.pointer (some ({ block := 0, off := 0 }))))),
          .op none (some 39) (.bin .leq (.t 37) (.t 38)),
          .op none (some 40) (.mov (.t 39)),
          .op (some (40, true)) (some 41) (.mov (.t 0)),
          .op (some (40, true)) (some 42) (.lenS (.t 41)),
          .op (some (40, true)) (some 43) (.bin .leq (.t 42) (.c (.int .i64 64))),
          .op none (some 44) (.pick (.t 40) (.t 43) (.c (.bool false))),
          .op none (some 36) (.mov (.t 44))])
        (.cond (.t 36)
          (.seq
          (.reg [.op none (some 45) (.mov (.t 0)),
            .op none (some 46) (.mov (.t 1)),
            .call none (some 47) 69 [.t 45, .t 46],
            .op none (some 4) (.mov (.t 47))])
          .ret)
          .skip)))))))))
  (.seq
  (.reg [.op none (some 48) (.mov (.t 1)),
    .op none (some 49) (.ixS (.t 48) (.c (.int .i64 0))),
    .op none (some 6) (.mov (.t 49))])
  (.seq
  (.reg [.op none (some 50) (.mov (.t 1)),
    .op none (some 51) (.ixS (.t 50) (.c (.int .i64 1))),
    .op none (some 7) (.mov (.t 51))])
  (.seq
  (.reg [.op none (some 8) (.mov (.c (.int .i64 0)))])
  (.seq
  (.reg [.op none (some 52) (.mov (.t 0)),
    .op none (some 53) (.lenS (.t 52)),
    .op none (some 54) (.mov (.t 5)),
    .op none (some 55) (.bin .sub (.t 53) (.t 54)),
    .op none (some 56) (.bin .add (.t 55) (.c (.int .i64 1))),
    .op none (some 9) (.mov (.t 56))])
  (.seq
  (.reg [.op none (some 10) (.mov (.c (.int .i64 0)))])
  (.seq
  (.block 1
  (.loop F67_l0))
  (.seq
  (.reg [.op none (some 4) (.mov (.c (.int .i64 (-1))))])
  .ret)))))))))) }
theorem F67_ok : compFun Try.prog 1 Try.f67 = some F67 := by kernel_rfl

end Go.Proofs.Ytighienjnhglnaa
