/-
  Functions of the program, compiled for the abstract machine: printed by a program of ours (gen.py).
-/
import Derived.Test.YtidngakhkpodgaaDoorA3
import Derived.Test.YtidngakhkpodgaaDoorProg
import Derived.KernelRfl
set_option linter.unusedVariables false
set_option linter.unusedSimpArgs false
set_option linter.unnecessarySimpa false
namespace Go.Proofs.YtidngakhkpodgaaDoor
open Go Go.AM
set_option maxRecDepth 100000

def F7_l1 : ACode :=
  (.seq
  (.seq
  (.reg [.op none (some 33) (.mov (.t 5)),
    .op none (some 34) (.mov (.t 2)),
    .op none (some 35) (.bin .lss (.t 33) (.t 34))])
  (.cond (.t 35)
    .skip
    (.exit 2)))
  (.seq
  (.block 3
  (.seq
  (.reg [.op none (some 38) (.mov (.t 3)),
    .op none (some 39) (.mov (.t 5)),
    .op none (some 40) (.mov (.t 5)),
    .op none (some 41) (.mov (.t 2)),
    .op none (some 42) (.bin .mul (.t 40) (.t 41)),
    .op none (some 43) (.cvt .u8 (.t 42)),
    .op none (some 44) (.iadV 1 (.t 38) (.t 39)),
    .op none none (.st 1 (.t 44) (.t 43))])
  (.reg [.op none (some 45) (.mov (.t 4)),
    .op none (some 46) (.mov (.t 3)),
    .op none (some 47) (.mov (.t 5)),
    .op none (some 48) (.mov (.t 5)),
    .op none (some 49) (.bin .add (.t 48) (.c (.int .i64 1))),
    .op none (some 50) (.slV 1 (.t 46) (some (.t 47)) (some (.t 49)) none),
    .op none (some 51) (.bldSl 22 1 [.slice none 0 0] [(0, 1, .t 50)]),
    .op none (some 52) (.app 22 1 24 [.slice none 0 0] (.t 45) (.t 51)),
    .op none (some 4) (.mov (.t 52))])))
  (.reg [.op none (some 36) (.mov (.t 5)),
    .op none (some 37) (.bin .add (.t 36) (.c (.int .i64 1))),
    .op none (some 5) (.mov (.t 37))])))

def F7_l0 : ACode :=
  (.seq
  (.seq
  (.reg [.op none (some 27) (.mov (.t 2)),
    .op none (some 28) (.bin .lss (.t 27) (.c (.int .i64 130)))])
  (.cond (.t 28)
    .skip
    (.exit 0)))
  (.seq
  (.block 1
  (.seq
  (.reg [.op none (some 31) (.mov (.t 2)),
    .op none (some 32) (.mkSl 5 1 [.int .u8 0] 1 (.t 31) (.t 31)),
    .op none (some 3) (.mov (.t 32))])
  (.seq
  (.reg [.op none (some 4) (.mov (.c (.slice none 0 0)))])
  (.seq
  (.seq
  (.reg [.op none (some 5) (.mov (.c (.int .i64 0)))])
  (.block 2
  (.loop F7_l1)))
  (.seq
  (.draw [.f (.op none (some 53) (.mov (.t 3))),
    .b (.call none (some 54) 3 [.t 53]) [],
    .f (.op none (some 55) (.un .not (.t 54))),
    .f (.op none (some 56) (.mov (.t 55))),
    .f (.op (some (56, false)) (some 57) (.mov (.t 2))),
    .f (.op (some (56, false)) (some 58) (.bin .rem (.t 57) (.c (.int .i64 9)))),
    .f (.op (some (56, false)) (some 59) (.bin .eql (.t 58) (.c (.int .i64 1)))),
    .f (.op (some (56, false)) (some 60) (.mov (.t 59))),
    .f (.op (some (60, true)) (some 61) (.mov (.t 2))),
    .f (.op (some (60, true)) (some 62) (.bin .lss (.t 61) (.c (.int .i64 50)))),
    .f (.op (some (56, false)) (some 63) (.pick (.t 60) (.t 62) (.c (.bool false)))),
    .f (.op (some (56, false)) (some 64) (.mov (.t 63))),
    .f (.op (some (64, true)) (some 65) (.mov (.t 4))),
    .b (.call (some (64, true)) (some 66) 4 [.t 65]) [],
    .f (.op (some (64, true)) (some 67) (.un .not (.t 66))),
    .f (.op (some (56, false)) (some 68) (.pick (.t 64) (.t 67) (.c (.bool false)))),
    .f (.op none (some 69) (.pick (.t 56) (.c (.bool true)) (.t 68))),
    .f (.op none (some 70) (.mov (.t 69))),
    .f (.op (some (70, false)) (some 71) (.mov (.t 2))),
    .f (.op (some (70, false)) (some 72) (.bin .gtr (.t 71) (.c (.int .i64 54)))),
    .f (.op (some (70, false)) (some 73) (.mov (.t 72))),
    .f (.op (some (73, true)) (some 74) (.mov (.t 2))),
    .f (.op (some (73, true)) (some 75) (.bin .lss (.t 74) (.c (.int .i64 75)))),
    .f (.op (some (70, false)) (some 76) (.pick (.t 73) (.t 75) (.c (.bool false)))),
    .f (.op (some (70, false)) (some 77) (.mov (.t 76))),
    .f (.op (some (77, true)) (some 78) (.mov (.t 3))),
    .f (.op (some (77, true)) (some 79) (.mov (.t 2))),
    .f (.op (some (77, true)) (some 80) (.bin .quo (.t 79) (.c (.int .i64 3)))),
    .f (.op (some (77, true)) (some 81) (.slV 1 (.t 78) none (some (.t 80)) none)),
    .f (.op (some (77, true)) (some 82) (.mov (.t 3))),
    .f (.op (some (77, true)) (some 83) (.mov (.t 2))),
    .f (.op (some (77, true)) (some 84) (.bin .quo (.t 83) (.c (.int .i64 3)))),
    .f (.op (some (77, true)) (some 85) (.slV 1 (.t 82) (some (.t 84)) none none)),
    .b (.op (some (77, true)) (some 86) (.bldSl 22 3 [.slice none 0 0, .slice none 0 0, .slice none 0 0] [(0, 1, .t 81), (1, 1, .c (.slice none 0 0)), (2, 1, .t 85)])) [],
    .b (.call (some (77, true)) (some 87) 4 [.t 86]) [],
    .f (.op (some (77, true)) (some 88) (.un .not (.t 87))),
    .f (.op (some (70, false)) (some 89) (.pick (.t 77) (.t 88) (.c (.bool false)))),
    .f (.op none (some 90) (.pick (.t 70) (.c (.bool true)) (.t 89)))])
  (.cond (.t 90)
    (.seq
    (.reg [.op none (some 0) (.mov (.c (.bool false)))])
    .ret)
    .skip))))))
  (.reg [.op none (some 29) (.mov (.t 2)),
    .op none (some 30) (.bin .add (.t 29) (.c (.int .i64 1))),
    .op none (some 2) (.mov (.t 30))])))

def F7_l2 : ACode :=
  (.seq
  (.seq
  (.reg [.op none (some 93) (.mov (.t 8)),
    .op none (some 94) (.mov (.t 6)),
    .op none (some 95) (.lenV (.t 94)),
    .op none (some 96) (.bin .lss (.t 93) (.t 95))])
  (.cond (.t 96)
    .skip
    (.exit 4)))
  (.seq
  (.block 5
  (.seq
  (.reg [.op none (some 99) (.mov (.t 6)),
    .op none (some 100) (.mov (.t 8)),
    .op none (some 101) (.iadV 1 (.t 99) (.t 100)),
    .op none (some 102) (.ld1 (.t 101)),
    .op none (some 103) (.s2b 5 (.t 102)),
    .call none (some 104) 9 [.t 103],
    .op none (some 9) (.new 25 [.int .u8 0, .int .u8 0, .int .u8 0, .int .u8 0, .int .u8 0, .int .u8 0, .int .u8 0, .int .u8 0, .int .u8 0, .int .u8 0, .int .u8 0, .int .u8 0, .int .u8 0, .int .u8 0, .int .u8 0, .int .u8 0, .int .u8 0, .int .u8 0, .int .u8 0, .int .u8 0, .int .u8 0, .int .u8 0, .int .u8 0, .int .u8 0, .int .u8 0, .int .u8 0, .int .u8 0, .int .u8 0, .int .u8 0, .int .u8 0, .int .u8 0, .int .u8 0]),
    .op none none (.st 32 (.t 9) (.t 104))])
  (.seq
  (.drawA 6 [.f (.op none (some 105) (.ldn 32 (.t 9))),
    .f (.op none (some 107) (.mov (.t 7))),
    .f (.op none (some 108) (.mov (.t 8))),
    .f (.op none (some 109) (.iadV 1 (.t 107) (.t 108))),
    .f (.op none (some 110) (.ld1 (.t 109))),
    .b (.call none (some 106) 17 [.t 105]) [.op none (some 110) (.ld1 (.t 109))] [],
    .f (.op none (some 111) (.bin .neq (.t 106) (.t 110))),
    .f (.op none (some 112) (.mov (.t 111))),
    .f (.op (some (112, false)) (some 113) (.ldn 32 (.t 9))),
    .f (.op (some (112, false)) (some 114) (.mov (.t 7))),
    .f (.op (some (112, false)) (some 115) (.mov (.t 8))),
    .f (.op (some (112, false)) (some 116) (.iadV 1 (.t 114) (.t 115))),
    .f (.op (some (112, false)) (some 117) (.ld1 (.t 116))),
    .b (.call (some (112, false)) (some 118) 6 [.t 113, .t 117]) [] [],
    .f (.op (some (112, false)) (some 119) (.un .not (.t 118))),
    .f (.op none (some 120) (.pick (.t 112) (.c (.bool true)) (.t 119))),
    .f (.op none (some 121) (.mov (.t 120))),
    .f (.op (some (121, false)) (some 122) (.ldn 32 (.t 9))),
    .f (.op (some (121, false)) (some 123) (.mov (.t 7))),
    .f (.op (some (121, false)) (some 124) (.mov (.t 8))),
    .f (.op (some (121, false)) (some 125) (.iadV 1 (.t 123) (.t 124))),
    .f (.op (some (121, false)) (some 126) (.ld1 (.t 125))),
    .f (.op (some (121, false)) (some 127) (.slS (.t 126) (some (.c (.int .i64 1))) none)),
    .b (.call (some (121, false)) (some 128) 6 [.t 122, .t 127]) [] [],
    .f (.op (some (121, false)) (some 129) (.un .not (.t 128))),
    .f (.op none (some 130) (.pick (.t 121) (.c (.bool true)) (.t 129))),
    .f (.op none (some 131) (.mov (.t 130))),
    .f (.op (some (131, false)) (some 132) (.ldn 32 (.t 9))),
    .f (.op (some (131, false)) (some 133) (.mov (.t 7))),
    .f (.op (some (131, false)) (some 134) (.mov (.t 8))),
    .f (.op (some (131, false)) (some 135) (.iadV 1 (.t 133) (.t 134))),
    .f (.op (some (131, false)) (some 136) (.ld1 (.t 135))),
    .f (.op (some (131, false)) (some 137) (.slS (.t 136) (some (.c (.int .i64 1))) none)),
    .f (.op (some (131, false)) (some 138) (.bin .add (.t 137) (.c (.string (⟨#[65]⟩))))),
    .b (.call (some (131, false)) (some 139) 6 [.t 132, .t 138]) [] [],
    .f (.op (some (131, false)) (some 140) (.un .not (.t 139))),
    .f (.op none (some 141) (.pick (.t 131) (.c (.bool true)) (.t 140))),
    .f (.op none (some 142) (.mov (.t 141))),
    .f (.op (some (142, false)) (some 143) (.ldn 32 (.t 9))),
    .f (.op (some (142, false)) (some 144) (.mov (.t 7))),
    .f (.op (some (142, false)) (some 145) (.mov (.t 8))),
    .f (.op (some (142, false)) (some 146) (.iadV 1 (.t 144) (.t 145))),
    .f (.op (some (142, false)) (some 147) (.ld1 (.t 146))),
    .f (.op (some (142, false)) (some 148) (.slS (.t 147) (some (.c (.int .i64 1))) none)),
    .f (.op (some (142, false)) (some 149) (.bin .add (.t 148) (.c (.string (⟨#[103]⟩))))),
    .b (.call (some (142, false)) (some 150) 6 [.t 143, .t 149]) [] [],
    .f (.op (some (142, false)) (some 151) (.un .not (.t 150))),
    .f (.op none (some 152) (.pick (.t 142) (.c (.bool true)) (.t 151))),
    .f (.op none (some 153) (.mov (.t 152))),
    .f (.op (some (153, false)) (some 154) (.mov (.t 6))),
    .f (.op (some (153, false)) (some 155) (.mov (.t 8))),
    .f (.op (some (153, false)) (some 156) (.iadV 1 (.t 154) (.t 155))),
    .f (.op (some (153, false)) (some 157) (.ld1 (.t 156))),
    .a (.op (some (153, false)) (some 158) (.s2b 5 (.t 157))) 0,
    .a (.op (some (153, false)) (some 159) (.bldSl 22 1 [.slice none 0 0] [(0, 1, .t 158)])) 1,
    .a (.op (some (153, false)) (some 160) (.bldSl 22 1 [.slice none 0 0] [(0, 1, .c (.slice none 0 0))])) 2,
    .a (.op (some (153, false)) (some 161) (.bldSl 5 1 [.int .u8 0] [(0, 1, .c (.int .u8 1))])) 3,
    .a (.op (some (153, false)) (some 162) (.bldSl 5 1 [.int .u8 0] [(0, 1, .c (.int .u8 2))])) 4,
    .a (.op (some (153, false)) (some 163) (.bldSl 22 2 [.slice none 0 0, .slice none 0 0] [(0, 1, .t 161), (1, 1, .t 162)])) 5,
    .b (.call (some (153, false)) (some 164) 5 [.t 159, .t 160, .t 163]) [] [],
    .f (.op (some (153, false)) (some 165) (.un .not (.t 164))),
    .f (.op none (some 166) (.pick (.t 153) (.c (.bool true)) (.t 165)))])
  (.cond (.t 166)
    (.seq
    (.reg [.op none (some 0) (.mov (.c (.bool false)))])
    .ret)
    .skip))))
  (.reg [.op none (some 97) (.mov (.t 8)),
    .op none (some 98) (.bin .add (.t 97) (.c (.int .i64 1))),
    .op none (some 8) (.mov (.t 98))])))

def F7 : AFun :=
  { n := 175, res := [.t 0], code :=
  (.seq
  (.reg [.op none (some 0) (.mov (.c (.bool false)))])
  (.seq
  (.reg [.op none (some 1) (.mov (.c (.pointer none)))])
  (.seq
  (.reg [.op none (some 10) (.mov (.t 1)),
    .op none (some 11) (.bldSl 5 1 [.int .u8 0] [(0, 1, .c (.int .u8 1))]),
    .call none (some 12) 12 [.t 10, .t 11]])
  (.seq
  (.seq
  (.reg [.op none (some 13) (.mov (.t 1)),
    .call none (some 14) 13 [.t 13],
    .op none (some 15) (.bin .neq (.t 14) (.c (.int .u64 0))),
    .op none (some 16) (.mov (.t 15)),
    .op (some (16, false)) (some 17) (.mov (.t 1)),
    .call (some (16, false)) (some 18) 14 [.t 17],
    .op (some (16, false)) (some 19) (.bld [.int .u8 0, .int .u8 0, .int .u8 0, .int .u8 0, .int .u8 0, .int .u8 0, .int .u8 0, .int .u8 0, .int .u8 0, .int .u8 0, .int .u8 0, .int .u8 0, .int .u8 0, .int .u8 0, .int .u8 0, .int .u8 0, .int .u8 0, .int .u8 0, .int .u8 0, .int .u8 0, .int .u8 0, .int .u8 0, .int .u8 0, .int .u8 0, .int .u8 0, .int .u8 0, .int .u8 0, .int .u8 0, .int .u8 0, .int .u8 0, .int .u8 0, .int .u8 0] []),
    .op (some (16, false)) (some 20) (.eql true (.cells 32) (.t 18) (.t 19)),
    .op none (some 21) (.pick (.t 16) (.c (.bool true)) (.t 20)),
    .op none (some 22) (.mov (.t 21)),
    .op (some (22, false)) (some 23) (.mov (.t 1)),
    .call (some (22, false)) (some 24) 16 [.t 23],
    .op (some (22, false)) (some 25) (.eql true .ptr (.t 24) (.c (.pointer none))),
    .op none (some 26) (.pick (.t 22) (.c (.bool true)) (.t 25))])
  (.cond (.t 26)
    (.seq
    (.reg [.op none (some 0) (.mov (.c (.bool false)))])
    .ret)
    .skip))
  (.seq
  (.seq
  (.reg [.op none (some 2) (.mov (.c (.int .i64 0)))])
  (.block 0
  (.loop F7_l0)))
  (.seq
  (.reg [.op none (some 91) (.bldSl 9 4 [.string (⟨#[]⟩), .string (⟨#[]⟩), .string (⟨#[]⟩), .string (⟨#[]⟩)] [(0, 1, .c (.string (⟨#[]⟩))), (1, 1, .c (.string (⟨#[97, 98, 99]⟩))), (2, 1, .c (.string (⟨#[97, 98, 99, 100, 98, 99, 100, 101, 99, 100, 101, 102, 100, 101, 102, 103, 101, 102, 103, 104, 102, 103, 104, 105, 103, 104, 105, 106, 104, 105, 106, 107, 105, 106, 107, 108, 106, 107, 108, 109, 107, 108, 109, 110, 108, 109, 110, 111, 109, 110, 111, 112, 110, 111, 112, 113]⟩))), (3, 1, .c (.string (⟨#[97, 98, 99, 100, 101, 102, 103, 104, 98, 99, 100, 101, 102, 103, 104, 105, 99, 100, 101, 102, 103, 104, 105, 106, 100, 101, 102, 103, 104, 105, 106, 107, 101, 102, 103, 104, 105, 106, 107, 108, 102, 103, 104, 105, 106, 107, 108, 109, 103, 104, 105, 106, 107, 108, 109, 110, 104, 105, 106, 107, 108, 109, 110, 111, 105, 106, 107, 108, 109, 110, 111, 112, 106, 107, 108, 109, 110, 111, 112, 113, 107, 108, 109, 110, 111, 112, 113, 114, 108, 109, 110, 111, 112, 113, 114, 115, 109, 110, 111, 112, 113, 114, 115, 116, 110, 111, 112, 113, 114, 115, 116, 117]⟩)))]),
    .op none (some 6) (.mov (.t 91))])
  (.seq
  (.reg [.op none (some 92) (.bldSl 9 4 [.string (⟨#[]⟩), .string (⟨#[]⟩), .string (⟨#[]⟩), .string (⟨#[]⟩)] [(0, 1, .c (.string (⟨#[101, 51, 98, 48, 99, 52, 52, 50, 57, 56, 102, 99, 49, 99, 49, 52, 57, 97, 102, 98, 102, 52, 99, 56, 57, 57, 54, 102, 98, 57, 50, 52, 50, 55, 97, 101, 52, 49, 101, 52, 54, 52, 57, 98, 57, 51, 52, 99, 97, 52, 57, 53, 57, 57, 49, 98, 55, 56, 53, 50, 98, 56, 53, 53]⟩))), (1, 1, .c (.string (⟨#[98, 97, 55, 56, 49, 54, 98, 102, 56, 102, 48, 49, 99, 102, 101, 97, 52, 49, 52, 49, 52, 48, 100, 101, 53, 100, 97, 101, 50, 50, 50, 51, 98, 48, 48, 51, 54, 49, 97, 51, 57, 54, 49, 55, 55, 97, 57, 99, 98, 52, 49, 48, 102, 102, 54, 49, 102, 50, 48, 48, 49, 53, 97, 100]⟩))), (2, 1, .c (.string (⟨#[50, 52, 56, 100, 54, 97, 54, 49, 100, 50, 48, 54, 51, 56, 98, 56, 101, 53, 99, 48, 50, 54, 57, 51, 48, 99, 51, 101, 54, 48, 51, 57, 97, 51, 51, 99, 101, 52, 53, 57, 54, 52, 102, 102, 50, 49, 54, 55, 102, 54, 101, 99, 101, 100, 100, 52, 49, 57, 100, 98, 48, 54, 99, 49]⟩))), (3, 1, .c (.string (⟨#[99, 102, 53, 98, 49, 54, 97, 55, 55, 56, 97, 102, 56, 51, 56, 48, 48, 51, 54, 99, 101, 53, 57, 101, 55, 98, 48, 52, 57, 50, 51, 55, 48, 98, 50, 52, 57, 98, 49, 49, 101, 56, 102, 48, 55, 97, 53, 49, 97, 102, 97, 99, 52, 53, 48, 51, 55, 97, 102, 101, 101, 57, 100, 49]⟩)))]),
    .op none (some 7) (.mov (.t 92))])
  (.seq
  (.seq
  (.reg [.op none (some 8) (.mov (.c (.int .i64 0)))])
  (.block 4
  (.loop F7_l2)))
  (.seq
  (.reg [.op none (some 167) (.bld [.int .u8 0, .int .u8 0, .int .u8 0, .int .u8 0, .int .u8 0, .int .u8 0, .int .u8 0, .int .u8 0, .int .u8 0, .int .u8 0, .int .u8 0, .int .u8 0, .int .u8 0, .int .u8 0, .int .u8 0, .int .u8 0, .int .u8 0, .int .u8 0, .int .u8 0, .int .u8 0, .int .u8 0, .int .u8 0, .int .u8 0, .int .u8 0, .int .u8 0, .int .u8 0, .int .u8 0, .int .u8 0, .int .u8 0, .int .u8 0, .int .u8 0, .int .u8 0] []),
    .call none (some 168) 6 [.t 167, .c (.string (⟨#[]⟩))],
    .op none (some 169) (.mov (.t 168)),
    .call (some (169, true)) (some 170) 4 [.c (.slice none 0 0)],
    .op none (some 171) (.pick (.t 169) (.t 170) (.c (.bool false))),
    .op none (some 172) (.mov (.t 171)),
    .call (some (172, true)) (some 173) 8 [],
    .op none (some 174) (.pick (.t 172) (.t 173) (.c (.bool false))),
    .op none (some 0) (.mov (.t 174))])
  .ret))))))))) }
theorem F7_ok : compFun Tryd.prog 3 Tryd.f7 = some F7 := by kernel_rfl

end Go.Proofs.YtidngakhkpodgaaDoor
