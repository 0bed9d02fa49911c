/-
  Functions of the program, compiled for the abstract machine: printed by a program of ours (gen.py).
-/
import Derived.Test.YtgkmlbkocgjmmaaDoorA3
import Derived.Test.YtgkmlbkocgjmmaaDoorProg
import Derived.KernelRfl
set_option linter.unusedVariables false
set_option linter.unusedSimpArgs false
set_option linter.unnecessarySimpa false
namespace Go.Proofs.YtgkmlbkocgjmmaaDoor
open Go Go.AM
set_option maxRecDepth 100000

def F8_l1 : ACode :=
  (.seq
  (.seq
  (.reg [.op none (some 80) (.mov (.t 13)),
    .op none (some 81) (.mov (.t 1)),
    .op none (some 82) (.lenV (.t 81)),
    .op none (some 83) (.bin .lss (.t 80) (.t 82)),
    .op none (some 84) (.mov (.t 83)),
    .op (some (84, true)) (some 85) (.mov (.t 14)),
    .op (some (84, true)) (some 86) (.mov (.t 1)),
    .op (some (84, true)) (some 87) (.mov (.t 13)),
    .op (some (84, true)) (some 88) (.iadV 1 (.t 86) (.t 87)),
    .op (some (84, true)) (some 89) (.ld1 (.t 88)),
    .op (some (84, true)) (some 90) (.lenV (.t 89)),
    .op (some (84, true)) (some 91) (.bin .lss (.t 85) (.t 90)),
    .op none (some 92) (.pick (.t 84) (.t 91) (.c (.bool false)))])
  (.cond (.t 92)
    .skip
    (.exit 2)))
  (.seq
  (.block 3
  (.seq
  (.reg [.op none (some 95) (.mov (.t 0)),
    .op none (some 96) (.mov (.t 1)),
    .op none (some 97) (.mov (.t 13)),
    .op none (some 98) (.iadV 1 (.t 96) (.t 97)),
    .op none (some 99) (.ld1 (.t 98)),
    .op none (some 100) (.mov (.t 14)),
    .op none (some 101) (.iadV 1 (.t 99) (.t 100)),
    .op none (some 102) (.ld1 (.t 101)),
    .call none (some 103) 28 [.t 95, .t 102],
    .op none (some 15) (.mov (.t 103))])
  (.seq
  (.reg [.op none (some 104) (.mov (.t 15)),
    .op none (some 105) (.bin .geq (.t 104) (.c (.int .i64 0))),
    .op none (some 106) (.mov (.t 105)),
    .op (some (106, true)) (some 107) (.mov (.t 10)),
    .op (some (106, true)) (some 108) (.bin .eql (.t 107) (.c (.int .i64 0))),
    .op (some (106, true)) (some 109) (.mov (.t 108)),
    .op (some (109, true)) (some 110) (.mov (.t 9)),
    .op (some (109, true)) (some 111) (.mov (.t 15)),
    .call (some (109, true)) (some 112) 29 [.t 110, .t 111],
    .op (some (109, true)) (some 113) (.mov (.t 9)),
    .op (some (109, true)) (some 114) (.mov (.t 13)),
    .call (some (109, true)) (some 115) 29 [.t 113, .t 114],
    .op (some (109, true)) (some 116) (.bin .geq (.t 112) (.t 115)),
    .op (some (106, true)) (some 117) (.pick (.t 109) (.t 116) (.c (.bool false))),
    .op (some (106, true)) (some 118) (.mov (.t 117)),
    .op (some (118, false)) (some 119) (.mov (.t 11)),
    .op (some (118, false)) (some 120) (.mov (.t 13)),
    .call (some (118, false)) (some 121) 29 [.t 119, .t 120],
    .op (some (118, false)) (some 122) (.bin .geq (.t 121) (.c (.int .i64 0))),
    .op (some (118, false)) (some 123) (.mov (.t 122)),
    .op (some (123, true)) (some 124) (.mov (.t 11)),
    .op (some (123, true)) (some 125) (.mov (.t 15)),
    .call (some (123, true)) (some 126) 29 [.t 124, .t 125],
    .op (some (123, true)) (some 127) (.bin .lss (.t 126) (.c (.int .i64 0))),
    .op (some (118, false)) (some 128) (.pick (.t 123) (.t 127) (.c (.bool false))),
    .op (some (106, true)) (some 129) (.pick (.t 118) (.c (.bool true)) (.t 128)),
    .op none (some 130) (.pick (.t 106) (.t 129) (.c (.bool false)))])
  (.cond (.t 130)
    (.seq
    (.reg [.op none (some 8) (.mov (.c (.bool false)))])
    .ret)
    .skip))))
  (.reg [.op none (some 93) (.mov (.t 14)),
    .op none (some 94) (.bin .add (.t 93) (.c (.int .i64 1))),
    .op none (some 14) (.mov (.t 94))])))

def F8_l0 : ACode :=
  (.seq
  (.seq
  (.reg [.op none (some 74) (.mov (.t 13)),
    .op none (some 75) (.mov (.t 0)),
    .op none (some 76) (.lenV (.t 75)),
    .op none (some 77) (.bin .lss (.t 74) (.t 76))])
  (.cond (.t 77)
    .skip
    (.exit 0)))
  (.seq
  (.block 1
  (.seq
  (.seq
  (.reg [.op none (some 14) (.mov (.c (.int .i64 0)))])
  (.block 2
  (.loop F8_l1)))
  (.seq
  (.reg [.op none (some 131) (.mov (.t 10)),
    .op none (some 132) (.bin .eql (.t 131) (.c (.int .i64 0))),
    .op none (some 133) (.mov (.t 132)),
    .op (some (133, true)) (some 134) (.mov (.t 9)),
    .op (some (133, true)) (some 135) (.mov (.t 13)),
    .call (some (133, true)) (some 136) 29 [.t 134, .t 135],
    .op (some (133, true)) (some 137) (.bin .lss (.t 136) (.c (.int .i64 0))),
    .op none (some 138) (.pick (.t 133) (.t 137) (.c (.bool false)))])
  (.cond (.t 138)
    (.seq
    (.reg [.op none (some 8) (.mov (.c (.bool false)))])
    .ret)
    .skip))))
  (.reg [.op none (some 78) (.mov (.t 13)),
    .op none (some 79) (.bin .add (.t 78) (.c (.int .i64 1))),
    .op none (some 13) (.mov (.t 79))])))

def F8_l2 : ACode :=
  (.seq
  (.seq
  (.reg [.op none (some 139) (.mov (.t 17)),
    .op none (some 140) (.mov (.t 11)),
    .op none (some 141) (.lenV (.t 140)),
    .op none (some 142) (.bin .lss (.t 139) (.t 141))])
  (.cond (.t 142)
    .skip
    (.exit 4)))
  (.seq
  (.block 5
  (.reg [.op none (some 145) (.mov (.t 16)),
    .op none (some 146) (.mov (.t 0)),
    .op none (some 147) (.mov (.t 11)),
    .op none (some 148) (.mov (.t 17)),
    .op none (some 149) (.iadV 1 (.t 147) (.t 148)),
    .op none (some 150) (.ld1 (.t 149)),
    .op none (some 151) (.iadV 1 (.t 146) (.t 150)),
    .op none (some 152) (.ld1 (.t 151)),
    .op none (some 153) (.bldSl 9 1 [.string (⟨#[]⟩)] [(0, 1, .t 152)]),
    .op none (some 154) (.app 9 1 16 [.string (⟨#[]⟩)] (.t 145) (.t 153)),
    .op none (some 16) (.mov (.t 154))]))
  (.reg [.op none (some 143) (.mov (.t 17)),
    .op none (some 144) (.bin .add (.t 143) (.c (.int .i64 1))),
    .op none (some 17) (.mov (.t 144))])))

def F8_l3 : ACode :=
  (.seq
  (.seq
  (.reg [.op none (some 176) (.mov (.t 23)),
    .op none (some 177) (.mov (.t 11)),
    .op none (some 178) (.lenV (.t 177)),
    .op none (some 179) (.bin .lss (.t 176) (.t 178))])
  (.cond (.t 179)
    .skip
    (.exit 6)))
  (.seq
  (.block 7
  (.seq
  (.reg [.op none (some 182) (.mov (.t 21)),
    .op none (some 183) (.mov (.t 11)),
    .op none (some 184) (.mov (.t 23)),
    .op none (some 185) (.iadV 1 (.t 183) (.t 184)),
    .op none (some 186) (.ld1 (.t 185)),
    .call none (some 187) 29 [.t 182, .t 186],
    .op none (some 188) (.bin .lss (.t 187) (.c (.int .i64 0)))])
  (.cond (.t 188)
    (.seq
    (.reg [.op none (some 8) (.mov (.c (.bool false)))])
    .ret)
    .skip)))
  (.reg [.op none (some 180) (.mov (.t 23)),
    .op none (some 181) (.bin .add (.t 180) (.c (.int .i64 1))),
    .op none (some 23) (.mov (.t 181))])))

def F8_l4 : ACode :=
  (.seq
  (.seq
  (.reg [.op none (some 189) (.mov (.t 24)),
    .op none (some 190) (.mov (.t 2)),
    .op none (some 191) (.lenV (.t 190)),
    .op none (some 192) (.bin .lss (.t 189) (.t 191))])
  (.cond (.t 192)
    .skip
    (.exit 8)))
  (.seq
  (.block 9
  (.seq
  (.reg [.op none (some 195) (.mov (.t 0)),
    .op none (some 196) (.mov (.t 2)),
    .op none (some 197) (.mov (.t 24)),
    .op none (some 198) (.iadV 1 (.t 196) (.t 197)),
    .op none (some 199) (.ld1 (.t 198)),
    .call none (some 200) 28 [.t 195, .t 199],
    .op none (some 25) (.mov (.t 200))])
  (.seq
  (.reg [.op none (some 201) (.mov (.t 25)),
    .op none (some 202) (.bin .geq (.t 201) (.c (.int .i64 0))),
    .op none (some 203) (.mov (.t 202)),
    .op (some (203, true)) (some 204) (.mov (.t 11)),
    .op (some (203, true)) (some 205) (.mov (.t 25)),
    .call (some (203, true)) (some 206) 29 [.t 204, .t 205],
    .op (some (203, true)) (some 207) (.bin .lss (.t 206) (.c (.int .i64 0))),
    .op none (some 208) (.pick (.t 203) (.t 207) (.c (.bool false)))])
  (.cond (.t 208)
    (.seq
    (.reg [.op none (some 8) (.mov (.c (.bool false)))])
    .ret)
    .skip))))
  (.reg [.op none (some 193) (.mov (.t 24)),
    .op none (some 194) (.bin .add (.t 193) (.c (.int .i64 1))),
    .op none (some 24) (.mov (.t 194))])))

def F8 : AFun :=
  { n := 223, res := [.t 8], code :=
  (.seq
  (.reg [.op none (some 8) (.mov (.c (.bool false)))])
  (.seq
  (.seq
  (.reg [.op none (some 26) (.mov (.t 0)),
    .op none (some 27) (.mov (.t 1)),
    .call none (some 28) 21 [.t 26, .t 27],
    .op none (some 29) (.un .not (.t 28)),
    .op none (some 30) (.mov (.t 29)),
    .op (some (30, false)) (some 31) (.mov (.t 2)),
    .call (some (30, false)) (some 32) 25 [.t 31, .c (.int .i64 30)],
    .op (some (30, false)) (some 33) (.un .not (.t 32)),
    .op none (some 34) (.pick (.t 30) (.c (.bool true)) (.t 33)),
    .op none (some 35) (.mov (.t 34)),
    .op (some (35, false)) (some 36) (.mov (.t 3)),
    .op (some (35, false)) (some 37) (.lenS (.t 36)),
    .op (some (35, false)) (some 38) (.bin .gtr (.t 37) (.c (.int .i64 200))),
    .op none (some 39) (.pick (.t 35) (.c (.bool true)) (.t 38))])
  (.cond (.t 39)
    (.seq
    (.reg [.call none (some 40) 11 [],
      .op none (some 8) (.mov (.t 40))])
    .ret)
    .skip))
  (.seq
  (.reg [.op none (some 42) (.mov (.t 0)),
    .op none (some 43) (.mov (.t 1)),
    .call none (some 44) 22 [.t 42, .t 43],
    .op none (some 41) (.mov (.t 44)),
    .op none (some 45) (.ext 0 (.t 41)),
    .op none (some 46) (.ext 1 (.t 41)),
    .op none (some 9) (.mov (.t 45)),
    .op none (some 10) (.mov (.t 46))])
  (.seq
  (.reg [.op none (some 48) (.mov (.t 0)),
    .op none (some 49) (.mov (.t 1)),
    .op none (some 50) (.mov (.t 2)),
    .call none (some 51) 26 [.t 48, .t 49, .t 50],
    .op none (some 47) (.mov (.t 51)),
    .op none (some 52) (.ext 0 (.t 47)),
    .op none (some 53) (.ext 1 (.t 47)),
    .op none (some 11) (.mov (.t 52)),
    .op none (some 12) (.mov (.t 53))])
  (.seq
  (.seq
  (.reg [.op none (some 54) (.mov (.t 12)),
    .op none (some 55) (.bin .neq (.t 54) (.c (.int .i64 0)))])
  (.cond (.t 55)
    (.seq
    (.reg [.op none (some 56) (.mov (.t 10)),
      .op none (some 57) (.bin .eql (.t 56) (.c (.int .i64 151))),
      .op none (some 58) (.mov (.t 57)),
      .op (some (58, true)) (some 59) (.mov (.t 12)),
      .op (some (58, true)) (some 60) (.bin .eql (.t 59) (.c (.int .i64 151))),
      .op none (some 61) (.pick (.t 58) (.t 60) (.c (.bool false))),
      .op none (some 62) (.mov (.t 61)),
      .call (some (62, true)) (some 63) 11 [],
      .op none (some 64) (.pick (.t 62) (.t 63) (.c (.bool false))),
      .op none (some 8) (.mov (.t 64))])
    .ret)
    .skip))
  (.seq
  (.seq
  (.reg [.op none (some 65) (.mov (.t 10)),
    .op none (some 66) (.bin .eql (.t 65) (.c (.int .i64 0))),
    .op none (some 67) (.mov (.t 66)),
    .op (some (67, true)) (some 68) (.mov (.t 9)),
    .op (some (67, true)) (some 69) (.lenV (.t 68)),
    .op (some (67, true)) (some 70) (.mov (.t 0)),
    .op (some (67, true)) (some 71) (.lenV (.t 70)),
    .op (some (67, true)) (some 72) (.bin .neq (.t 69) (.t 71)),
    .op none (some 73) (.pick (.t 67) (.t 72) (.c (.bool false)))])
  (.cond (.t 73)
    (.seq
    (.reg [.op none (some 8) (.mov (.c (.bool false)))])
    .ret)
    .skip))
  (.seq
  (.seq
  (.reg [.op none (some 13) (.mov (.c (.int .i64 0)))])
  (.block 0
  (.loop F8_l0)))
  (.seq
  (.reg [.op none (some 16) (.mov (.c (.slice none 0 0)))])
  (.seq
  (.seq
  (.reg [.op none (some 17) (.mov (.c (.int .i64 0)))])
  (.block 4
  (.loop F8_l2)))
  (.seq
  (.reg [.op none (some 156) (.mov (.t 0)),
    .op none (some 157) (.mov (.t 1)),
    .op none (some 158) (.mov (.t 16)),
    .call none (some 159) 26 [.t 156, .t 157, .t 158],
    .op none (some 155) (.mov (.t 159)),
    .op none (some 160) (.ext 0 (.t 155)),
    .op none (some 161) (.ext 1 (.t 155)),
    .op none (some 18) (.mov (.t 160)),
    .op none (some 19) (.mov (.t 161))])
  (.seq
  (.reg [.op none (some 20) (.mov (.c (.slice none 0 0)))])
  (.seq
  (.reg [.op none (some 162) (.mov (.t 20)),
    .op none (some 163) (.mov (.t 2)),
    .op none (some 164) (.app 9 1 16 [.string (⟨#[]⟩)] (.t 162) (.t 163)),
    .op none (some 20) (.mov (.t 164))])
  (.seq
  (.reg [.op none (some 165) (.mov (.t 20)),
    .op none (some 166) (.mov (.t 3)),
    .op none (some 167) (.bldSl 9 1 [.string (⟨#[]⟩)] [(0, 1, .t 166)]),
    .op none (some 168) (.app 9 1 16 [.string (⟨#[]⟩)] (.t 165) (.t 167)),
    .op none (some 20) (.mov (.t 168))])
  (.seq
  (.reg [.op none (some 170) (.mov (.t 0)),
    .op none (some 171) (.mov (.t 1)),
    .op none (some 172) (.mov (.t 20)),
    .call none (some 173) 26 [.t 170, .t 171, .t 172],
    .op none (some 169) (.mov (.t 173)),
    .op none (some 174) (.ext 0 (.t 169)),
    .op none (some 175) (.ext 1 (.t 169)),
    .op none (some 21) (.mov (.t 174)),
    .op none (some 22) (.mov (.t 175))])
  (.seq
  (.seq
  (.reg [.op none (some 23) (.mov (.c (.int .i64 0)))])
  (.block 6
  (.loop F8_l3)))
  (.seq
  (.seq
  (.reg [.op none (some 24) (.mov (.c (.int .i64 0)))])
  (.block 8
  (.loop F8_l4)))
  (.seq
  (.reg [.op none (some 209) (.mov (.t 19)),
    .op none (some 210) (.bin .eql (.t 209) (.c (.int .i64 0))),
    .op none (some 211) (.mov (.t 210)),
    .op (some (211, true)) (some 212) (.mov (.t 22)),
    .op (some (211, true)) (some 213) (.bin .eql (.t 212) (.c (.int .i64 0))),
    .op none (some 214) (.pick (.t 211) (.t 213) (.c (.bool false))),
    .op none (some 215) (.mov (.t 214)),
    .op (some (215, true)) (some 216) (.mov (.t 11)),
    .op (some (215, true)) (some 217) (.mov (.t 18)),
    .call (some (215, true)) (some 218) 24 [.t 216, .t 217],
    .op none (some 219) (.pick (.t 215) (.t 218) (.c (.bool false))),
    .op none (some 220) (.mov (.t 219)),
    .call (some (220, true)) (some 221) 11 [],
    .op none (some 222) (.pick (.t 220) (.t 221) (.c (.bool false))),
    .op none (some 8) (.mov (.t 222))])
  .ret))))))))))))))))) }
theorem F8_ok : compFun Tryd.prog 3 Tryd.f8 = some F8 := by kernel_rfl

end Go.Proofs.YtgkmlbkocgjmmaaDoor
