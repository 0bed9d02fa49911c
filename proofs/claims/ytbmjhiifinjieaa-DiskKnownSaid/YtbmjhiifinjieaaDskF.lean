/-
  Functions of the program, compiled for the abstract machine: printed by a program of ours (gen.py).
-/
import Derived.Test.YtbmjhiifinjieaaA3
import Derived.Test.YtbmjhiifinjieaaProg
import Derived.KernelRfl
set_option linter.unusedVariables false
set_option linter.unusedSimpArgs false
set_option linter.unnecessarySimpa false
namespace Go.Proofs.Ytbmjhiifinjieaa
open Go Go.AM
set_option maxRecDepth 100000

def F3_l0 : ACode :=
  (.seq
  (.seq
  (.reg [.op none (some 30) (.mov (.t 15)),
    .op none (some 31) (.mov (.t 0)),
    .op none (some 32) (.lenV (.t 31)),
    .op none (some 33) (.bin .lss (.t 30) (.t 32)),
    .op none (some 34) (.mov (.t 33)),
    .op (some (34, true)) (some 35) (.mov (.t 11)),
    .call (some (34, true)) (some 36) 13 [.t 35],
    .op (some (34, true)) (some 37) (.un .not (.t 36)),
    .op none (some 38) (.pick (.t 34) (.t 37) (.c (.bool false)))])
  (.cond (.t 38)
    .skip
    (.exit 0)))
  (.seq
  (.block 1
  (.seq
  (.seq
  (.reg [.op none (some 41) (.mov (.t 0)),
    .op none (some 42) (.mov (.t 15)),
    .op none (some 43) (.iadV 1 (.t 41) (.t 42)),
    .op none (some 44) (.ld1 (.t 43)),
    .op none (some 45) (.lenS (.t 44)),
    .op none (some 46) (.bin .gtr (.t 45) (.c (.int .i64 100)))])
  (.cond (.t 46)
    (.seq
    (.reg [.call none (some 47) 10 [],
      .op none (some 10) (.mov (.t 47))])
    .ret)
    .skip))
  (.seq
  (.reg [.op none (some 48) (.mov (.t 11)),
    .op none (some 49) (.mov (.t 0)),
    .op none (some 50) (.mov (.t 15)),
    .op none (some 51) (.iadV 1 (.t 49) (.t 50)),
    .op none (some 52) (.ld1 (.t 51)),
    .op none (some 53) (.s2b 5 (.t 52)),
    .call none (some 54) 14 [.t 48, .c (.string (⟨#[102]⟩)), .t 53],
    .op none (some 16) (.mov (.t 54))])
  (.seq
  (.seq
  (.reg [.op none (some 55) (.mov (.t 16)),
    .op none (some 56) (.bin .neq (.t 55) (.c (.int .i64 0))),
    .op none (some 57) (.mov (.t 56)),
    .op (some (57, true)) (some 58) (.mov (.t 16)),
    .op (some (57, true)) (some 59) (.bin .neq (.t 58) (.c (.int .i64 40))),
    .op none (some 60) (.pick (.t 57) (.t 59) (.c (.bool false)))])
  (.cond (.t 60)
    (.seq
    (.reg [.op none (some 10) (.mov (.c (.bool false)))])
    .ret)
    .skip))
  (.seq
  (.reg [.op none (some 61) (.mov (.t 12)),
    .op none (some 62) (.mov (.t 0)),
    .op none (some 63) (.mov (.t 15)),
    .op none (some 64) (.iadV 1 (.t 62) (.t 63)),
    .op none (some 65) (.ld1 (.t 64)),
    .op none (some 66) (.bin .add (.t 61) (.t 65)),
    .op none (some 12) (.mov (.t 66))])
  (.seq
  (.reg [.op none (some 67) (.mov (.t 1)),
    .op none (some 68) (.mov (.t 15)),
    .op none (some 69) (.bin .shr (.t 67) (.t 68)),
    .op none (some 70) (.bin .and (.t 69) (.c (.int .u32 1))),
    .op none (some 71) (.bin .eql (.t 70) (.c (.int .u32 1))),
    .op none (some 72) (.mov (.t 71)),
    .op (some (72, true)) (some 73) (.mov (.t 11)),
    .call (some (72, true)) (some 74) 15 [.t 73, .c (.string (⟨#[102]⟩))],
    .op (some (72, true)) (some 75) (.bin .eql (.t 74) (.c (.int .i64 0))),
    .op none (some 76) (.pick (.t 72) (.t 75) (.c (.bool false)))])
  (.cond (.t 76)
    (.seq
    (.reg [.op none (some 77) (.mov (.t 12)),
      .op none (some 78) (.lenS (.t 77)),
      .op none (some 13) (.mov (.t 78))])
    (.reg [.op none (some 14) (.mov (.c (.bool true)))]))
    .skip)))))))
  (.reg [.op none (some 39) (.mov (.t 15)),
    .op none (some 40) (.bin .add (.t 39) (.c (.int .i64 1))),
    .op none (some 15) (.mov (.t 40))])))

def F3 : AFun :=
  { n := 150, res := [.t 10], code :=
  (.seq
  (.reg [.op none (some 10) (.mov (.c (.bool false)))])
  (.seq
  (.seq
  (.reg [.op none (some 22) (.mov (.t 0)),
    .op none (some 23) (.lenV (.t 22)),
    .op none (some 24) (.bin .gtr (.t 23) (.c (.int .i64 30)))])
  (.cond (.t 24)
    (.seq
    (.reg [.call none (some 25) 10 [],
      .op none (some 10) (.mov (.t 25))])
    .ret)
    .skip))
  (.seq
  (.reg [.call none (some 26) 11 [.c (.int .i64 1048576)],
    .op none (some 11) (.mov (.t 26))])
  (.seq
  (.reg [.op none (some 27) (.mov (.t 11)),
    .op none (some 28) (.mov (.t 2)),
    .call none (some 29) 12 [.t 27, .t 28]])
  (.seq
  (.reg [.op none (some 12) (.mov (.c (.string (⟨#[]⟩)))),
    .op none (some 13) (.mov (.c (.int .i64 0))),
    .op none (some 14) (.mov (.c (.bool false)))])
  (.seq
  (.seq
  (.reg [.op none (some 15) (.mov (.c (.int .i64 0)))])
  (.block 0
  (.loop F3_l0)))
  (.seq
  (.reg [.op none (some 79) (.mov (.t 11)),
    .call none (some 80) 16 [.t 79]])
  (.seq
  (.reg [.op none (some 81) (.mov (.t 11)),
    .op none (some 82) (.mov (.t 3)),
    .op none (some 83) (.bldSl 3 1 [.int .i64 0] [(0, 1, .t 82)]),
    .call none (some 84) 17 [.t 81, .t 83]])
  (.seq
  (.reg [.op none (some 86) (.mov (.t 11)),
    .call none (some 87) 18 [.t 86, .c (.string (⟨#[102]⟩))],
    .op none (some 85) (.mov (.t 87)),
    .op none (some 88) (.ext 0 (.t 85)),
    .op none (some 89) (.ext 1 (.t 85)),
    .op none (some 17) (.mov (.t 88)),
    .op none (some 18) (.mov (.t 89))])
  (.seq
  (.reg [.op none (some 90) (.mov (.t 13)),
    .op none (some 91) (.mov (.t 3)),
    .op none (some 92) (.bldSl 3 1 [.int .i64 0] [(0, 1, .t 91)]),
    .op none (some 93) (.mov (.t 12)),
    .op none (some 94) (.lenS (.t 93)),
    .op none (some 95) (.mov (.t 13)),
    .op none (some 96) (.bin .sub (.t 94) (.t 95)),
    .call none (some 97) 19 [.t 92, .c (.int .i64 0), .t 96],
    .op none (some 98) (.bin .add (.t 90) (.t 97)),
    .op none (some 19) (.mov (.t 98))])
  (.seq
  (.seq
  (.reg [.op none (some 99) (.mov (.t 19)),
    .op none (some 100) (.bin .eql (.t 99) (.c (.int .i64 0))),
    .op none (some 101) (.mov (.t 100)),
    .op (some (101, true)) (some 102) (.mov (.t 14)),
    .op (some (101, true)) (some 103) (.un .not (.t 102)),
    .op none (some 104) (.pick (.t 101) (.t 103) (.c (.bool false)))])
  (.cond (.t 104)
    (.seq
    (.reg [.op none (some 105) (.mov (.t 18)),
      .op none (some 106) (.bin .eql (.t 105) (.c (.int .i64 5))),
      .op none (some 107) (.mov (.t 106)),
      .op (some (107, true)) (some 108) (.mov (.t 11)),
      .call (some (107, true)) (some 109) 20 [.t 108],
      .op (some (107, true)) (some 110) (.lenV (.t 109)),
      .op (some (107, true)) (some 111) (.bin .eql (.t 110) (.c (.int .i64 0))),
      .op none (some 112) (.pick (.t 107) (.t 111) (.c (.bool false))),
      .op none (some 113) (.mov (.t 112)),
      .call (some (113, true)) (some 114) 10 [],
      .op none (some 115) (.pick (.t 113) (.t 114) (.c (.bool false))),
      .op none (some 10) (.mov (.t 115))])
    .ret)
    .skip))
  (.seq
  (.seq
  (.draw [.f (.op none (some 116) (.mov (.t 18))),
    .f (.op none (some 117) (.bin .neq (.t 116) (.c (.int .i64 0)))),
    .f (.op none (some 118) (.mov (.t 117))),
    .f (.op (some (118, false)) (some 119) (.mov (.t 17))),
    .f (.op (some (118, false)) (some 120) (.b2s (.t 119))),
    .f (.op (some (118, false)) (some 121) (.mov (.t 12))),
    .f (.op (some (118, false)) (some 122) (.mov (.t 19))),
    .f (.op (some (118, false)) (some 123) (.slS (.t 121) none (some (.t 122)))),
    .f (.op (some (118, false)) (some 124) (.bin .neq (.t 120) (.t 123))),
    .f (.op none (some 125) (.pick (.t 118) (.c (.bool true)) (.t 124)))])
  (.cond (.t 125)
    (.seq
    (.reg [.op none (some 10) (.mov (.c (.bool false)))])
    .ret)
    .skip))
  (.seq
  (.reg [.op none (some 126) (.mov (.t 11)),
    .call none (some 127) 16 [.t 126]])
  (.seq
  (.reg [.op none (some 128) (.mov (.t 11)),
    .op none (some 129) (.mov (.t 4)),
    .op none (some 130) (.bldSl 3 1 [.int .i64 0] [(0, 1, .t 129)]),
    .call none (some 131) 17 [.t 128, .t 130]])
  (.seq
  (.reg [.op none (some 133) (.mov (.t 11)),
    .call none (some 134) 18 [.t 133, .c (.string (⟨#[102]⟩))],
    .op none (some 132) (.mov (.t 134)),
    .op none (some 135) (.ext 0 (.t 132)),
    .op none (some 136) (.ext 1 (.t 132)),
    .op none (some 20) (.mov (.t 135)),
    .op none (some 21) (.mov (.t 136))])
  (.seq
  (.draw [.f (.op none (some 137) (.mov (.t 21))),
    .f (.op none (some 138) (.bin .eql (.t 137) (.c (.int .i64 0)))),
    .f (.op none (some 139) (.mov (.t 138))),
    .f (.op (some (139, true)) (some 140) (.mov (.t 20))),
    .f (.op (some (139, true)) (some 141) (.b2s (.t 140))),
    .f (.op (some (139, true)) (some 142) (.mov (.t 12))),
    .f (.op (some (139, true)) (some 143) (.mov (.t 19))),
    .f (.op (some (139, true)) (some 144) (.slS (.t 142) none (some (.t 143)))),
    .f (.op (some (139, true)) (some 145) (.bin .eql (.t 141) (.t 144))),
    .f (.op none (some 146) (.pick (.t 139) (.t 145) (.c (.bool false)))),
    .f (.op none (some 147) (.mov (.t 146))),
    .b (.call (some (147, true)) (some 148) 10 []) [],
    .f (.op none (some 149) (.pick (.t 147) (.t 148) (.c (.bool false)))),
    .f (.op none (some 10) (.mov (.t 149)))])
  .ret)))))))))))))))) }
theorem F3_ok : compFun Try.prog 0 Try.f3 = some F3 := by kernel_rfl

def F4 : AFun :=
  { n := 104, res := [.t 10], code :=
  (.seq
  (.reg [.op none (some 10) (.mov (.c (.bool false)))])
  (.seq
  (.seq
  (.reg [.op none (some 17) (.mov (.t 0)),
    .op none (some 18) (.lenS (.t 17)),
    .op none (some 19) (.bin .gtr (.t 18) (.c (.int .i64 200))),
    .op none (some 20) (.mov (.t 19)),
    .op (some (20, false)) (some 21) (.mov (.t 1)),
    .op (some (20, false)) (some 22) (.lenS (.t 21)),
    .op (some (20, false)) (some 23) (.bin .gtr (.t 22) (.c (.int .i64 200))),
    .op none (some 24) (.pick (.t 20) (.c (.bool true)) (.t 23))])
  (.cond (.t 24)
    (.seq
    (.reg [.call none (some 25) 10 [],
      .op none (some 10) (.mov (.t 25))])
    .ret)
    .skip))
  (.seq
  (.reg [.call none (some 26) 11 [.c (.int .i64 1000)],
    .op none (some 11) (.mov (.t 26))])
  (.seq
  (.seq
  (.reg [.op none (some 27) (.mov (.t 11)),
    .op none (some 28) (.mov (.t 0)),
    .op none (some 29) (.s2b 5 (.t 28)),
    .call none (some 30) 14 [.t 27, .c (.string (⟨#[97]⟩)), .t 29],
    .op none (some 31) (.bin .neq (.t 30) (.c (.int .i64 0))),
    .op none (some 32) (.mov (.t 31)),
    .op (some (32, false)) (some 33) (.mov (.t 11)),
    .call (some (32, false)) (some 34) 15 [.t 33, .c (.string (⟨#[97]⟩))],
    .op (some (32, false)) (some 35) (.bin .neq (.t 34) (.c (.int .i64 0))),
    .op none (some 36) (.pick (.t 32) (.c (.bool true)) (.t 35))])
  (.cond (.t 36)
    (.seq
    (.reg [.op none (some 10) (.mov (.c (.bool false)))])
    .ret)
    .skip))
  (.seq
  (.reg [.op none (some 37) (.mov (.t 11)),
    .op none (some 38) (.mov (.t 2)),
    .op none (some 39) (.bin .rem (.t 38) (.c (.int .u8 5))),
    .op none (some 40) (.cvt .i64 (.t 39)),
    .call none (some 41) 12 [.t 37, .t 40]])
  (.seq
  (.reg [.op none (some 42) (.mov (.t 11)),
    .op none (some 43) (.mov (.t 1)),
    .op none (some 44) (.s2b 5 (.t 43)),
    .call none (some 45) 14 [.t 42, .c (.string (⟨#[98]⟩)), .t 44],
    .op none (some 12) (.mov (.t 45))])
  (.seq
  (.seq
  (.reg [.op none (some 46) (.mov (.t 4)),
    .op none (some 47) (.mov (.t 46)),
    .op (some (47, true)) (some 48) (.mov (.t 12)),
    .op (some (47, true)) (some 49) (.bin .eql (.t 48) (.c (.int .i64 0))),
    .op none (some 50) (.pick (.t 47) (.t 49) (.c (.bool false)))])
  (.cond (.t 50)
    (.reg [.op none (some 51) (.mov (.t 11)),
      .call none (some 52) 15 [.t 51, .c (.string (⟨#[98]⟩))],
      .op none (some 12) (.mov (.t 52))])
    .skip))
  (.seq
  (.seq
  (.reg [.op none (some 53) (.mov (.t 12)),
    .op none (some 54) (.bin .eql (.t 53) (.c (.int .i64 0)))])
  (.cond (.t 54)
    (.reg [.op none (some 55) (.mov (.t 11)),
      .call none (some 56) 21 [.t 55, .c (.string (⟨#[98]⟩)), .c (.string (⟨#[97]⟩))],
      .op none (some 12) (.mov (.t 56))])
    .skip))
  (.seq
  (.reg [.op none (some 57) (.mov (.t 11)),
    .call none (some 58) 16 [.t 57]])
  (.seq
  (.reg [.op none (some 59) (.mov (.t 11)),
    .op none (some 60) (.mov (.t 3)),
    .call none (some 61) 17 [.t 59, .t 60]])
  (.seq
  (.reg [.op none (some 63) (.mov (.t 11)),
    .call none (some 64) 18 [.t 63, .c (.string (⟨#[97]⟩))],
    .op none (some 62) (.mov (.t 64)),
    .op none (some 65) (.ext 0 (.t 62)),
    .op none (some 66) (.ext 1 (.t 62)),
    .op none (some 13) (.mov (.t 65)),
    .op none (some 14) (.mov (.t 66))])
  (.seq
  (.reg [.op none (some 68) (.mov (.t 11)),
    .call none (some 69) 18 [.t 68, .c (.string (⟨#[98]⟩))],
    .op none (some 67) (.mov (.t 69)),
    .op none (some 70) (.ext 0 (.t 67)),
    .op none (some 71) (.ext 1 (.t 67)),
    .op none (some 15) (.mov (.t 70)),
    .op none (some 16) (.mov (.t 71))])
  (.seq
  (.seq
  (.reg [.op none (some 72) (.mov (.t 12)),
    .op none (some 73) (.bin .eql (.t 72) (.c (.int .i64 0)))])
  (.cond (.t 73)
    (.seq
    (.reg [.op none (some 74) (.mov (.t 14)),
      .op none (some 75) (.bin .eql (.t 74) (.c (.int .i64 0))),
      .op none (some 76) (.mov (.t 75)),
      .op (some (76, true)) (some 77) (.mov (.t 13)),
      .op (some (76, true)) (some 78) (.b2s (.t 77)),
      .op (some (76, true)) (some 79) (.mov (.t 1)),
      .op (some (76, true)) (some 80) (.bin .eql (.t 78) (.t 79)),
      .op none (some 81) (.pick (.t 76) (.t 80) (.c (.bool false))),
      .op none (some 82) (.mov (.t 81)),
      .op (some (82, true)) (some 83) (.mov (.t 16)),
      .op (some (82, true)) (some 84) (.bin .eql (.t 83) (.c (.int .i64 5))),
      .op none (some 85) (.pick (.t 82) (.t 84) (.c (.bool false))),
      .op none (some 86) (.mov (.t 85)),
      .call (some (86, true)) (some 87) 10 [],
      .op none (some 88) (.pick (.t 86) (.t 87) (.c (.bool false))),
      .op none (some 10) (.mov (.t 88))])
    .ret)
    .skip))
  (.seq
  (.reg [.op none (some 89) (.mov (.t 12)),
    .op none (some 90) (.bin .eql (.t 89) (.c (.int .i64 40))),
    .op none (some 91) (.mov (.t 90)),
    .op (some (91, true)) (some 92) (.mov (.t 14)),
    .op (some (91, true)) (some 93) (.bin .eql (.t 92) (.c (.int .i64 0))),
    .op none (some 94) (.pick (.t 91) (.t 93) (.c (.bool false))),
    .op none (some 95) (.mov (.t 94)),
    .op (some (95, true)) (some 96) (.mov (.t 13)),
    .op (some (95, true)) (some 97) (.b2s (.t 96)),
    .op (some (95, true)) (some 98) (.mov (.t 0)),
    .op (some (95, true)) (some 99) (.bin .eql (.t 97) (.t 98)),
    .op none (some 100) (.pick (.t 95) (.t 99) (.c (.bool false))),
    .op none (some 101) (.mov (.t 100)),
    .call (some (101, true)) (some 102) 10 [],
    .op none (some 103) (.pick (.t 101) (.t 102) (.c (.bool false))),
    .op none (some 10) (.mov (.t 103))])
  .ret)))))))))))))) }
theorem F4_ok : compFun Try.prog 0 Try.f4 = some F4 := by kernel_rfl

def F5_l0 : ACode :=
  (.seq
  (.seq
  (.reg [.op none (some 48) (.mov (.t 10)),
    .op none (some 49) (.mov (.t 2)),
    .op none (some 50) (.lenV (.t 49)),
    .op none (some 51) (.bin .lss (.t 48) (.t 50))])
  (.cond (.t 51)
    .skip
    (.exit 0)))
  (.seq
  (.block 1
  (.seq
  (.reg [.op none (some 54) (.mov (.t 2)),
    .op none (some 55) (.mov (.t 10)),
    .op none (some 56) (.iadV 6 (.t 54) (.t 55)),
    .op none (some 57) (.ldn 6 (.t 56)),
    .op none (some 11) (.new 44 [.int .u8 0, .string (⟨#[]⟩), .string (⟨#[]⟩), .string (⟨#[]⟩), .int .i64 0, .slice none 0 0]),
    .op none none (.st 6 (.t 11) (.t 57))])
  (.seq
  (.seq
  (.reg [.op none (some 58) (.fad 1 (.t 11)),
    .op none (some 59) (.ld1 (.t 58)),
    .op none (some 60) (.bin .eql (.t 59) (.c (.string (⟨#[111, 119, 110]⟩)))),
    .op none (some 61) (.mov (.t 60)),
    .op (some (61, false)) (some 62) (.fad 2 (.t 11)),
    .op (some (61, false)) (some 63) (.ld1 (.t 62)),
    .op (some (61, false)) (some 64) (.bin .eql (.t 63) (.c (.string (⟨#[111, 119, 110]⟩)))),
    .op none (some 65) (.pick (.t 61) (.c (.bool true)) (.t 64)),
    .op none (some 66) (.mov (.t 65)),
    .op (some (66, false)) (some 67) (.fad 0 (.t 11)),
    .op (some (66, false)) (some 68) (.ld1 (.t 67)),
    .op (some (66, false)) (some 69) (.bin .rem (.t 68) (.c (.int .u8 10))),
    .op (some (66, false)) (some 70) (.bin .gtr (.t 69) (.c (.int .u8 6))),
    .op none (some 71) (.pick (.t 66) (.c (.bool true)) (.t 70))])
  (.cond (.t 71)
    (.exit 1)
    .skip))
  (.seq
  (.reg [.op none (some 72) (.mov (.t 9)),
    .op none (some 73) (.ldn 6 (.t 11)),
    .call none (some 74) 23 [.t 72, .t 73]])
  (.seq
  (.reg [.op none (some 76) (.mov (.t 9)),
    .call none (some 77) 18 [.t 76, .c (.string (⟨#[111, 119, 110]⟩))],
    .op none (some 75) (.mov (.t 77)),
    .op none (some 78) (.ext 0 (.t 75)),
    .op none (some 79) (.ext 1 (.t 75)),
    .op none (some 12) (.mov (.t 78)),
    .op none (some 13) (.mov (.t 79))])
  (.seq
  (.reg [.op none (some 80) (.mov (.t 13)),
    .op none (some 81) (.bin .neq (.t 80) (.c (.int .i64 0))),
    .op none (some 82) (.mov (.t 81)),
    .op (some (82, false)) (some 83) (.mov (.t 12)),
    .op (some (82, false)) (some 84) (.b2s (.t 83)),
    .op (some (82, false)) (some 85) (.mov (.t 0)),
    .op (some (82, false)) (some 86) (.mov (.t 1)),
    .op (some (82, false)) (some 87) (.bin .add (.t 85) (.t 86)),
    .op (some (82, false)) (some 88) (.bin .neq (.t 84) (.t 87)),
    .op none (some 89) (.pick (.t 82) (.c (.bool true)) (.t 88))])
  (.cond (.t 89)
    (.seq
    (.reg [.op none (some 8) (.mov (.c (.bool false)))])
    .ret)
    .skip)))))))
  (.reg [.op none (some 52) (.mov (.t 10)),
    .op none (some 53) (.bin .add (.t 52) (.c (.int .i64 1))),
    .op none (some 10) (.mov (.t 53))])))

def F5 : AFun :=
  { n := 133, res := [.t 8], code :=
  (.seq
  (.reg [.op none (some 8) (.mov (.c (.bool false)))])
  (.seq
  (.seq
  (.reg [.op none (some 16) (.mov (.t 2)),
    .call none (some 17) 22 [.t 16],
    .op none (some 18) (.un .not (.t 17)),
    .op none (some 19) (.mov (.t 18)),
    .op (some (19, false)) (some 20) (.mov (.t 0)),
    .op (some (19, false)) (some 21) (.lenS (.t 20)),
    .op (some (19, false)) (some 22) (.bin .gtr (.t 21) (.c (.int .i64 200))),
    .op none (some 23) (.pick (.t 19) (.c (.bool true)) (.t 22)),
    .op none (some 24) (.mov (.t 23)),
    .op (some (24, false)) (some 25) (.mov (.t 1)),
    .op (some (24, false)) (some 26) (.lenS (.t 25)),
    .op (some (24, false)) (some 27) (.bin .gtr (.t 26) (.c (.int .i64 200))),
    .op none (some 28) (.pick (.t 24) (.c (.bool true)) (.t 27))])
  (.cond (.t 28)
    (.seq
    (.reg [.call none (some 29) 10 [],
      .op none (some 8) (.mov (.t 29))])
    .ret)
    .skip))
  (.seq
  (.reg [.call none (some 30) 11 [.c (.int .i64 1048576)],
    .op none (some 9) (.mov (.t 30))])
  (.seq
  (.seq
  (.reg [.op none (some 31) (.mov (.t 9)),
    .op none (some 32) (.mov (.t 0)),
    .op none (some 33) (.s2b 5 (.t 32)),
    .call none (some 34) 14 [.t 31, .c (.string (⟨#[111, 119, 110]⟩)), .t 33],
    .op none (some 35) (.bin .neq (.t 34) (.c (.int .i64 0))),
    .op none (some 36) (.mov (.t 35)),
    .op (some (36, false)) (some 37) (.mov (.t 9)),
    .call (some (36, false)) (some 38) 15 [.t 37, .c (.string (⟨#[111, 119, 110]⟩))],
    .op (some (36, false)) (some 39) (.bin .neq (.t 38) (.c (.int .i64 0))),
    .op none (some 40) (.pick (.t 36) (.c (.bool true)) (.t 39)),
    .op none (some 41) (.mov (.t 40)),
    .op (some (41, false)) (some 42) (.mov (.t 9)),
    .op (some (41, false)) (some 43) (.mov (.t 1)),
    .op (some (41, false)) (some 44) (.s2b 5 (.t 43)),
    .call (some (41, false)) (some 45) 14 [.t 42, .c (.string (⟨#[111, 119, 110]⟩)), .t 44],
    .op (some (41, false)) (some 46) (.bin .neq (.t 45) (.c (.int .i64 0))),
    .op none (some 47) (.pick (.t 41) (.c (.bool true)) (.t 46))])
  (.cond (.t 47)
    (.seq
    (.reg [.op none (some 8) (.mov (.c (.bool false)))])
    .ret)
    .skip))
  (.seq
  (.seq
  (.reg [.op none (some 10) (.mov (.c (.int .i64 0)))])
  (.block 0
  (.loop F5_l0)))
  (.seq
  (.reg [.op none (some 90) (.mov (.t 9)),
    .call none (some 91) 16 [.t 90]])
  (.seq
  (.reg [.op none (some 92) (.mov (.t 9)),
    .op none (some 93) (.mov (.t 3)),
    .call none (some 94) 17 [.t 92, .t 93]])
  (.seq
  (.reg [.op none (some 96) (.mov (.t 9)),
    .call none (some 97) 18 [.t 96, .c (.string (⟨#[111, 119, 110]⟩))],
    .op none (some 95) (.mov (.t 97)),
    .op none (some 98) (.ext 0 (.t 95)),
    .op none (some 99) (.ext 1 (.t 95)),
    .op none (some 14) (.mov (.t 98)),
    .op none (some 15) (.mov (.t 99))])
  (.seq
  (.draw [.f (.op none (some 100) (.mov (.t 15))),
    .f (.op none (some 101) (.bin .eql (.t 100) (.c (.int .i64 0)))),
    .f (.op none (some 102) (.mov (.t 101))),
    .f (.op (some (102, true)) (some 103) (.mov (.t 14))),
    .f (.op (some (102, true)) (some 104) (.lenV (.t 103))),
    .f (.op (some (102, true)) (some 105) (.mov (.t 0))),
    .f (.op (some (102, true)) (some 106) (.lenS (.t 105))),
    .f (.op (some (102, true)) (some 107) (.bin .geq (.t 104) (.t 106))),
    .f (.op none (some 108) (.pick (.t 102) (.t 107) (.c (.bool false)))),
    .f (.op none (some 109) (.mov (.t 108))),
    .f (.op (some (109, true)) (some 110) (.mov (.t 14))),
    .f (.op (some (109, true)) (some 111) (.lenV (.t 110))),
    .f (.op (some (109, true)) (some 112) (.mov (.t 0))),
    .f (.op (some (109, true)) (some 113) (.lenS (.t 112))),
    .f (.op (some (109, true)) (some 114) (.mov (.t 1))),
    .f (.op (some (109, true)) (some 115) (.lenS (.t 114))),
    .f (.op (some (109, true)) (some 116) (.bin .add (.t 113) (.t 115))),
    .f (.op (some (109, true)) (some 117) (.bin .leq (.t 111) (.t 116))),
    .f (.op none (some 118) (.pick (.t 109) (.t 117) (.c (.bool false)))),
    .f (.op none (some 119) (.mov (.t 118))),
    .f (.op (some (119, true)) (some 120) (.mov (.t 14))),
    .f (.op (some (119, true)) (some 121) (.b2s (.t 120))),
    .f (.op (some (119, true)) (some 122) (.mov (.t 0))),
    .f (.op (some (119, true)) (some 123) (.mov (.t 1))),
    .f (.op (some (119, true)) (some 124) (.bin .add (.t 122) (.t 123))),
    .f (.op (some (119, true)) (some 125) (.mov (.t 14))),
    .f (.op (some (119, true)) (some 126) (.lenV (.t 125))),
    .f (.op (some (119, true)) (some 127) (.slS (.t 124) none (some (.t 126)))),
    .f (.op (some (119, true)) (some 128) (.bin .eql (.t 121) (.t 127))),
    .f (.op none (some 129) (.pick (.t 119) (.t 128) (.c (.bool false)))),
    .f (.op none (some 130) (.mov (.t 129))),
    .b (.call (some (130, true)) (some 131) 10 []) [],
    .f (.op none (some 132) (.pick (.t 130) (.t 131) (.c (.bool false)))),
    .f (.op none (some 8) (.mov (.t 132)))])
  .ret))))))))) }
theorem F5_ok : compFun Try.prog 0 Try.f5 = some F5 := by kernel_rfl

def F6_l0 : ACode :=
  (.seq
  (.seq
  (.reg [.op none (some 18) (.mov (.t 6)),
    .op none (some 19) (.mov (.t 1)),
    .op none (some 20) (.lenV (.t 19)),
    .op none (some 21) (.bin .lss (.t 18) (.t 20))])
  (.cond (.t 21)
    .skip
    (.exit 0)))
  (.seq
  (.block 1
  (.seq
  (.reg [.op none (some 24) (.mov (.t 5)),
    .call none (some 25) 24 [.t 24],
    .op none (some 26) (.mov (.t 5)),
    .call none (some 27) 20 [.t 26],
    .op none (some 28) (.lenV (.t 27)),
    .op none (some 29) (.mov (.t 5)),
    .call none (some 30) 25 [.t 29],
    .op none (some 7) (.mov (.t 25)),
    .op none (some 8) (.mov (.t 28)),
    .op none (some 9) (.mov (.t 30))])
  (.seq
  (.reg [.op none (some 32) (.mov (.t 5)),
    .op none (some 33) (.mov (.t 1)),
    .op none (some 34) (.mov (.t 6)),
    .op none (some 35) (.iadV 6 (.t 33) (.t 34)),
    .op none (some 36) (.ldn 6 (.t 35)),
    .call none (some 37) 23 [.t 32, .t 36],
    .op none (some 31) (.mov (.t 37)),
    .op none (some 38) (.ext 0 (.t 31)),
    .op none (some 39) (.ext 1 (.t 31)),
    .op none (some 10) (.mov (.t 38)),
    .op none (some 11) (.mov (.t 39))])
  (.seq
  (.seq
  (.reg [.op none (some 40) (.mov (.t 1)),
    .op none (some 41) (.mov (.t 6)),
    .op none (some 42) (.iadV 6 (.t 40) (.t 41)),
    .op none (some 43) (.fad 0 (.t 42)),
    .op none (some 44) (.ld1 (.t 43)),
    .op none (some 45) (.bin .rem (.t 44) (.c (.int .u8 10))),
    .op none (some 46) (.bin .lss (.t 45) (.c (.int .u8 7))),
    .op none (some 47) (.mov (.t 46)),
    .op (some (47, true)) (some 48) (.mov (.t 10)),
    .op (some (47, true)) (some 49) (.bin .neq (.t 48) (.c (.int .i64 0))),
    .op none (some 50) (.pick (.t 47) (.t 49) (.c (.bool false))),
    .op none (some 51) (.mov (.t 50)),
    .op (some (51, true)) (some 52) (.mov (.t 10)),
    .op (some (51, true)) (some 53) (.bin .neq (.t 52) (.c (.int .i64 40))),
    .op none (some 54) (.pick (.t 51) (.t 53) (.c (.bool false))),
    .op none (some 55) (.mov (.t 54)),
    .op (some (55, true)) (some 56) (.mov (.t 5)),
    .call (some (55, true)) (some 57) 24 [.t 56],
    .op (some (55, true)) (some 58) (.mov (.t 7)),
    .op (some (55, true)) (some 59) (.bin .neq (.t 57) (.t 58)),
    .op (some (55, true)) (some 60) (.mov (.t 59)),
    .op (some (60, false)) (some 61) (.mov (.t 5)),
    .call (some (60, false)) (some 62) 20 [.t 61],
    .op (some (60, false)) (some 63) (.lenV (.t 62)),
    .op (some (60, false)) (some 64) (.mov (.t 8)),
    .op (some (60, false)) (some 65) (.bin .neq (.t 63) (.t 64)),
    .op (some (55, true)) (some 66) (.pick (.t 60) (.c (.bool true)) (.t 65)),
    .op (some (55, true)) (some 67) (.mov (.t 66)),
    .op (some (67, false)) (some 68) (.mov (.t 5)),
    .call (some (67, false)) (some 69) 25 [.t 68],
    .op (some (67, false)) (some 70) (.mov (.t 9)),
    .op (some (67, false)) (some 71) (.bin .neq (.t 69) (.t 70)),
    .op (some (55, true)) (some 72) (.pick (.t 67) (.c (.bool true)) (.t 71)),
    .op none (some 73) (.pick (.t 55) (.t 72) (.c (.bool false)))])
  (.cond (.t 73)
    (.seq
    (.reg [.op none (some 4) (.mov (.c (.bool false)))])
    .ret)
    .skip))
  (.seq
  (.reg [.op none (some 74) (.mov (.t 5)),
    .call none (some 75) 24 [.t 74],
    .op none (some 76) (.mov (.t 0)),
    .op none (some 77) (.mnx true (.c (.int .i64 0)) [.t 76]),
    .op none (some 78) (.bin .gtr (.t 75) (.t 77)),
    .op none (some 79) (.mov (.t 78)),
    .op (some (79, false)) (some 80) (.mov (.t 5)),
    .call (some (79, false)) (some 81) 25 [.t 80],
    .op (some (79, false)) (some 82) (.mov (.t 9)),
    .op (some (79, false)) (some 83) (.bin .lss (.t 81) (.t 82)),
    .op none (some 84) (.pick (.t 79) (.c (.bool true)) (.t 83)),
    .op none (some 85) (.mov (.t 84)),
    .op (some (85, false)) (some 86) (.mov (.t 5)),
    .call (some (85, false)) (some 87) 25 [.t 86],
    .op (some (85, false)) (some 88) (.mov (.t 9)),
    .op (some (85, false)) (some 89) (.bin .add (.t 88) (.c (.int .i64 1))),
    .op (some (85, false)) (some 90) (.bin .gtr (.t 87) (.t 89)),
    .op none (some 91) (.pick (.t 85) (.c (.bool true)) (.t 90))])
  (.cond (.t 91)
    (.seq
    (.reg [.op none (some 4) (.mov (.c (.bool false)))])
    .ret)
    .skip))))))
  (.reg [.op none (some 22) (.mov (.t 6)),
    .op none (some 23) (.bin .add (.t 22) (.c (.int .i64 1))),
    .op none (some 6) (.mov (.t 23))])))

def F6 : AFun :=
  { n := 93, res := [.t 4], code :=
  (.seq
  (.reg [.op none (some 4) (.mov (.c (.bool false)))])
  (.seq
  (.seq
  (.reg [.op none (some 12) (.mov (.t 1)),
    .call none (some 13) 22 [.t 12],
    .op none (some 14) (.un .not (.t 13))])
  (.cond (.t 14)
    (.seq
    (.reg [.call none (some 15) 10 [],
      .op none (some 4) (.mov (.t 15))])
    .ret)
    .skip))
  (.seq
  (.reg [.op none (some 16) (.mov (.t 0)),
    .call none (some 17) 11 [.t 16],
    .op none (some 5) (.mov (.t 17))])
  (.seq
  (.seq
  (.reg [.op none (some 6) (.mov (.c (.int .i64 0)))])
  (.block 0
  (.loop F6_l0)))
  (.seq
  (.reg [.call none (some 92) 10 [],
    .op none (some 4) (.mov (.t 92))])
  .ret))))) }
theorem F6_ok : compFun Try.prog 0 Try.f6 = some F6 := by kernel_rfl

def F7_l0 : ACode :=
  (.seq
  (.seq
  (.reg [.op none (some 20) (.mov (.t 7)),
    .op none (some 21) (.mov (.t 1)),
    .op none (some 22) (.lenV (.t 21)),
    .op none (some 23) (.bin .lss (.t 20) (.t 22))])
  (.cond (.t 23)
    .skip
    (.exit 0)))
  (.seq
  (.block 1
  (.seq
  (.reg [.op none (some 27) (.mov (.t 5)),
    .op none (some 28) (.mov (.t 1)),
    .op none (some 29) (.mov (.t 7)),
    .op none (some 30) (.iadV 6 (.t 28) (.t 29)),
    .op none (some 31) (.ldn 6 (.t 30)),
    .call none (some 32) 23 [.t 27, .t 31],
    .op none (some 26) (.mov (.t 32)),
    .op none (some 33) (.ext 0 (.t 26)),
    .op none (some 34) (.ext 1 (.t 26)),
    .op none (some 8) (.mov (.t 33)),
    .op none (some 9) (.mov (.t 34))])
  (.seq
  (.reg [.op none (some 36) (.mov (.t 6)),
    .op none (some 37) (.mov (.t 1)),
    .op none (some 38) (.mov (.t 7)),
    .op none (some 39) (.iadV 6 (.t 37) (.t 38)),
    .op none (some 40) (.ldn 6 (.t 39)),
    .call none (some 41) 27 [.t 36, .t 40],
    .op none (some 35) (.mov (.t 41)),
    .op none (some 42) (.ext 0 (.t 35)),
    .op none (some 43) (.ext 1 (.t 35)),
    .op none (some 10) (.mov (.t 42)),
    .op none (some 11) (.mov (.t 43))])
  (.seq
  (.reg [.op none (some 44) (.mov (.t 8)),
    .op none (some 45) (.mov (.t 10)),
    .op none (some 46) (.bin .neq (.t 44) (.t 45)),
    .op none (some 47) (.mov (.t 46)),
    .op (some (47, false)) (some 48) (.mov (.t 9)),
    .op (some (47, false)) (some 49) (.mov (.t 11)),
    .op (some (47, false)) (some 50) (.bin .neq (.t 48) (.t 49)),
    .op none (some 51) (.pick (.t 47) (.c (.bool true)) (.t 50)),
    .op none (some 52) (.mov (.t 51)),
    .op (some (52, false)) (some 53) (.mov (.t 5)),
    .op (some (52, false)) (some 54) (.mov (.t 6)),
    .call (some (52, false)) (some 55) 28 [.t 53, .t 54],
    .op (some (52, false)) (some 56) (.un .not (.t 55)),
    .op none (some 57) (.pick (.t 52) (.c (.bool true)) (.t 56))])
  (.cond (.t 57)
    (.seq
    (.reg [.op none (some 4) (.mov (.c (.bool false)))])
    .ret)
    .skip)))))
  (.reg [.op none (some 24) (.mov (.t 7)),
    .op none (some 25) (.bin .add (.t 24) (.c (.int .i64 1))),
    .op none (some 7) (.mov (.t 25))])))

def F7 : AFun :=
  { n := 59, res := [.t 4], code :=
  (.seq
  (.reg [.op none (some 4) (.mov (.c (.bool false)))])
  (.seq
  (.seq
  (.reg [.op none (some 12) (.mov (.t 1)),
    .call none (some 13) 22 [.t 12],
    .op none (some 14) (.un .not (.t 13))])
  (.cond (.t 14)
    (.seq
    (.reg [.call none (some 15) 10 [],
      .op none (some 4) (.mov (.t 15))])
    .ret)
    .skip))
  (.seq
  (.reg [.op none (some 16) (.mov (.t 0)),
    .call none (some 17) 11 [.t 16],
    .op none (some 18) (.mov (.t 0)),
    .call none (some 19) 26 [.t 18],
    .op none (some 5) (.mov (.t 17)),
    .op none (some 6) (.mov (.t 19))])
  (.seq
  (.seq
  (.reg [.op none (some 7) (.mov (.c (.int .i64 0)))])
  (.block 0
  (.loop F7_l0)))
  (.seq
  (.reg [.call none (some 58) 10 [],
    .op none (some 4) (.mov (.t 58))])
  .ret))))) }
theorem F7_ok : compFun Try.prog 0 Try.f7 = some F7 := by kernel_rfl

def F8_l0 : ACode :=
  (.seq
  (.seq
  (.reg [.op none (some 35) (.mov (.t 10)),
    .op none (some 36) (.mov (.t 1)),
    .op none (some 37) (.lenV (.t 36)),
    .op none (some 38) (.bin .lss (.t 35) (.t 37))])
  (.cond (.t 38)
    .skip
    (.exit 0)))
  (.seq
  (.block 1
  (.reg [.op none (some 41) (.mov (.t 9)),
    .op none (some 42) (.mov (.t 1)),
    .op none (some 43) (.mov (.t 10)),
    .op none (some 44) (.iadV 6 (.t 42) (.t 43)),
    .op none (some 45) (.ldn 6 (.t 44)),
    .call none (some 46) 23 [.t 41, .t 45]]))
  (.reg [.op none (some 39) (.mov (.t 10)),
    .op none (some 40) (.bin .add (.t 39) (.c (.int .i64 1))),
    .op none (some 10) (.mov (.t 40))])))

def F8_l1 : ACode :=
  (.seq
  (.seq
  (.reg [.op none (some 57) (.mov (.t 13)),
    .op none (some 58) (.mov (.t 3)),
    .op none (some 59) (.lenV (.t 58)),
    .op none (some 60) (.bin .lss (.t 57) (.t 59))])
  (.cond (.t 60)
    .skip
    (.exit 2)))
  (.seq
  (.block 3
  (.reg [.op none (some 63) (.mov (.t 12)),
    .op none (some 64) (.mov (.t 3)),
    .op none (some 65) (.mov (.t 13)),
    .op none (some 66) (.iadV 6 (.t 64) (.t 65)),
    .op none (some 67) (.ldn 6 (.t 66)),
    .call none (some 68) 23 [.t 63, .t 67]]))
  (.reg [.op none (some 61) (.mov (.t 13)),
    .op none (some 62) (.bin .add (.t 61) (.c (.int .i64 1))),
    .op none (some 13) (.mov (.t 62))])))

def F8_l2 : ACode :=
  (.seq
  (.seq
  (.reg [.op none (some 69) (.mov (.t 14)),
    .op none (some 70) (.mov (.t 2)),
    .op none (some 71) (.lenV (.t 70)),
    .op none (some 72) (.bin .lss (.t 69) (.t 71))])
  (.cond (.t 72)
    .skip
    (.exit 4)))
  (.seq
  (.block 5
  (.seq
  (.reg [.op none (some 76) (.mov (.t 9)),
    .op none (some 77) (.mov (.t 2)),
    .op none (some 78) (.mov (.t 14)),
    .op none (some 79) (.iadV 6 (.t 77) (.t 78)),
    .op none (some 80) (.ldn 6 (.t 79)),
    .call none (some 81) 23 [.t 76, .t 80],
    .op none (some 75) (.mov (.t 81)),
    .op none (some 82) (.ext 0 (.t 75)),
    .op none (some 83) (.ext 1 (.t 75)),
    .op none (some 15) (.mov (.t 82)),
    .op none (some 16) (.mov (.t 83))])
  (.seq
  (.reg [.op none (some 85) (.mov (.t 11)),
    .op none (some 86) (.mov (.t 2)),
    .op none (some 87) (.mov (.t 14)),
    .op none (some 88) (.iadV 6 (.t 86) (.t 87)),
    .op none (some 89) (.ldn 6 (.t 88)),
    .call none (some 90) 23 [.t 85, .t 89],
    .op none (some 84) (.mov (.t 90)),
    .op none (some 91) (.ext 0 (.t 84)),
    .op none (some 92) (.ext 1 (.t 84)),
    .op none (some 17) (.mov (.t 91)),
    .op none (some 18) (.mov (.t 92))])
  (.seq
  (.reg [.op none (some 93) (.mov (.t 15)),
    .op none (some 94) (.mov (.t 17)),
    .op none (some 95) (.bin .neq (.t 93) (.t 94)),
    .op none (some 96) (.mov (.t 95)),
    .op (some (96, false)) (some 97) (.mov (.t 16)),
    .op (some (96, false)) (some 98) (.mov (.t 18)),
    .op (some (96, false)) (some 99) (.bin .neq (.t 97) (.t 98)),
    .op none (some 100) (.pick (.t 96) (.c (.bool true)) (.t 99)),
    .op none (some 101) (.mov (.t 100)),
    .op (some (101, false)) (some 102) (.mov (.t 9)),
    .call (some (101, false)) (some 103) 24 [.t 102],
    .op (some (101, false)) (some 104) (.mov (.t 11)),
    .call (some (101, false)) (some 105) 24 [.t 104],
    .op (some (101, false)) (some 106) (.bin .neq (.t 103) (.t 105)),
    .op none (some 107) (.pick (.t 101) (.c (.bool true)) (.t 106)),
    .op none (some 108) (.mov (.t 107)),
    .op (some (108, false)) (some 109) (.mov (.t 9)),
    .call (some (108, false)) (some 110) 25 [.t 109],
    .op (some (108, false)) (some 111) (.mov (.t 11)),
    .call (some (108, false)) (some 112) 25 [.t 111],
    .op (some (108, false)) (some 113) (.bin .neq (.t 110) (.t 112)),
    .op none (some 114) (.pick (.t 108) (.c (.bool true)) (.t 113)),
    .op none (some 115) (.mov (.t 114)),
    .op (some (115, false)) (some 116) (.mov (.t 9)),
    .call (some (115, false)) (some 117) 13 [.t 116],
    .op (some (115, false)) (some 118) (.mov (.t 11)),
    .call (some (115, false)) (some 119) 13 [.t 118],
    .op (some (115, false)) (some 120) (.eql true .bool (.t 117) (.t 119)),
    .op none (some 121) (.pick (.t 115) (.c (.bool true)) (.t 120)),
    .op none (some 122) (.mov (.t 121)),
    .op (some (122, false)) (some 123) (.mov (.t 9)),
    .call (some (122, false)) (some 124) 20 [.t 123],
    .op (some (122, false)) (some 125) (.lenV (.t 124)),
    .op (some (122, false)) (some 126) (.mov (.t 11)),
    .call (some (122, false)) (some 127) 20 [.t 126],
    .op (some (122, false)) (some 128) (.lenV (.t 127)),
    .op (some (122, false)) (some 129) (.bin .neq (.t 125) (.t 128)),
    .op none (some 130) (.pick (.t 122) (.c (.bool true)) (.t 129))])
  (.cond (.t 130)
    (.seq
    (.reg [.op none (some 8) (.mov (.c (.bool false)))])
    .ret)
    .skip)))))
  (.reg [.op none (some 73) (.mov (.t 14)),
    .op none (some 74) (.bin .add (.t 73) (.c (.int .i64 1))),
    .op none (some 14) (.mov (.t 74))])))

def F8 : AFun :=
  { n := 132, res := [.t 8], code :=
  (.seq
  (.reg [.op none (some 8) (.mov (.c (.bool false)))])
  (.seq
  (.seq
  (.reg [.op none (some 19) (.mov (.t 1)),
    .call none (some 20) 22 [.t 19],
    .op none (some 21) (.un .not (.t 20)),
    .op none (some 22) (.mov (.t 21)),
    .op (some (22, false)) (some 23) (.mov (.t 2)),
    .call (some (22, false)) (some 24) 22 [.t 23],
    .op (some (22, false)) (some 25) (.un .not (.t 24)),
    .op none (some 26) (.pick (.t 22) (.c (.bool true)) (.t 25)),
    .op none (some 27) (.mov (.t 26)),
    .op (some (27, false)) (some 28) (.mov (.t 3)),
    .call (some (27, false)) (some 29) 22 [.t 28],
    .op (some (27, false)) (some 30) (.un .not (.t 29)),
    .op none (some 31) (.pick (.t 27) (.c (.bool true)) (.t 30))])
  (.cond (.t 31)
    (.seq
    (.reg [.call none (some 32) 10 [],
      .op none (some 8) (.mov (.t 32))])
    .ret)
    .skip))
  (.seq
  (.reg [.op none (some 33) (.mov (.t 0)),
    .call none (some 34) 11 [.t 33],
    .op none (some 9) (.mov (.t 34))])
  (.seq
  (.seq
  (.reg [.op none (some 10) (.mov (.c (.int .i64 0)))])
  (.block 0
  (.loop F8_l0)))
  (.seq
  (.reg [.op none (some 47) (.mov (.t 9)),
    .call none (some 48) 29 [.t 47],
    .op none (some 49) (.mov (.t 9)),
    .call none (some 50) 29 [.t 49],
    .op none (some 11) (.mov (.t 48)),
    .op none (some 12) (.mov (.t 50))])
  (.seq
  (.seq
  (.reg [.op none (some 51) (.mov (.t 11)),
    .op none (some 52) (.eql false .ptr (.t 51) (.c (.pointer none))),
    .op none (some 53) (.mov (.t 52)),
    .op (some (53, false)) (some 54) (.mov (.t 12)),
    .op (some (53, false)) (some 55) (.eql false .ptr (.t 54) (.c (.pointer none))),
    .op none (some 56) (.pick (.t 53) (.c (.bool true)) (.t 55))])
  (.cond (.t 56)
    (.seq
    (.reg [.op none (some 8) (.mov (.c (.bool false)))])
    .ret)
    .skip))
  (.seq
  (.seq
  (.reg [.op none (some 13) (.mov (.c (.int .i64 0)))])
  (.block 2
  (.loop F8_l1)))
  (.seq
  (.seq
  (.reg [.op none (some 14) (.mov (.c (.int .i64 0)))])
  (.block 4
  (.loop F8_l2)))
  (.seq
  (.reg [.call none (some 131) 10 [],
    .op none (some 8) (.mov (.t 131))])
  .ret))))))))) }
theorem F8_ok : compFun Try.prog 0 Try.f8 = some F8 := by kernel_rfl

def F9_l0 : ACode :=
  (.seq
  (.seq
  (.reg [.op none (some 11) (.mov (.t 2)),
    .op none (some 12) (.bin .lss (.t 11) (.c (.int .i64 128)))])
  (.cond (.t 12)
    .skip
    (.exit 0)))
  (.seq
  (.block 1
  (.reg [.op none (some 15) (.mov (.t 1)),
    .op none (some 16) (.bin .add (.t 15) (.c (.string (⟨#[120]⟩)))),
    .op none (some 1) (.mov (.t 16))]))
  (.reg [.op none (some 13) (.mov (.t 2)),
    .op none (some 14) (.bin .add (.t 13) (.c (.int .i64 1))),
    .op none (some 2) (.mov (.t 14))])))

def F9_l1 : ACode :=
  (.seq
  (.seq
  (.reg [.op none (some 55) (.mov (.t 4)),
    .op none (some 56) (.mov (.t 3)),
    .op none (some 57) (.lenV (.t 56)),
    .op none (some 58) (.bin .leq (.t 55) (.t 57))])
  (.cond (.t 58)
    .skip
    (.exit 2)))
  (.seq
  (.block 3
  (.seq
  (.draw [.f (.op none (some 61) (.mov (.t 4))),
    .f (.op none (some 62) (.bin .sub (.t 61) (.c (.int .i64 2)))),
    .f (.op none (some 63) (.mov (.t 3))),
    .f (.op none (some 64) (.mov (.t 4))),
    .f (.op none (some 65) (.slV 6 (.t 63) none (some (.t 64)) none)),
    .b (.call none (some 66) 7 [.t 62, .t 65]) [],
    .f (.op none (some 67) (.un .not (.t 66))),
    .f (.op none (some 68) (.mov (.t 67))),
    .f (.op (some (68, false)) (some 69) (.mov (.t 3))),
    .f (.op (some (68, false)) (some 70) (.mov (.t 4))),
    .f (.op (some (68, false)) (some 71) (.slV 6 (.t 69) (some (.t 70)) none none)),
    .b (.call (some (68, false)) (some 72) 7 [.c (.int .i64 1000), .t 71]) [],
    .f (.op (some (68, false)) (some 73) (.un .not (.t 72))),
    .f (.op none (some 74) (.pick (.t 68) (.c (.bool true)) (.t 73))),
    .f (.op none (some 75) (.mov (.t 74))),
    .f (.op (some (75, false)) (some 76) (.mov (.t 4))),
    .f (.op (some (75, false)) (some 77) (.mov (.t 3))),
    .b (.call (some (75, false)) (some 78) 6 [.t 76, .t 77]) [],
    .f (.op (some (75, false)) (some 79) (.un .not (.t 78))),
    .f (.op none (some 80) (.pick (.t 75) (.c (.bool true)) (.t 79))),
    .f (.op none (some 81) (.mov (.t 80))),
    .f (.op (some (81, false)) (some 82) (.mov (.t 3))),
    .f (.op (some (81, false)) (some 83) (.mov (.t 4))),
    .f (.op (some (81, false)) (some 84) (.slV 6 (.t 82) none (some (.t 83)) none)),
    .f (.op (some (81, false)) (some 85) (.mov (.t 3))),
    .f (.op (some (81, false)) (some 86) (.mov (.t 4))),
    .f (.op (some (81, false)) (some 87) (.slV 6 (.t 85) (some (.t 86)) none none)),
    .f (.op (some (81, false)) (some 88) (.mov (.t 3))),
    .f (.op (some (81, false)) (some 89) (.mov (.t 4))),
    .f (.op (some (81, false)) (some 90) (.bin .quo (.t 89) (.c (.int .i64 2)))),
    .f (.op (some (81, false)) (some 91) (.slV 6 (.t 88) (some (.t 90)) none none)),
    .b (.call (some (81, false)) (some 92) 8 [.c (.int .i64 40), .t 84, .t 87, .t 91]) [],
    .f (.op (some (81, false)) (some 93) (.un .not (.t 92))),
    .f (.op none (some 94) (.pick (.t 81) (.c (.bool true)) (.t 93))),
    .f (.op none (some 95) (.mov (.t 94))),
    .f (.op (some (95, false)) (some 96) (.mov (.t 3))),
    .f (.op (some (95, false)) (some 97) (.mov (.t 4))),
    .f (.op (some (95, false)) (some 98) (.slV 6 (.t 96) (some (.t 97)) none none)),
    .f (.op (some (95, false)) (some 99) (.mov (.t 4))),
    .b (.op (some (95, false)) (some 100) (.bldSl 3 1 [.int .i64 0] [(0, 1, .t 99)])) [.op (some (95, false)) (some 98) (.slV 6 (.t 96) (some (.t 97)) none none)],
    .b (.call (some (95, false)) (some 101) 5 [.c (.string (⟨#[100, 114, 121]⟩)), .c (.string (⟨#[119, 101, 116]⟩)), .t 98, .t 100]) [],
    .f (.op (some (95, false)) (some 102) (.un .not (.t 101))),
    .f (.op none (some 103) (.pick (.t 95) (.c (.bool true)) (.t 102)))])
  (.cond (.t 103)
    (.seq
    (.reg [.op none (some 0) (.mov (.c (.bool false)))])
    .ret)
    .skip)))
  (.reg [.op none (some 59) (.mov (.t 4)),
    .op none (some 60) (.bin .add (.t 59) (.c (.int .i64 1))),
    .op none (some 4) (.mov (.t 60))])))

def F9_l2 : ACode :=
  (.seq
  (.seq
  (.reg [.op none (some 104) (.mov (.t 5)),
    .op none (some 105) (.bin .lss (.t 104) (.c (.int .i64 15)))])
  (.cond (.t 105)
    .skip
    (.exit 4)))
  (.seq
  (.block 5
  (.seq
  (.reg [.op none (some 108) (.bldSl 9 4 [.string (⟨#[]⟩), .string (⟨#[]⟩), .string (⟨#[]⟩), .string (⟨#[]⟩)] [(0, 1, .c (.string (⟨#[97, 98]⟩))), (1, 1, .c (.string (⟨#[]⟩))), (2, 1, .c (.string (⟨#[99, 100, 101]⟩))), (3, 1, .c (.string (⟨#[102]⟩)))]),
    .op none (some 109) (.mov (.t 5)),
    .op none (some 110) (.bin .and (.t 109) (.c (.int .i64 7))),
    .op none (some 111) (.cvt .u32 (.t 110)),
    .op none (some 112) (.mov (.t 5)),
    .op none (some 113) (.mov (.t 5)),
    .op none (some 114) (.bin .mul (.t 113) (.c (.int .i64 3))),
    .op none (some 115) (.mov (.t 5)),
    .call none (some 116) 3 [.t 108, .t 111, .t 112, .t 114, .t 115],
    .op none (some 117) (.un .not (.t 116)),
    .op none (some 118) (.mov (.t 117)),
    .op (some (118, false)) (some 119) (.bldSl 9 2 [.string (⟨#[]⟩), .string (⟨#[]⟩)] [(0, 1, .c (.string (⟨#[]⟩))), (1, 1, .c (.string (⟨#[]⟩)))]),
    .op (some (118, false)) (some 120) (.mov (.t 5)),
    .call (some (118, false)) (some 121) 3 [.t 119, .c (.int .u32 0), .t 120, .c (.int .i64 1), .c (.int .i64 1)],
    .op (some (118, false)) (some 122) (.un .not (.t 121)),
    .op none (some 123) (.pick (.t 118) (.c (.bool true)) (.t 122)),
    .op none (some 124) (.mov (.t 123)),
    .op (some (124, false)) (some 125) (.mov (.t 5)),
    .op (some (124, false)) (some 126) (.bin .add (.t 125) (.c (.int .i64 7))),
    .op (some (124, false)) (some 127) (.cvt .u8 (.t 126)),
    .op (some (124, false)) (some 128) (.mov (.t 5)),
    .op (some (124, false)) (some 129) (.mov (.t 5)),
    .op (some (124, false)) (some 130) (.bldSl 3 2 [.int .i64 0, .int .i64 0] [(0, 1, .t 128), (1, 1, .t 129)]),
    .op (some (124, false)) (some 131) (.mov (.t 5)),
    .op (some (124, false)) (some 132) (.bin .rem (.t 131) (.c (.int .i64 2))),
    .op (some (124, false)) (some 133) (.bin .eql (.t 132) (.c (.int .i64 0))),
    .call (some (124, false)) (some 134) 4 [.c (.string (⟨#[111, 108, 100]⟩)), .c (.string (⟨#[110, 101, 119, 32, 111, 110, 101]⟩)), .t 127, .t 130, .t 133],
    .op (some (124, false)) (some 135) (.un .not (.t 134)),
    .op none (some 136) (.pick (.t 124) (.c (.bool true)) (.t 135))])
  (.cond (.t 136)
    (.seq
    (.reg [.op none (some 0) (.mov (.c (.bool false)))])
    .ret)
    .skip)))
  (.reg [.op none (some 106) (.mov (.t 5)),
    .op none (some 107) (.bin .add (.t 106) (.c (.int .i64 1))),
    .op none (some 5) (.mov (.t 107))])))

def F9 : AFun :=
  { n := 228, res := [.t 0], code :=
  (.seq
  (.reg [.op none (some 0) (.mov (.c (.bool false)))])
  (.seq
  (.reg [.op none (some 1) (.mov (.c (.string (⟨#[]⟩))))])
  (.seq
  (.seq
  (.reg [.op none (some 2) (.mov (.c (.int .i64 0)))])
  (.block 0
  (.loop F9_l0)))
  (.seq
  (.reg [.op none (some 17) (.bld [.int .u8 0, .string (⟨#[]⟩), .string (⟨#[]⟩), .string (⟨#[]⟩), .int .i64 0, .slice none 0 0] [(1, 1, .c (.string (⟨#[97]⟩))), (3, 1, .c (.string (⟨#[49, 50]⟩)))]),
    .op none (some 18) (.bld [.int .u8 0, .string (⟨#[]⟩), .string (⟨#[]⟩), .string (⟨#[]⟩), .int .i64 0, .slice none 0 0] [(0, 1, .c (.int .u8 7))]),
    .op none (some 19) (.bld [.int .u8 0, .string (⟨#[]⟩), .string (⟨#[]⟩), .string (⟨#[]⟩), .int .i64 0, .slice none 0 0] [(1, 1, .c (.string (⟨#[97]⟩))), (3, 1, .c (.string (⟨#[51]⟩)))]),
    .op none (some 20) (.bld [.int .u8 0, .string (⟨#[]⟩), .string (⟨#[]⟩), .string (⟨#[]⟩), .int .i64 0, .slice none 0 0] [(0, 1, .c (.int .u8 6)), (1, 1, .c (.string (⟨#[97]⟩)))]),
    .op none (some 21) (.bldSl 3 1 [.int .i64 0] [(0, 1, .c (.int .i64 6))]),
    .op none (some 22) (.bld [.int .u8 0, .string (⟨#[]⟩), .string (⟨#[]⟩), .string (⟨#[]⟩), .int .i64 0, .slice none 0 0] [(0, 1, .c (.int .u8 9)), (5, 1, .t 21)]),
    .op none (some 23) (.bld [.int .u8 0, .string (⟨#[]⟩), .string (⟨#[]⟩), .string (⟨#[]⟩), .int .i64 0, .slice none 0 0] [(0, 1, .c (.int .u8 6)), (1, 1, .c (.string (⟨#[97]⟩)))]),
    .op none (some 24) (.mov (.t 1)),
    .op none (some 25) (.bld [.int .u8 0, .string (⟨#[]⟩), .string (⟨#[]⟩), .string (⟨#[]⟩), .int .i64 0, .slice none 0 0] [(1, 1, .t 24), (3, 1, .c (.string (⟨#[52]⟩)))]),
    .op none (some 26) (.mov (.t 1)),
    .op none (some 27) (.bin .add (.t 26) (.c (.string (⟨#[120]⟩)))),
    .op none (some 28) (.bld [.int .u8 0, .string (⟨#[]⟩), .string (⟨#[]⟩), .string (⟨#[]⟩), .int .i64 0, .slice none 0 0] [(1, 1, .t 27), (3, 1, .c (.string (⟨#[52]⟩)))]),
    .op none (some 29) (.bld [.int .u8 0, .string (⟨#[]⟩), .string (⟨#[]⟩), .string (⟨#[]⟩), .int .i64 0, .slice none 0 0] [(3, 1, .c (.string (⟨#[52]⟩)))]),
    .op none (some 30) (.mov (.t 1)),
    .op none (some 31) (.bld [.int .u8 0, .string (⟨#[]⟩), .string (⟨#[]⟩), .string (⟨#[]⟩), .int .i64 0, .slice none 0 0] [(0, 1, .c (.int .u8 4)), (1, 1, .c (.string (⟨#[97]⟩))), (2, 1, .t 30)]),
    .op none (some 32) (.bld [.int .u8 0, .string (⟨#[]⟩), .string (⟨#[]⟩), .string (⟨#[]⟩), .int .i64 0, .slice none 0 0] [(0, 1, .c (.int .u8 2)), (1, 1, .c (.string (⟨#[97]⟩)))]),
    .op none (some 33) (.mov (.t 1)),
    .op none (some 34) (.bld [.int .u8 0, .string (⟨#[]⟩), .string (⟨#[]⟩), .string (⟨#[]⟩), .int .i64 0, .slice none 0 0] [(0, 1, .c (.int .u8 4)), (1, 1, .t 33), (2, 1, .c (.string (⟨#[]⟩)))]),
    .op none (some 35) (.mov (.t 1)),
    .op none (some 36) (.bld [.int .u8 0, .string (⟨#[]⟩), .string (⟨#[]⟩), .string (⟨#[]⟩), .int .i64 0, .slice none 0 0] [(0, 1, .c (.int .u8 4)), (1, 1, .t 35), (2, 1, .c (.string (⟨#[98]⟩)))]),
    .op none (some 37) (.bld [.int .u8 0, .string (⟨#[]⟩), .string (⟨#[]⟩), .string (⟨#[]⟩), .int .i64 0, .slice none 0 0] [(0, 1, .c (.int .u8 3)), (1, 1, .c (.string (⟨#[98]⟩))), (4, 1, .c (.int .i64 (-1)))]),
    .op none (some 38) (.bld [.int .u8 0, .string (⟨#[]⟩), .string (⟨#[]⟩), .string (⟨#[]⟩), .int .i64 0, .slice none 0 0] [(0, 1, .c (.int .u8 3)), (1, 1, .c (.string (⟨#[98]⟩))), (4, 1, .c (.int .i64 9))]),
    .op none (some 39) (.bld [.int .u8 0, .string (⟨#[]⟩), .string (⟨#[]⟩), .string (⟨#[]⟩), .int .i64 0, .slice none 0 0] [(0, 1, .c (.int .u8 3)), (1, 1, .c (.string (⟨#[98]⟩))), (4, 1, .c (.int .i64 1))]),
    .op none (some 40) (.bld [.int .u8 0, .string (⟨#[]⟩), .string (⟨#[]⟩), .string (⟨#[]⟩), .int .i64 0, .slice none 0 0] [(1, 1, .c (.string (⟨#[99]⟩)))]),
    .op none (some 41) (.bld [.int .u8 0, .string (⟨#[]⟩), .string (⟨#[]⟩), .string (⟨#[]⟩), .int .i64 0, .slice none 0 0] [(1, 1, .c (.string (⟨#[98]⟩))), (3, 1, .c (.string (⟨#[53, 54]⟩)))]),
    .op none (some 42) (.bld [.int .u8 0, .string (⟨#[]⟩), .string (⟨#[]⟩), .string (⟨#[]⟩), .int .i64 0, .slice none 0 0] [(0, 1, .c (.int .u8 7)), (4, 1, .c (.int .i64 1))]),
    .op none (some 43) (.bld [.int .u8 0, .string (⟨#[]⟩), .string (⟨#[]⟩), .string (⟨#[]⟩), .int .i64 0, .slice none 0 0] [(0, 1, .c (.int .u8 2)), (1, 1, .c (.string (⟨#[99]⟩)))]),
    .op none (some 44) (.bld [.int .u8 0, .string (⟨#[]⟩), .string (⟨#[]⟩), .string (⟨#[]⟩), .int .i64 0, .slice none 0 0] [(0, 1, .c (.int .u8 5)), (1, 1, .c (.string (⟨#[98]⟩)))]),
    .op none (some 45) (.bld [.int .u8 0, .string (⟨#[]⟩), .string (⟨#[]⟩), .string (⟨#[]⟩), .int .i64 0, .slice none 0 0] [(0, 1, .c (.int .u8 2)), (1, 1, .c (.string (⟨#[98]⟩)))]),
    .op none (some 46) (.bldSl 3 3 [.int .i64 0, .int .i64 0, .int .i64 0] [(0, 1, .c (.int .i64 (-1))), (1, 1, .c (.int .i64 0)), (2, 1, .c (.int .i64 5))]),
    .op none (some 47) (.bld [.int .u8 0, .string (⟨#[]⟩), .string (⟨#[]⟩), .string (⟨#[]⟩), .int .i64 0, .slice none 0 0] [(0, 1, .c (.int .u8 9)), (5, 1, .t 46)]),
    .op none (some 48) (.bld [.int .u8 0, .string (⟨#[]⟩), .string (⟨#[]⟩), .string (⟨#[]⟩), .int .i64 0, .slice none 0 0] [(0, 1, .c (.int .u8 5)), (1, 1, .c (.string (⟨#[98]⟩)))]),
    .op none (some 49) (.bld [.int .u8 0, .string (⟨#[]⟩), .string (⟨#[]⟩), .string (⟨#[]⟩), .int .i64 0, .slice none 0 0] [(0, 1, .c (.int .u8 4)), (1, 1, .c (.string (⟨#[99]⟩))), (2, 1, .c (.string (⟨#[99]⟩)))]),
    .op none (some 50) (.bld [.int .u8 0, .string (⟨#[]⟩), .string (⟨#[]⟩), .string (⟨#[]⟩), .int .i64 0, .slice none 0 0] [(0, 1, .c (.int .u8 8))]),
    .op none (some 51) (.bld [.int .u8 0, .string (⟨#[]⟩), .string (⟨#[]⟩), .string (⟨#[]⟩), .int .i64 0, .slice none 0 0] [(0, 1, .c (.int .u8 7)), (4, 1, .c (.int .i64 (-9)))]),
    .op none (some 52) (.bld [.int .u8 0, .string (⟨#[]⟩), .string (⟨#[]⟩), .string (⟨#[]⟩), .int .i64 0, .slice none 0 0] [(0, 1, .c (.int .u8 9))]),
    .op none (some 53) (.bld [.int .u8 0, .string (⟨#[]⟩), .string (⟨#[]⟩), .string (⟨#[]⟩), .int .i64 0, .slice none 0 0] [(0, 1, .c (.int .u8 6)), (1, 1, .c (.string (⟨#[99]⟩)))]),
    .op none (some 54) (.bldSl 44 29 [.int .u8 0, .string (⟨#[]⟩), .string (⟨#[]⟩), .string (⟨#[]⟩), .int .i64 0, .slice none 0 0, .int .u8 0, .string (⟨#[]⟩), .string (⟨#[]⟩), .string (⟨#[]⟩), .int .i64 0, .slice none 0 0, .int .u8 0, .string (⟨#[]⟩), .string (⟨#[]⟩), .string (⟨#[]⟩), .int .i64 0, .slice none 0 0, .int .u8 0, .string (⟨#[]⟩), .string (⟨#[]⟩), .string (⟨#[]⟩), .int .i64 0, .slice none 0 0, .int .u8 0, .string (⟨#[]⟩), .string (⟨#[]⟩), .string (⟨#[]⟩), .int .i64 0, .slice none 0 0, .int .u8 0, .string (⟨#[]⟩), .string (⟨#[]⟩), .string (⟨#[]⟩), .int .i64 0, .slice none 0 0, .int .u8 0, .string (⟨#[]⟩), .string (⟨#[]⟩), .string (⟨#[]⟩), .int .i64 0, .slice none 0 0, .int .u8 0, .string (⟨#[]⟩), .string (⟨#[]⟩), .string (⟨#[]⟩), .int .i64 0, .slice none 0 0, .int .u8 0, .string (⟨#[]⟩), .string (⟨#[]⟩), .string (⟨#[]⟩), .int .i64 0, .slice none 0 0, .int .u8 0, .string (⟨#[]⟩), .string (⟨#[]⟩), .string (⟨#[]⟩), .int .i64 0, .slice none 0 0, .int .u8 0, .string (⟨#[]⟩), .string (⟨#[]⟩), .string (⟨#[]⟩), .int .i64 0, .slice none 0 0, .int .u8 0, .string (⟨#[]⟩), .string (⟨#[]⟩), .string (⟨#[]⟩), .int .i64 0, .slice none 0 0, .int .u8 0, .string (⟨#[]⟩), .string (⟨#[]⟩), .string (⟨#[]⟩), .int .i64 0, .slice none 0 0, .int .u8 0, .string (⟨#[]⟩), .string (⟨#[]⟩), .string (⟨#[]⟩), .int .i64 0, .slice none 0 0, .int .u8 0, .string (⟨#[]⟩), .string (⟨#[]⟩), .string (⟨#[]⟩), .int .i64 0, .slice none 0 0, .int .u8 0, .string (⟨#[]⟩), .string (⟨#[]⟩), .string (⟨#[]⟩), .int .i64 0, .slice none 0 0, .int .u8 0, .string (⟨#[]⟩), .string (⟨#[]⟩), .string (⟨#[]⟩), .int .i64 0, .slice none 0 0, .int .u8 0, .string (⟨#[]⟩), .string (⟨#[]⟩), .string (⟨#[]⟩), .int .i64 0, .slice none 0 0, .int .u8 0, .string (⟨#[]⟩), .string (⟨#[]⟩), .string (⟨#[]⟩), .int .i64 0, .slice none 0 0, .int .u8 0, .string (⟨#[]⟩), .string (⟨#[]⟩), .string (⟨#[]⟩), .int .i64 0, .slice none 0 0, .int .u8 0, .string (⟨#[]⟩), .string (⟨#[]⟩), .string (⟨#[]⟩), .int .i64 0, .slice none 0 0, .int .u8 0, .string (⟨#[]⟩), .string (⟨#[]⟩), .string (⟨#[]⟩), .int .i64 0, .slice none 0 0, .int .u8 0, .string (⟨#[]⟩), .string (⟨#[]⟩), .string (⟨#[]⟩), .int .i64 0, .slice none 0 0, .int .u8 0, .string (⟨#[]⟩), .string (⟨#[]⟩), .string (⟨#[]⟩), .int .i64 0, .slice none 0 0, .int .u8 0, .string (⟨#[]⟩), .string (⟨#[]⟩), .string (⟨#[]⟩), .int .i64 0, .slice none 0 0, .int .u8 0, .string (⟨#[]⟩), .string (⟨#[]⟩), .string (⟨#[]⟩), .int .i64 0, .slice none 0 0, .int .u8 0, .string (⟨#[]⟩), .string (⟨#[]⟩), .string (⟨#[]⟩), .int .i64 0, .slice none 0 0, .int .u8 0, .string (⟨#[]⟩), .string (⟨#[]⟩), .string (⟨#[]⟩), .int .i64 0, .slice none 0 0, .int .u8 0, .string (⟨#[]⟩), .string (⟨#[]⟩), .string (⟨#[]⟩), .int .i64 0, .slice none 0 0] [(0, 6, .t 17), (6, 6, .t 18), (12, 6, .t 19), (18, 6, .t 20), (24, 6, .t 22), (30, 6, .t 23), (36, 6, .t 25), (42, 6, .t 28), (48, 6, .t 29), (54, 6, .t 31), (60, 6, .t 32), (66, 6, .t 34), (72, 6, .t 36), (78, 6, .t 37), (84, 6, .t 38), (90, 6, .t 39), (96, 6, .t 40), (102, 6, .t 41), (108, 6, .t 42), (114, 6, .t 43), (120, 6, .t 44), (126, 6, .t 45), (132, 6, .t 47), (138, 6, .t 48), (144, 6, .t 49), (150, 6, .t 50), (156, 6, .t 51), (162, 6, .t 52), (168, 6, .t 53)]),
    .op none (some 3) (.mov (.t 54))])
  (.seq
  (.seq
  (.reg [.op none (some 4) (.mov (.c (.int .i64 0)))])
  (.block 2
  (.loop F9_l1)))
  (.seq
  (.seq
  (.reg [.op none (some 5) (.mov (.c (.int .i64 (-7))))])
  (.block 4
  (.loop F9_l2)))
  (.seq
  (.reg [.call none (some 137) 11 [.c (.int .i64 1099511627776)],
    .op none (some 6) (.mov (.t 137))])
  (.seq
  (.reg [.op none (some 138) (.mkSl 5 1 [.int .u8 0] 1 (.c (.int .i64 8388608)) (.c (.int .i64 8388608))),
    .op none (some 7) (.mov (.t 138))])
  (.seq
  (.seq
  (.reg [.op none (some 139) (.mov (.t 6)),
    .op none (some 140) (.mov (.t 7)),
    .call none (some 141) 14 [.t 139, .c (.string (⟨#[103]⟩)), .t 140],
    .op none (some 142) (.bin .neq (.t 141) (.c (.int .i64 0))),
    .op none (some 143) (.mov (.t 142)),
    .op (some (143, false)) (some 144) (.mov (.t 6)),
    .op (some (143, false)) (some 145) (.bldSl 5 1 [.int .u8 0] [(0, 1, .c (.int .u8 1))]),
    .call (some (143, false)) (some 146) 14 [.t 144, .c (.string (⟨#[103]⟩)), .t 145],
    .op (some (143, false)) (some 147) (.bin .neq (.t 146) (.c (.int .i64 3))),
    .op none (some 148) (.pick (.t 143) (.c (.bool true)) (.t 147)),
    .op none (some 149) (.mov (.t 148)),
    .op (some (149, false)) (some 150) (.mov (.t 6)),
    .op (some (149, false)) (some 151) (.mov (.t 7)),
    .op (some (149, false)) (some 152) (.bldSl 5 1 [.int .u8 0] [(0, 1, .c (.int .u8 1))]),
    .op (some (149, false)) (some 153) (.app 5 1 1 [.int .u8 0] (.t 151) (.t 152)),
    .call (some (149, false)) (some 154) 14 [.t 150, .c (.string (⟨#[104]⟩)), .t 153],
    .op (some (149, false)) (some 155) (.bin .neq (.t 154) (.c (.int .i64 3))),
    .op none (some 156) (.pick (.t 149) (.c (.bool true)) (.t 155)),
    .op none (some 157) (.mov (.t 156)),
    .op (some (157, false)) (some 158) (.mov (.t 6)),
    .call (some (157, false)) (some 159) 24 [.t 158],
    .op (some (157, false)) (some 160) (.bin .neq (.t 159) (.c (.int .i64 8388608))),
    .op none (some 161) (.pick (.t 157) (.c (.bool true)) (.t 160))])
  (.cond (.t 161)
    (.seq
    (.reg [.op none (some 0) (.mov (.c (.bool false)))])
    .ret)
    .skip))
  (.seq
  (.reg [.op none (some 8) (.mov (.c (.pointer none)))])
  (.seq
  (.reg [.op none (some 162) (.mov (.t 8)),
    .call none (some 163) 12 [.t 162, .c (.int .i64 1)]])
  (.seq
  (.reg [.op none (some 164) (.mov (.t 8)),
    .call none (some 165) 16 [.t 164]])
  (.seq
  (.reg [.op none (some 166) (.mov (.t 8)),
    .call none (some 167) 17 [.t 166, .c (.slice none 0 0)]])
  (.seq
  (.reg [.op none (some 169) (.mov (.t 8)),
    .call none (some 170) 18 [.t 169, .c (.string (⟨#[97]⟩))],
    .op none (some 168) (.mov (.t 170)),
    .op none (some 171) (.ext 0 (.t 168)),
    .op none (some 172) (.ext 1 (.t 168)),
    .op none (some 9) (.mov (.t 171)),
    .op none (some 10) (.mov (.t 172))])
  (.seq
  (.reg [.op none (some 173) (.mov (.t 10)),
    .op none (some 174) (.bin .eql (.t 173) (.c (.int .i64 1))),
    .op none (some 175) (.mov (.t 174)),
    .op (some (175, true)) (some 176) (.mov (.t 8)),
    .call (some (175, true)) (some 177) 14 [.t 176, .c (.string (⟨#[97]⟩)), .c (.slice none 0 0)],
    .op (some (175, true)) (some 178) (.bin .eql (.t 177) (.c (.int .i64 1))),
    .op none (some 179) (.pick (.t 175) (.t 178) (.c (.bool false))),
    .op none (some 180) (.mov (.t 179)),
    .op (some (180, true)) (some 181) (.mov (.t 8)),
    .call (some (180, true)) (some 182) 15 [.t 181, .c (.string (⟨#[97]⟩))],
    .op (some (180, true)) (some 183) (.bin .eql (.t 182) (.c (.int .i64 1))),
    .op none (some 184) (.pick (.t 180) (.t 183) (.c (.bool false))),
    .op none (some 185) (.mov (.t 184)),
    .op (some (185, true)) (some 186) (.mov (.t 8)),
    .call (some (185, true)) (some 187) 30 [.t 186, .c (.string (⟨#[97]⟩)), .c (.int .i64 0)],
    .op (some (185, true)) (some 188) (.bin .eql (.t 187) (.c (.int .i64 1))),
    .op none (some 189) (.pick (.t 185) (.t 188) (.c (.bool false))),
    .op none (some 190) (.mov (.t 189)),
    .op (some (190, true)) (some 191) (.mov (.t 8)),
    .call (some (190, true)) (some 192) 21 [.t 191, .c (.string (⟨#[97]⟩)), .c (.string (⟨#[98]⟩))],
    .op (some (190, true)) (some 193) (.bin .eql (.t 192) (.c (.int .i64 1))),
    .op none (some 194) (.pick (.t 190) (.t 193) (.c (.bool false))),
    .op none (some 195) (.mov (.t 194)),
    .op (some (195, true)) (some 196) (.mov (.t 8)),
    .call (some (195, true)) (some 197) 31 [.t 196, .c (.string (⟨#[97]⟩))],
    .op (some (195, true)) (some 198) (.bin .eql (.t 197) (.c (.int .i64 1))),
    .op none (some 199) (.pick (.t 195) (.t 198) (.c (.bool false))),
    .op none (some 200) (.mov (.t 199)),
    .op (some (200, true)) (some 201) (.mov (.t 8)),
    .call (some (200, true)) (some 202) 20 [.t 201],
    .op (some (200, true)) (some 203) (.lenV (.t 202)),
    .op (some (200, true)) (some 204) (.bin .eql (.t 203) (.c (.int .i64 0))),
    .op none (some 205) (.pick (.t 200) (.t 204) (.c (.bool false))),
    .op none (some 206) (.mov (.t 205)),
    .op (some (206, true)) (some 207) (.mov (.t 8)),
    .call (some (206, true)) (some 208) 24 [.t 207],
    .op (some (206, true)) (some 209) (.bin .eql (.t 208) (.c (.int .i64 0))),
    .op none (some 210) (.pick (.t 206) (.t 209) (.c (.bool false))),
    .op none (some 211) (.mov (.t 210)),
    .op (some (211, true)) (some 212) (.mov (.t 8)),
    .call (some (211, true)) (some 213) 25 [.t 212],
    .op (some (211, true)) (some 214) (.bin .eql (.t 213) (.c (.int .i64 0))),
    .op none (some 215) (.pick (.t 211) (.t 214) (.c (.bool false))),
    .op none (some 216) (.mov (.t 215)),
    .op (some (216, true)) (some 217) (.mov (.t 8)),
    .call (some (216, true)) (some 218) 13 [.t 217],
    .op none (some 219) (.pick (.t 216) (.t 218) (.c (.bool false))),
    .op none (some 220) (.mov (.t 219)),
    .op (some (220, true)) (some 221) (.mov (.t 8)),
    .call (some (220, true)) (some 222) 29 [.t 221],
    .op (some (220, true)) (some 223) (.eql false .ptr (.t 222) (.c (.pointer none))),
    .op none (some 224) (.pick (.t 220) (.t 223) (.c (.bool false))),
    .op none (some 225) (.mov (.t 224)),
    .call (some (225, true)) (some 226) 10 [],
    .op none (some 227) (.pick (.t 225) (.t 226) (.c (.bool false))),
    .op none (some 0) (.mov (.t 227))])
  .ret))))))))))))))) }
theorem F9_ok : compFun Try.prog 0 Try.f9 = some F9 := by kernel_rfl

def F10 : AFun :=
  { n := 65, res := [.t 0], code :=
  (.seq
  (.reg [.op none (some 0) (.mov (.c (.bool false)))])
  (.seq
  (.reg [.call none (some 8) 11 [.c (.int .i64 100)],
    .op none (some 1) (.mov (.t 8))])
  (.seq
  (.reg [.op none (some 9) (.mov (.t 1)),
    .op none (some 10) (.bldSl 5 2 [.int .u8 0, .int .u8 0] [(0, 1, .c (.int .u8 1)), (1, 1, .c (.int .u8 2))]),
    .call none (some 11) 14 [.t 9, .c (.string (⟨#[97]⟩)), .t 10],
    .op none (some 12) (.mov (.t 1)),
    .call none (some 13) 15 [.t 12, .c (.string (⟨#[97]⟩))],
    .op none (some 2) (.mov (.t 11)),
    .op none (some 3) (.mov (.t 13))])
  (.seq
  (.reg [.op none (some 14) (.mov (.t 1)),
    .op none (some 15) (.bldSl 5 2 [.int .u8 0, .int .u8 0] [(0, 1, .c (.int .u8 3)), (1, 1, .c (.int .u8 4))]),
    .call none (some 16) 14 [.t 14, .c (.string (⟨#[97]⟩)), .t 15],
    .op none (some 4) (.mov (.t 16))])
  (.seq
  (.reg [.op none (some 17) (.mov (.t 1)),
    .call none (some 18) 16 [.t 17]])
  (.seq
  (.reg [.op none (some 19) (.mov (.t 1)),
    .op none (some 20) (.bldSl 3 1 [.int .i64 0] [(0, 1, .c (.int .i64 1))]),
    .call none (some 21) 17 [.t 19, .t 20]])
  (.seq
  (.reg [.op none (some 23) (.mov (.t 1)),
    .call none (some 24) 18 [.t 23, .c (.string (⟨#[97]⟩))],
    .op none (some 22) (.mov (.t 24)),
    .op none (some 25) (.ext 0 (.t 22)),
    .op none (some 26) (.ext 1 (.t 22)),
    .op none (some 5) (.mov (.t 25)),
    .op none (some 6) (.mov (.t 26))])
  (.seq
  (.reg [.call none (some 27) 11 [.c (.int .i64 9)],
    .op none (some 7) (.mov (.t 27))])
  (.seq
  (.reg [.op none (some 28) (.mov (.t 7)),
    .op none (some 29) (.bldSl 5 1 [.int .u8 0] [(0, 1, .c (.int .u8 1))]),
    .call none (some 30) 14 [.t 28, .c (.string (⟨#[97]⟩)), .t 29]])
  (.seq
  (.reg [.op none (some 31) (.mov (.t 7)),
    .call none (some 32) 16 [.t 31]])
  (.seq
  (.reg [.op none (some 33) (.mov (.t 7)),
    .call none (some 34) 17 [.t 33, .c (.slice none 0 0)]])
  (.seq
  (.reg [.op none (some 35) (.mov (.t 2)),
    .op none (some 36) (.bin .eql (.t 35) (.c (.int .i64 0))),
    .op none (some 37) (.mov (.t 36)),
    .op (some (37, true)) (some 38) (.mov (.t 3)),
    .op (some (37, true)) (some 39) (.bin .eql (.t 38) (.c (.int .i64 0))),
    .op none (some 40) (.pick (.t 37) (.t 39) (.c (.bool false))),
    .op none (some 41) (.mov (.t 40)),
    .op (some (41, true)) (some 42) (.mov (.t 4)),
    .op (some (41, true)) (some 43) (.bin .eql (.t 42) (.c (.int .i64 0))),
    .op none (some 44) (.pick (.t 41) (.t 43) (.c (.bool false))),
    .op none (some 45) (.mov (.t 44)),
    .op (some (45, true)) (some 46) (.mov (.t 6)),
    .op (some (45, true)) (some 47) (.bin .eql (.t 46) (.c (.int .i64 0))),
    .op none (some 48) (.pick (.t 45) (.t 47) (.c (.bool false))),
    .op none (some 49) (.mov (.t 48)),
    .op (some (49, true)) (some 50) (.mov (.t 5)),
    .op (some (49, true)) (some 51) (.b2s (.t 50)),
    .op (some (49, true)) (some 52) (.bin .eql (.t 51) (.c (.string (⟨#[1, 2, 3]⟩)))),
    .op none (some 53) (.pick (.t 49) (.t 52) (.c (.bool false))),
    .op none (some 54) (.mov (.t 53)),
    .op (some (54, true)) (some 55) (.mov (.t 1)),
    .call (some (54, true)) (some 56) 24 [.t 55],
    .op (some (54, true)) (some 57) (.bin .eql (.t 56) (.c (.int .i64 3))),
    .op none (some 58) (.pick (.t 54) (.t 57) (.c (.bool false))),
    .op none (some 59) (.mov (.t 58)),
    .op (some (59, true)) (some 60) (.mov (.t 7)),
    .call (some (59, true)) (some 61) 20 [.t 60],
    .op (some (59, true)) (some 62) (.lenV (.t 61)),
    .op (some (59, true)) (some 63) (.bin .eql (.t 62) (.c (.int .i64 0))),
    .op none (some 64) (.pick (.t 59) (.t 63) (.c (.bool false))),
    .op none (some 0) (.mov (.t 64))])
  .ret)))))))))))) }
theorem F10_ok : compFun Try.prog 0 Try.f10 = some F10 := by kernel_rfl

def F11 : AFun :=
  { n := 7, res := [.t 2], code :=
  (.seq
  (.reg [.op none (some 2) (.mov (.c (.pointer none)))])
  (.seq
  (.reg [.op none (some 3) (.mov (.t 0)),
    .op none (some 4) (.mnx true (.c (.int .i64 0)) [.t 3]),
    .op none (some 5) (.bld [.slice none 0 0, .int .i64 0, .int .i64 0, .int .i64 0, .bool false] [(1, 1, .t 4), (3, 1, .c (.int .i64 (-1)))]),
    .op none (some 6) (.box 60 (.t 5)),
    .op none (some 2) (.mov (.t 6))])
  .ret)) }
theorem F11_ok : compFun Try.prog 0 Try.f11 = some F11 := by kernel_rfl

def F12 : AFun :=
  { n := 11, res := [], code :=
  (.seq
  (.reg [.op none (some 4) (.mov (.t 0)),
    .op none (some 5) (.eql true .ptr (.t 4) (.c (.pointer none)))])
  (.cond (.t 5)
    (.reg [.op none (some 6) (.mov (.t 0)),
      .op none (some 7) (.mov (.t 1)),
      .op none (some 8) (.mnx true (.c (.int .i64 (-1))) [.t 7]),
      .op none (some 9) (.nchk (.t 6)),
      .op none (some 10) (.fad 3 (.t 9)),
      .op none none (.st 1 (.t 10) (.t 8))])
    .skip)) }
theorem F12_ok : compFun Try.prog 0 Try.f12 = some F12 := by kernel_rfl

def F13 : AFun :=
  { n := 11, res := [.t 2], code :=
  (.seq
  (.reg [.op none (some 2) (.mov (.c (.bool false)))])
  (.seq
  (.reg [.op none (some 3) (.mov (.t 0)),
    .op none (some 4) (.eql false .ptr (.t 3) (.c (.pointer none))),
    .op none (some 5) (.mov (.t 4)),
    .op (some (5, false)) (some 6) (.mov (.t 0)),
    .op (some (5, false)) (some 7) (.nchk (.t 6)),
    .op (some (5, false)) (some 8) (.fad 4 (.t 7)),
    .op (some (5, false)) (some 9) (.ld1 (.t 8)),
    .op none (some 10) (.pick (.t 5) (.c (.bool true)) (.t 9)),
    .op none (some 2) (.mov (.t 10))])
  .ret)) }
theorem F13_ok : compFun Try.prog 0 Try.f13 = some F13 := by kernel_rfl

def F14 : AFun :=
  { n := 64, res := [.t 6], code :=
  (.seq
  (.reg [.op none (some 6) (.mov (.c (.int .i64 0)))])
  (.seq
  (.seq
  (.reg [.op none (some 11) (.mov (.t 0)),
    .op none (some 12) (.mov (.t 1)),
    .op none (some 13) (.bldSl 9 1 [.string (⟨#[]⟩)] [(0, 1, .t 12)]),
    .call none (some 14) 32 [.t 11, .t 13],
    .op none (some 7) (.mov (.t 14))])
  (.seq
  (.reg [.op none (some 15) (.mov (.t 7)),
    .op none (some 16) (.bin .neq (.t 15) (.c (.int .i64 0)))])
  (.cond (.t 16)
    (.seq
    (.reg [.op none (some 17) (.mov (.t 7)),
      .op none (some 6) (.mov (.t 17))])
    .ret)
    .skip)))
  (.seq
  (.reg [.op none (some 18) (.mov (.t 1)),
    .op none (some 19) (.bld [.string (⟨#[]⟩), .slice none 0 0, .slice none 0 0, .bool false] [(0, 1, .t 18)]),
    .op none (some 8) (.new 63 [.string (⟨#[]⟩), .slice none 0 0, .slice none 0 0, .bool false]),
    .op none none (.st 4 (.t 8) (.t 19))])
  (.seq
  (.seq
  (.reg [.op none (some 21) (.mov (.t 0)),
    .op none (some 22) (.mov (.t 1)),
    .call none (some 23) 33 [.t 21, .t 22],
    .op none (some 20) (.mov (.t 23)),
    .op none (some 24) (.ext 0 (.t 20)),
    .op none (some 25) (.ext 1 (.t 20)),
    .op none (some 9) (.mov (.t 24)),
    .op none (some 10) (.mov (.t 25))])
  (.seq
  (.reg [.op none (some 26) (.mov (.t 10))])
  (.cond (.t 26)
    (.reg [.op none (some 27) (.mov (.t 0)),
      .op none (some 28) (.nchk (.t 27)),
      .op none (some 29) (.fad 0 (.t 28)),
      .op none (some 30) (.ld1 (.t 29)),
      .op none (some 31) (.mov (.t 9)),
      .op none (some 32) (.iadV 4 (.t 30) (.t 31)),
      .op none (some 33) (.ldn 4 (.t 32)),
      .op none none (.st 4 (.t 8) (.t 33))])
    .skip)))
  (.seq
  (.block 0
  (.seq
  (.reg [.op none (some 35) (.mov (.t 2)),
    .op none (some 36) (.lenV (.t 35)),
    .op none (some 37) (.ldn 4 (.t 8)),
    .call none (some 38) 34 [.t 37],
    .op none (some 39) (.bin .sub (.c (.int .i64 8388608)) (.t 38)),
    .op none (some 40) (.bin .gtr (.t 36) (.t 39)),
    .op none (some 34) (.mov (.t 40))])
  (.cond (.t 34)
    (.seq
    (.reg [.op none (some 6) (.mov (.c (.int .i64 3)))])
    .ret)
    (.seq
    (.draw [.f (.op none (some 42) (.mov (.t 2))),
      .f (.op none (some 43) (.lenV (.t 42))),
      .f (.op none (some 44) (.mov (.t 0))),
      .f (.op none (some 45) (.nchk (.t 44))),
      .f (.op none (some 46) (.fad 1 (.t 45))),
      .f (.op none (some 47) (.ld1 (.t 46))),
      .f (.op none (some 48) (.mov (.t 0))),
      .b (.call none (some 49) 24 [.t 48]) [.op none (some 47) (.ld1 (.t 46))],
      .f (.op none (some 50) (.bin .sub (.t 47) (.t 49))),
      .f (.op none (some 51) (.bin .gtr (.t 43) (.t 50))),
      .f (.op none (some 41) (.mov (.t 51)))])
    (.cond (.t 41)
      (.seq
      (.reg [.op none (some 6) (.mov (.c (.int .i64 41)))])
      .ret)
      .skip)))))
  (.seq
  (.reg [.op none (some 52) (.fad 2 (.t 8)),
    .op none (some 53) (.ld1 (.t 52)),
    .op none (some 54) (.mov (.t 2)),
    .op none (some 55) (.bldSl 30 2 [.slice none 0 0, .slice none 0 0] [(0, 1, .t 53), (1, 1, .t 54)]),
    .call none (some 56) 35 [.t 55],
    .op none (some 57) (.fad 2 (.t 8)),
    .op none none (.st 1 (.t 57) (.t 56))])
  (.seq
  (.reg [.op none (some 58) (.mov (.t 0)),
    .op none (some 59) (.ldn 4 (.t 8)),
    .call none (some 60) 36 [.t 58, .t 59]])
  (.seq
  (.seq
  (.reg [.op none (some 61) (.mov (.t 0)),
    .call none (some 62) 37 [.t 61],
    .op none (some 63) (.un .not (.t 62))])
  (.cond (.t 63)
    (.seq
    (.reg [.op none (some 6) (.mov (.c (.int .i64 40)))])
    .ret)
    .skip))
  (.seq
  (.reg [.op none (some 6) (.mov (.c (.int .i64 0)))])
  .ret))))))))) }
theorem F14_ok : compFun Try.prog 0 Try.f14 = some F14 := by kernel_rfl

def F15 : AFun :=
  { n := 9, res := [.t 4], code :=
  (.seq
  (.reg [.op none (some 4) (.mov (.c (.int .i64 0)))])
  (.seq
  (.reg [.op none (some 5) (.mov (.t 0)),
    .op none (some 6) (.mov (.t 1)),
    .op none (some 7) (.mov (.t 1)),
    .call none (some 8) 38 [.t 5, .t 6, .t 7, .c (.func (Fn.func 39) (#[]) (#[]))],
    .op none (some 4) (.mov (.t 8))])
  .ret)) }
theorem F15_ok : compFun Try.prog 0 Try.f15 = some F15 := by kernel_rfl

def F16 : AFun :=
  { n := 10, res := [], code :=
  (.seq
  (.reg [.op none (some 2) (.mov (.t 0)),
    .op none (some 3) (.eql true .ptr (.t 2) (.c (.pointer none)))])
  (.cond (.t 3)
    (.reg [.op none (some 4) (.mov (.t 0)),
      .op none (some 5) (.mov (.t 0)),
      .op none (some 6) (.nchk (.t 4)),
      .op none (some 7) (.fad 4 (.t 6)),
      .op none none (.st 1 (.t 7) (.c (.bool true))),
      .op none (some 8) (.nchk (.t 5)),
      .op none (some 9) (.fad 3 (.t 8)),
      .op none none (.st 1 (.t 9) (.c (.int .i64 (-1))))])
    .skip)) }
theorem F16_ok : compFun Try.prog 0 Try.f16 = some F16 := by kernel_rfl

def F17_l0 : ACode :=
  (.seq
  (.reg [.op none (some 25) (.bin .lss (.t 24) (.t 23))])
  (.seq
  (.cond (.t 25)
    .skip
    (.exit 0))
  (.seq
  (.block 1
  (.seq
  (.reg [.op none (some 26) (.mov (.t 24)),
    .op none (some 27) (.iadV 4 (.t 22) (.t 24)),
    .op none (some 28) (.ldn 4 (.t 27)),
    .op none (some 6) (.new 63 [.string (⟨#[]⟩), .slice none 0 0, .slice none 0 0, .bool false]),
    .op none (some 5) (.mov (.t 26)),
    .op none none (.st 4 (.t 6) (.t 28))])
  (.seq
  (.reg [.op none (some 7) (.mov (.c (.int .i64 0)))])
  (.seq
  (.seq
  (.reg [.op none (some 29) (.mov (.t 5)),
    .op none (some 30) (.mov (.t 1)),
    .op none (some 31) (.lenV (.t 30)),
    .op none (some 32) (.bin .lss (.t 29) (.t 31))])
  (.cond (.t 32)
    (.seq
    (.reg [.op none (some 33) (.fad 2 (.t 6)),
      .op none (some 34) (.ld1 (.t 33)),
      .op none (some 35) (.lenV (.t 34)),
      .op none (some 36) (.bin .add (.t 35) (.c (.int .i64 1))),
      .op none (some 8) (.mov (.t 36))])
    (.reg [.op none (some 37) (.mov (.t 1)),
      .op none (some 38) (.mov (.t 5)),
      .op none (some 39) (.iadV 1 (.t 37) (.t 38)),
      .op none (some 40) (.ld1 (.t 39)),
      .op none (some 41) (.mov (.t 8)),
      .op none (some 42) (.bin .rem (.t 40) (.t 41)),
      .op none (some 43) (.mov (.t 8)),
      .op none (some 44) (.bin .add (.t 42) (.t 43)),
      .op none (some 45) (.mov (.t 8)),
      .op none (some 46) (.bin .rem (.t 44) (.t 45)),
      .op none (some 7) (.mov (.t 46))]))
    .skip))
  (.seq
  (.draw [.f (.op none (some 47) (.fad 1 (.t 6))),
    .f (.op none (some 48) (.ld1 (.t 47))),
    .f (.op none (some 49) (.fad 2 (.t 6))),
    .f (.op none (some 50) (.ld1 (.t 49))),
    .f (.op none (some 51) (.mov (.t 7))),
    .f (.op none (some 52) (.slV 1 (.t 50) none (some (.t 51)) none)),
    .b (.op none (some 53) (.bldSl 30 2 [.slice none 0 0, .slice none 0 0] [(0, 1, .t 48), (1, 1, .t 52)])) [],
    .b (.call none (some 54) 35 [.t 53]) [],
    .f (.op none (some 55) (.fad 1 (.t 6))),
    .b (.op none none (.st 1 (.t 55) (.t 54))) [],
    .f (.op none (some 56) (.fad 2 (.t 6))),
    .b (.op none none (.st 1 (.t 56) (.c (.slice none 0 0)))) []])
  (.seq
  (.reg [.op none (some 57) (.fad 3 (.t 6)),
    .op none (some 58) (.ld1 (.t 57)),
    .op none (some 59) (.mov (.t 58)),
    .op (some (59, false)) (some 60) (.fad 1 (.t 6)),
    .op (some (59, false)) (some 61) (.ld1 (.t 60)),
    .op (some (59, false)) (some 62) (.lenV (.t 61)),
    .op (some (59, false)) (some 63) (.bin .gtr (.t 62) (.c (.int .i64 0))),
    .op none (some 64) (.pick (.t 59) (.c (.bool true)) (.t 63)),
    .op none (some 65) (.fad 3 (.t 6)),
    .op none none (.st 1 (.t 65) (.t 64))])
  (.seq
  (.reg [.op none (some 66) (.fad 3 (.t 6)),
    .op none (some 67) (.ld1 (.t 66))])
  (.cond (.t 67)
    (.reg [.op none (some 68) (.mov (.t 4)),
      .op none (some 69) (.ldn 4 (.t 6)),
      .op none (some 70) (.bldSl 63 1 [.string (⟨#[]⟩), .slice none 0 0, .slice none 0 0, .bool false] [(0, 4, .t 69)]),
      .op none (some 71) (.app 63 4 72 [.string (⟨#[]⟩), .slice none 0 0, .slice none 0 0, .bool false] (.t 68) (.t 70)),
      .op none (some 4) (.mov (.t 71))])
    .skip))))))))
  (.reg [.op none (some 72) (.bin .add (.t 24) (.c (.int .i64 1))),
    .op none (some 24) (.mov (.t 72))]))))

def F17 : AFun :=
  { n := 80, res := [], code :=
  (.seq
  (.seq
  (.reg [.op none (some 9) (.mov (.t 0)),
    .op none (some 10) (.eql false .ptr (.t 9) (.c (.pointer none)))])
  (.cond (.t 10)
    .ret
    .skip))
  (.seq
  (.reg [.op none (some 11) (.mov (.t 0)),
    .op none (some 12) (.nchk (.t 11)),
    .op none (some 13) (.fad 3 (.t 12)),
    .op none none (.st 1 (.t 13) (.c (.int .i64 (-1))))])
  (.seq
  (.seq
  (.reg [.op none (some 14) (.mov (.t 0)),
    .op none (some 15) (.nchk (.t 14)),
    .op none (some 16) (.fad 4 (.t 15)),
    .op none (some 17) (.ld1 (.t 16)),
    .op none (some 18) (.un .not (.t 17))])
  (.cond (.t 18)
    .ret
    .skip))
  (.seq
  (.reg [.op none (some 4) (.mov (.c (.slice none 0 0)))])
  (.seq
  (.seq
  (.reg [.op none (some 19) (.mov (.t 0)),
    .op none (some 20) (.nchk (.t 19)),
    .op none (some 21) (.fad 0 (.t 20)),
    .op none (some 22) (.ld1 (.t 21)),
    .op none (some 23) (.lenV (.t 22)),
    .op none (some 24) (.mov (.c (.int .i64 0)))])
  (.block 0
  (.loop F17_l0)))
  (.reg [.op none (some 73) (.mov (.t 0)),
    .op none (some 74) (.mov (.t 0)),
    .op none (some 75) (.mov (.t 4)),
    .op none (some 76) (.nchk (.t 73)),
    .op none (some 77) (.fad 0 (.t 76)),
    .op none none (.st 1 (.t 77) (.t 75)),
    .op none (some 78) (.nchk (.t 74)),
    .op none (some 79) (.fad 4 (.t 78)),
    .op none none (.st 1 (.t 79) (.c (.bool false)))])))))) }
theorem F17_ok : compFun Try.prog 0 Try.f17 = some F17 := by kernel_rfl

def F18 : AFun :=
  { n := 32, res := [.t 4, .t 5], code :=
  (.seq
  (.reg [.op none (some 4) (.mov (.c (.slice none 0 0))),
    .op none (some 5) (.mov (.c (.int .i64 0)))])
  (.seq
  (.seq
  (.reg [.op none (some 9) (.mov (.t 0)),
    .op none (some 10) (.mov (.t 1)),
    .op none (some 11) (.bldSl 9 1 [.string (⟨#[]⟩)] [(0, 1, .t 10)]),
    .call none (some 12) 32 [.t 9, .t 11],
    .op none (some 6) (.mov (.t 12))])
  (.seq
  (.reg [.op none (some 13) (.mov (.t 6)),
    .op none (some 14) (.bin .neq (.t 13) (.c (.int .i64 0)))])
  (.cond (.t 14)
    (.seq
    (.reg [.op none (some 15) (.mov (.t 6)),
      .op none (some 4) (.mov (.c (.slice none 0 0))),
      .op none (some 5) (.mov (.t 15))])
    .ret)
    .skip)))
  (.seq
  (.reg [.op none (some 17) (.mov (.t 0)),
    .op none (some 18) (.mov (.t 1)),
    .call none (some 19) 33 [.t 17, .t 18],
    .op none (some 16) (.mov (.t 19)),
    .op none (some 20) (.ext 0 (.t 16)),
    .op none (some 21) (.ext 1 (.t 16)),
    .op none (some 7) (.mov (.t 20)),
    .op none (some 8) (.mov (.t 21))])
  (.seq
  (.seq
  (.reg [.op none (some 22) (.mov (.t 8)),
    .op none (some 23) (.un .not (.t 22))])
  (.cond (.t 23)
    (.seq
    (.reg [.op none (some 4) (.mov (.c (.slice none 0 0))),
      .op none (some 5) (.mov (.c (.int .i64 5)))])
    .ret)
    .skip))
  (.seq
  (.reg [.op none (some 24) (.mov (.t 0)),
    .op none (some 25) (.nchk (.t 24)),
    .op none (some 26) (.fad 0 (.t 25)),
    .op none (some 27) (.ld1 (.t 26)),
    .op none (some 28) (.mov (.t 7)),
    .op none (some 29) (.iadV 4 (.t 27) (.t 28)),
    .op none (some 30) (.ldn 4 (.t 29)),
    .call none (some 31) 40 [.t 30],
    .op none (some 4) (.mov (.t 31)),
    .op none (some 5) (.mov (.c (.int .i64 0)))])
  .ret))))) }
theorem F18_ok : compFun Try.prog 0 Try.f18 = some F18 := by kernel_rfl

def F19 : AFun :=
  { n := 26, res := [.t 6], code :=
  (.seq
  (.reg [.op none (some 6) (.mov (.c (.int .i64 0)))])
  (.seq
  (.seq
  (.reg [.op none (some 8) (.mov (.t 1)),
    .op none (some 9) (.mov (.t 0)),
    .op none (some 10) (.lenV (.t 9)),
    .op none (some 11) (.bin .geq (.t 8) (.t 10))])
  (.cond (.t 11)
    (.seq
    (.reg [.op none (some 6) (.mov (.c (.int .i64 0)))])
    .ret)
    .skip))
  (.seq
  (.reg [.op none (some 12) (.mov (.t 0)),
    .op none (some 13) (.mov (.t 1)),
    .op none (some 14) (.iadV 1 (.t 12) (.t 13)),
    .op none (some 15) (.ld1 (.t 14)),
    .op none (some 16) (.mov (.t 2)),
    .op none (some 17) (.bin .add (.t 16) (.c (.int .i64 1))),
    .op none (some 18) (.bin .rem (.t 15) (.t 17)),
    .op none (some 7) (.mov (.t 18))])
  (.seq
  (.seq
  (.reg [.op none (some 19) (.mov (.t 7)),
    .op none (some 20) (.bin .lss (.t 19) (.c (.int .i64 0)))])
  (.cond (.t 20)
    (.seq
    (.reg [.op none (some 21) (.mov (.t 7)),
      .op none (some 22) (.mov (.t 2)),
      .op none (some 23) (.bin .add (.t 21) (.t 22)),
      .op none (some 24) (.bin .add (.t 23) (.c (.int .i64 1))),
      .op none (some 6) (.mov (.t 24))])
    .ret)
    .skip))
  (.seq
  (.reg [.op none (some 25) (.mov (.t 7)),
    .op none (some 6) (.mov (.t 25))])
  .ret))))) }
theorem F19_ok : compFun Try.prog 0 Try.f19 = some F19 := by kernel_rfl

def F20_l0 : ACode :=
  (.seq
  (.reg [.op none (some 14) (.bin .lss (.t 13) (.t 12))])
  (.seq
  (.cond (.t 14)
    .skip
    (.exit 0))
  (.seq
  (.block 1
  (.seq
  (.reg [.op none (some 15) (.iadV 4 (.t 11) (.t 13)),
    .op none (some 16) (.ldn 4 (.t 15)),
    .op none (some 5) (.new 63 [.string (⟨#[]⟩), .slice none 0 0, .slice none 0 0, .bool false]),
    .op none none (.st 4 (.t 5) (.t 16))])
  (.reg [.op none (some 17) (.mov (.t 3)),
    .op none (some 18) (.fad 0 (.t 5)),
    .op none (some 19) (.ld1 (.t 18)),
    .op none (some 20) (.bldSl 9 1 [.string (⟨#[]⟩)] [(0, 1, .t 19)]),
    .op none (some 21) (.app 9 1 16 [.string (⟨#[]⟩)] (.t 17) (.t 20)),
    .op none (some 3) (.mov (.t 21))])))
  (.reg [.op none (some 22) (.bin .add (.t 13) (.c (.int .i64 1))),
    .op none (some 13) (.mov (.t 22))]))))

def F20 : AFun :=
  { n := 24, res := [.t 2], code :=
  (.seq
  (.reg [.op none (some 2) (.mov (.c (.slice none 0 0)))])
  (.seq
  (.seq
  (.reg [.op none (some 6) (.mov (.t 0)),
    .op none (some 7) (.eql false .ptr (.t 6) (.c (.pointer none)))])
  (.cond (.t 7)
    (.seq
    (.reg [.op none (some 2) (.mov (.c (.slice none 0 0)))])
    .ret)
    .skip))
  (.seq
  (.reg [.op none (some 3) (.mov (.c (.slice none 0 0)))])
  (.seq
  (.seq
  (.reg [.op none (some 8) (.mov (.t 0)),
    .op none (some 9) (.nchk (.t 8)),
    .op none (some 10) (.fad 0 (.t 9)),
    .op none (some 11) (.ld1 (.t 10)),
    .op none (some 12) (.lenV (.t 11)),
    .op none (some 13) (.mov (.c (.int .i64 0)))])
  (.block 0
  (.loop F20_l0)))
  (.seq
  (.reg [.op none (some 23) (.mov (.t 3)),
    .op none (some 2) (.mov (.t 23))])
  .ret))))) }
theorem F20_ok : compFun Try.prog 0 Try.f20 = some F20 := by kernel_rfl

def F21 : AFun :=
  { n := 11, res := [.t 6], code :=
  (.seq
  (.reg [.op none (some 6) (.mov (.c (.int .i64 0)))])
  (.seq
  (.reg [.op none (some 7) (.mov (.t 0)),
    .op none (some 8) (.mov (.t 1)),
    .op none (some 9) (.mov (.t 2)),
    .call none (some 10) 38 [.t 7, .t 8, .t 9, .c (.func (Fn.func 39) (#[]) (#[]))],
    .op none (some 6) (.mov (.t 10))])
  .ret)) }
theorem F21_ok : compFun Try.prog 0 Try.f21 = some F21 := by kernel_rfl

def F22_l0 : ACode :=
  (.seq
  (.seq
  (.reg [.op none (some 4) (.mov (.t 3)),
    .op none (some 5) (.mov (.t 0)),
    .op none (some 6) (.lenV (.t 5)),
    .op none (some 7) (.bin .lss (.t 4) (.t 6)),
    .op none (some 8) (.mov (.t 7)),
    .op (some (8, true)) (some 9) (.mov (.t 3)),
    .op (some (8, true)) (some 10) (.bin .lss (.t 9) (.c (.int .i64 50))),
    .op none (some 11) (.pick (.t 8) (.t 10) (.c (.bool false)))])
  (.cond (.t 11)
    .skip
    (.exit 0)))
  (.seq
  (.block 1
  (.seq
  (.reg [.op none (some 14) (.mov (.t 0)),
    .op none (some 15) (.mov (.t 3)),
    .op none (some 16) (.iadV 6 (.t 14) (.t 15)),
    .op none (some 17) (.fad 1 (.t 16)),
    .op none (some 18) (.ld1 (.t 17)),
    .op none (some 19) (.lenS (.t 18)),
    .op none (some 20) (.bin .gtr (.t 19) (.c (.int .i64 200))),
    .op none (some 21) (.mov (.t 20)),
    .op (some (21, false)) (some 22) (.mov (.t 0)),
    .op (some (21, false)) (some 23) (.mov (.t 3)),
    .op (some (21, false)) (some 24) (.iadV 6 (.t 22) (.t 23)),
    .op (some (21, false)) (some 25) (.fad 2 (.t 24)),
    .op (some (21, false)) (some 26) (.ld1 (.t 25)),
    .op (some (21, false)) (some 27) (.lenS (.t 26)),
    .op (some (21, false)) (some 28) (.bin .gtr (.t 27) (.c (.int .i64 200))),
    .op none (some 29) (.pick (.t 21) (.c (.bool true)) (.t 28)),
    .op none (some 30) (.mov (.t 29)),
    .op (some (30, false)) (some 31) (.mov (.t 0)),
    .op (some (30, false)) (some 32) (.mov (.t 3)),
    .op (some (30, false)) (some 33) (.iadV 6 (.t 31) (.t 32)),
    .op (some (30, false)) (some 34) (.fad 3 (.t 33)),
    .op (some (30, false)) (some 35) (.ld1 (.t 34)),
    .op (some (30, false)) (some 36) (.lenS (.t 35)),
    .op (some (30, false)) (some 37) (.bin .gtr (.t 36) (.c (.int .i64 200))),
    .op none (some 38) (.pick (.t 30) (.c (.bool true)) (.t 37)),
    .op none (some 39) (.mov (.t 38)),
    .op (some (39, false)) (some 40) (.mov (.t 0)),
    .op (some (39, false)) (some 41) (.mov (.t 3)),
    .op (some (39, false)) (some 42) (.iadV 6 (.t 40) (.t 41)),
    .op (some (39, false)) (some 43) (.fad 5 (.t 42)),
    .op (some (39, false)) (some 44) (.ld1 (.t 43)),
    .op (some (39, false)) (some 45) (.lenV (.t 44)),
    .op (some (39, false)) (some 46) (.bin .gtr (.t 45) (.c (.int .i64 200))),
    .op none (some 47) (.pick (.t 39) (.c (.bool true)) (.t 46))])
  (.cond (.t 47)
    (.seq
    (.reg [.op none (some 2) (.mov (.c (.bool false)))])
    .ret)
    .skip)))
  (.reg [.op none (some 12) (.mov (.t 3)),
    .op none (some 13) (.bin .add (.t 12) (.c (.int .i64 1))),
    .op none (some 3) (.mov (.t 13))])))

def F22 : AFun :=
  { n := 51, res := [.t 2], code :=
  (.seq
  (.reg [.op none (some 2) (.mov (.c (.bool false)))])
  (.seq
  (.seq
  (.reg [.op none (some 3) (.mov (.c (.int .i64 0)))])
  (.block 0
  (.loop F22_l0)))
  (.seq
  (.reg [.op none (some 48) (.mov (.t 0)),
    .op none (some 49) (.lenV (.t 48)),
    .op none (some 50) (.bin .leq (.t 49) (.c (.int .i64 50))),
    .op none (some 2) (.mov (.t 50))])
  .ret))) }
theorem F22_ok : compFun Try.prog 0 Try.f22 = some F22 := by kernel_rfl

def F23_l0 : ACode :=
  (.seq
  (.seq
  (.reg [.op none (some 27) (.mov (.t 8)),
    .op none (some 28) (.mov (.t 6)),
    .op none (some 29) (.lenV (.t 28)),
    .op none (some 30) (.bin .lss (.t 27) (.t 29))])
  (.cond (.t 30)
    .skip
    (.exit 1)))
  (.seq
  (.block 2
  (.reg [.op none (some 33) (.mov (.t 6)),
    .op none (some 34) (.mov (.t 8)),
    .op none (some 35) (.mov (.t 6)),
    .op none (some 36) (.mov (.t 8)),
    .op none (some 37) (.iadV 1 (.t 35) (.t 36)),
    .op none (some 38) (.ld1 (.t 37)),
    .op none (some 39) (.bin .xor (.t 38) (.c (.int .u8 255))),
    .op none (some 40) (.iadV 1 (.t 33) (.t 34)),
    .op none none (.st 1 (.t 40) (.t 39))]))
  (.reg [.op none (some 31) (.mov (.t 8)),
    .op none (some 32) (.bin .add (.t 31) (.c (.int .i64 1))),
    .op none (some 8) (.mov (.t 32))])))

def F23_l1 : ACode :=
  (.seq
  (.seq
  (.reg [.op none (some 81) (.mov (.t 12)),
    .op none (some 82) (.mov (.t 9)),
    .op none (some 83) (.lenV (.t 82)),
    .op none (some 84) (.bin .lss (.t 81) (.t 83))])
  (.cond (.t 84)
    .skip
    (.exit 3)))
  (.seq
  (.block 4
  (.reg [.op none (some 87) (.mov (.t 9)),
    .op none (some 88) (.mov (.t 12)),
    .op none (some 89) (.mov (.t 9)),
    .op none (some 90) (.mov (.t 12)),
    .op none (some 91) (.iadV 1 (.t 89) (.t 90)),
    .op none (some 92) (.ld1 (.t 91)),
    .op none (some 93) (.bin .xor (.t 92) (.c (.int .u8 255))),
    .op none (some 94) (.iadV 1 (.t 87) (.t 88)),
    .op none none (.st 1 (.t 94) (.t 93))]))
  (.reg [.op none (some 85) (.mov (.t 12)),
    .op none (some 86) (.bin .add (.t 85) (.c (.int .i64 1))),
    .op none (some 12) (.mov (.t 86))])))

def F23 : AFun :=
  { n := 113, res := [.t 4, .t 5], code :=
  (.seq
  (.reg [.op none (some 3) (.box 44 (.t 1)),
    .op none (some 4) (.mov (.c (.int .i64 0))),
    .op none (some 5) (.mov (.c (.string (⟨#[]⟩))))])
  (.seq
  (.seq
  (.reg [.op none (some 13) (.fad 0 (.t 3)),
    .op none (some 14) (.ld1 (.t 13)),
    .op none (some 15) (.bin .rem (.t 14) (.c (.int .u8 10)))])
  (.block 0
  (.seq
  (.seq
  (.reg [.op none (some 17) (.bin .eql (.t 15) (.c (.int .u8 0))),
    .op none (some 16) (.mov (.t 17))])
  (.cond (.t 16)
    .skip
    (.reg [.op none (some 18) (.bin .eql (.t 15) (.c (.int .u8 1))),
      .op none (some 16) (.mov (.t 18))])))
  (.cond (.t 16)
    (.seq
    (.reg [.op none (some 19) (.fad 3 (.t 3)),
      .op none (some 20) (.ld1 (.t 19)),
      .op none (some 21) (.s2b 5 (.t 20)),
      .op none (some 6) (.mov (.t 21))])
    (.seq
    (.reg [.op none (some 22) (.mov (.t 0)),
      .op none (some 23) (.fad 1 (.t 3)),
      .op none (some 24) (.ld1 (.t 23)),
      .op none (some 25) (.mov (.t 6)),
      .call none (some 26) 14 [.t 22, .t 24, .t 25],
      .op none (some 7) (.mov (.t 26))])
    (.seq
    (.seq
    (.reg [.op none (some 8) (.mov (.c (.int .i64 0)))])
    (.block 1
    (.loop F23_l0)))
    (.seq
    (.reg [.op none (some 41) (.mov (.t 7)),
      .op none (some 4) (.mov (.t 41)),
      .op none (some 5) (.mov (.c (.string (⟨#[]⟩))))])
    .ret))))
    (.seq
    (.reg [.op none (some 43) (.bin .eql (.t 15) (.c (.int .u8 2))),
      .op none (some 42) (.mov (.t 43))])
    (.cond (.t 42)
      (.seq
      (.reg [.op none (some 44) (.mov (.t 0)),
        .op none (some 45) (.fad 1 (.t 3)),
        .op none (some 46) (.ld1 (.t 45)),
        .call none (some 47) 15 [.t 44, .t 46],
        .op none (some 4) (.mov (.t 47)),
        .op none (some 5) (.mov (.c (.string (⟨#[]⟩))))])
      .ret)
      (.seq
      (.reg [.op none (some 49) (.bin .eql (.t 15) (.c (.int .u8 3))),
        .op none (some 48) (.mov (.t 49))])
      (.cond (.t 48)
        (.seq
        (.reg [.op none (some 50) (.mov (.t 0)),
          .op none (some 51) (.fad 1 (.t 3)),
          .op none (some 52) (.ld1 (.t 51)),
          .op none (some 53) (.fad 4 (.t 3)),
          .op none (some 54) (.ld1 (.t 53)),
          .call none (some 55) 30 [.t 50, .t 52, .t 54],
          .op none (some 4) (.mov (.t 55)),
          .op none (some 5) (.mov (.c (.string (⟨#[]⟩))))])
        .ret)
        (.seq
        (.reg [.op none (some 57) (.bin .eql (.t 15) (.c (.int .u8 4))),
          .op none (some 56) (.mov (.t 57))])
        (.cond (.t 56)
          (.seq
          (.reg [.op none (some 58) (.mov (.t 0)),
            .op none (some 59) (.fad 1 (.t 3)),
            .op none (some 60) (.ld1 (.t 59)),
            .op none (some 61) (.fad 2 (.t 3)),
            .op none (some 62) (.ld1 (.t 61)),
            .call none (some 63) 21 [.t 58, .t 60, .t 62],
            .op none (some 4) (.mov (.t 63)),
            .op none (some 5) (.mov (.c (.string (⟨#[]⟩))))])
          .ret)
          (.seq
          (.reg [.op none (some 65) (.bin .eql (.t 15) (.c (.int .u8 5))),
            .op none (some 64) (.mov (.t 65))])
          (.cond (.t 64)
            (.seq
            (.reg [.op none (some 66) (.mov (.t 0)),
              .op none (some 67) (.fad 1 (.t 3)),
              .op none (some 68) (.ld1 (.t 67)),
              .call none (some 69) 31 [.t 66, .t 68],
              .op none (some 4) (.mov (.t 69)),
              .op none (some 5) (.mov (.c (.string (⟨#[]⟩))))])
            .ret)
            (.seq
            (.reg [.op none (some 71) (.bin .eql (.t 15) (.c (.int .u8 6))),
              .op none (some 70) (.mov (.t 71))])
            (.cond (.t 70)
              (.seq
              (.reg [.op none (some 73) (.mov (.t 0)),
                .op none (some 74) (.fad 1 (.t 3)),
                .op none (some 75) (.ld1 (.t 74)),
                .call none (some 76) 18 [.t 73, .t 75],
                .op none (some 72) (.mov (.t 76)),
                .op none (some 77) (.ext 0 (.t 72)),
                .op none (some 78) (.ext 1 (.t 72)),
                .op none (some 9) (.mov (.t 77)),
                .op none (some 10) (.mov (.t 78))])
              (.seq
              (.reg [.op none (some 79) (.mov (.t 9)),
                .op none (some 80) (.b2s (.t 79)),
                .op none (some 11) (.mov (.t 80))])
              (.seq
              (.seq
              (.reg [.op none (some 12) (.mov (.c (.int .i64 0)))])
              (.block 3
              (.loop F23_l1)))
              (.seq
              (.reg [.op none (some 95) (.mov (.t 10)),
                .op none (some 96) (.mov (.t 11)),
                .op none (some 4) (.mov (.t 95)),
                .op none (some 5) (.mov (.t 96))])
              .ret))))
              (.seq
              (.reg [.op none (some 98) (.bin .eql (.t 15) (.c (.int .u8 7))),
                .op none (some 97) (.mov (.t 98))])
              (.cond (.t 97)
                (.reg [.op none (some 99) (.mov (.t 0)),
                  .op none (some 100) (.fad 4 (.t 3)),
                  .op none (some 101) (.ld1 (.t 100)),
                  .call none (some 102) 12 [.t 99, .t 101]])
                (.seq
                (.reg [.op none (some 104) (.bin .eql (.t 15) (.c (.int .u8 8))),
                  .op none (some 103) (.mov (.t 104))])
                (.cond (.t 103)
                  (.reg [.op none (some 105) (.mov (.t 0)),
                    .call none (some 106) 16 [.t 105]])
                  (.seq
                  (.reg [.op none (some 108) (.bin .eql (.t 15) (.c (.int .u8 9))),
                    .op none (some 107) (.mov (.t 108))])
                  (.cond (.t 107)
                    (.reg [.op none (some 109) (.mov (.t 0)),
                      .op none (some 110) (.fad 5 (.t 3)),
                      .op none (some 111) (.ld1 (.t 110)),
                      .call none (some 112) 17 [.t 109, .t 111]])
                    .skip))))))))))))))))))))
  (.seq
  (.reg [.op none (some 4) (.mov (.c (.int .i64 0))),
    .op none (some 5) (.mov (.c (.string (⟨#[]⟩))))])
  .ret))) }
theorem F23_ok : compFun Try.prog 0 Try.f23 = some F23 := by kernel_rfl

def F24_l0 : ACode :=
  (.seq
  (.reg [.op none (some 14) (.bin .lss (.t 13) (.t 12))])
  (.seq
  (.cond (.t 14)
    .skip
    (.exit 0))
  (.seq
  (.block 1
  (.seq
  (.reg [.op none (some 15) (.iadV 4 (.t 11) (.t 13)),
    .op none (some 16) (.ldn 4 (.t 15)),
    .op none (some 5) (.new 63 [.string (⟨#[]⟩), .slice none 0 0, .slice none 0 0, .bool false]),
    .op none none (.st 4 (.t 5) (.t 16))])
  (.reg [.op none (some 17) (.mov (.t 3)),
    .op none (some 18) (.ldn 4 (.t 5)),
    .call none (some 19) 34 [.t 18],
    .op none (some 20) (.bin .add (.t 17) (.t 19)),
    .op none (some 3) (.mov (.t 20))])))
  (.reg [.op none (some 21) (.bin .add (.t 13) (.c (.int .i64 1))),
    .op none (some 13) (.mov (.t 21))]))))

def F24 : AFun :=
  { n := 23, res := [.t 2], code :=
  (.seq
  (.reg [.op none (some 2) (.mov (.c (.int .i64 0)))])
  (.seq
  (.seq
  (.reg [.op none (some 6) (.mov (.t 0)),
    .op none (some 7) (.eql false .ptr (.t 6) (.c (.pointer none)))])
  (.cond (.t 7)
    (.seq
    (.reg [.op none (some 2) (.mov (.c (.int .i64 0)))])
    .ret)
    .skip))
  (.seq
  (.reg [.op none (some 3) (.mov (.c (.int .i64 0)))])
  (.seq
  (.seq
  (.reg [.op none (some 8) (.mov (.t 0)),
    .op none (some 9) (.nchk (.t 8)),
    .op none (some 10) (.fad 0 (.t 9)),
    .op none (some 11) (.ld1 (.t 10)),
    .op none (some 12) (.lenV (.t 11)),
    .op none (some 13) (.mov (.c (.int .i64 0)))])
  (.block 0
  (.loop F24_l0)))
  (.seq
  (.reg [.op none (some 22) (.mov (.t 3)),
    .op none (some 2) (.mov (.t 22))])
  .ret))))) }
theorem F24_ok : compFun Try.prog 0 Try.f24 = some F24 := by kernel_rfl

def F25 : AFun :=
  { n := 9, res := [.t 2], code :=
  (.seq
  (.reg [.op none (some 2) (.mov (.c (.int .i64 0)))])
  (.seq
  (.seq
  (.reg [.op none (some 3) (.mov (.t 0)),
    .op none (some 4) (.eql false .ptr (.t 3) (.c (.pointer none)))])
  (.cond (.t 4)
    (.seq
    (.reg [.op none (some 2) (.mov (.c (.int .i64 0)))])
    .ret)
    .skip))
  (.seq
  (.reg [.op none (some 5) (.mov (.t 0)),
    .op none (some 6) (.nchk (.t 5)),
    .op none (some 7) (.fad 2 (.t 6)),
    .op none (some 8) (.ld1 (.t 7)),
    .op none (some 2) (.mov (.t 8))])
  .ret))) }
theorem F25_ok : compFun Try.prog 0 Try.f25 = some F25 := by kernel_rfl

def F26 : AFun :=
  { n := 7, res := [.t 2], code :=
  (.seq
  (.reg [.op none (some 2) (.mov (.c (.pointer none)))])
  (.seq
  (.reg [.op none (some 3) (.mov (.t 0)),
    .op none (some 4) (.mnx true (.c (.int .i64 0)) [.t 3]),
    .op none (some 5) (.bld [.slice none 0 0, .int .i64 0, .int .i64 0, .int .i64 0, .bool false] [(1, 1, .t 4), (3, 1, .c (.int .i64 (-1)))]),
    .op none (some 6) (.box 73 (.t 5)),
    .op none (some 2) (.mov (.t 6))])
  .ret)) }
theorem F26_ok : compFun Try.prog 0 Try.f26 = some F26 := by kernel_rfl

def F27 : AFun :=
  { n := 77, res := [.t 4, .t 5], code :=
  (.seq
  (.reg [.op none (some 3) (.box 44 (.t 1)),
    .op none (some 4) (.mov (.c (.int .i64 0))),
    .op none (some 5) (.mov (.c (.string (⟨#[]⟩))))])
  (.seq
  (.seq
  (.reg [.op none (some 8) (.fad 0 (.t 3)),
    .op none (some 9) (.ld1 (.t 8)),
    .op none (some 10) (.bin .rem (.t 9) (.c (.int .u8 10)))])
  (.block 0
  (.seq
  (.seq
  (.reg [.op none (some 12) (.bin .eql (.t 10) (.c (.int .u8 0))),
    .op none (some 11) (.mov (.t 12))])
  (.cond (.t 11)
    .skip
    (.reg [.op none (some 13) (.bin .eql (.t 10) (.c (.int .u8 1))),
      .op none (some 11) (.mov (.t 13))])))
  (.cond (.t 11)
    (.seq
    (.reg [.op none (some 14) (.mov (.t 0)),
      .op none (some 15) (.fad 1 (.t 3)),
      .op none (some 16) (.ld1 (.t 15)),
      .op none (some 17) (.fad 3 (.t 3)),
      .op none (some 18) (.ld1 (.t 17)),
      .op none (some 19) (.s2b 5 (.t 18)),
      .call none (some 20) 41 [.t 14, .t 16, .t 19],
      .op none (some 4) (.mov (.t 20)),
      .op none (some 5) (.mov (.c (.string (⟨#[]⟩))))])
    .ret)
    (.seq
    (.reg [.op none (some 22) (.bin .eql (.t 10) (.c (.int .u8 2))),
      .op none (some 21) (.mov (.t 22))])
    (.cond (.t 21)
      (.seq
      (.reg [.op none (some 23) (.mov (.t 0)),
        .op none (some 24) (.fad 1 (.t 3)),
        .op none (some 25) (.ld1 (.t 24)),
        .call none (some 26) 42 [.t 23, .t 25],
        .op none (some 4) (.mov (.t 26)),
        .op none (some 5) (.mov (.c (.string (⟨#[]⟩))))])
      .ret)
      (.seq
      (.reg [.op none (some 28) (.bin .eql (.t 10) (.c (.int .u8 3))),
        .op none (some 27) (.mov (.t 28))])
      (.cond (.t 27)
        (.seq
        (.reg [.op none (some 29) (.mov (.t 0)),
          .op none (some 30) (.fad 1 (.t 3)),
          .op none (some 31) (.ld1 (.t 30)),
          .op none (some 32) (.fad 4 (.t 3)),
          .op none (some 33) (.ld1 (.t 32)),
          .call none (some 34) 43 [.t 29, .t 31, .t 33],
          .op none (some 4) (.mov (.t 34)),
          .op none (some 5) (.mov (.c (.string (⟨#[]⟩))))])
        .ret)
        (.seq
        (.reg [.op none (some 36) (.bin .eql (.t 10) (.c (.int .u8 4))),
          .op none (some 35) (.mov (.t 36))])
        (.cond (.t 35)
          (.seq
          (.reg [.op none (some 37) (.mov (.t 0)),
            .op none (some 38) (.fad 1 (.t 3)),
            .op none (some 39) (.ld1 (.t 38)),
            .op none (some 40) (.fad 2 (.t 3)),
            .op none (some 41) (.ld1 (.t 40)),
            .call none (some 42) 44 [.t 37, .t 39, .t 41],
            .op none (some 4) (.mov (.t 42)),
            .op none (some 5) (.mov (.c (.string (⟨#[]⟩))))])
          .ret)
          (.seq
          (.reg [.op none (some 44) (.bin .eql (.t 10) (.c (.int .u8 5))),
            .op none (some 43) (.mov (.t 44))])
          (.cond (.t 43)
            (.seq
            (.reg [.op none (some 45) (.mov (.t 0)),
              .op none (some 46) (.fad 1 (.t 3)),
              .op none (some 47) (.ld1 (.t 46)),
              .call none (some 48) 45 [.t 45, .t 47],
              .op none (some 4) (.mov (.t 48)),
              .op none (some 5) (.mov (.c (.string (⟨#[]⟩))))])
            .ret)
            (.seq
            (.reg [.op none (some 50) (.bin .eql (.t 10) (.c (.int .u8 6))),
              .op none (some 49) (.mov (.t 50))])
            (.cond (.t 49)
              (.seq
              (.reg [.op none (some 52) (.mov (.t 0)),
                .op none (some 53) (.fad 1 (.t 3)),
                .op none (some 54) (.ld1 (.t 53)),
                .call none (some 55) 46 [.t 52, .t 54],
                .op none (some 51) (.mov (.t 55)),
                .op none (some 56) (.ext 0 (.t 51)),
                .op none (some 57) (.ext 1 (.t 51)),
                .op none (some 6) (.mov (.t 56)),
                .op none (some 7) (.mov (.t 57))])
              (.seq
              (.draw [.f (.op none (some 58) (.mov (.t 7))),
                .f (.op none (some 59) (.mov (.t 6))),
                .f (.op none (some 60) (.b2s (.t 59))),
                .f (.op none (some 4) (.mov (.t 58))),
                .f (.op none (some 5) (.mov (.t 60)))])
              .ret))
              (.seq
              (.reg [.op none (some 62) (.bin .eql (.t 10) (.c (.int .u8 7))),
                .op none (some 61) (.mov (.t 62))])
              (.cond (.t 61)
                (.reg [.op none (some 63) (.mov (.t 0)),
                  .op none (some 64) (.fad 4 (.t 3)),
                  .op none (some 65) (.ld1 (.t 64)),
                  .call none (some 66) 47 [.t 63, .t 65]])
                (.seq
                (.reg [.op none (some 68) (.bin .eql (.t 10) (.c (.int .u8 8))),
                  .op none (some 67) (.mov (.t 68))])
                (.cond (.t 67)
                  (.reg [.op none (some 69) (.mov (.t 0)),
                    .call none (some 70) 48 [.t 69]])
                  (.seq
                  (.reg [.op none (some 72) (.bin .eql (.t 10) (.c (.int .u8 9))),
                    .op none (some 71) (.mov (.t 72))])
                  (.cond (.t 71)
                    (.reg [.op none (some 73) (.mov (.t 0)),
                      .op none (some 74) (.fad 5 (.t 3)),
                      .op none (some 75) (.ld1 (.t 74)),
                      .call none (some 76) 49 [.t 73, .t 75]])
                    .skip))))))))))))))))))))
  (.seq
  (.reg [.op none (some 4) (.mov (.c (.int .i64 0))),
    .op none (some 5) (.mov (.c (.string (⟨#[]⟩))))])
  .ret))) }
theorem F27_ok : compFun Try.prog 0 Try.f27 = some F27 := by kernel_rfl

def F28_l0 : ACode :=
  (.seq
  (.seq
  (.reg [.op none (some 44) (.mov (.t 7)),
    .op none (some 45) (.mov (.t 5)),
    .op none (some 46) (.lenV (.t 45)),
    .op none (some 47) (.bin .lss (.t 44) (.t 46))])
  (.cond (.t 47)
    .skip
    (.exit 0)))
  (.seq
  (.block 1
  (.seq
  (.reg [.op none (some 51) (.mov (.t 0)),
    .op none (some 52) (.mov (.t 5)),
    .op none (some 53) (.mov (.t 7)),
    .op none (some 54) (.iadV 1 (.t 52) (.t 53)),
    .op none (some 55) (.ld1 (.t 54)),
    .call none (some 56) 18 [.t 51, .t 55],
    .op none (some 50) (.mov (.t 56)),
    .op none (some 57) (.ext 0 (.t 50)),
    .op none (some 58) (.ext 1 (.t 50)),
    .op none (some 8) (.mov (.t 57)),
    .op none (some 9) (.mov (.t 58))])
  (.seq
  (.draw [.f (.op none (some 59) (.mov (.t 5))),
    .f (.op none (some 60) (.mov (.t 7))),
    .f (.op none (some 61) (.iadV 1 (.t 59) (.t 60))),
    .f (.op none (some 62) (.ld1 (.t 61))),
    .f (.op none (some 63) (.mov (.t 6))),
    .f (.op none (some 64) (.mov (.t 7))),
    .f (.op none (some 65) (.iadV 2 (.t 63) (.t 64))),
    .f (.op none (some 66) (.fad 0 (.t 65))),
    .f (.op none (some 67) (.ld1 (.t 66))),
    .f (.op none (some 68) (.bin .neq (.t 62) (.t 67))),
    .f (.op none (some 69) (.mov (.t 68))),
    .f (.op (some (69, false)) (some 70) (.mov (.t 1))),
    .f (.op (some (69, false)) (some 71) (.nchk (.t 70))),
    .f (.op (some (69, false)) (some 72) (.fad 4 (.t 71))),
    .f (.op (some (69, false)) (some 73) (.ld1 (.t 72))),
    .f (.op (some (69, false)) (some 74) (.un .not (.t 73))),
    .f (.op (some (69, false)) (some 75) (.mov (.t 74))),
    .f (.op (some (75, true)) (some 76) (.mov (.t 9))),
    .f (.op (some (75, true)) (some 77) (.bin .neq (.t 76) (.c (.int .i64 0)))),
    .f (.op (some (75, true)) (some 78) (.mov (.t 77))),
    .f (.op (some (78, false)) (some 79) (.mov (.t 8))),
    .f (.op (some (78, false)) (some 80) (.b2s (.t 79))),
    .f (.op (some (78, false)) (some 81) (.mov (.t 6))),
    .f (.op (some (78, false)) (some 82) (.mov (.t 7))),
    .f (.op (some (78, false)) (some 83) (.iadV 2 (.t 81) (.t 82))),
    .f (.op (some (78, false)) (some 84) (.fad 1 (.t 83))),
    .f (.op (some (78, false)) (some 85) (.ld1 (.t 84))),
    .f (.op (some (78, false)) (some 86) (.b2s (.t 85))),
    .f (.op (some (78, false)) (some 87) (.bin .neq (.t 80) (.t 86))),
    .f (.op (some (75, true)) (some 88) (.pick (.t 78) (.c (.bool true)) (.t 87))),
    .f (.op (some (69, false)) (some 89) (.pick (.t 75) (.t 88) (.c (.bool false)))),
    .f (.op none (some 90) (.pick (.t 69) (.c (.bool true)) (.t 89)))])
  (.cond (.t 90)
    (.seq
    (.reg [.op none (some 4) (.mov (.c (.bool false)))])
    .ret)
    .skip))))
  (.reg [.op none (some 48) (.mov (.t 7)),
    .op none (some 49) (.bin .add (.t 48) (.c (.int .i64 1))),
    .op none (some 7) (.mov (.t 49))])))

def F28 : AFun :=
  { n := 91, res := [.t 4], code :=
  (.seq
  (.reg [.op none (some 4) (.mov (.c (.bool false)))])
  (.seq
  (.reg [.op none (some 10) (.mov (.t 0)),
    .call none (some 11) 20 [.t 10],
    .op none (some 12) (.mov (.t 1)),
    .call none (some 13) 50 [.t 12],
    .op none (some 5) (.mov (.t 11)),
    .op none (some 6) (.mov (.t 13))])
  (.seq
  (.seq
  (.draw [.f (.op none (some 14) (.mov (.t 5))),
    .f (.op none (some 15) (.lenV (.t 14))),
    .f (.op none (some 16) (.mov (.t 6))),
    .f (.op none (some 17) (.lenV (.t 16))),
    .f (.op none (some 18) (.bin .neq (.t 15) (.t 17))),
    .f (.op none (some 19) (.mov (.t 18))),
    .f (.op (some (19, false)) (some 20) (.mov (.t 0))),
    .f (.op (some (19, false)) (some 22) (.mov (.t 1))),
    .b (.call (some (19, false)) (some 21) 24 [.t 20]) [],
    .b (.call (some (19, false)) (some 23) 51 [.t 22]) [],
    .f (.op (some (19, false)) (some 24) (.bin .neq (.t 21) (.t 23))),
    .f (.op none (some 25) (.pick (.t 19) (.c (.bool true)) (.t 24))),
    .f (.op none (some 26) (.mov (.t 25))),
    .f (.op (some (26, false)) (some 27) (.mov (.t 0))),
    .f (.op (some (26, false)) (some 29) (.mov (.t 1))),
    .f (.op (some (26, false)) (some 30) (.nchk (.t 29))),
    .f (.op (some (26, false)) (some 31) (.fad 2 (.t 30))),
    .f (.op (some (26, false)) (some 32) (.ld1 (.t 31))),
    .b (.call (some (26, false)) (some 28) 25 [.t 27]) [.op (some (26, false)) (some 32) (.ld1 (.t 31))],
    .f (.op (some (26, false)) (some 33) (.bin .neq (.t 28) (.t 32))),
    .f (.op none (some 34) (.pick (.t 26) (.c (.bool true)) (.t 33))),
    .f (.op none (some 35) (.mov (.t 34))),
    .f (.op (some (35, false)) (some 36) (.mov (.t 0))),
    .f (.op (some (35, false)) (some 38) (.mov (.t 1))),
    .f (.op (some (35, false)) (some 39) (.nchk (.t 38))),
    .f (.op (some (35, false)) (some 40) (.fad 4 (.t 39))),
    .f (.op (some (35, false)) (some 41) (.ld1 (.t 40))),
    .b (.call (some (35, false)) (some 37) 13 [.t 36]) [.op (some (35, false)) (some 41) (.ld1 (.t 40))],
    .f (.op (some (35, false)) (some 42) (.eql true .bool (.t 37) (.t 41))),
    .f (.op none (some 43) (.pick (.t 35) (.c (.bool true)) (.t 42)))])
  (.cond (.t 43)
    (.seq
    (.reg [.op none (some 4) (.mov (.c (.bool false)))])
    .ret)
    .skip))
  (.seq
  (.seq
  (.reg [.op none (some 7) (.mov (.c (.int .i64 0)))])
  (.block 0
  (.loop F28_l0)))
  (.seq
  (.reg [.op none (some 4) (.mov (.c (.bool true)))])
  .ret))))) }
theorem F28_ok : compFun Try.prog 0 Try.f28 = some F28 := by kernel_rfl

def F29 : AFun :=
  { n := 15, res := [.t 2], code :=
  (.seq
  (.reg [.op none (some 2) (.mov (.c (.pointer none)))])
  (.seq
  (.seq
  (.reg [.op none (some 4) (.mov (.t 0)),
    .op none (some 5) (.eql false .ptr (.t 4) (.c (.pointer none)))])
  (.cond (.t 5)
    (.seq
    (.reg [.op none (some 2) (.mov (.c (.pointer none)))])
    .ret)
    .skip))
  (.seq
  (.reg [.op none (some 6) (.mov (.t 0)),
    .op none (some 7) (.nchk (.t 6)),
    .op none (some 8) (.ldn 5 (.t 7)),
    .op none (some 3) (.new 60 [.slice none 0 0, .int .i64 0, .int .i64 0, .int .i64 0, .bool false]),
    .op none none (.st 5 (.t 3) (.t 8))])
  (.seq
  (.reg [.op none (some 9) (.mov (.t 0)),
    .op none (some 10) (.nchk (.t 9)),
    .op none (some 11) (.fad 0 (.t 10)),
    .op none (some 12) (.ld1 (.t 11)),
    .call none (some 13) 52 [.t 12],
    .op none (some 14) (.fad 0 (.t 3)),
    .op none none (.st 1 (.t 14) (.t 13))])
  (.seq
  (.reg [.op none (some 2) (.mov (.t 3))])
  .ret))))) }
theorem F29_ok : compFun Try.prog 0 Try.f29 = some F29 := by kernel_rfl

def F30 : AFun :=
  { n := 12, res := [.t 6], code :=
  (.seq
  (.reg [.op none (some 5) (.box 3 (.t 2)),
    .op none (some 6) (.mov (.c (.int .i64 0)))])
  (.seq
  (.reg [.op none (some 7) (.mov (.t 0)),
    .op none (some 8) (.mov (.t 1)),
    .op none (some 9) (.mov (.t 1)),
    .op none (some 10) (.mkF 53 [] [.t 5]),
    .call none (some 11) 38 [.t 7, .t 8, .t 9, .t 10],
    .op none (some 6) (.mov (.t 11))])
  .ret)) }
theorem F30_ok : compFun Try.prog 0 Try.f30 = some F30 := by kernel_rfl

def F31 : AFun :=
  { n := 39, res := [.t 4], code :=
  (.seq
  (.reg [.op none (some 4) (.mov (.c (.int .i64 0)))])
  (.seq
  (.seq
  (.reg [.op none (some 8) (.mov (.t 0)),
    .op none (some 9) (.mov (.t 1)),
    .op none (some 10) (.bldSl 9 1 [.string (⟨#[]⟩)] [(0, 1, .t 9)]),
    .call none (some 11) 32 [.t 8, .t 10],
    .op none (some 5) (.mov (.t 11))])
  (.seq
  (.reg [.op none (some 12) (.mov (.t 5)),
    .op none (some 13) (.bin .neq (.t 12) (.c (.int .i64 0)))])
  (.cond (.t 13)
    (.seq
    (.reg [.op none (some 14) (.mov (.t 5)),
      .op none (some 4) (.mov (.t 14))])
    .ret)
    .skip)))
  (.seq
  (.reg [.op none (some 16) (.mov (.t 0)),
    .op none (some 17) (.mov (.t 1)),
    .call none (some 18) 33 [.t 16, .t 17],
    .op none (some 15) (.mov (.t 18)),
    .op none (some 19) (.ext 0 (.t 15)),
    .op none (some 20) (.ext 1 (.t 15)),
    .op none (some 6) (.mov (.t 19)),
    .op none (some 7) (.mov (.t 20))])
  (.seq
  (.block 0
  (.seq
  (.reg [.op none (some 22) (.mov (.t 7)),
    .op none (some 23) (.un .not (.t 22)),
    .op none (some 21) (.mov (.t 23))])
  (.cond (.t 21)
    (.seq
    (.reg [.op none (some 4) (.mov (.c (.int .i64 5)))])
    .ret)
    (.seq
    (.reg [.op none (some 25) (.mov (.t 0)),
      .call none (some 26) 37 [.t 25],
      .op none (some 27) (.un .not (.t 26)),
      .op none (some 24) (.mov (.t 27))])
    (.cond (.t 24)
      (.seq
      (.reg [.op none (some 4) (.mov (.c (.int .i64 40)))])
      .ret)
      .skip)))))
  (.seq
  (.reg [.op none (some 28) (.mov (.t 0)),
    .op none (some 29) (.mov (.t 0)),
    .op none (some 30) (.nchk (.t 29)),
    .op none (some 31) (.fad 0 (.t 30)),
    .op none (some 32) (.ld1 (.t 31)),
    .op none (some 33) (.mov (.t 6)),
    .op none (some 34) (.mov (.t 6)),
    .op none (some 35) (.bin .add (.t 34) (.c (.int .i64 1))),
    .call none (some 36) 54 [.t 32, .t 33, .t 35],
    .op none (some 37) (.nchk (.t 28)),
    .op none (some 38) (.fad 0 (.t 37)),
    .op none none (.st 1 (.t 38) (.t 36))])
  (.seq
  (.reg [.op none (some 4) (.mov (.c (.int .i64 0)))])
  .ret)))))) }
theorem F31_ok : compFun Try.prog 0 Try.f31 = some F31 := by kernel_rfl

def F32 : AFun :=
  { n := 16, res := [.t 4], code :=
  (.seq
  (.reg [.op none (some 4) (.mov (.c (.int .i64 0)))])
  (.seq
  (.block 0
  (.seq
  (.reg [.op none (some 6) (.mov (.t 0)),
    .op none (some 7) (.eql false .ptr (.t 6) (.c (.pointer none))),
    .op none (some 5) (.mov (.t 7))])
  (.cond (.t 5)
    (.seq
    (.reg [.op none (some 4) (.mov (.c (.int .i64 1)))])
    .ret)
    (.seq
    (.reg [.op none (some 9) (.mov (.t 0)),
      .op none (some 10) (.nchk (.t 9)),
      .op none (some 11) (.fad 4 (.t 10)),
      .op none (some 12) (.ld1 (.t 11)),
      .op none (some 8) (.mov (.t 12))])
    (.cond (.t 8)
      (.seq
      (.reg [.op none (some 4) (.mov (.c (.int .i64 40)))])
      .ret)
      (.seq
      (.reg [.op none (some 14) (.mov (.t 1)),
        .call none (some 15) 55 [.t 14, .c (.func (Fn.func 56) (#[]) (#[]))],
        .op none (some 13) (.mov (.t 15))])
      (.cond (.t 13)
        (.seq
        (.reg [.op none (some 4) (.mov (.c (.int .i64 2)))])
        .ret)
        .skip)))))))
  (.seq
  (.reg [.op none (some 4) (.mov (.c (.int .i64 0)))])
  .ret))) }
theorem F32_ok : compFun Try.prog 0 Try.f32 = some F32 := by kernel_rfl

def F33 : AFun :=
  { n := 14, res := [.t 4, .t 5], code :=
  (.seq
  (.reg [.op none (some 4) (.mov (.c (.int .i64 0))),
    .op none (some 5) (.mov (.c (.bool false)))])
  (.seq
  (.reg [.op none (some 6) (.mov (.t 0)),
    .op none (some 7) (.nchk (.t 6)),
    .op none (some 8) (.fad 0 (.t 7)),
    .op none (some 9) (.ld1 (.t 8)),
    .op none (some 10) (.mov (.t 1)),
    .call none (some 11) 57 [.t 9, .t 10, .c (.func (Fn.func 58) (#[]) (#[]))],
    .op none (some 12) (.ext 0 (.t 11)),
    .op none (some 13) (.ext 1 (.t 11)),
    .op none (some 4) (.mov (.t 12)),
    .op none (some 5) (.mov (.t 13))])
  .ret)) }
theorem F33_ok : compFun Try.prog 0 Try.f33 = some F33 := by kernel_rfl

def F34 : AFun :=
  { n := 10, res := [.t 2], code :=
  (.seq
  (.reg [.op none (some 1) (.box 63 (.t 0)),
    .op none (some 2) (.mov (.c (.int .i64 0)))])
  (.seq
  (.reg [.op none (some 3) (.fad 1 (.t 1)),
    .op none (some 4) (.ld1 (.t 3)),
    .op none (some 5) (.lenV (.t 4)),
    .op none (some 6) (.fad 2 (.t 1)),
    .op none (some 7) (.ld1 (.t 6)),
    .op none (some 8) (.lenV (.t 7)),
    .op none (some 9) (.bin .add (.t 5) (.t 8)),
    .op none (some 2) (.mov (.t 9))])
  .ret)) }
theorem F34_ok : compFun Try.prog 0 Try.f34 = some F34 := by kernel_rfl

def F35_l0 : ACode :=
  (.seq
  (.reg [.op none (some 12) (.bin .lss (.t 11) (.t 10))])
  (.seq
  (.cond (.t 12)
    .skip
    (.exit 0))
  (.seq
  (.block 1
  (.seq
  (.reg [.op none (some 13) (.iadV 1 (.t 9) (.t 11)),
    .op none (some 14) (.ld1 (.t 13)),
    .op none (some 5) (.mov (.t 14))])
  (.seq
  (.reg [.op none (some 15) (.mov (.t 3)),
    .op none (some 16) (.mov (.t 5)),
    .op none (some 17) (.lenV (.t 16)),
    .op none (some 18) (.bin .add (.t 15) (.t 17)),
    .op none (some 3) (.mov (.t 18))])
  (.seq
  (.reg [.op none (some 19) (.mov (.t 3)),
    .op none (some 20) (.bin .lss (.t 19) (.c (.int .i64 0)))])
  (.cond (.t 20)
    (.reg [.op none (some 21) (.mkI 9 (.c (.string (⟨#[108, 101, 110, 32, 111, 117, 116, 32, 111, 102, 32, 114, 97, 110, 103, 101]⟩)))),
      .panic none none (.t 21)])
    .skip)))))
  (.reg [.op none (some 22) (.bin .add (.t 11) (.c (.int .i64 1))),
    .op none (some 11) (.mov (.t 22))]))))

def F35_l1 : ACode :=
  (.seq
  (.reg [.op none (some 28) (.bin .lss (.t 27) (.t 26))])
  (.seq
  (.cond (.t 28)
    .skip
    (.exit 2))
  (.seq
  (.block 3
  (.seq
  (.reg [.op none (some 29) (.iadV 1 (.t 25) (.t 27)),
    .op none (some 30) (.ld1 (.t 29)),
    .op none (some 8) (.mov (.t 30))])
  (.reg [.op none (some 31) (.mov (.t 6)),
    .op none (some 32) (.mov (.t 8)),
    .op none (some 33) (.app 5 1 1 [.int .u8 0] (.t 31) (.t 32)),
    .op none (some 6) (.mov (.t 33))])))
  (.reg [.op none (some 34) (.bin .add (.t 27) (.c (.int .i64 1))),
    .op none (some 27) (.mov (.t 34))]))))

def F35 : AFun :=
  { n := 36, res := [.t 2], code :=
  (.seq
  (.reg [.op none (some 2) (.mov (.c (.slice none 0 0)))])
  (.seq
  (.reg [.op none (some 3) (.mov (.c (.int .i64 0)))])
  (.seq
  (.seq
  (.reg [.op none (some 9) (.mov (.t 0)),
    .op none (some 10) (.lenV (.t 9)),
    .op none (some 11) (.mov (.c (.int .i64 0)))])
  (.block 0
  (.loop F35_l0)))
  (.seq
  (.reg [.op none (some 23) (.mov (.t 3)),
    .call none (some 24) 60 [.c (.slice none 0 0), .t 23],
    .op none (some 6) (.mov (.t 24))])
  (.seq
  (.seq
  (.reg [.op none (some 25) (.mov (.t 0)),
    .op none (some 26) (.lenV (.t 25)),
    .op none (some 27) (.mov (.c (.int .i64 0)))])
  (.block 2
  (.loop F35_l1)))
  (.seq
  (.reg [.op none (some 35) (.mov (.t 6)),
    .op none (some 2) (.mov (.t 35))])
  .ret)))))) }
theorem F35_ok : compFun Try.prog 0 Try.f35 = some F35 := by kernel_rfl

def F36 : AFun :=
  { n := 33, res := [], code :=
  (.seq
  (.reg [.op none (some 3) (.box 63 (.t 1))])
  (.seq
  (.reg [.op none (some 7) (.mov (.t 0)),
    .op none (some 8) (.fad 0 (.t 3)),
    .op none (some 9) (.ld1 (.t 8)),
    .call none (some 10) 33 [.t 7, .t 9],
    .op none (some 6) (.mov (.t 10)),
    .op none (some 11) (.ext 0 (.t 6)),
    .op none (some 12) (.ext 1 (.t 6)),
    .op none (some 4) (.mov (.t 11)),
    .op none (some 5) (.mov (.t 12))])
  (.seq
  (.seq
  (.reg [.op none (some 13) (.mov (.t 5)),
    .op none (some 14) (.un .not (.t 13))])
  (.cond (.t 14)
    (.draw [.f (.op none (some 15) (.mov (.t 0))),
      .f (.op none (some 16) (.mov (.t 0))),
      .f (.op none (some 17) (.nchk (.t 16))),
      .f (.op none (some 18) (.fad 0 (.t 17))),
      .f (.op none (some 19) (.ld1 (.t 18))),
      .f (.op none (some 20) (.mov (.t 4))),
      .f (.op none (some 21) (.ldn 4 (.t 3))),
      .b (.op none (some 22) (.bldSl 63 1 [.string (⟨#[]⟩), .slice none 0 0, .slice none 0 0, .bool false] [(0, 4, .t 21)])) [.op none (some 19) (.ld1 (.t 18))],
      .b (.call none (some 23) 61 [.t 19, .t 20, .t 22]) [],
      .f (.op none (some 24) (.nchk (.t 15))),
      .f (.op none (some 25) (.fad 0 (.t 24))),
      .b (.op none none (.st 1 (.t 25) (.t 23))) []])
    .skip))
  (.draw [.f (.op none (some 26) (.mov (.t 0))),
    .f (.op none (some 27) (.nchk (.t 26))),
    .f (.op none (some 28) (.fad 0 (.t 27))),
    .f (.op none (some 29) (.ld1 (.t 28))),
    .f (.op none (some 30) (.mov (.t 4))),
    .f (.op none (some 31) (.ldn 4 (.t 3))),
    .f (.op none (some 32) (.iadV 4 (.t 29) (.t 30))),
    .b (.op none none (.st 4 (.t 32) (.t 31))) []])))) }
theorem F36_ok : compFun Try.prog 0 Try.f36 = some F36 := by kernel_rfl

def F37 : AFun :=
  { n := 26, res := [.t 2], code :=
  (.seq
  (.reg [.op none (some 2) (.mov (.c (.bool false)))])
  (.seq
  (.reg [.op none (some 3) (.mov (.t 0)),
    .op none (some 4) (.nchk (.t 3)),
    .op none (some 5) (.fad 2 (.t 4)),
    .op none (some 6) (.ld1 (.t 5)),
    .op none (some 7) (.bin .add (.t 6) (.c (.int .i64 1))),
    .op none (some 8) (.nchk (.t 3)),
    .op none (some 9) (.fad 2 (.t 8)),
    .op none none (.st 1 (.t 9) (.t 7))])
  (.seq
  (.seq
  (.reg [.op none (some 10) (.mov (.t 0)),
    .op none (some 11) (.nchk (.t 10)),
    .op none (some 12) (.fad 3 (.t 11)),
    .op none (some 13) (.ld1 (.t 12)),
    .op none (some 14) (.bin .eql (.t 13) (.c (.int .i64 0)))])
  (.cond (.t 14)
    (.seq
    (.reg [.op none (some 15) (.mov (.t 0)),
      .call none (some 16) 16 [.t 15]])
    (.seq
    (.reg [.op none (some 2) (.mov (.c (.bool false)))])
    .ret))
    .skip))
  (.seq
  (.reg [.op none (some 17) (.mov (.t 0)),
    .op none (some 18) (.mov (.t 0)),
    .op none (some 19) (.nchk (.t 18)),
    .op none (some 20) (.fad 3 (.t 19)),
    .op none (some 21) (.ld1 (.t 20)),
    .op none (some 22) (.bin .sub (.t 21) (.c (.int .i64 1))),
    .op none (some 23) (.mnx true (.c (.int .i64 (-1))) [.t 22]),
    .op none (some 24) (.nchk (.t 17)),
    .op none (some 25) (.fad 3 (.t 24)),
    .op none none (.st 1 (.t 25) (.t 23))])
  (.seq
  (.reg [.op none (some 2) (.mov (.c (.bool true)))])
  .ret))))) }
theorem F37_ok : compFun Try.prog 0 Try.f37 = some F37 := by kernel_rfl

def F38 : AFun :=
  { n := 67, res := [.t 8], code :=
  (.seq
  (.reg [.op none (some 8) (.mov (.c (.int .i64 0)))])
  (.seq
  (.seq
  (.reg [.op none (some 14) (.mov (.t 0)),
    .op none (some 15) (.mov (.t 1)),
    .op none (some 16) (.mov (.t 2)),
    .op none (some 17) (.bldSl 9 2 [.string (⟨#[]⟩), .string (⟨#[]⟩)] [(0, 1, .t 15), (1, 1, .t 16)]),
    .call none (some 18) 32 [.t 14, .t 17],
    .op none (some 9) (.mov (.t 18))])
  (.seq
  (.reg [.op none (some 19) (.mov (.t 9)),
    .op none (some 20) (.bin .neq (.t 19) (.c (.int .i64 0)))])
  (.cond (.t 20)
    (.seq
    (.reg [.op none (some 21) (.mov (.t 9)),
      .op none (some 8) (.mov (.t 21))])
    .ret)
    .skip)))
  (.seq
  (.reg [.op none (some 23) (.mov (.t 0)),
    .op none (some 24) (.mov (.t 1)),
    .call none (some 25) 33 [.t 23, .t 24],
    .op none (some 22) (.mov (.t 25)),
    .op none (some 26) (.ext 0 (.t 22)),
    .op none (some 27) (.ext 1 (.t 22)),
    .op none (some 10) (.mov (.t 26)),
    .op none (some 11) (.mov (.t 27))])
  (.seq
  (.seq
  (.reg [.op none (some 28) (.mov (.t 11)),
    .op none (some 29) (.un .not (.t 28))])
  (.cond (.t 29)
    (.seq
    (.reg [.op none (some 8) (.mov (.c (.int .i64 5)))])
    .ret)
    .skip))
  (.seq
  (.reg [.op none (some 31) (.mov (.t 3)),
    .op none (some 32) (.mov (.t 0)),
    .op none (some 33) (.nchk (.t 32)),
    .op none (some 34) (.fad 0 (.t 33)),
    .op none (some 35) (.ld1 (.t 34)),
    .op none (some 36) (.mov (.t 10)),
    .op none (some 37) (.iadV 4 (.t 35) (.t 36)),
    .op none (some 38) (.ldn 4 (.t 37)),
    .call none (some 39) 40 [.t 38],
    .callv none (some 40) (.t 31) [.t 39],
    .op none (some 30) (.mov (.t 40)),
    .op none (some 41) (.ext 0 (.t 30)),
    .op none (some 42) (.ext 1 (.t 30)),
    .op none (some 12) (.mov (.t 41)),
    .op none (some 13) (.mov (.t 42))])
  (.seq
  (.block 0
  (.seq
  (.reg [.op none (some 44) (.mov (.t 13)),
    .op none (some 45) (.bin .neq (.t 44) (.c (.int .i64 0))),
    .op none (some 43) (.mov (.t 45))])
  (.cond (.t 43)
    (.seq
    (.reg [.op none (some 46) (.mov (.t 13)),
      .op none (some 8) (.mov (.t 46))])
    .ret)
    (.seq
    (.reg [.op none (some 48) (.mov (.t 0)),
      .call none (some 49) 37 [.t 48],
      .op none (some 50) (.un .not (.t 49)),
      .op none (some 47) (.mov (.t 50))])
    (.cond (.t 47)
      (.seq
      (.reg [.op none (some 8) (.mov (.c (.int .i64 40)))])
      .ret)
      .skip)))))
  (.seq
  (.reg [.op none (some 51) (.mov (.t 0)),
    .op none (some 52) (.mov (.t 0)),
    .op none (some 53) (.nchk (.t 52)),
    .op none (some 54) (.fad 0 (.t 53)),
    .op none (some 55) (.ld1 (.t 54)),
    .op none (some 56) (.mov (.t 10)),
    .op none (some 57) (.mov (.t 10)),
    .op none (some 58) (.bin .add (.t 57) (.c (.int .i64 1))),
    .call none (some 59) 54 [.t 55, .t 56, .t 58],
    .op none (some 60) (.nchk (.t 51)),
    .op none (some 61) (.fad 0 (.t 60)),
    .op none none (.st 1 (.t 61) (.t 59))])
  (.seq
  (.reg [.op none (some 62) (.mov (.t 0)),
    .op none (some 63) (.mov (.t 2)),
    .op none (some 64) (.mov (.t 12)),
    .op none (some 65) (.bld [.string (⟨#[]⟩), .slice none 0 0, .slice none 0 0, .bool false] [(0, 1, .t 63), (1, 1, .t 64), (3, 1, .c (.bool true))]),
    .call none (some 66) 36 [.t 62, .t 65]])
  (.seq
  (.reg [.op none (some 8) (.mov (.c (.int .i64 0)))])
  .ret))))))))) }
theorem F38_ok : compFun Try.prog 0 Try.f38 = some F38 := by kernel_rfl

def F39 : AFun :=
  { n := 5, res := [.t 2, .t 3], code :=
  (.seq
  (.reg [.op none (some 2) (.mov (.c (.slice none 0 0))),
    .op none (some 3) (.mov (.c (.int .i64 0)))])
  (.seq
  (.reg [.op none (some 4) (.mov (.t 0)),
    .op none (some 2) (.mov (.t 4)),
    .op none (some 3) (.mov (.c (.int .i64 0)))])
  .ret)) }
theorem F39_ok : compFun Try.prog 0 Try.f39 = some F39 := by kernel_rfl

def F40 : AFun :=
  { n := 9, res := [.t 2], code :=
  (.seq
  (.reg [.op none (some 1) (.box 63 (.t 0)),
    .op none (some 2) (.mov (.c (.slice none 0 0)))])
  (.seq
  (.reg [.op none (some 3) (.fad 1 (.t 1)),
    .op none (some 4) (.ld1 (.t 3)),
    .op none (some 5) (.fad 2 (.t 1)),
    .op none (some 6) (.ld1 (.t 5)),
    .op none (some 7) (.bldSl 30 2 [.slice none 0 0, .slice none 0 0] [(0, 1, .t 4), (1, 1, .t 6)]),
    .call none (some 8) 35 [.t 7],
    .op none (some 2) (.mov (.t 8))])
  .ret)) }
theorem F40_ok : compFun Try.prog 0 Try.f40 = some F40 := by kernel_rfl

def F41 : AFun :=
  { n := 55, res := [.t 6], code :=
  (.seq
  (.reg [.op none (some 6) (.mov (.c (.int .i64 0)))])
  (.seq
  (.reg [.op none (some 10) (.mov (.t 0)),
    .op none (some 11) (.mov (.t 1)),
    .op none (some 12) (.mov (.t 1)),
    .call none (some 13) 62 [.t 10, .t 11, .t 12, .c (.bool false)],
    .op none (some 7) (.mov (.t 13))])
  (.seq
  (.block 0
  (.seq
  (.reg [.op none (some 15) (.mov (.t 7)),
    .op none (some 16) (.bin .neq (.t 15) (.c (.int .i64 0))),
    .op none (some 14) (.mov (.t 16))])
  (.cond (.t 14)
    (.seq
    (.reg [.op none (some 17) (.mov (.t 7)),
      .op none (some 6) (.mov (.t 17))])
    .ret)
    (.seq
    (.reg [.op none (some 19) (.mov (.t 0)),
      .op none (some 20) (.mov (.t 1)),
      .call none (some 21) 63 [.t 19, .t 20],
      .op none (some 22) (.mov (.t 2)),
      .op none (some 23) (.lenV (.t 22)),
      .op none (some 24) (.bin .add (.t 21) (.t 23)),
      .op none (some 25) (.bin .gtr (.t 24) (.c (.int .i64 8388608))),
      .op none (some 18) (.mov (.t 25))])
    (.cond (.t 18)
      (.seq
      (.reg [.op none (some 6) (.mov (.c (.int .i64 3)))])
      .ret)
      (.seq
      (.draw [.f (.op none (some 27) (.mov (.t 0))),
        .f (.op none (some 29) (.mov (.t 2))),
        .f (.op none (some 30) (.lenV (.t 29))),
        .f (.op none (some 32) (.mov (.t 0))),
        .f (.op none (some 33) (.nchk (.t 32))),
        .f (.op none (some 34) (.fad 1 (.t 33))),
        .f (.op none (some 35) (.ld1 (.t 34))),
        .b (.call none (some 28) 51 [.t 27]) [.op none (some 35) (.ld1 (.t 34))],
        .f (.op none (some 31) (.bin .add (.t 28) (.t 30))),
        .f (.op none (some 36) (.bin .gtr (.t 31) (.t 35))),
        .f (.op none (some 26) (.mov (.t 36)))])
      (.cond (.t 26)
        (.seq
        (.reg [.op none (some 6) (.mov (.c (.int .i64 41)))])
        .ret)
        .skip)))))))
  (.seq
  (.reg [.op none (some 38) (.mov (.t 0)),
    .op none (some 39) (.mov (.t 1)),
    .call none (some 40) 64 [.t 38, .t 39],
    .op none (some 37) (.mov (.t 40)),
    .op none (some 41) (.ext 0 (.t 37)),
    .op none (some 42) (.ext 1 (.t 37)),
    .op none (some 8) (.new 91 [.string (⟨#[]⟩), .string (⟨#[]⟩), .string (⟨#[]⟩), .bool false]),
    .op none none (.st 4 (.t 8) (.t 41)),
    .op none (some 9) (.mov (.t 42))])
  (.seq
  (.reg [.op none (some 43) (.fad 2 (.t 8)),
    .op none (some 44) (.ld1 (.t 43)),
    .op none (some 45) (.mov (.t 2)),
    .op none (some 46) (.b2s (.t 45)),
    .op none (some 47) (.bin .add (.t 44) (.t 46)),
    .op none (some 48) (.fad 2 (.t 8)),
    .op none none (.st 1 (.t 48) (.t 47))])
  (.seq
  (.reg [.op none (some 49) (.mov (.t 0)),
    .op none (some 50) (.ldn 4 (.t 8)),
    .call none (some 51) 65 [.t 49, .t 50]])
  (.seq
  (.seq
  (.reg [.op none (some 52) (.mov (.t 0)),
    .call none (some 53) 66 [.t 52],
    .op none (some 54) (.un .not (.t 53))])
  (.cond (.t 54)
    (.seq
    (.reg [.op none (some 6) (.mov (.c (.int .i64 40)))])
    .ret)
    .skip))
  (.seq
  (.reg [.op none (some 6) (.mov (.c (.int .i64 0)))])
  .ret)))))))) }
theorem F41_ok : compFun Try.prog 0 Try.f41 = some F41 := by kernel_rfl

def F42 : AFun :=
  { n := 20, res := [.t 4], code :=
  (.seq
  (.reg [.op none (some 4) (.mov (.c (.int .i64 0)))])
  (.seq
  (.reg [.op none (some 6) (.mov (.t 0)),
    .op none (some 7) (.mov (.t 1)),
    .op none (some 8) (.mov (.t 1)),
    .call none (some 9) 62 [.t 6, .t 7, .t 8, .c (.bool true)],
    .op none (some 5) (.mov (.t 9))])
  (.seq
  (.seq
  (.reg [.op none (some 10) (.mov (.t 5)),
    .op none (some 11) (.bin .neq (.t 10) (.c (.int .i64 0)))])
  (.cond (.t 11)
    (.seq
    (.reg [.op none (some 12) (.mov (.t 5)),
      .op none (some 4) (.mov (.t 12))])
    .ret)
    .skip))
  (.seq
  (.reg [.op none (some 13) (.mov (.t 0)),
    .op none (some 14) (.mov (.t 1)),
    .op none (some 15) (.mov (.t 1)),
    .op none (some 16) (.mov (.t 0)),
    .op none (some 17) (.mov (.t 1)),
    .call none (some 18) 63 [.t 16, .t 17],
    .call none (some 19) 67 [.t 13, .t 14, .t 15, .t 18],
    .op none (some 4) (.mov (.t 19))])
  .ret)))) }
theorem F42_ok : compFun Try.prog 0 Try.f42 = some F42 := by kernel_rfl

def F43 : AFun :=
  { n := 29, res := [.t 6], code :=
  (.seq
  (.reg [.op none (some 6) (.mov (.c (.int .i64 0)))])
  (.seq
  (.reg [.op none (some 8) (.mov (.t 0)),
    .op none (some 9) (.mov (.t 1)),
    .op none (some 10) (.mov (.t 1)),
    .call none (some 11) 62 [.t 8, .t 9, .t 10, .c (.bool true)],
    .op none (some 7) (.mov (.t 11))])
  (.seq
  (.seq
  (.reg [.op none (some 12) (.mov (.t 7)),
    .op none (some 13) (.bin .neq (.t 12) (.c (.int .i64 0)))])
  (.cond (.t 13)
    (.seq
    (.reg [.op none (some 14) (.mov (.t 7)),
      .op none (some 6) (.mov (.t 14))])
    .ret)
    .skip))
  (.seq
  (.seq
  (.reg [.op none (some 15) (.mov (.t 2)),
    .op none (some 16) (.bin .lss (.t 15) (.c (.int .i64 0))),
    .op none (some 17) (.mov (.t 16)),
    .op (some (17, false)) (some 18) (.mov (.t 2)),
    .op (some (17, false)) (some 19) (.mov (.t 0)),
    .op (some (17, false)) (some 20) (.mov (.t 1)),
    .call (some (17, false)) (some 21) 63 [.t 19, .t 20],
    .op (some (17, false)) (some 22) (.bin .gtr (.t 18) (.t 21)),
    .op none (some 23) (.pick (.t 17) (.c (.bool true)) (.t 22))])
  (.cond (.t 23)
    (.seq
    (.reg [.op none (some 6) (.mov (.c (.int .i64 2)))])
    .ret)
    .skip))
  (.seq
  (.reg [.op none (some 24) (.mov (.t 0)),
    .op none (some 25) (.mov (.t 1)),
    .op none (some 26) (.mov (.t 1)),
    .op none (some 27) (.mov (.t 2)),
    .call none (some 28) 67 [.t 24, .t 25, .t 26, .t 27],
    .op none (some 6) (.mov (.t 28))])
  .ret))))) }
theorem F43_ok : compFun Try.prog 0 Try.f43 = some F43 := by kernel_rfl

def F44 : AFun :=
  { n := 22, res := [.t 6], code :=
  (.seq
  (.reg [.op none (some 6) (.mov (.c (.int .i64 0)))])
  (.seq
  (.reg [.op none (some 8) (.mov (.t 0)),
    .op none (some 9) (.mov (.t 1)),
    .op none (some 10) (.mov (.t 2)),
    .call none (some 11) 62 [.t 8, .t 9, .t 10, .c (.bool true)],
    .op none (some 7) (.mov (.t 11))])
  (.seq
  (.seq
  (.reg [.op none (some 12) (.mov (.t 7)),
    .op none (some 13) (.bin .neq (.t 12) (.c (.int .i64 0)))])
  (.cond (.t 13)
    (.seq
    (.reg [.op none (some 14) (.mov (.t 7)),
      .op none (some 6) (.mov (.t 14))])
    .ret)
    .skip))
  (.seq
  (.reg [.op none (some 15) (.mov (.t 0)),
    .op none (some 16) (.mov (.t 1)),
    .op none (some 17) (.mov (.t 2)),
    .op none (some 18) (.mov (.t 0)),
    .op none (some 19) (.mov (.t 1)),
    .call none (some 20) 63 [.t 18, .t 19],
    .call none (some 21) 67 [.t 15, .t 16, .t 17, .t 20],
    .op none (some 6) (.mov (.t 21))])
  .ret)))) }
theorem F44_ok : compFun Try.prog 0 Try.f44 = some F44 := by kernel_rfl

def F45 : AFun :=
  { n := 22, res := [.t 4], code :=
  (.seq
  (.reg [.op none (some 4) (.mov (.c (.int .i64 0)))])
  (.seq
  (.reg [.op none (some 6) (.mov (.t 0)),
    .op none (some 7) (.mov (.t 1)),
    .op none (some 8) (.mov (.t 1)),
    .call none (some 9) 62 [.t 6, .t 7, .t 8, .c (.bool true)],
    .op none (some 5) (.mov (.t 9))])
  (.seq
  (.seq
  (.reg [.op none (some 10) (.mov (.t 5)),
    .op none (some 11) (.bin .neq (.t 10) (.c (.int .i64 0)))])
  (.cond (.t 11)
    (.seq
    (.reg [.op none (some 12) (.mov (.t 5)),
      .op none (some 4) (.mov (.t 12))])
    .ret)
    .skip))
  (.seq
  (.seq
  (.reg [.op none (some 13) (.mov (.t 0)),
    .call none (some 14) 66 [.t 13],
    .op none (some 15) (.un .not (.t 14))])
  (.cond (.t 15)
    (.seq
    (.reg [.op none (some 4) (.mov (.c (.int .i64 40)))])
    .ret)
    .skip))
  (.seq
  (.reg [.op none (some 16) (.mov (.t 0)),
    .op none (some 17) (.mov (.t 0)),
    .op none (some 18) (.mov (.t 1)),
    .call none (some 19) 68 [.t 17, .t 18],
    .op none (some 20) (.nchk (.t 16)),
    .op none (some 21) (.fad 0 (.t 20)),
    .op none none (.st 1 (.t 21) (.t 19))])
  (.seq
  (.reg [.op none (some 4) (.mov (.c (.int .i64 0)))])
  .ret)))))) }
theorem F45_ok : compFun Try.prog 0 Try.f45 = some F45 := by kernel_rfl

def F46 : AFun :=
  { n := 28, res := [.t 4, .t 5], code :=
  (.seq
  (.reg [.op none (some 4) (.mov (.c (.slice none 0 0))),
    .op none (some 5) (.mov (.c (.int .i64 0)))])
  (.seq
  (.reg [.op none (some 9) (.mov (.t 0)),
    .op none (some 10) (.mov (.t 1)),
    .op none (some 11) (.mov (.t 1)),
    .call none (some 12) 62 [.t 9, .t 10, .t 11, .c (.bool true)],
    .op none (some 6) (.mov (.t 12))])
  (.seq
  (.seq
  (.reg [.op none (some 13) (.mov (.t 6)),
    .op none (some 14) (.bin .neq (.t 13) (.c (.int .i64 0)))])
  (.cond (.t 14)
    (.seq
    (.reg [.op none (some 15) (.mov (.t 6)),
      .op none (some 4) (.mov (.c (.slice none 0 0))),
      .op none (some 5) (.mov (.t 15))])
    .ret)
    .skip))
  (.seq
  (.reg [.op none (some 17) (.mov (.t 0)),
    .op none (some 18) (.mov (.t 1)),
    .call none (some 19) 64 [.t 17, .t 18],
    .op none (some 16) (.mov (.t 19)),
    .op none (some 20) (.ext 0 (.t 16)),
    .op none (some 21) (.ext 1 (.t 16)),
    .op none (some 7) (.new 91 [.string (⟨#[]⟩), .string (⟨#[]⟩), .string (⟨#[]⟩), .bool false]),
    .op none none (.st 4 (.t 7) (.t 20)),
    .op none (some 8) (.mov (.t 21))])
  (.seq
  (.reg [.op none (some 22) (.fad 1 (.t 7)),
    .op none (some 23) (.ld1 (.t 22)),
    .op none (some 24) (.fad 2 (.t 7)),
    .op none (some 25) (.ld1 (.t 24)),
    .op none (some 26) (.bin .add (.t 23) (.t 25)),
    .op none (some 27) (.s2b 5 (.t 26)),
    .op none (some 4) (.mov (.t 27)),
    .op none (some 5) (.mov (.c (.int .i64 0)))])
  .ret))))) }
theorem F46_ok : compFun Try.prog 0 Try.f46 = some F46 := by kernel_rfl

def F47 : AFun :=
  { n := 9, res := [], code :=
  (.reg [.op none (some 4) (.mov (.t 0)),
    .op none (some 5) (.mov (.t 1)),
    .op none (some 6) (.mnx true (.c (.int .i64 (-1))) [.t 5]),
    .op none (some 7) (.nchk (.t 4)),
    .op none (some 8) (.fad 3 (.t 7)),
    .op none none (.st 1 (.t 8) (.t 6))]) }
theorem F47_ok : compFun Try.prog 0 Try.f47 = some F47 := by kernel_rfl

def F48 : AFun :=
  { n := 8, res := [], code :=
  (.seq
  (.reg [.op none (some 2) (.mov (.t 0)),
    .op none (some 3) (.nchk (.t 2)),
    .op none (some 4) (.fad 4 (.t 3)),
    .op none none (.st 1 (.t 4) (.c (.bool true)))])
  (.reg [.op none (some 5) (.mov (.t 0)),
    .op none (some 6) (.nchk (.t 5)),
    .op none (some 7) (.fad 3 (.t 6)),
    .op none none (.st 1 (.t 7) (.c (.int .i64 (-1))))])) }
theorem F48_ok : compFun Try.prog 0 Try.f48 = some F48 := by kernel_rfl

def F49_l0 : ACode :=
  (.seq
  (.seq
  (.reg [.op none (some 20) (.mov (.t 6)),
    .op none (some 21) (.mov (.t 5)),
    .op none (some 22) (.lenV (.t 21)),
    .op none (some 23) (.bin .lss (.t 20) (.t 22))])
  (.cond (.t 23)
    .skip
    (.exit 0)))
  (.seq
  (.block 1
  (.seq
  (.reg [.op none (some 27) (.mov (.t 0)),
    .op none (some 28) (.mov (.t 5)),
    .op none (some 29) (.mov (.t 6)),
    .op none (some 30) (.iadV 2 (.t 28) (.t 29)),
    .op none (some 31) (.fad 0 (.t 30)),
    .op none (some 32) (.ld1 (.t 31)),
    .call none (some 33) 64 [.t 27, .t 32],
    .op none (some 26) (.mov (.t 33)),
    .op none (some 34) (.ext 0 (.t 26)),
    .op none (some 35) (.ext 1 (.t 26)),
    .op none (some 7) (.new 91 [.string (⟨#[]⟩), .string (⟨#[]⟩), .string (⟨#[]⟩), .bool false]),
    .op none none (.st 4 (.t 7) (.t 34)),
    .op none (some 8) (.mov (.t 35))])
  (.seq
  (.draw [.f (.op none (some 36) (.fad 1 (.t 7))),
    .f (.op none (some 37) (.ld1 (.t 36))),
    .f (.op none (some 38) (.fad 2 (.t 7))),
    .f (.op none (some 39) (.ld1 (.t 38))),
    .f (.op none (some 40) (.mov (.t 1))),
    .f (.op none (some 41) (.mov (.t 6))),
    .f (.op none (some 42) (.fad 2 (.t 7))),
    .f (.op none (some 43) (.ld1 (.t 42))),
    .f (.op none (some 44) (.lenS (.t 43))),
    .b (.call none (some 45) 19 [.t 40, .t 41, .t 44]) [.op none (some 37) (.ld1 (.t 36)), .op none (some 39) (.ld1 (.t 38))],
    .f (.op none (some 46) (.slS (.t 39) none (some (.t 45)))),
    .f (.op none (some 47) (.bin .add (.t 37) (.t 46))),
    .f (.op none (some 9) (.mov (.t 47)))])
  (.seq
  (.reg [.op none (some 48) (.fad 3 (.t 7)),
    .op none (some 49) (.ld1 (.t 48)),
    .op none (some 50) (.mov (.t 49)),
    .op (some (50, false)) (some 51) (.mov (.t 9)),
    .op (some (50, false)) (some 52) (.bin .neq (.t 51) (.c (.string (⟨#[]⟩)))),
    .op none (some 53) (.pick (.t 50) (.c (.bool true)) (.t 52))])
  (.cond (.t 53)
    (.reg [.op none (some 54) (.mov (.t 4)),
      .op none (some 55) (.fad 0 (.t 7)),
      .op none (some 56) (.ld1 (.t 55)),
      .op none (some 57) (.mov (.t 9)),
      .op none (some 58) (.bld [.string (⟨#[]⟩), .string (⟨#[]⟩), .string (⟨#[]⟩), .bool false] [(0, 1, .t 56), (1, 1, .t 57), (3, 1, .c (.bool true))]),
      .op none (some 59) (.bldSl 91 1 [.string (⟨#[]⟩), .string (⟨#[]⟩), .string (⟨#[]⟩), .bool false] [(0, 4, .t 58)]),
      .op none (some 60) (.app 91 4 56 [.string (⟨#[]⟩), .string (⟨#[]⟩), .string (⟨#[]⟩), .bool false] (.t 54) (.t 59)),
      .op none (some 4) (.mov (.t 60))])
    .skip)))))
  (.reg [.op none (some 24) (.mov (.t 6)),
    .op none (some 25) (.bin .add (.t 24) (.c (.int .i64 1))),
    .op none (some 6) (.mov (.t 25))])))

def F49 : AFun :=
  { n := 68, res := [], code :=
  (.seq
  (.reg [.op none (some 10) (.mov (.t 0)),
    .op none (some 11) (.nchk (.t 10)),
    .op none (some 12) (.fad 3 (.t 11)),
    .op none none (.st 1 (.t 12) (.c (.int .i64 (-1))))])
  (.seq
  (.seq
  (.reg [.op none (some 13) (.mov (.t 0)),
    .op none (some 14) (.nchk (.t 13)),
    .op none (some 15) (.fad 4 (.t 14)),
    .op none (some 16) (.ld1 (.t 15)),
    .op none (some 17) (.un .not (.t 16))])
  (.cond (.t 17)
    .ret
    .skip))
  (.seq
  (.reg [.op none (some 4) (.mov (.c (.slice none 0 0)))])
  (.seq
  (.reg [.op none (some 18) (.mov (.t 0)),
    .call none (some 19) 50 [.t 18],
    .op none (some 5) (.mov (.t 19))])
  (.seq
  (.seq
  (.reg [.op none (some 6) (.mov (.c (.int .i64 0)))])
  (.block 0
  (.loop F49_l0)))
  (.seq
  (.reg [.op none (some 61) (.mov (.t 0)),
    .op none (some 62) (.mov (.t 4)),
    .op none (some 63) (.nchk (.t 61)),
    .op none (some 64) (.fad 0 (.t 63)),
    .op none none (.st 1 (.t 64) (.t 62))])
  (.reg [.op none (some 65) (.mov (.t 0)),
    .op none (some 66) (.nchk (.t 65)),
    .op none (some 67) (.fad 4 (.t 66)),
    .op none none (.st 1 (.t 67) (.c (.bool false)))]))))))) }
theorem F49_ok : compFun Try.prog 0 Try.f49 = some F49 := by kernel_rfl

def F50_l1 : ACode :=
  (.seq
  (.seq
  (.draw [.f (.op none (some 16) (.mov (.t 5))),
    .f (.op none (some 17) (.mov (.t 3))),
    .f (.op none (some 18) (.lenV (.t 17))),
    .f (.op none (some 19) (.bin .lss (.t 16) (.t 18))),
    .f (.op none (some 20) (.mov (.t 19))),
    .f (.op (some (20, true)) (some 21) (.mov (.t 3))),
    .f (.op (some (20, true)) (some 22) (.mov (.t 5))),
    .f (.op (some (20, true)) (some 23) (.iadV 2 (.t 21) (.t 22))),
    .f (.op (some (20, true)) (some 24) (.fad 0 (.t 23))),
    .f (.op (some (20, true)) (some 25) (.ld1 (.t 24))),
    .f (.op (some (20, true)) (some 26) (.mov (.t 0))),
    .f (.op (some (20, true)) (some 27) (.nchk (.t 26))),
    .f (.op (some (20, true)) (some 28) (.fad 0 (.t 27))),
    .f (.op (some (20, true)) (some 29) (.ld1 (.t 28))),
    .f (.op (some (20, true)) (some 30) (.mov (.t 4))),
    .f (.op (some (20, true)) (some 31) (.iadV 4 (.t 29) (.t 30))),
    .f (.op (some (20, true)) (some 32) (.fad 0 (.t 31))),
    .f (.op (some (20, true)) (some 33) (.ld1 (.t 32))),
    .f (.op (some (20, true)) (some 34) (.bin .lss (.t 25) (.t 33))),
    .f (.op none (some 35) (.pick (.t 20) (.t 34) (.c (.bool false))))])
  (.cond (.t 35)
    .skip
    (.exit 2)))
  (.block 3
  (.reg [.op none (some 36) (.mov (.t 5)),
    .op none (some 37) (.bin .add (.t 36) (.c (.int .i64 1))),
    .op none (some 5) (.mov (.t 37))])))

def F50_l0 : ACode :=
  (.seq
  (.seq
  (.reg [.op none (some 7) (.mov (.t 4)),
    .op none (some 8) (.mov (.t 0)),
    .op none (some 9) (.nchk (.t 8)),
    .op none (some 10) (.fad 0 (.t 9)),
    .op none (some 11) (.ld1 (.t 10)),
    .op none (some 12) (.lenV (.t 11)),
    .op none (some 13) (.bin .lss (.t 7) (.t 12))])
  (.cond (.t 13)
    .skip
    (.exit 0)))
  (.seq
  (.block 1
  (.seq
  (.reg [.op none (some 5) (.mov (.c (.int .i64 0)))])
  (.seq
  (.block 2
  (.loop F50_l1))
  (.seq
  (.reg [.op none (some 6) (.mov (.c (.slice none 0 0)))])
  (.seq
  (.reg [.op none (some 38) (.mov (.t 6)),
    .op none (some 39) (.mov (.t 3)),
    .op none (some 40) (.mov (.t 5)),
    .op none (some 41) (.slV 2 (.t 39) none (some (.t 40)) none),
    .op none (some 42) (.app 77 2 40 [.string (⟨#[]⟩), .slice none 0 0] (.t 38) (.t 41)),
    .op none (some 6) (.mov (.t 42))])
  (.seq
  (.draw [.f (.op none (some 43) (.mov (.t 6))),
    .f (.op none (some 44) (.mov (.t 0))),
    .f (.op none (some 45) (.nchk (.t 44))),
    .f (.op none (some 46) (.fad 0 (.t 45))),
    .f (.op none (some 47) (.ld1 (.t 46))),
    .f (.op none (some 48) (.mov (.t 4))),
    .f (.op none (some 49) (.iadV 4 (.t 47) (.t 48))),
    .f (.op none (some 50) (.fad 0 (.t 49))),
    .f (.op none (some 51) (.ld1 (.t 50))),
    .f (.op none (some 52) (.mov (.t 0))),
    .f (.op none (some 53) (.nchk (.t 52))),
    .f (.op none (some 54) (.fad 0 (.t 53))),
    .f (.op none (some 55) (.ld1 (.t 54))),
    .f (.op none (some 56) (.mov (.t 4))),
    .f (.op none (some 57) (.iadV 4 (.t 55) (.t 56))),
    .f (.op none (some 58) (.fad 1 (.t 57))),
    .f (.op none (some 59) (.ld1 (.t 58))),
    .f (.op none (some 60) (.mov (.t 0))),
    .f (.op none (some 61) (.nchk (.t 60))),
    .f (.op none (some 62) (.fad 0 (.t 61))),
    .f (.op none (some 63) (.ld1 (.t 62))),
    .f (.op none (some 64) (.mov (.t 4))),
    .f (.op none (some 65) (.iadV 4 (.t 63) (.t 64))),
    .f (.op none (some 66) (.fad 2 (.t 65))),
    .f (.op none (some 67) (.ld1 (.t 66))),
    .f (.op none (some 68) (.bin .add (.t 59) (.t 67))),
    .b (.op none (some 69) (.s2b 5 (.t 68))) [.op none (some 47) (.ld1 (.t 46)), .op none (some 51) (.ld1 (.t 50))],
    .f (.op none (some 70) (.bld [.string (⟨#[]⟩), .slice none 0 0] [(0, 1, .t 51), (1, 1, .t 69)])),
    .b (.op none (some 71) (.bldSl 77 1 [.string (⟨#[]⟩), .slice none 0 0] [(0, 2, .t 70)])) [],
    .b (.op none (some 72) (.app 77 2 40 [.string (⟨#[]⟩), .slice none 0 0] (.t 43) (.t 71))) [],
    .f (.op none (some 6) (.mov (.t 72)))])
  (.reg [.op none (some 73) (.mov (.t 6)),
    .op none (some 74) (.mov (.t 3)),
    .op none (some 75) (.mov (.t 5)),
    .op none (some 76) (.slV 2 (.t 74) (some (.t 75)) none none),
    .op none (some 77) (.app 77 2 40 [.string (⟨#[]⟩), .slice none 0 0] (.t 73) (.t 76)),
    .op none (some 3) (.mov (.t 77))])))))))
  (.reg [.op none (some 14) (.mov (.t 4)),
    .op none (some 15) (.bin .add (.t 14) (.c (.int .i64 1))),
    .op none (some 4) (.mov (.t 15))])))

def F50 : AFun :=
  { n := 79, res := [.t 2], code :=
  (.seq
  (.reg [.op none (some 2) (.mov (.c (.slice none 0 0)))])
  (.seq
  (.reg [.op none (some 3) (.mov (.c (.slice none 0 0)))])
  (.seq
  (.seq
  (.reg [.op none (some 4) (.mov (.c (.int .i64 0)))])
  (.block 0
  (.loop F50_l0)))
  (.seq
  (.reg [.op none (some 78) (.mov (.t 3)),
    .op none (some 2) (.mov (.t 78))])
  .ret)))) }
theorem F50_ok : compFun Try.prog 0 Try.f50 = some F50 := by kernel_rfl

def F51_l0 : ACode :=
  (.seq
  (.seq
  (.reg [.op none (some 5) (.mov (.t 4)),
    .op none (some 6) (.mov (.t 0)),
    .op none (some 7) (.nchk (.t 6)),
    .op none (some 8) (.fad 0 (.t 7)),
    .op none (some 9) (.ld1 (.t 8)),
    .op none (some 10) (.lenV (.t 9)),
    .op none (some 11) (.bin .lss (.t 5) (.t 10))])
  (.cond (.t 11)
    .skip
    (.exit 0)))
  (.seq
  (.block 1
  (.draw [.f (.op none (some 14) (.mov (.t 3))),
    .f (.op none (some 15) (.mov (.t 0))),
    .f (.op none (some 16) (.nchk (.t 15))),
    .f (.op none (some 17) (.fad 0 (.t 16))),
    .f (.op none (some 18) (.ld1 (.t 17))),
    .f (.op none (some 19) (.mov (.t 4))),
    .f (.op none (some 20) (.iadV 4 (.t 18) (.t 19))),
    .f (.op none (some 21) (.fad 1 (.t 20))),
    .f (.op none (some 22) (.ld1 (.t 21))),
    .f (.op none (some 23) (.lenS (.t 22))),
    .f (.op none (some 24) (.bin .add (.t 14) (.t 23))),
    .f (.op none (some 25) (.mov (.t 0))),
    .f (.op none (some 26) (.nchk (.t 25))),
    .f (.op none (some 27) (.fad 0 (.t 26))),
    .f (.op none (some 28) (.ld1 (.t 27))),
    .f (.op none (some 29) (.mov (.t 4))),
    .f (.op none (some 30) (.iadV 4 (.t 28) (.t 29))),
    .f (.op none (some 31) (.fad 2 (.t 30))),
    .f (.op none (some 32) (.ld1 (.t 31))),
    .f (.op none (some 33) (.lenS (.t 32))),
    .f (.op none (some 34) (.bin .add (.t 24) (.t 33))),
    .f (.op none (some 3) (.mov (.t 34)))]))
  (.reg [.op none (some 12) (.mov (.t 4)),
    .op none (some 13) (.bin .add (.t 12) (.c (.int .i64 1))),
    .op none (some 4) (.mov (.t 13))])))

def F51 : AFun :=
  { n := 36, res := [.t 2], code :=
  (.seq
  (.reg [.op none (some 2) (.mov (.c (.int .i64 0)))])
  (.seq
  (.reg [.op none (some 3) (.mov (.c (.int .i64 0)))])
  (.seq
  (.seq
  (.reg [.op none (some 4) (.mov (.c (.int .i64 0)))])
  (.block 0
  (.loop F51_l0)))
  (.seq
  (.reg [.op none (some 35) (.mov (.t 3)),
    .op none (some 2) (.mov (.t 35))])
  .ret)))) }
theorem F51_ok : compFun Try.prog 0 Try.f51 = some F51 := by kernel_rfl

def F52 : AFun :=
  { n := 8, res := [.t 2], code :=
  (.seq
  (.reg [.op none (some 2) (.mov (.c (.slice none 0 0)))])
  (.seq
  (.seq
  (.reg [.op none (some 3) (.mov (.t 0)),
    .op none (some 4) (.eql false .nilS (.t 3) (.c (.slice none 0 0)))])
  (.cond (.t 4)
    (.seq
    (.reg [.op none (some 2) (.mov (.c (.slice none 0 0)))])
    .ret)
    .skip))
  (.seq
  (.reg [.op none (some 5) (.bldSl 63 0 [] []),
    .op none (some 6) (.mov (.t 0)),
    .op none (some 7) (.app 63 4 72 [.string (⟨#[]⟩), .slice none 0 0, .slice none 0 0, .bool false] (.t 5) (.t 6)),
    .op none (some 2) (.mov (.t 7))])
  .ret))) }
theorem F52_ok : compFun Try.prog 0 Try.f52 = some F52 := by kernel_rfl

def F53 : AFun :=
  { n := 16, res := [.t 3, .t 4], code :=
  (.seq
  (.reg [.op none (some 3) (.mov (.c (.slice none 0 0))),
    .op none (some 4) (.mov (.c (.int .i64 0)))])
  (.seq
  (.seq
  (.reg [.op none (some 5) (.ld1 (.t 1)),
    .op none (some 6) (.bin .lss (.t 5) (.c (.int .i64 0))),
    .op none (some 7) (.mov (.t 6)),
    .op (some (7, false)) (some 8) (.ld1 (.t 1)),
    .op (some (7, false)) (some 9) (.mov (.t 0)),
    .op (some (7, false)) (some 10) (.lenV (.t 9)),
    .op (some (7, false)) (some 11) (.bin .gtr (.t 8) (.t 10)),
    .op none (some 12) (.pick (.t 7) (.c (.bool true)) (.t 11))])
  (.cond (.t 12)
    (.seq
    (.reg [.op none (some 3) (.mov (.c (.slice none 0 0))),
      .op none (some 4) (.mov (.c (.int .i64 2)))])
    .ret)
    .skip))
  (.seq
  (.reg [.op none (some 13) (.mov (.t 0)),
    .op none (some 14) (.ld1 (.t 1)),
    .op none (some 15) (.slV 1 (.t 13) none (some (.t 14)) none),
    .op none (some 3) (.mov (.t 15)),
    .op none (some 4) (.mov (.c (.int .i64 0)))])
  .ret))) }
theorem F53_ok : compFun Try.prog 0 Try.f53 = some F53 := by kernel_rfl

def F54 : AFun :=
  { n := 33, res := [.t 6], code :=
  (.seq
  (.reg [.op none (some 6) (.mov (.c (.slice none 0 0)))])
  (.seq
  (.reg [.op none (some 8) (.mov (.t 0)),
    .op none (some 9) (.mov (.t 1)),
    .op none (some 10) (.mov (.t 2)),
    .op none (some 11) (.mov (.t 0)),
    .op none (some 12) (.lenV (.t 11)),
    .op none (some 13) (.slV 4 (.t 8) (some (.t 9)) (some (.t 10)) (some (.t 12)))])
  (.seq
  (.seq
  (.reg [.op none (some 14) (.mov (.t 1)),
    .op none (some 15) (.mov (.t 2)),
    .op none (some 16) (.bin .eql (.t 14) (.t 15))])
  (.cond (.t 16)
    (.seq
    (.reg [.op none (some 17) (.mov (.t 0)),
      .op none (some 6) (.mov (.t 17))])
    .ret)
    .skip))
  (.seq
  (.reg [.op none (some 18) (.mov (.t 0)),
    .op none (some 19) (.lenV (.t 18)),
    .op none (some 7) (.mov (.t 19))])
  (.seq
  (.draw [.f (.op none (some 20) (.mov (.t 0))),
    .f (.op none (some 21) (.mov (.t 1))),
    .f (.op none (some 22) (.slV 4 (.t 20) none (some (.t 21)) none)),
    .f (.op none (some 23) (.mov (.t 0))),
    .f (.op none (some 24) (.mov (.t 2))),
    .f (.op none (some 25) (.slV 4 (.t 23) (some (.t 24)) none none)),
    .b (.op none (some 26) (.app 63 4 72 [.string (⟨#[]⟩), .slice none 0 0, .slice none 0 0, .bool false] (.t 22) (.t 25))) [],
    .f (.op none (some 0) (.mov (.t 26)))])
  (.seq
  (.reg [.op none (some 27) (.mov (.t 0)),
    .op none (some 28) (.mov (.t 0)),
    .op none (some 29) (.lenV (.t 28)),
    .op none (some 30) (.mov (.t 7)),
    .op none (some 31) (.slV 4 (.t 27) (some (.t 29)) (some (.t 30)) none),
    .op none none (.clr 4 [.string (⟨#[]⟩), .slice none 0 0, .slice none 0 0, .bool false] (.t 31))])
  (.seq
  (.reg [.op none (some 32) (.mov (.t 0)),
    .op none (some 6) (.mov (.t 32))])
  .ret))))))) }
theorem F54_ok : compFun Try.prog 0 Try.f54 = some F54 := by kernel_rfl

def F55 : AFun :=
  { n := 9, res := [.t 4], code :=
  (.seq
  (.reg [.op none (some 4) (.mov (.c (.bool false)))])
  (.seq
  (.reg [.op none (some 5) (.mov (.t 0)),
    .op none (some 6) (.mov (.t 1)),
    .call none (some 7) 69 [.t 5, .t 6],
    .op none (some 8) (.bin .geq (.t 7) (.c (.int .i64 0))),
    .op none (some 4) (.mov (.t 8))])
  .ret)) }
theorem F55_ok : compFun Try.prog 0 Try.f55 = some F55 := by kernel_rfl

def F56 : AFun :=
  { n := 10, res := [.t 2], code :=
  (.seq
  (.reg [.op none (some 2) (.mov (.c (.bool false)))])
  (.seq
  (.reg [.op none (some 3) (.mov (.t 0)),
    .op none (some 4) (.bin .eql (.t 3) (.c (.string (⟨#[]⟩)))),
    .op none (some 5) (.mov (.t 4)),
    .op (some (5, false)) (some 6) (.mov (.t 0)),
    .op (some (5, false)) (some 7) (.lenS (.t 6)),
    .op (some (5, false)) (some 8) (.bin .gtr (.t 7) (.c (.int .i64 128))),
    .op none (some 9) (.pick (.t 5) (.c (.bool true)) (.t 8)),
    .op none (some 2) (.mov (.t 9))])
  .ret)) }
theorem F56_ok : compFun Try.prog 0 Try.f56 = some F56 := by kernel_rfl

def F57_l0 : ACode :=
  (.seq
  (.seq
  (.reg [.op none (some 15) (.mov (.t 9)),
    .op none (some 16) (.mov (.t 10)),
    .op none (some 17) (.bin .lss (.t 15) (.t 16))])
  (.cond (.t 17)
    .skip
    (.exit 0)))
  (.block 1
  (.seq
  (.reg [.op none (some 18) (.mov (.t 9)),
    .op none (some 19) (.mov (.t 10)),
    .op none (some 20) (.bin .add (.t 18) (.t 19)),
    .op none (some 21) (.cvt .u64 (.t 20)),
    .op none (some 22) (.bin .shr (.t 21) (.c (.int .u64 1))),
    .op none (some 23) (.cvt .i64 (.t 22)),
    .op none (some 11) (.mov (.t 23))])
  (.seq
  (.reg [.op none (some 24) (.mov (.t 2)),
    .op none (some 25) (.mov (.t 0)),
    .op none (some 26) (.mov (.t 11)),
    .op none (some 27) (.iadV 4 (.t 25) (.t 26)),
    .op none (some 28) (.ldn 4 (.t 27)),
    .op none (some 29) (.mov (.t 1)),
    .callv none (some 30) (.t 24) [.t 28, .t 29],
    .op none (some 31) (.bin .lss (.t 30) (.c (.int .i64 0)))])
  (.cond (.t 31)
    (.reg [.op none (some 32) (.mov (.t 11)),
      .op none (some 33) (.bin .add (.t 32) (.c (.int .i64 1))),
      .op none (some 9) (.mov (.t 33))])
    (.reg [.op none (some 34) (.mov (.t 11)),
      .op none (some 10) (.mov (.t 34))]))))))

def F57 : AFun :=
  { n := 49, res := [.t 6, .t 7], code :=
  (.seq
  (.reg [.op none (some 6) (.mov (.c (.int .i64 0))),
    .op none (some 7) (.mov (.c (.bool false)))])
  (.seq
  (.reg [.op none (some 12) (.mov (.t 0)),
    .op none (some 13) (.lenV (.t 12)),
    .op none (some 8) (.mov (.t 13))])
  (.seq
  (.reg [.op none (some 14) (.mov (.t 8)),
    .op none (some 9) (.mov (.c (.int .i64 0))),
    .op none (some 10) (.mov (.t 14))])
  (.seq
  (.block 0
  (.loop F57_l0))
  (.seq
  (.reg [.op none (some 35) (.mov (.t 9)),
    .op none (some 36) (.mov (.t 9)),
    .op none (some 37) (.mov (.t 8)),
    .op none (some 38) (.bin .lss (.t 36) (.t 37)),
    .op none (some 39) (.mov (.t 38)),
    .op (some (39, true)) (some 40) (.mov (.t 2)),
    .op (some (39, true)) (some 41) (.mov (.t 0)),
    .op (some (39, true)) (some 42) (.mov (.t 9)),
    .op (some (39, true)) (some 43) (.iadV 4 (.t 41) (.t 42)),
    .op (some (39, true)) (some 44) (.ldn 4 (.t 43)),
    .op (some (39, true)) (some 45) (.mov (.t 1)),
    .callv (some (39, true)) (some 46) (.t 40) [.t 44, .t 45],
    .op (some (39, true)) (some 47) (.bin .eql (.t 46) (.c (.int .i64 0))),
    .op none (some 48) (.pick (.t 39) (.t 47) (.c (.bool false))),
    .op none (some 6) (.mov (.t 35)),
    .op none (some 7) (.mov (.t 48))])
  .ret))))) }
theorem F57_ok : compFun Try.prog 0 Try.f57 = some F57 := by kernel_rfl

def F58 : AFun :=
  { n := 9, res := [.t 4], code :=
  (.seq
  (.reg [.op none (some 2) (.box 63 (.t 0)),
    .op none (some 4) (.mov (.c (.int .i64 0)))])
  (.seq
  (.reg [.op none (some 5) (.fad 0 (.t 2)),
    .op none (some 6) (.ld1 (.t 5)),
    .op none (some 7) (.mov (.t 1)),
    .call none (some 8) 59 [.t 6, .t 7],
    .op none (some 4) (.mov (.t 8))])
  .ret)) }
theorem F58_ok : compFun Try.prog 0 Try.f58 = some F58 := by kernel_rfl

def F59 : AFun :=
  { n := 8, res := [.t 4], code :=
  (.seq
  (.reg [.op none (some 4) (.mov (.c (.int .i64 0)))])
  (.seq
  (.reg [.op none (some 5) (.mov (.t 0)),
    .op none (some 6) (.mov (.t 1)),
    .call none (some 7) 70 [.t 5, .t 6],
    .op none (some 4) (.mov (.t 7))])
  .ret)) }
theorem F59_ok : compFun Try.prog 0 Try.f59 = some F59 := by kernel_rfl

def F60 : AFun :=
  { n := 27, res := [.t 4], code :=
  (.seq
  (.reg [.op none (some 4) (.mov (.c (.slice none 0 0)))])
  (.seq
  (.seq
  (.reg [.op none (some 5) (.mov (.t 1)),
    .op none (some 6) (.bin .lss (.t 5) (.c (.int .i64 0)))])
  (.cond (.t 6)
    (.reg [.op none (some 7) (.mkI 9 (.c (.string (⟨#[99, 97, 110, 110, 111, 116, 32, 98, 101, 32, 110, 101, 103, 97, 116, 105, 118, 101]⟩)))),
      .panic none none (.t 7)])
    .skip))
  (.seq
  (.seq
  (.reg [.op none (some 8) (.mov (.t 1)),
    .op none (some 9) (.mov (.t 0)),
    .cap none (some 10) 1 (.t 9),
    .op none (some 11) (.mov (.t 0)),
    .op none (some 12) (.lenV (.t 11)),
    .op none (some 13) (.bin .sub (.t 10) (.t 12)),
    .op none (some 14) (.bin .sub (.t 8) (.t 13)),
    .op none (some 1) (.mov (.t 14))])
  (.seq
  (.reg [.op none (some 15) (.mov (.t 1)),
    .op none (some 16) (.bin .gtr (.t 15) (.c (.int .i64 0)))])
  (.cond (.t 16)
    (.reg [.op none (some 17) (.mov (.t 0)),
      .op none (some 18) (.mov (.t 0)),
      .cap none (some 19) 1 (.t 18),
      .op none (some 20) (.slV 1 (.t 17) none (some (.t 19)) none),
      .op none (some 21) (.mov (.t 1)),
      .op none (some 22) (.appN 5 1 1 [.int .u8 0] (.t 20) (.t 21)),
      .op none (some 23) (.mov (.t 0)),
      .op none (some 24) (.lenV (.t 23)),
      .op none (some 25) (.slV 1 (.t 22) none (some (.t 24)) none),
      .op none (some 0) (.mov (.t 25))])
    .skip)))
  (.seq
  (.reg [.op none (some 26) (.mov (.t 0)),
    .op none (some 4) (.mov (.t 26))])
  .ret)))) }
theorem F60_ok : compFun Try.prog 0 Try.f60 = some F60 := by kernel_rfl

def F61 : AFun :=
  { n := 95, res := [.t 6], code :=
  (.seq
  (.reg [.op none (some 6) (.mov (.c (.slice none 0 0)))])
  (.seq
  (.reg [.op none (some 10) (.mov (.t 0)),
    .op none (some 11) (.mov (.t 1)),
    .op none (some 12) (.slV 4 (.t 10) (some (.t 11)) none none)])
  (.seq
  (.reg [.op none (some 13) (.mov (.t 2)),
    .op none (some 14) (.lenV (.t 13)),
    .op none (some 7) (.mov (.t 14))])
  (.seq
  (.seq
  (.reg [.op none (some 15) (.mov (.t 7)),
    .op none (some 16) (.bin .eql (.t 15) (.c (.int .i64 0)))])
  (.cond (.t 16)
    (.seq
    (.reg [.op none (some 17) (.mov (.t 0)),
      .op none (some 6) (.mov (.t 17))])
    .ret)
    .skip))
  (.seq
  (.reg [.op none (some 18) (.mov (.t 0)),
    .op none (some 19) (.lenV (.t 18)),
    .op none (some 8) (.mov (.t 19))])
  (.seq
  (.seq
  (.reg [.op none (some 20) (.mov (.t 1)),
    .op none (some 21) (.mov (.t 8)),
    .op none (some 22) (.bin .eql (.t 20) (.t 21))])
  (.cond (.t 22)
    (.seq
    (.reg [.op none (some 23) (.mov (.t 0)),
      .op none (some 24) (.mov (.t 2)),
      .op none (some 25) (.app 63 4 72 [.string (⟨#[]⟩), .slice none 0 0, .slice none 0 0, .bool false] (.t 23) (.t 24)),
      .op none (some 6) (.mov (.t 25))])
    .ret)
    .skip))
  (.seq
  (.seq
  (.reg [.op none (some 26) (.mov (.t 8)),
    .op none (some 27) (.mov (.t 7)),
    .op none (some 28) (.bin .add (.t 26) (.t 27)),
    .op none (some 29) (.mov (.t 0)),
    .cap none (some 30) 4 (.t 29),
    .op none (some 31) (.bin .gtr (.t 28) (.t 30))])
  (.cond (.t 31)
    (.seq
    (.reg [.op none (some 32) (.mov (.t 0)),
      .op none (some 33) (.mov (.t 1)),
      .op none (some 34) (.slV 4 (.t 32) none (some (.t 33)) none),
      .op none (some 35) (.mov (.t 8)),
      .op none (some 36) (.mov (.t 7)),
      .op none (some 37) (.bin .add (.t 35) (.t 36)),
      .op none (some 38) (.mov (.t 1)),
      .op none (some 39) (.bin .sub (.t 37) (.t 38)),
      .op none (some 40) (.appN 63 4 72 [.string (⟨#[]⟩), .slice none 0 0, .slice none 0 0, .bool false] (.t 34) (.t 39)),
      .op none (some 9) (.mov (.t 40))])
    (.seq
    (.reg [.op none (some 41) (.mov (.t 9)),
      .op none (some 42) (.mov (.t 1)),
      .op none (some 43) (.slV 4 (.t 41) (some (.t 42)) none none),
      .op none (some 44) (.mov (.t 2)),
      .op none (some 45) (.cpy 4 (.t 43) (.t 44))])
    (.seq
    (.draw [.f (.op none (some 46) (.mov (.t 9))),
      .f (.op none (some 47) (.mov (.t 1))),
      .f (.op none (some 48) (.mov (.t 7))),
      .f (.op none (some 49) (.bin .add (.t 47) (.t 48))),
      .f (.op none (some 50) (.slV 4 (.t 46) (some (.t 49)) none none)),
      .f (.op none (some 51) (.mov (.t 0))),
      .f (.op none (some 52) (.mov (.t 1))),
      .f (.op none (some 53) (.slV 4 (.t 51) (some (.t 52)) none none)),
      .b (.op none (some 54) (.cpy 4 (.t 50) (.t 53))) []])
    (.seq
    (.reg [.op none (some 55) (.mov (.t 9)),
      .op none (some 6) (.mov (.t 55))])
    .ret))))
    .skip))
  (.seq
  (.reg [.op none (some 56) (.mov (.t 0)),
    .op none (some 57) (.mov (.t 8)),
    .op none (some 58) (.mov (.t 7)),
    .op none (some 59) (.bin .add (.t 57) (.t 58)),
    .op none (some 60) (.slV 4 (.t 56) none (some (.t 59)) none),
    .op none (some 0) (.mov (.t 60))])
  (.seq
  (.seq
  (.reg [.op none (some 61) (.mov (.t 2)),
    .op none (some 62) (.mov (.t 0)),
    .op none (some 63) (.mov (.t 1)),
    .op none (some 64) (.mov (.t 7)),
    .op none (some 65) (.bin .add (.t 63) (.t 64)),
    .op none (some 66) (.slV 4 (.t 62) (some (.t 65)) none none),
    .call none (some 67) 71 [.t 61, .t 66],
    .op none (some 68) (.un .not (.t 67))])
  (.cond (.t 68)
    (.seq
    (.draw [.f (.op none (some 69) (.mov (.t 0))),
      .f (.op none (some 70) (.mov (.t 1))),
      .f (.op none (some 71) (.mov (.t 7))),
      .f (.op none (some 72) (.bin .add (.t 70) (.t 71))),
      .f (.op none (some 73) (.slV 4 (.t 69) (some (.t 72)) none none)),
      .f (.op none (some 74) (.mov (.t 0))),
      .f (.op none (some 75) (.mov (.t 1))),
      .f (.op none (some 76) (.slV 4 (.t 74) (some (.t 75)) none none)),
      .b (.op none (some 77) (.cpy 4 (.t 73) (.t 76))) []])
    (.seq
    (.reg [.op none (some 78) (.mov (.t 0)),
      .op none (some 79) (.mov (.t 1)),
      .op none (some 80) (.slV 4 (.t 78) (some (.t 79)) none none),
      .op none (some 81) (.mov (.t 2)),
      .op none (some 82) (.cpy 4 (.t 80) (.t 81))])
    (.seq
    (.reg [.op none (some 83) (.mov (.t 0)),
      .op none (some 6) (.mov (.t 83))])
    .ret)))
    .skip))
  (.seq
  (.reg [.op none (some 84) (.mov (.t 0)),
    .op none (some 85) (.mov (.t 8)),
    .op none (some 86) (.slV 4 (.t 84) (some (.t 85)) none none),
    .op none (some 87) (.mov (.t 2)),
    .op none (some 88) (.cpy 4 (.t 86) (.t 87))])
  (.seq
  (.reg [.op none (some 89) (.mov (.t 0)),
    .op none (some 90) (.mov (.t 1)),
    .op none (some 91) (.slV 4 (.t 89) (some (.t 90)) none none),
    .op none (some 92) (.mov (.t 7)),
    .call none (some 93) 72 [.t 91, .t 92]])
  (.seq
  (.reg [.op none (some 94) (.mov (.t 0)),
    .op none (some 6) (.mov (.t 94))])
  .ret)))))))))))) }
theorem F61_ok : compFun Try.prog 0 Try.f61 = some F61 := by kernel_rfl

def F62 : AFun :=
  { n := 35, res := [.t 8], code :=
  (.seq
  (.reg [.op none (some 8) (.mov (.c (.int .i64 0)))])
  (.seq
  (.reg [.op none (some 12) (.mov (.t 0)),
    .op none (some 13) (.mov (.t 1)),
    .call none (some 14) 64 [.t 12, .t 13],
    .op none (some 11) (.mov (.t 14)),
    .op none (some 15) (.ext 0 (.t 11)),
    .op none (some 16) (.ext 1 (.t 11)),
    .op none (some 9) (.new 91 [.string (⟨#[]⟩), .string (⟨#[]⟩), .string (⟨#[]⟩), .bool false]),
    .op none none (.st 4 (.t 9) (.t 15)),
    .op none (some 10) (.mov (.t 16))])
  (.seq
  (.block 0
  (.seq
  (.reg [.op none (some 18) (.mov (.t 0)),
    .op none (some 19) (.nchk (.t 18)),
    .op none (some 20) (.fad 4 (.t 19)),
    .op none (some 21) (.ld1 (.t 20)),
    .op none (some 17) (.mov (.t 21))])
  (.cond (.t 17)
    (.seq
    (.reg [.op none (some 8) (.mov (.c (.int .i64 40)))])
    .ret)
    (.seq
    (.reg [.op none (some 23) (.mov (.t 1)),
      .call none (some 24) 73 [.t 23],
      .op none (some 25) (.mov (.t 24)),
      .op (some (25, false)) (some 26) (.mov (.t 2)),
      .call (some (25, false)) (some 27) 73 [.t 26],
      .op none (some 28) (.pick (.t 25) (.c (.bool true)) (.t 27)),
      .op none (some 22) (.mov (.t 28))])
    (.cond (.t 22)
      (.seq
      (.reg [.op none (some 8) (.mov (.c (.int .i64 2)))])
      .ret)
      (.seq
      (.reg [.op none (some 30) (.mov (.t 3)),
        .op none (some 31) (.mov (.t 30)),
        .op (some (31, true)) (some 32) (.mov (.t 10)),
        .op (some (31, true)) (some 33) (.un .not (.t 32)),
        .op none (some 34) (.pick (.t 31) (.t 33) (.c (.bool false))),
        .op none (some 29) (.mov (.t 34))])
      (.cond (.t 29)
        (.seq
        (.reg [.op none (some 8) (.mov (.c (.int .i64 5)))])
        .ret)
        .skip)))))))
  (.seq
  (.reg [.op none (some 8) (.mov (.c (.int .i64 0)))])
  .ret)))) }
theorem F62_ok : compFun Try.prog 0 Try.f62 = some F62 := by kernel_rfl

def F63 : AFun :=
  { n := 20, res := [.t 4], code :=
  (.seq
  (.reg [.op none (some 4) (.mov (.c (.int .i64 0)))])
  (.seq
  (.reg [.op none (some 8) (.mov (.t 0)),
    .op none (some 9) (.mov (.t 1)),
    .call none (some 10) 64 [.t 8, .t 9],
    .op none (some 7) (.mov (.t 10)),
    .op none (some 11) (.ext 0 (.t 7)),
    .op none (some 12) (.ext 1 (.t 7)),
    .op none (some 5) (.new 91 [.string (⟨#[]⟩), .string (⟨#[]⟩), .string (⟨#[]⟩), .bool false]),
    .op none none (.st 4 (.t 5) (.t 11)),
    .op none (some 6) (.mov (.t 12))])
  (.seq
  (.reg [.op none (some 13) (.fad 1 (.t 5)),
    .op none (some 14) (.ld1 (.t 13)),
    .op none (some 15) (.lenS (.t 14)),
    .op none (some 16) (.fad 2 (.t 5)),
    .op none (some 17) (.ld1 (.t 16)),
    .op none (some 18) (.lenS (.t 17)),
    .op none (some 19) (.bin .add (.t 15) (.t 18)),
    .op none (some 4) (.mov (.t 19))])
  .ret))) }
theorem F63_ok : compFun Try.prog 0 Try.f63 = some F63 := by kernel_rfl

def F64_l0 : ACode :=
  (.seq
  (.seq
  (.reg [.op none (some 13) (.mov (.t 6)),
    .op none (some 14) (.bin .geq (.t 13) (.c (.int .i64 0)))])
  (.cond (.t 14)
    .skip
    (.exit 0)))
  (.seq
  (.block 1
  (.seq
  (.reg [.op none (some 17) (.mov (.t 0)),
    .op none (some 18) (.nchk (.t 17)),
    .op none (some 19) (.fad 0 (.t 18)),
    .op none (some 20) (.ld1 (.t 19)),
    .op none (some 21) (.mov (.t 6)),
    .op none (some 22) (.iadV 4 (.t 20) (.t 21)),
    .op none (some 23) (.fad 0 (.t 22)),
    .op none (some 24) (.ld1 (.t 23)),
    .op none (some 25) (.mov (.t 1)),
    .op none (some 26) (.bin .eql (.t 24) (.t 25))])
  (.cond (.t 26)
    (.seq
    (.reg [.op none (some 27) (.mov (.t 0)),
      .op none (some 28) (.nchk (.t 27)),
      .op none (some 29) (.fad 0 (.t 28)),
      .op none (some 30) (.ld1 (.t 29)),
      .op none (some 31) (.mov (.t 6)),
      .op none (some 32) (.iadV 4 (.t 30) (.t 31)),
      .op none (some 33) (.ldn 4 (.t 32)),
      .op none none (.st 4 (.t 4) (.t 33)),
      .op none (some 5) (.mov (.c (.bool true)))])
    .ret)
    .skip)))
  (.reg [.op none (some 15) (.mov (.t 6)),
    .op none (some 16) (.bin .sub (.t 15) (.c (.int .i64 1))),
    .op none (some 6) (.mov (.t 16))])))

def F64 : AFun :=
  { n := 36, res := [.cn 4 4, .t 5], code :=
  (.seq
  (.reg [.op none (some 4) (.new 91 [.string (⟨#[]⟩), .string (⟨#[]⟩), .string (⟨#[]⟩), .bool false]),
    .op none (some 5) (.mov (.c (.bool false)))])
  (.seq
  (.seq
  (.reg [.op none (some 7) (.mov (.t 0)),
    .op none (some 8) (.nchk (.t 7)),
    .op none (some 9) (.fad 0 (.t 8)),
    .op none (some 10) (.ld1 (.t 9)),
    .op none (some 11) (.lenV (.t 10)),
    .op none (some 12) (.bin .sub (.t 11) (.c (.int .i64 1))),
    .op none (some 6) (.mov (.t 12))])
  (.block 0
  (.loop F64_l0)))
  (.seq
  (.reg [.op none (some 34) (.mov (.t 1)),
    .op none (some 35) (.bld [.string (⟨#[]⟩), .string (⟨#[]⟩), .string (⟨#[]⟩), .bool false] [(0, 1, .t 34)]),
    .op none none (.st 4 (.t 4) (.t 35)),
    .op none (some 5) (.mov (.c (.bool false)))])
  .ret))) }
theorem F64_ok : compFun Try.prog 0 Try.f64 = some F64 := by kernel_rfl

def F65 : AFun :=
  { n := 14, res := [], code :=
  (.seq
  (.reg [.op none (some 3) (.box 91 (.t 1))])
  (.drawA 1 [.f (.op none (some 4) (.mov (.t 0))),
    .f (.op none (some 5) (.mov (.t 0))),
    .f (.op none (some 6) (.fad 0 (.t 3))),
    .f (.op none (some 7) (.ld1 (.t 6))),
    .f (.op none (some 9) (.ldn 4 (.t 3))),
    .a (.op none (some 10) (.bldSl 91 1 [.string (⟨#[]⟩), .string (⟨#[]⟩), .string (⟨#[]⟩), .bool false] [(0, 4, .t 9)])) 0,
    .b (.call none (some 8) 68 [.t 5, .t 7]) [.op none (some 9) (.ldn 4 (.t 3))] [0],
    .b (.op none (some 11) (.app 91 4 56 [.string (⟨#[]⟩), .string (⟨#[]⟩), .string (⟨#[]⟩), .bool false] (.t 8) (.t 10))) [] [],
    .f (.op none (some 12) (.nchk (.t 4))),
    .f (.op none (some 13) (.fad 0 (.t 12))),
    .b (.op none none (.st 1 (.t 13) (.t 11))) [] []])) }
theorem F65_ok : compFun Try.prog 0 Try.f65 = some F65 := by kernel_rfl

def F66 : AFun :=
  { n := 26, res := [.t 2], code :=
  (.seq
  (.reg [.op none (some 2) (.mov (.c (.bool false)))])
  (.seq
  (.reg [.op none (some 3) (.mov (.t 0)),
    .op none (some 4) (.nchk (.t 3)),
    .op none (some 5) (.fad 2 (.t 4)),
    .op none (some 6) (.ld1 (.t 5)),
    .op none (some 7) (.bin .add (.t 6) (.c (.int .i64 1))),
    .op none (some 8) (.nchk (.t 3)),
    .op none (some 9) (.fad 2 (.t 8)),
    .op none none (.st 1 (.t 9) (.t 7))])
  (.seq
  (.seq
  (.reg [.op none (some 10) (.mov (.t 0)),
    .op none (some 11) (.nchk (.t 10)),
    .op none (some 12) (.fad 3 (.t 11)),
    .op none (some 13) (.ld1 (.t 12)),
    .op none (some 14) (.bin .eql (.t 13) (.c (.int .i64 0)))])
  (.cond (.t 14)
    (.seq
    (.reg [.op none (some 15) (.mov (.t 0)),
      .call none (some 16) 48 [.t 15]])
    (.seq
    (.reg [.op none (some 2) (.mov (.c (.bool false)))])
    .ret))
    .skip))
  (.seq
  (.reg [.op none (some 17) (.mov (.t 0)),
    .op none (some 18) (.mov (.t 0)),
    .op none (some 19) (.nchk (.t 18)),
    .op none (some 20) (.fad 3 (.t 19)),
    .op none (some 21) (.ld1 (.t 20)),
    .op none (some 22) (.bin .sub (.t 21) (.c (.int .i64 1))),
    .op none (some 23) (.mnx true (.c (.int .i64 (-1))) [.t 22]),
    .op none (some 24) (.nchk (.t 17)),
    .op none (some 25) (.fad 3 (.t 24)),
    .op none none (.st 1 (.t 25) (.t 23))])
  (.seq
  (.reg [.op none (some 2) (.mov (.c (.bool true)))])
  .ret))))) }
theorem F66_ok : compFun Try.prog 0 Try.f66 = some F66 := by kernel_rfl

def F67 : AFun :=
  { n := 37, res := [.t 8], code :=
  (.seq
  (.reg [.op none (some 8) (.mov (.c (.int .i64 0)))])
  (.seq
  (.seq
  (.reg [.op none (some 11) (.mov (.t 0)),
    .call none (some 12) 66 [.t 11],
    .op none (some 13) (.un .not (.t 12))])
  (.cond (.t 13)
    (.seq
    (.reg [.op none (some 8) (.mov (.c (.int .i64 40)))])
    .ret)
    .skip))
  (.seq
  (.reg [.op none (some 15) (.mov (.t 0)),
    .op none (some 16) (.mov (.t 1)),
    .call none (some 17) 64 [.t 15, .t 16],
    .op none (some 14) (.mov (.t 17)),
    .op none (some 18) (.ext 0 (.t 14)),
    .op none (some 19) (.ext 1 (.t 14)),
    .op none (some 9) (.new 91 [.string (⟨#[]⟩), .string (⟨#[]⟩), .string (⟨#[]⟩), .bool false]),
    .op none none (.st 4 (.t 9) (.t 18)),
    .op none (some 10) (.mov (.t 19))])
  (.seq
  (.reg [.op none (some 20) (.mov (.t 0)),
    .op none (some 21) (.mov (.t 0)),
    .op none (some 22) (.mov (.t 1)),
    .call none (some 23) 68 [.t 21, .t 22],
    .op none (some 24) (.nchk (.t 20)),
    .op none (some 25) (.fad 0 (.t 24)),
    .op none none (.st 1 (.t 25) (.t 23))])
  (.seq
  (.reg [.op none (some 26) (.mov (.t 0)),
    .op none (some 27) (.mov (.t 2)),
    .op none (some 28) (.fad 1 (.t 9)),
    .op none (some 29) (.ld1 (.t 28)),
    .op none (some 30) (.fad 2 (.t 9)),
    .op none (some 31) (.ld1 (.t 30)),
    .op none (some 32) (.bin .add (.t 29) (.t 31)),
    .op none (some 33) (.mov (.t 3)),
    .op none (some 34) (.slS (.t 32) none (some (.t 33))),
    .op none (some 35) (.bld [.string (⟨#[]⟩), .string (⟨#[]⟩), .string (⟨#[]⟩), .bool false] [(0, 1, .t 27), (1, 1, .t 34), (3, 1, .c (.bool true))]),
    .call none (some 36) 65 [.t 26, .t 35]])
  (.seq
  (.reg [.op none (some 8) (.mov (.c (.int .i64 0)))])
  .ret)))))) }
theorem F67_ok : compFun Try.prog 0 Try.f67 = some F67 := by kernel_rfl

def F68_l0 : ACode :=
  (.seq
  (.seq
  (.reg [.op none (some 7) (.mov (.t 6)),
    .op none (some 8) (.mov (.t 0)),
    .op none (some 9) (.nchk (.t 8)),
    .op none (some 10) (.fad 0 (.t 9)),
    .op none (some 11) (.ld1 (.t 10)),
    .op none (some 12) (.lenV (.t 11)),
    .op none (some 13) (.bin .lss (.t 7) (.t 12))])
  (.cond (.t 13)
    .skip
    (.exit 0)))
  (.seq
  (.block 1
  (.seq
  (.reg [.op none (some 16) (.mov (.t 0)),
    .op none (some 17) (.nchk (.t 16)),
    .op none (some 18) (.fad 0 (.t 17)),
    .op none (some 19) (.ld1 (.t 18)),
    .op none (some 20) (.mov (.t 6)),
    .op none (some 21) (.iadV 4 (.t 19) (.t 20)),
    .op none (some 22) (.fad 0 (.t 21)),
    .op none (some 23) (.ld1 (.t 22)),
    .op none (some 24) (.mov (.t 1)),
    .op none (some 25) (.bin .neq (.t 23) (.t 24))])
  (.cond (.t 25)
    (.reg [.op none (some 26) (.mov (.t 5)),
      .op none (some 27) (.mov (.t 0)),
      .op none (some 28) (.nchk (.t 27)),
      .op none (some 29) (.fad 0 (.t 28)),
      .op none (some 30) (.ld1 (.t 29)),
      .op none (some 31) (.mov (.t 6)),
      .op none (some 32) (.iadV 4 (.t 30) (.t 31)),
      .op none (some 33) (.ldn 4 (.t 32)),
      .op none (some 34) (.bldSl 91 1 [.string (⟨#[]⟩), .string (⟨#[]⟩), .string (⟨#[]⟩), .bool false] [(0, 4, .t 33)]),
      .op none (some 35) (.app 91 4 56 [.string (⟨#[]⟩), .string (⟨#[]⟩), .string (⟨#[]⟩), .bool false] (.t 26) (.t 34)),
      .op none (some 5) (.mov (.t 35))])
    .skip)))
  (.reg [.op none (some 14) (.mov (.t 6)),
    .op none (some 15) (.bin .add (.t 14) (.c (.int .i64 1))),
    .op none (some 6) (.mov (.t 15))])))

def F68 : AFun :=
  { n := 37, res := [.t 4], code :=
  (.seq
  (.reg [.op none (some 4) (.mov (.c (.slice none 0 0)))])
  (.seq
  (.reg [.op none (some 5) (.mov (.c (.slice none 0 0)))])
  (.seq
  (.seq
  (.reg [.op none (some 6) (.mov (.c (.int .i64 0)))])
  (.block 0
  (.loop F68_l0)))
  (.seq
  (.reg [.op none (some 36) (.mov (.t 5)),
    .op none (some 4) (.mov (.t 36))])
  .ret)))) }
theorem F68_ok : compFun Try.prog 0 Try.f68 = some F68 := by kernel_rfl

def F69_l0 : ACode :=
  (.seq
  (.reg [.op none (some 9) (.bin .lss (.t 8) (.t 7))])
  (.seq
  (.cond (.t 9)
    .skip
    (.exit 0))
  (.seq
  (.block 1
  (.seq
  (.reg [.op none (some 10) (.mov (.t 8)),
    .op none (some 5) (.mov (.t 10))])
  (.seq
  (.reg [.op none (some 11) (.mov (.t 1)),
    .op none (some 12) (.mov (.t 0)),
    .op none (some 13) (.mov (.t 5)),
    .op none (some 14) (.iadV 1 (.t 12) (.t 13)),
    .op none (some 15) (.ld1 (.t 14)),
    .callv none (some 16) (.t 11) [.t 15]])
  (.cond (.t 16)
    (.seq
    (.reg [.op none (some 17) (.mov (.t 5)),
      .op none (some 4) (.mov (.t 17))])
    .ret)
    .skip))))
  (.reg [.op none (some 18) (.bin .add (.t 8) (.c (.int .i64 1))),
    .op none (some 8) (.mov (.t 18))]))))

def F69 : AFun :=
  { n := 19, res := [.t 4], code :=
  (.seq
  (.reg [.op none (some 4) (.mov (.c (.int .i64 0)))])
  (.seq
  (.seq
  (.reg [.op none (some 6) (.mov (.t 0)),
    .op none (some 7) (.lenV (.t 6)),
    .op none (some 8) (.mov (.c (.int .i64 0)))])
  (.block 0
  (.loop F69_l0)))
  (.seq
  (.reg [.op none (some 4) (.mov (.c (.int .i64 (-1))))])
  .ret))) }
theorem F69_ok : compFun Try.prog 0 Try.f69 = some F69 := by kernel_rfl

def F70 : AFun :=
  { n := 8, res := [.t 4], code :=
  (.seq
  (.reg [.op none (some 4) (.mov (.c (.int .i64 0)))])
  (.seq
  (.reg [.op none (some 5) (.mov (.t 0)),
    .op none (some 6) (.mov (.t 1)),
    .call none (some 7) 74 [.t 5, .t 6],
    .op none (some 4) (.mov (.t 7))])
  .ret)) }
theorem F70_ok : compFun Try.prog 0 Try.f70 = some F70 := by kernel_rfl

def F72 : AFun :=
  { n := 10, res := [], code :=
  (.reg [.op none (some 4) (.mov (.t 0)),
    .op none (some 5) (.mov (.t 0)),
    .op none (some 6) (.lenV (.t 5)),
    .op none (some 7) (.mov (.t 1)),
    .op none (some 8) (.bin .sub (.t 6) (.t 7)),
    .call none (some 9) 75 [.t 4, .t 8]]) }
theorem F72_ok : compFun Try.prog 0 Try.f72 = some F72 := by kernel_rfl

def F73 : AFun :=
  { n := 11, res := [.t 2], code :=
  (.seq
  (.reg [.op none (some 2) (.mov (.c (.bool false)))])
  (.seq
  (.reg [.op none (some 3) (.mov (.t 0)),
    .op none (some 4) (.lenS (.t 3)),
    .op none (some 5) (.bin .eql (.t 4) (.c (.int .i64 0))),
    .op none (some 6) (.mov (.t 5)),
    .op (some (6, false)) (some 7) (.mov (.t 0)),
    .op (some (6, false)) (some 8) (.lenS (.t 7)),
    .op (some (6, false)) (some 9) (.bin .gtr (.t 8) (.c (.int .i64 128))),
    .op none (some 10) (.pick (.t 6) (.c (.bool true)) (.t 9)),
    .op none (some 2) (.mov (.t 10))])
  .ret)) }
theorem F73_ok : compFun Try.prog 0 Try.f73 = some F73 := by kernel_rfl

def F75 : AFun :=
  { n := 14, res := [], code :=
  (.seq
  (.reg [.op none (some 4) (.mov (.t 0)),
    .op none (some 5) (.mov (.t 1)),
    .op none (some 6) (.slV 4 (.t 4) none (some (.t 5)) none),
    .call none (some 7) 76 [.t 6]])
  (.seq
  (.reg [.op none (some 8) (.mov (.t 0)),
    .op none (some 9) (.mov (.t 1)),
    .op none (some 10) (.slV 4 (.t 8) (some (.t 9)) none none),
    .call none (some 11) 76 [.t 10]])
  (.reg [.op none (some 12) (.mov (.t 0)),
    .call none (some 13) 76 [.t 12]]))) }
theorem F75_ok : compFun Try.prog 0 Try.f75 = some F75 := by kernel_rfl

def F76_l0 : ACode :=
  (.seq
  (.seq
  (.reg [.op none (some 7) (.mov (.t 2)),
    .op none (some 8) (.mov (.t 3)),
    .op none (some 9) (.bin .lss (.t 7) (.t 8))])
  (.cond (.t 9)
    .skip
    (.exit 0)))
  (.seq
  (.block 1
  (.draw [.f (.op none (some 14) (.mov (.t 0))),
    .f (.op none (some 15) (.mov (.t 2))),
    .f (.op none (some 16) (.mov (.t 0))),
    .f (.op none (some 17) (.mov (.t 3))),
    .f (.op none (some 18) (.mov (.t 0))),
    .f (.op none (some 19) (.mov (.t 3))),
    .f (.op none (some 20) (.iadV 4 (.t 18) (.t 19))),
    .f (.op none (some 21) (.ldn 4 (.t 20))),
    .f (.op none (some 22) (.mov (.t 0))),
    .f (.op none (some 23) (.mov (.t 2))),
    .f (.op none (some 24) (.iadV 4 (.t 22) (.t 23))),
    .f (.op none (some 25) (.ldn 4 (.t 24))),
    .f (.op none (some 26) (.iadV 4 (.t 14) (.t 15))),
    .b (.op none none (.st 4 (.t 26) (.t 21))) [],
    .f (.op none (some 27) (.iadV 4 (.t 16) (.t 17))),
    .b (.op none none (.st 4 (.t 27) (.t 25))) []]))
  (.reg [.op none (some 10) (.mov (.t 2)),
    .op none (some 11) (.bin .add (.t 10) (.c (.int .i64 1))),
    .op none (some 12) (.mov (.t 3)),
    .op none (some 13) (.bin .sub (.t 12) (.c (.int .i64 1))),
    .op none (some 2) (.mov (.t 11)),
    .op none (some 3) (.mov (.t 13))])))

def F76 : AFun :=
  { n := 28, res := [], code :=
  (.seq
  (.reg [.op none (some 4) (.mov (.t 0)),
    .op none (some 5) (.lenV (.t 4)),
    .op none (some 6) (.bin .sub (.t 5) (.c (.int .i64 1))),
    .op none (some 2) (.mov (.c (.int .i64 0))),
    .op none (some 3) (.mov (.t 6))])
  (.block 0
  (.loop F76_l0))) }
theorem F76_ok : compFun Try.prog 0 Try.f76 = some F76 := by kernel_rfl

end Go.Proofs.Ytbmjhiifinjieaa
