/- Derivations: names. -/
import Derived.Test.YtgkmlbkocgjmmaaDoorB3
import Derived.Test.YtgkmlbkocgjmmaaDoorA4
import Derived.Test.YtgkmlbkocgjmmaaDoorB2
import Derived.Test.YtgkmlbkocgjmmaaDoorDrvF3
import Derived.Test.YtgkmlbkocgjmmaaDoorRows
import Derived.WalkKit
import Derived.ProofKit
import Derived.OpenShut
import Derived.ShutString
import Derived.ChangeOld
import Derived.Below
import Derived.SizedLaws
import Derived.Handed
import Derived.JoinedOf
import Derived.Deep.Slices
set_option linter.unusedVariables false
set_option linter.unusedSimpArgs false
set_option linter.unnecessarySimpa false
namespace Go.Proofs.YtgkmlbkocgjmmaaDoor.S
open Go Go.AM
set_option maxRecDepth 100000
set_option linter.unusedVariables false
set_option linter.unusedSimpArgs false

theorem lenB_take {n k : Nat} (hk : k < 8) : (lenB n).take (k + 1) = (lenB n).take k ++ [UInt8.ofNat ((8 * n) >>> (56 - 8 * k))] := by
  rw [List.take_succ_eq_append_getElem (by rw [lenB_length]; exact hk)]; simp [lenB]
theorem u8n (x : Nat) : IntKind.u8.wrap (x : Int) = ((UInt8.ofNat x).toNat : Int) := by simp [IntKind.wrap, IntKind.bits, IntKind.signed]
theorem dig_get {S : List UInt32} (hS : S.length = 8) {i k : Nat} (hi : i < 8) (hk : k < 4) : (dig S)[4 * i + k]'(by rw [dig_length]; omega) = UInt8.ofNat ((S[i]'(by omega)).toNat >>> (24 - 8 * k)) := by
  simp only [dig, List.getElem_map, List.getElem_range]
  rw [show (4 * i + k) / 4 = i by omega, show (4 * i + k) % 4 = k by omega]
  simp [hS, hi]
theorem sumM_ok (m : AMem) (b : Nat) (s : HS) (hg : Glob m) (hs : s.ok) (hb : b < m.size) (hm : m.get b = .cells (cH s) 96 true .exact) (hn : s.n < 2 ^ 59) :
    PureC Tryd.prog 3 60 [.pointer (some ⟨b, 0, none⟩)] m (.agg ((sumOf s).map byteV).toArray) := by
  refine pure_of_W (fn := Tryd.f60) rfl rfl F60_ok (by simp [F60]) (.bytes _) ?_
  have gs := hg.s
  have h73 := cH_all hs
  have hl := cH_length hs
  have hl0 := cH_length hs0_ok
  have h72 := cH_n hs
  simp (implicitDefEqProofs := false) (maxSteps := 1000000) (disch := first | omega | with_reducible assumption | (simp only [lenT, Nat.reduceAdd]; omega)) only [amT, cut, bnd, Nat.reduceBEq, reduceCtorEq, Nat.reduceEqDiff, Nat.reduceAdd, Nat.reduceMul, Nat.reduceSub, Int.reduceToNat, Int.reduceEq, Int.reduceLT, Int.reduceLE, Int.reduceAdd, Int.reduceSub, Int.reduceMul, reduceIte, resVs, resV, packV, initT, addr, F60, eqV, Option.isNone, hm, h73, zero73, cellsOf_cH, zero32, h72]
  refine W_loop (fun N qs => ∃ (j : Nat) (g : List AObj), N = 1 + zerosN s.n - j ∧ qs.ds = [] ∧ qs.m = mx m (.cells ((List.replicate 32 (0 : UInt8)).map byteV) 52 true .exact :: .cells (cH (s.put (padA j))) 96 true .exact :: g) ∧ qs.t 2 = .pointer (some ⟨m.size, 0, none⟩) ∧ qs.t 3 = .pointer (some ⟨m.size + 1, 0, none⟩) ∧ qs.t 4 = .int .u64 (8 * s.n : Nat) ∧ qs.t 5 = .int .u8 (if j = 0 then 128 else 0) ∧ j ≤ 1 + zerosN s.n) (1 + zerosN s.n - (0)) ⟨0, [], rfl, rfl, ?qm, ?q2, ?q3, ?q4, ?q5, ?_⟩ ?_
  case qm | q2 | q3 | q4 | q5 => first | rfl | (simp (implicitDefEqProofs := false) (maxSteps := 1000000) (disch := first | omega | with_reducible assumption | (simp only [lenT, Nat.reduceAdd]; omega)) only [amT, cut, bnd, Nat.reduceBEq, reduceCtorEq, Nat.reduceEqDiff, Nat.reduceAdd, Nat.reduceMul, Nat.reduceSub, Int.reduceToNat, Int.reduceEq, Int.reduceLT, Int.reduceLE, Int.reduceAdd, Int.reduceSub, Int.reduceMul, reduceIte, resVs, resV, packV, initT, addr, padA, HS.put_nil]; first | done | rfl | (congr 1; omega))
  · omega
  · rintro N t m1 ds ⟨j, g, rfl, hds, hm, t2, t3, t4, t5, hp⟩
    simp only at hds hm t2 t3 t4 t5
    subst hds; replace hm := hm.symm; subst hm
    have hok : (s.put (padA j)).ok := HS.put_ok hs _
    have hnj : (s.put (padA j)).n = s.n + j := by rw [HS.put_n, padA_length]
    have h72j := cH_n hok
    have h73j := cH_length hok
    rw [hnj] at h72j
    have e1 : ((s.n + j : Nat) : Int).tmod 64 = (((s.n + j) % 64 : Nat) : Int) := tmod_nat _ 64
    have hz : zerosN s.n = (119 - s.n % 64) % 64 := rfl
    by_cases hj : j = 1 + zerosN s.n
    · have h56 : (((s.n + j) % 64 : Nat) : Int) = 56 := by rw [hj, hz]; omega
      have hj0 : ¬ j = 0 := by omega
      rw [if_neg hj0] at t5
      simp (implicitDefEqProofs := false) (maxSteps := 1000000) (disch := first | omega | with_reducible assumption | (simp only [lenT, Nat.reduceAdd]; omega)) only [amT, cut, bnd, Nat.reduceBEq, reduceCtorEq, Nat.reduceEqDiff, Nat.reduceAdd, Nat.reduceMul, Nat.reduceSub, Int.reduceToNat, Int.reduceEq, Int.reduceLT, Int.reduceLE, Int.reduceAdd, Int.reduceSub, Int.reduceMul, reduceIte, resVs, resV, packV, initT, addr, F60_l0, t2, t3, t4, t5, h72j, e1, h56]
      refine W_loop (fun N qs => ∃ (k : Nat) (g : List AObj), N = 8 - k ∧ qs.ds = [] ∧ qs.m = mx m (.cells ((List.replicate 32 (0 : UInt8)).map byteV) 52 true .exact :: .cells (cH (s.put (padA (1 + zerosN s.n) ++ (lenB s.n).take k))) 96 true .exact :: g) ∧ qs.t 2 = .pointer (some ⟨m.size, 0, none⟩) ∧ qs.t 3 = .pointer (some ⟨m.size + 1, 0, none⟩) ∧ qs.t 4 = .int .u64 (8 * s.n : Nat) ∧ qs.t 6 = .int .i64 (56 - 8 * (k : Int)) ∧ k ≤ 8) (8 - (0)) ⟨0, g, rfl, rfl, ?qm, ?q2, ?q3, ?q4, ?q6, ?_⟩ ?_
      case qm | q2 | q3 | q4 | q6 => first | rfl | (simp (implicitDefEqProofs := false) (maxSteps := 1000000) (disch := first | omega | with_reducible assumption | (simp only [lenT, Nat.reduceAdd]; omega)) only [amT, cut, bnd, Nat.reduceBEq, reduceCtorEq, Nat.reduceEqDiff, Nat.reduceAdd, Nat.reduceMul, Nat.reduceSub, Int.reduceToNat, Int.reduceEq, Int.reduceLT, Int.reduceLE, Int.reduceAdd, Int.reduceSub, Int.reduceMul, reduceIte, resVs, resV, packV, initT, addr, t2, t3, t4, t5, List.take_zero, List.append_nil, ← hj]; first | done | rfl | (congr 1; omega))
      · omega
      · clear t2 t3 t4 t5 h72j h73j hnj hok e1 h56 hj0 hj hp
        rintro N t m1 ds ⟨k, g, rfl, hds, hm, t2, t3, t4, t6, hp⟩
        simp only at hds hm t2 t3 t4 t6
        subst hds; replace hm := hm.symm; subst hm
        have hok : (s.put (padA (1 + zerosN s.n) ++ (lenB s.n).take k)).ok := HS.put_ok hs _
        by_cases hk : (0 : Int) ≤ 56 - 8 * (k : Int)
        · have hk8 : k < 8 := by omega
          have e2 : shr .u64 ((8 * s.n : Nat) : Int) (56 - 8 * (k : Int)) = (((8 * s.n) >>> (56 - 8 * k) : Nat) : Int) := by
            rw [show (56 : Int) - 8 * (k : Int) = ((56 - 8 * k : Nat) : Int) by omega]; exact shr_nat _ _ _ (by simp [IntKind.bits]; omega)
          have hkn := put1_known m (.cells ((List.replicate 32 (0 : UInt8)).map byteV) 52 true .exact) (s.put (padA (1 + zerosN s.n) ++ (lenB s.n).take k)) g (UInt8.ofNat ((8 * s.n) >>> (56 - 8 * k))) hg hok
            (by rw [HS.put_n, List.length_append, padA_length, List.length_take, lenB_length]; omega)
          have hpa : (s.put (padA (1 + zerosN s.n) ++ (lenB s.n).take k)).put [UInt8.ofNat ((8 * s.n) >>> (56 - 8 * k))] = s.put (padA (1 + zerosN s.n) ++ (lenB s.n).take (k + 1)) := by
            rw [lenB_take hk8, ← List.append_assoc, HS.put_append _ _ [_]]
          rw [hpa] at hkn
          simp (implicitDefEqProofs := false) (maxSteps := 1000000) (disch := first | omega | with_reducible assumption | (simp only [lenT, Nat.reduceAdd]; omega)) only [amT, cut, bnd, Nat.reduceBEq, reduceCtorEq, Nat.reduceEqDiff, Nat.reduceAdd, Nat.reduceMul, Nat.reduceSub, Int.reduceToNat, Int.reduceEq, Int.reduceLT, Int.reduceLE, Int.reduceAdd, Int.reduceSub, Int.reduceMul, reduceIte, resVs, resV, packV, initT, addr, F60_l1, t2, t3, t4, t6, hk, e2, u8n, hkn]
          repeat refine OrW.go ?_
          rw [LoopK_normal]; refine ⟨_, ?_, k + 1, g ++ [.cells [.int .u8 ((UInt8.ofNat ((8 * s.n) >>> (56 - 8 * k))).toNat : Int)] 5 true .exact], rfl, rfl, ?qm, ?q2, ?q3, ?q4, ?q6, ?_⟩
          case qm | q2 | q3 | q4 | q6 => first | rfl | (simp (implicitDefEqProofs := false) (maxSteps := 1000000) (disch := first | omega | with_reducible assumption | (simp only [lenT, Nat.reduceAdd]; omega)) only [amT, cut, bnd, Nat.reduceBEq, reduceCtorEq, Nat.reduceEqDiff, Nat.reduceAdd, Nat.reduceMul, Nat.reduceSub, Int.reduceToNat, Int.reduceEq, Int.reduceLT, Int.reduceLE, Int.reduceAdd, Int.reduceSub, Int.reduceMul, reduceIte, resVs, resV, packV, initT, addr, t2, t3, t4, t6]; first | done | rfl | (congr 1; omega))
          · omega
          · omega
        · have hk8 : k = 8 := by omega
          subst hk8
          have hpb : padA (1 + zerosN s.n) ++ (lenB s.n).take 8 = padB s.n := by rw [List.take_of_length_le (by rw [lenB_length]; omega)]; rfl
          rw [hpb] at hok
          generalize hS : zip2 beginW (s.put (padB s.n)).M = S at *
          have hS8 : S.length = 8 := by rw [← hS]; exact zip2_length rfl hok.1
          have hsum : sumOf s = dig S := by rw [sumOf, hS]
          have hst := @kState (mx m (.cells ((List.replicate 32 (0 : UInt8)).map byteV) 52 true .exact :: .cells (cH (s.put (padB s.n))) 96 true .exact :: g)) (m.size + 1) (s.put (padB s.n)) (hg.old (Old.here _ _)) hok (by rw [mx_size]; simp) (mx_new _ _ 1)
          rw [hS] at hst
          simp (implicitDefEqProofs := false) (maxSteps := 1000000) (disch := first | omega | with_reducible assumption | (simp only [lenT, Nat.reduceAdd]; omega)) only [amT, cut, bnd, Nat.reduceBEq, reduceCtorEq, Nat.reduceEqDiff, Nat.reduceAdd, Nat.reduceMul, Nat.reduceSub, Int.reduceToNat, Int.reduceEq, Int.reduceLT, Int.reduceLE, Int.reduceAdd, Int.reduceSub, Int.reduceMul, reduceIte, resVs, resV, packV, initT, addr, F60_l1, t2, t3, t4, t6, hk, hpb, hst]
          repeat refine OrW.go ?_
          refine W_loop (fun N qs => ∃ (i : Nat), N = 8 - i ∧ qs.ds = [] ∧ qs.m = mx m (.cells ((mix (4 * i) (dig S) (List.replicate 32 (0 : UInt8))).map byteV) 52 true .exact :: .cells (cH (s.put (padB s.n))) 96 true .exact :: g) ∧ qs.t 2 = .pointer (some ⟨m.size, 0, none⟩) ∧ qs.t 40 = .agg (S.map w32).toArray ∧ qs.t 41 = .int .i64 i ∧ i ≤ 8) (8 - (0)) ⟨0, rfl, rfl, ?qm, ?q2, ?q40, ?q41, ?_⟩ ?_
          case qm | q2 | q40 | q41 => first | rfl | (simp (implicitDefEqProofs := false) (maxSteps := 1000000) (disch := first | omega | with_reducible assumption | (simp only [lenT, Nat.reduceAdd]; omega)) only [amT, cut, bnd, Nat.reduceBEq, reduceCtorEq, Nat.reduceEqDiff, Nat.reduceAdd, Nat.reduceMul, Nat.reduceSub, Int.reduceToNat, Int.reduceEq, Int.reduceLT, Int.reduceLE, Int.reduceAdd, Int.reduceSub, Int.reduceMul, reduceIte, resVs, resV, packV, initT, addr, mix_zero, t2, t3, t4, t6]; first | done | rfl | (congr 1; omega))
          · omega
          · clear t2 t3 t4 t6 hk hp hst
            rintro N t m1 ds ⟨i, rfl, hds, hm, t2, t40, t41, hp⟩
            simp only at hds hm t2 t40 t41
            subst hds; replace hm := hm.symm; subst hm
            by_cases hi : (i : Int) < 8
            · have hi8 : i < 8 := by omega
              obtain ⟨x, hx⟩ : ∃ x, x = S[i]'(by omega) := ⟨_, rfl⟩
              simp (implicitDefEqProofs := false) (maxSteps := 1000000) (disch := first | omega | with_reducible assumption | (simp only [lenT, Nat.reduceAdd]; omega)) only [amT, cut, bnd, Nat.reduceBEq, reduceCtorEq, Nat.reduceEqDiff, Nat.reduceAdd, Nat.reduceMul, Nat.reduceSub, Int.reduceToNat, Int.reduceEq, Int.reduceLT, Int.reduceLE, Int.reduceAdd, Int.reduceSub, Int.reduceMul, reduceIte, resVs, resV, packV, initT, addr, F60_l2, t2, t40, t41, hi, ws_get, ← hx]
              refine W_loop (fun N qs => ∃ (k : Nat), N = 4 - k ∧ qs.ds = [] ∧ qs.m = mx m (.cells ((mix (4 * i + k) (dig S) (List.replicate 32 (0 : UInt8))).map byteV) 52 true .exact :: .cells (cH (s.put (padB s.n))) 96 true .exact :: g) ∧ qs.t 2 = .pointer (some ⟨m.size, 0, none⟩) ∧ qs.t 7 = .int .i64 i ∧ qs.t 8 = .int .u32 (x.toNat : Int) ∧ qs.t 40 = .agg (S.map w32).toArray ∧ qs.t 41 = .int .i64 i ∧ qs.t 45 = .int .i64 k ∧ k ≤ 4) (4 - (0)) ⟨0, rfl, rfl, ?qm, ?q2, ?q7, ?q8, ?q40, ?q41, ?q45, ?_⟩ ?_
              case qm | q2 | q7 | q8 | q40 | q41 | q45 => first | rfl | (simp (implicitDefEqProofs := false) (maxSteps := 1000000) (disch := first | omega | with_reducible assumption | (simp only [lenT, Nat.reduceAdd]; omega)) only [amT, cut, bnd, Nat.reduceBEq, reduceCtorEq, Nat.reduceEqDiff, Nat.reduceAdd, Nat.reduceMul, Nat.reduceSub, Int.reduceToNat, Int.reduceEq, Int.reduceLT, Int.reduceLE, Int.reduceAdd, Int.reduceSub, Int.reduceMul, reduceIte, resVs, resV, packV, initT, addr, t2, t40, t41, w32_def]; first | done | rfl | (congr 1; omega))
              · omega
              · clear t2 t40 t41
                rintro N t m1 ds ⟨k, rfl, hds, hm, t2, t7, t8, t40, t41, t45, hp⟩
                simp only at hds hm t2 t7 t8 t40 t41 t45
                subst hds; replace hm := hm.symm; subst hm
                have hml : (mix (4 * i + k) (dig S) (List.replicate 32 (0 : UInt8))).length = 32 := by rw [mix_length (by rw [dig_length]; rfl)]; rfl
                by_cases hk : (k : Int) < 4
                · have hk4 : k < 4 := by omega
                  have e1 : (4 : Int) * (i : Int) + (k : Int) = ((4 * i + k : Nat) : Int) := by omega
                  have e2 : shr .u32 (x.toNat : Int) (24 - 8 * (k : Int)) = ((x.toNat >>> (24 - 8 * k) : Nat) : Int) := by
                    rw [show (24 : Int) - 8 * (k : Int) = ((24 - 8 * k : Nat) : Int) by omega]; exact shr_nat _ _ _ (by simp [IntKind.bits]; omega)
                  have e3 := mix_set (k := 4 * i + k) (X := dig S) (B := List.replicate 32 (0 : UInt8)) (by rw [dig_length]; rfl) (by rw [dig_length]; omega)
                  rw [dig_get hS8 hi8 hk4, ← hx] at e3
                  have e4 := map_set_byte (mix (4 * i + k) (dig S) (List.replicate 32 (0 : UInt8))) (4 * i + k) (UInt8.ofNat (x.toNat >>> (24 - 8 * k)))
                  rw [e3, byteV_def] at e4
                  simp (implicitDefEqProofs := false) (maxSteps := 1000000) (disch := first | omega | with_reducible assumption | (simp only [lenT, Nat.reduceAdd]; omega)) only [amT, cut, bnd, Nat.reduceBEq, reduceCtorEq, Nat.reduceEqDiff, Nat.reduceAdd, Nat.reduceMul, Nat.reduceSub, Int.reduceToNat, Int.reduceEq, Int.reduceLT, Int.reduceLE, Int.reduceAdd, Int.reduceSub, Int.reduceMul, reduceIte, resVs, resV, packV, initT, addr, F60_l3, t2, t7, t8, t40, t41, t45, hk, e1, e2, u8n, e4]
                  rw [LoopK_normal]; refine ⟨_, ?_, k + 1, rfl, rfl, ?qm, ?q2, ?q7, ?q8, ?q40, ?q41, ?q45, ?_⟩
                  case qm | q2 | q7 | q8 | q40 | q41 | q45 => first | rfl | (simp (implicitDefEqProofs := false) (maxSteps := 1000000) (disch := first | omega | with_reducible assumption | (simp only [lenT, Nat.reduceAdd]; omega)) only [amT, cut, bnd, Nat.reduceBEq, reduceCtorEq, Nat.reduceEqDiff, Nat.reduceAdd, Nat.reduceMul, Nat.reduceSub, Int.reduceToNat, Int.reduceEq, Int.reduceLT, Int.reduceLE, Int.reduceAdd, Int.reduceSub, Int.reduceMul, reduceIte, resVs, resV, packV, initT, addr, t2, t7, t8, t40, t41, t45]; first | done | rfl | (congr 1; omega))
                  · omega
                  · omega
                · have hk4 : k = 4 := by omega
                  subst hk4
                  simp (implicitDefEqProofs := false) (maxSteps := 1000000) (disch := first | omega | with_reducible assumption | (simp only [lenT, Nat.reduceAdd]; omega)) only [amT, cut, bnd, Nat.reduceBEq, reduceCtorEq, Nat.reduceEqDiff, Nat.reduceAdd, Nat.reduceMul, Nat.reduceSub, Int.reduceToNat, Int.reduceEq, Int.reduceLT, Int.reduceLE, Int.reduceAdd, Int.reduceSub, Int.reduceMul, reduceIte, resVs, resV, packV, initT, addr, F60_l3, t2, t7, t8, t40, t41, t45, hk]
                  rw [LoopK_normal]; refine ⟨_, ?_, i + 1, rfl, rfl, ?qm, ?q2, ?q40, ?q41, ?_⟩
                  case qm | q2 | q40 | q41 => first | rfl | (simp (implicitDefEqProofs := false) (maxSteps := 1000000) (disch := first | omega | with_reducible assumption | (simp only [lenT, Nat.reduceAdd]; omega)) only [amT, cut, bnd, Nat.reduceBEq, reduceCtorEq, Nat.reduceEqDiff, Nat.reduceAdd, Nat.reduceMul, Nat.reduceSub, Int.reduceToNat, Int.reduceEq, Int.reduceLT, Int.reduceLE, Int.reduceAdd, Int.reduceSub, Int.reduceMul, reduceIte, resVs, resV, packV, initT, addr, t2, t7, t8, t40, t41, t45]; first | done | rfl | (congr 1; omega))
                  · omega
                  · omega
            · have hi8 : i = 8 := by omega
              subst hi8
              have hmx := mix_all (k := 32) (X := dig S) (B := List.replicate 32 (0 : UInt8)) (dig_length _) rfl
              have hdl := dig_length S
              simp (implicitDefEqProofs := false) (maxSteps := 1000000) (disch := first | omega | with_reducible assumption | (simp only [lenT, Nat.reduceAdd]; omega)) only [amT, cut, bnd, Nat.reduceBEq, reduceCtorEq, Nat.reduceEqDiff, Nat.reduceAdd, Nat.reduceMul, Nat.reduceSub, Int.reduceToNat, Int.reduceEq, Int.reduceLT, Int.reduceLE, Int.reduceAdd, Int.reduceSub, Int.reduceMul, reduceIte, resVs, resV, packV, initT, addr, F60_l2, t2, t40, t41, hmx, cutL_all, hsum]
    · have hk := put1_known m (.cells ((List.replicate 32 (0 : UInt8)).map byteV) 52 true .exact) (s.put (padA j)) g (if j = 0 then 128 else 0) hg hok (by omega)
      have hpa : (s.put (padA j)).put [if j = 0 then 128 else 0] = s.put (padA (j + 1)) := by rw [padA_succ, HS.put_append]
      rw [hpa] at hk
      by_cases hj0 : j = 0
      · subst hj0
        simp only [if_true] at hk t5
        have h8 : ((128 : UInt8).toNat : Int) = 128 := rfl
        rw [h8] at hk
        rw [Nat.add_zero] at e1 h72j
        by_cases h56 : ((s.n % 64 : Nat) : Int) = 56
        · simp (implicitDefEqProofs := false) (maxSteps := 1000000) (disch := first | omega | with_reducible assumption | (simp only [lenT, Nat.reduceAdd]; omega)) only [amT, cut, bnd, Nat.reduceBEq, reduceCtorEq, Nat.reduceEqDiff, Nat.reduceAdd, Nat.reduceMul, Nat.reduceSub, Int.reduceToNat, Int.reduceEq, Int.reduceLT, Int.reduceLE, Int.reduceAdd, Int.reduceSub, Int.reduceMul, reduceIte, resVs, resV, packV, initT, addr, F60_l0, t2, t3, t4, t5, h72j, e1, h56, hk]
          repeat refine OrW.go ?_
          rw [LoopK_normal]; refine ⟨_, ?_, 0 + 1, g ++ [.cells [.int .u8 128] 5 true .exact], rfl, rfl, ?qm, ?q2, ?q3, ?q4, ?q5, ?_⟩
          case qm | q2 | q3 | q4 | q5 => first | rfl | (simp (implicitDefEqProofs := false) (maxSteps := 1000000) (disch := first | omega | with_reducible assumption | (simp only [lenT, Nat.reduceAdd]; omega)) only [amT, cut, bnd, Nat.reduceBEq, reduceCtorEq, Nat.reduceEqDiff, Nat.reduceAdd, Nat.reduceMul, Nat.reduceSub, Int.reduceToNat, Int.reduceEq, Int.reduceLT, Int.reduceLE, Int.reduceAdd, Int.reduceSub, Int.reduceMul, reduceIte, resVs, resV, packV, initT, addr, t2, t3, t4, t5]; first | done | rfl | (congr 1; omega))
          · omega
          · omega
        · simp (implicitDefEqProofs := false) (maxSteps := 1000000) (disch := first | omega | with_reducible assumption | (simp only [lenT, Nat.reduceAdd]; omega)) only [amT, cut, bnd, Nat.reduceBEq, reduceCtorEq, Nat.reduceEqDiff, Nat.reduceAdd, Nat.reduceMul, Nat.reduceSub, Int.reduceToNat, Int.reduceEq, Int.reduceLT, Int.reduceLE, Int.reduceAdd, Int.reduceSub, Int.reduceMul, reduceIte, resVs, resV, packV, initT, addr, F60_l0, t2, t3, t4, t5, h72j, e1, h56, hk]
          repeat refine OrW.go ?_
          rw [LoopK_normal]; refine ⟨_, ?_, 0 + 1, g ++ [.cells [.int .u8 128] 5 true .exact], rfl, rfl, ?qm, ?q2, ?q3, ?q4, ?q5, ?_⟩
          case qm | q2 | q3 | q4 | q5 => first | rfl | (simp (implicitDefEqProofs := false) (maxSteps := 1000000) (disch := first | omega | with_reducible assumption | (simp only [lenT, Nat.reduceAdd]; omega)) only [amT, cut, bnd, Nat.reduceBEq, reduceCtorEq, Nat.reduceEqDiff, Nat.reduceAdd, Nat.reduceMul, Nat.reduceSub, Int.reduceToNat, Int.reduceEq, Int.reduceLT, Int.reduceLE, Int.reduceAdd, Int.reduceSub, Int.reduceMul, reduceIte, resVs, resV, packV, initT, addr, t2, t3, t4, t5]; first | done | rfl | (congr 1; omega))
          · omega
          · omega
      · have h56 : ¬ (((s.n + j) % 64 : Nat) : Int) = 56 := by omega
        simp only [if_neg hj0] at hk t5
        have h8 : ((0 : UInt8).toNat : Int) = 0 := rfl
        rw [h8] at hk
        simp (implicitDefEqProofs := false) (maxSteps := 1000000) (disch := first | omega | with_reducible assumption | (simp only [lenT, Nat.reduceAdd]; omega)) only [amT, cut, bnd, Nat.reduceBEq, reduceCtorEq, Nat.reduceEqDiff, Nat.reduceAdd, Nat.reduceMul, Nat.reduceSub, Int.reduceToNat, Int.reduceEq, Int.reduceLT, Int.reduceLE, Int.reduceAdd, Int.reduceSub, Int.reduceMul, reduceIte, resVs, resV, packV, initT, addr, F60_l0, t2, t3, t4, t5, h72j, e1, h56, hk]
        repeat refine OrW.go ?_
        rw [LoopK_normal]; refine ⟨_, ?_, j + 1, g ++ [.cells [.int .u8 0] 5 true .exact], rfl, rfl, ?qm, ?q2, ?q3, ?q4, ?q5, ?_⟩
        case qm | q2 | q3 | q4 | q5 => first | rfl | (simp (implicitDefEqProofs := false) (maxSteps := 1000000) (disch := first | omega | with_reducible assumption | (simp only [lenT, Nat.reduceAdd]; omega)) only [amT, cut, bnd, Nat.reduceBEq, reduceCtorEq, Nat.reduceEqDiff, Nat.reduceAdd, Nat.reduceMul, Nat.reduceSub, Int.reduceToNat, Int.reduceEq, Int.reduceLT, Int.reduceLE, Int.reduceAdd, Int.reduceSub, Int.reduceMul, reduceIte, resVs, resV, packV, initT, addr, t2, t3, t4, t5]; first | done | rfl | (congr 1; omega))
        · omega
        · omega
end Go.Proofs.YtgkmlbkocgjmmaaDoor.S
namespace Go.Proofs.YtgkmlbkocgjmmaaDoor.S
open Go Go.AM
set_option maxRecDepth 100000
set_option linter.unusedVariables false
set_option linter.unusedSimpArgs false

/-! sha.Sum -/
def shaR (l : List UInt8) : List UInt8 := sumOf (hs0.put l)
theorem shaR_length (l : List UInt8) : (shaR l).length = 32 := sumOf_length _
theorem sum_ok (m : AMem) (a : Option Addr) (cap : Nat) (c : List UInt8) (hg : Glob m) (hc : BSl m a cap c) (hn : c.length < 2 ^ 58) :
    PureC Tryd.prog 3 35 [.slice a c.length cap] m (.agg ((shaR c).map byteV).toArray) := by
  refine pure_of_W (fn := Tryd.f35) rfl rfl F35_ok (by simp [F35]) (.bytes _) ?_
  have gs := hg.s
  have h1 := DetC.known (put_ok (mx m [.cells ((List.replicate 32 (0 : UInt8)).map byteV) 52 true .exact, .cells (cH hs0) 96 true .exact]) (m.size + 1) hs0 (hg.old (Old.here _ _)) hs0_ok (by rw [mx_size]; simp) (by omega) (mx_new _ _ 1) a cap c (hc.old (Old.here _ _)) (hc.off (by omega)) (by simp [hs0]; omega))
  have hok : (hs0.put c).ok := HS.put_ok hs0_ok _
  have h2 := DetC.known (sumM_ok (mx m [.cells ((List.replicate 32 (0 : UInt8)).map byteV) 52 true .exact, .cells (cH (hs0.put c)) 96 true .exact]) (m.size + 1) (hs0.put c) (hg.old (Old.here _ _)) hok (by rw [mx_size]; simp) (mx_new _ _ 1) (by rw [HS.put_n]; simp [hs0]; omega))
  have hl := sumOf_length (hs0.put c)
  simp (implicitDefEqProofs := false) (maxSteps := 1000000) (disch := first | omega | with_reducible assumption | (simp only [lenT, Nat.reduceAdd]; omega)) only [amT, cut, bnd, Nat.reduceBEq, reduceCtorEq, Nat.reduceEqDiff, Nat.reduceAdd, Nat.reduceMul, Nat.reduceSub, Int.reduceToNat, Int.reduceEq, Int.reduceLT, Int.reduceLE, Int.reduceAdd, Int.reduceSub, Int.reduceMul, reduceIte, resVs, resV, packV, initT, addr, F35, zero73, zero32, h1, h2, cutL_all]
  repeat refine OrW.go ?_
  rfl

/-! The reference. -/
def hexs : List UInt8 := [48, 49, 50, 51, 52, 53, 54, 55, 56, 57, 97, 98, 99, 100, 101, 102]
def dgB (c : UInt8) : UInt8 := if c ∈ hexs then UInt8.ofNat (hexs.idxOf c) else 16
theorem hexs_at (i : Nat) (h : i < 16) : (⟨#[48, 49, 50, 51, 52, 53, 54, 55, 56, 57, 97, 98, 99, 100, 101, 102]⟩ : ByteArray)[i]? = some (hexs[i]'h) := by
  have : ∀ i : Fin 16, (⟨#[48, 49, 50, 51, 52, 53, 54, 55, 56, 57, 97, 98, 99, 100, 101, 102]⟩ : ByteArray)[i.val]? = some (hexs[i.val]'i.isLt) := by decide +kernel
  exact this ⟨i, h⟩
theorem dgB_at (i : Nat) (h : i < 16) : dgB (hexs[i]'h) = UInt8.ofNat i := by
  have : ∀ i : Fin 16, dgB (hexs[i.val]'i.isLt) = UInt8.ofNat i.val := by decide +kernel
  exact this ⟨i, h⟩
theorem dgB_none {c : UInt8} (h : ∀ i (h : i < 16), hexs[i]'h ≠ c) : dgB c = 16 := by
  unfold dgB; rw [if_neg]
  intro hm
  obtain ⟨i, hi, he⟩ := List.getElem_of_mem hm
  exact h i hi he
theorem digit_ok (m : AMem) (c : UInt8) : PureC Tryd.prog 3 79 [byteV c] m (byteV (dgB c)) := by
  refine pure_of_W (fn := Tryd.f79) rfl rfl F79_ok (by simp [F79]) (.int _ _) ?_
  simp (implicitDefEqProofs := false) (maxSteps := 1000000) (disch := first | omega | with_reducible assumption | (simp only [lenT, Nat.reduceAdd]; omega)) only [amT, cut, bnd, Nat.reduceBEq, reduceCtorEq, Nat.reduceEqDiff, Nat.reduceAdd, Nat.reduceMul, Nat.reduceSub, Int.reduceToNat, Int.reduceEq, Int.reduceLT, Int.reduceLE, Int.reduceAdd, Int.reduceSub, Int.reduceMul, reduceIte, resVs, resV, packV, initT, addr, F79, byteV_def]
  refine W_loop (fun N qs => ∃ (i : Nat), N = 16 - i ∧ qs.ds = [] ∧ qs.m = mx m [] ∧ qs.t 0 = .int .u8 (c.toNat : Int) ∧ qs.t 3 = .int .u8 i ∧ i ≤ 16 ∧ ∀ j (h : j < 16), j < i → hexs[j]'h ≠ c) (16 - (0)) ⟨0, rfl, rfl, ?qm, ?q0, ?q3, ?_⟩ ?_
  case qm | q0 | q3 => first | rfl | (simp (implicitDefEqProofs := false) (maxSteps := 1000000) (disch := first | omega | with_reducible assumption | (simp only [lenT, Nat.reduceAdd]; omega)) only [amT, cut, bnd, Nat.reduceBEq, reduceCtorEq, Nat.reduceEqDiff, Nat.reduceAdd, Nat.reduceMul, Nat.reduceSub, Int.reduceToNat, Int.reduceEq, Int.reduceLT, Int.reduceLE, Int.reduceAdd, Int.reduceSub, Int.reduceMul, reduceIte, resVs, resV, packV, initT, addr]; first | done | rfl | (congr 1; omega))
  · exact ⟨by omega, by omega⟩
  · rintro N t m1 ds ⟨i, rfl, hds, hm, t0, t3, hp⟩
    simp only at hds hm t0 t3
    subst hds; replace hm := hm.symm; subst hm
    obtain ⟨hi16, hne⟩ := hp
    by_cases hi : (i : Int) < 16
    · have hi' : i < 16 := by omega
      have hs := hexs_at i hi'
      by_cases he : ((hexs[i]'hi').toNat : Int) = c.toNat
      · have hc : c = hexs[i]'hi' := (UInt8.toNat_inj.1 (by exact_mod_cast he)).symm
        have hd := dgB_at i hi'
        rw [← hc] at hd
        have h16 : (UInt8.ofNat i).toNat = i := by simp; omega
        simp (implicitDefEqProofs := false) (maxSteps := 1000000) (disch := first | omega | with_reducible assumption | (simp only [lenT, Nat.reduceAdd]; omega)) only [amT, cut, bnd, Nat.reduceBEq, reduceCtorEq, Nat.reduceEqDiff, Nat.reduceAdd, Nat.reduceMul, Nat.reduceSub, Int.reduceToNat, Int.reduceEq, Int.reduceLT, Int.reduceLE, Int.reduceAdd, Int.reduceSub, Int.reduceMul, reduceIte, resVs, resV, packV, initT, addr, F79_l0, t0, t3, hi, hs, he, hd, h16]
      · simp (implicitDefEqProofs := false) (maxSteps := 1000000) (disch := first | omega | with_reducible assumption | (simp only [lenT, Nat.reduceAdd]; omega)) only [amT, cut, bnd, Nat.reduceBEq, reduceCtorEq, Nat.reduceEqDiff, Nat.reduceAdd, Nat.reduceMul, Nat.reduceSub, Int.reduceToNat, Int.reduceEq, Int.reduceLT, Int.reduceLE, Int.reduceAdd, Int.reduceSub, Int.reduceMul, reduceIte, resVs, resV, packV, initT, addr, F79_l0, t0, t3, hi, hs, he]
        rw [LoopK_normal]; refine ⟨_, ?_, i + 1, rfl, rfl, ?qm, ?q0, ?q3, ?_⟩
        case qm | q0 | q3 => first | rfl | (simp (implicitDefEqProofs := false) (maxSteps := 1000000) (disch := first | omega | with_reducible assumption | (simp only [lenT, Nat.reduceAdd]; omega)) only [amT, cut, bnd, Nat.reduceBEq, reduceCtorEq, Nat.reduceEqDiff, Nat.reduceAdd, Nat.reduceMul, Nat.reduceSub, Int.reduceToNat, Int.reduceEq, Int.reduceLT, Int.reduceLE, Int.reduceAdd, Int.reduceSub, Int.reduceMul, reduceIte, resVs, resV, packV, initT, addr, t0, t3]; first | done | rfl | (congr 1; omega))
        · omega
        · refine ⟨by omega, fun j hj hji => ?_⟩
          by_cases hje : j = i
          · subst hje; intro hc; exact he (by rw [hc])
          · exact hne j hj (by omega)
    · have hd : dgB c = 16 := dgB_none fun j hj => hne j hj (by omega)
      simp (implicitDefEqProofs := false) (maxSteps := 1000000) (disch := first | omega | with_reducible assumption | (simp only [lenT, Nat.reduceAdd]; omega)) only [amT, cut, bnd, Nat.reduceBEq, reduceCtorEq, Nat.reduceEqDiff, Nat.reduceAdd, Nat.reduceMul, Nat.reduceSub, Int.reduceToNat, Int.reduceEq, Int.reduceLT, Int.reduceLE, Int.reduceAdd, Int.reduceSub, Int.reduceMul, reduceIte, resVs, resV, packV, initT, addr, F79_l0, t0, t3, hi, hd]
      rfl
theorem message_ok (m : AMem) (a : Option Addr) (cap : Nat) (c : List UInt8) (hc : BSl m a cap c) (hn : c.length ≤ 1000000) :
    DetC Tryd.prog 3 63 [.slice a c.length cap] m (.slice (some ⟨m.size, 0, none⟩) (c ++ padB c.length).length openCap) (mx m [.cells ((c ++ padB c.length).map byteV) 5 true (.room [.int .u8 0])]) := by
  refine det_of_W (fn := Tryd.f63) rfl rfl F63_ok (by simp [F63]) ?_
  have hstr := (hc.old (Old.here m [])).str
  simp (implicitDefEqProofs := false) (maxSteps := 1000000) (disch := first | omega | with_reducible assumption | (simp only [lenT, Nat.reduceAdd]; omega)) only [amT, cut, bnd, Nat.reduceBEq, reduceCtorEq, Nat.reduceEqDiff, Nat.reduceAdd, Nat.reduceMul, Nat.reduceSub, Int.reduceToNat, Int.reduceEq, Int.reduceLT, Int.reduceLE, Int.reduceAdd, Int.reduceSub, Int.reduceMul, reduceIte, resVs, resV, packV, initT, addr, F63, stepOp_b2s_v, hstr]
  have hlen : ∀ j, ((c ++ padA j).map byteV).length = c.length + j := fun j => by rw [List.length_map, List.length_append, padA_length]
  have hlen2 : ∀ k, k ≤ 8 → ((c ++ padA (1 + zerosN c.length) ++ (lenB c.length).take k).map byteV).length = c.length + (1 + zerosN c.length) + k := fun k hk => by
    rw [List.length_map, List.length_append, List.length_append, padA_length, List.length_take, lenB_length]; omega
  refine W_loop (fun N qs => ∃ (j : Nat) (M : AMem) (av : Option Addr) (cv : Nat), N = 1 + zerosN c.length - j ∧ qs.ds = [] ∧ qs.m = mx M [] ∧ qs.t 0 = .slice a c.length cap ∧ qs.t 3 = .slice av (c.length + j) cv ∧ 1 ≤ j ∧ j ≤ 1 + zerosN c.length ∧ Old m M ∧ Buf m M (.slice av (c.length + j) cv) ((c ++ padA j).map byteV) 5 (.int .u8 0)) (1 + zerosN c.length - (1)) ⟨1, mx m [.cells ((c ++ padA 1).map byteV) 5 true (.room [.int .u8 0])], some ⟨m.size, 0, none⟩, openCap, rfl, rfl, ?qm, ?q0, ?q3, ?_⟩ ?_
  case qm | q0 | q3 => first | rfl | (simp (implicitDefEqProofs := false) (maxSteps := 1000000) (disch := first | omega | with_reducible assumption | (simp only [lenT, Nat.reduceAdd]; omega)) only [amT, cut, bnd, Nat.reduceBEq, reduceCtorEq, Nat.reduceEqDiff, Nat.reduceAdd, Nat.reduceMul, Nat.reduceSub, Int.reduceToNat, Int.reduceEq, Int.reduceLT, Int.reduceLE, Int.reduceAdd, Int.reduceSub, Int.reduceMul, reduceIte, resVs, resV, packV, initT, addr, padA, List.replicate_zero]; first | done | rfl | (congr 1; omega))
  · refine ⟨by omega, by omega, Old.here _ _, .inr ⟨m.size, Nat.le_refl _, by rw [mx_size]; simp, by rw [hlen], mx_new0 _ _⟩⟩
  · rintro N t m1 ds ⟨j, M, av, cv, rfl, hds, hm, t0, t3, hp⟩
    simp only at hds hm t0 t3
    subst hds; replace hm := hm.symm; subst hm
    obtain ⟨hj1, hjJ, hO, hB⟩ := hp
    have hz : zerosN c.length = (119 - c.length % 64) % 64 := rfl
    have e1 : ((c.length + j : Nat) : Int).tmod 64 = (((c.length + j) % 64 : Nat) : Int) := tmod_nat _ 64
    by_cases hj : j = 1 + zerosN c.length
    · have h56 : (((c.length + j) % 64 : Nat) : Int) = 56 := by rw [hj, hz]; omega
      simp (implicitDefEqProofs := false) (maxSteps := 1000000) (disch := first | omega | with_reducible assumption | (simp only [lenT, Nat.reduceAdd]; omega)) only [amT, cut, bnd, Nat.reduceBEq, reduceCtorEq, Nat.reduceEqDiff, Nat.reduceAdd, Nat.reduceMul, Nat.reduceSub, Int.reduceToNat, Int.reduceEq, Int.reduceLT, Int.reduceLE, Int.reduceAdd, Int.reduceSub, Int.reduceMul, reduceIte, resVs, resV, packV, initT, addr, F63_l0, t0, t3, e1, h56]
      subst hj
      refine W_loop (fun N qs => ∃ (k : Nat) (M : AMem) (av : Option Addr) (cv : Nat), N = 8 - k ∧ qs.ds = [] ∧ qs.m = mx M [] ∧ qs.t 3 = .slice av (c.length + (1 + zerosN c.length) + k) cv ∧ qs.t 4 = .int .u64 (8 * c.length : Nat) ∧ qs.t 5 = .int .i64 (7 - (k : Int)) ∧ k ≤ 8 ∧ Old m M ∧ Buf m M (.slice av (c.length + (1 + zerosN c.length) + k) cv) ((c ++ padA (1 + zerosN c.length) ++ (lenB c.length).take k).map byteV) 5 (.int .u8 0)) (8 - (0)) ⟨0, M, av, cv, rfl, rfl, ?qm, ?q3, ?q4, ?q5, ?_⟩ ?_
      case qm | q3 | q4 | q5 => first | rfl | (simp (implicitDefEqProofs := false) (maxSteps := 1000000) (disch := first | omega | with_reducible assumption | (simp only [lenT, Nat.reduceAdd]; omega)) only [amT, cut, bnd, Nat.reduceBEq, reduceCtorEq, Nat.reduceEqDiff, Nat.reduceAdd, Nat.reduceMul, Nat.reduceSub, Int.reduceToNat, Int.reduceEq, Int.reduceLT, Int.reduceLE, Int.reduceAdd, Int.reduceSub, Int.reduceMul, reduceIte, resVs, resV, packV, initT, addr, t0, t3]; first | done | rfl | (congr 1; omega))
      · exact ⟨by omega, hO, by rw [List.take_zero, List.append_nil]; exact hB⟩
      · clear t0 t3 hB hO hjJ hj1 e1 h56
        rintro N t m1 ds ⟨k, M, av, cv, rfl, hds, hm, t3, t4, t5, hp⟩
        simp only at hds hm t3 t4 t5
        subst hds; replace hm := hm.symm; subst hm
        obtain ⟨hk8, hO, hB⟩ := hp
        by_cases hk : (0 : Int) ≤ 7 - (k : Int)
        · have e2 : shr .u64 ((8 * c.length : Nat) : Int) (8 * (7 - (k : Int))) = (((8 * c.length) >>> (56 - 8 * k) : Nat) : Int) := by
            rw [show (8 : Int) * (7 - (k : Int)) = ((56 - 8 * k : Nat) : Int) by omega]; exact shr_nat _ _ _ (by simp [IntKind.bits]; omega)
          obtain ⟨v', M', happ, hB', hF⟩ := hB.app1 (e2 := 5) (x := .int .u8 ((UInt8.ofNat ((8 * c.length) >>> (56 - 8 * k))).toNat : Int)) (bytes := 1) hO.1 rfl rfl (by rw [hlen2 k hk8]; omega) (by rw [hlen2 k hk8]; omega)
          have hO' := hO.fr hF hB.new
          have hnx : (c ++ padA (1 + zerosN c.length) ++ (lenB c.length).take k).map byteV ++ [.int .u8 ((UInt8.ofNat ((8 * c.length) >>> (56 - 8 * k))).toNat : Int)] = (c ++ padA (1 + zerosN c.length) ++ (lenB c.length).take (k + 1)).map byteV := by
            rw [lenB_take (by omega), ← List.append_assoc, List.map_append (l₁ := c ++ padA (1 + zerosN c.length) ++ (lenB c.length).take k)]; rfl
          rw [hnx] at hB'
          obtain ⟨av', cv', rfl⟩ := hB'.len
          rw [hlen2 (k + 1) (by omega)] at happ hB'
          simp (implicitDefEqProofs := false) (maxSteps := 1000000) (disch := first | omega | with_reducible assumption | (simp only [lenT, Nat.reduceAdd]; omega)) only [amT, cut, bnd, Nat.reduceBEq, reduceCtorEq, Nat.reduceEqDiff, Nat.reduceAdd, Nat.reduceMul, Nat.reduceSub, Int.reduceToNat, Int.reduceEq, Int.reduceLT, Int.reduceLE, Int.reduceAdd, Int.reduceSub, Int.reduceMul, reduceIte, resVs, resV, packV, initT, addr, F63_l1, t3, t4, t5, hk, e2, u8n, stepOp_app_v, happ]
          rw [LoopK_normal]; refine ⟨_, ?_, k + 1, M', av', cv', rfl, rfl, ?qm, ?q3, ?q4, ?q5, ?_⟩
          case qm | q3 | q4 | q5 => first | rfl | (simp (implicitDefEqProofs := false) (maxSteps := 1000000) (disch := first | omega | with_reducible assumption | (simp only [lenT, Nat.reduceAdd]; omega)) only [amT, cut, bnd, Nat.reduceBEq, reduceCtorEq, Nat.reduceEqDiff, Nat.reduceAdd, Nat.reduceMul, Nat.reduceSub, Int.reduceToNat, Int.reduceEq, Int.reduceLT, Int.reduceLE, Int.reduceAdd, Int.reduceSub, Int.reduceMul, reduceIte, resVs, resV, packV, initT, addr, t3, t4, t5]; first | done | rfl | (congr 1; omega))
          · omega
          · exact ⟨by omega, hO', hB'⟩
        · have hk8 : k = 8 := by omega
          subst hk8
          have hpb : c ++ padA (1 + zerosN c.length) ++ (lenB c.length).take 8 = c ++ padB c.length := by rw [List.take_of_length_le (by rw [lenB_length]; omega), List.append_assoc]; rfl
          rw [hpb] at hB
          simp (implicitDefEqProofs := false) (maxSteps := 1000000) (disch := first | omega | with_reducible assumption | (simp only [lenT, Nat.reduceAdd]; omega)) only [amT, cut, bnd, Nat.reduceBEq, reduceCtorEq, Nat.reduceEqDiff, Nat.reduceAdd, Nat.reduceMul, Nat.reduceSub, Int.reduceToNat, Int.reduceEq, Int.reduceLT, Int.reduceLE, Int.reduceAdd, Int.reduceSub, Int.reduceMul, reduceIte, resVs, resV, packV, initT, addr, F63_l1, t3, t4, t5, hk]
          intro _
          have := hB.kept hO (by simp [padB, padA, Nat.add_comm 1]) (plain_byteV _)
          simp only [List.length_map, List.length_append] at this ⊢
          exact this
    · have h56 : ¬ (((c.length + j) % 64 : Nat) : Int) = 56 := by omega
      obtain ⟨v', M', happ, hB', hF⟩ := hB.app1 (e2 := 5) (x := .int .u8 0) (bytes := 1) hO.1 rfl rfl (by rw [hlen]; omega) (by rw [hlen]; omega)
      have hO' := hO.fr hF hB.new
      have hnx : (c ++ padA j).map byteV ++ [.int .u8 0] = (c ++ padA (j + 1)).map byteV := by
        rw [padA_succ, if_neg (by omega), ← List.append_assoc, List.map_append (l₁ := c ++ padA j)]; rfl
      rw [hnx] at hB'
      obtain ⟨av', cv', rfl⟩ := hB'.len
      rw [hlen] at happ hB'
      simp (implicitDefEqProofs := false) (maxSteps := 1000000) (disch := first | omega | with_reducible assumption | (simp only [lenT, Nat.reduceAdd]; omega)) only [amT, cut, bnd, Nat.reduceBEq, reduceCtorEq, Nat.reduceEqDiff, Nat.reduceAdd, Nat.reduceMul, Nat.reduceSub, Int.reduceToNat, Int.reduceEq, Int.reduceLT, Int.reduceLE, Int.reduceAdd, Int.reduceSub, Int.reduceMul, reduceIte, resVs, resV, packV, initT, addr, F63_l0, t0, t3, e1, h56, stepOp_app_v, happ]
      rw [LoopK_normal]; refine ⟨_, ?_, j + 1, M', av', cv', rfl, rfl, ?qm, ?q0, ?q3, ?_⟩
      case qm | q0 | q3 => first | rfl | (simp (implicitDefEqProofs := false) (maxSteps := 1000000) (disch := first | omega | with_reducible assumption | (simp only [lenT, Nat.reduceAdd]; omega)) only [amT, cut, bnd, Nat.reduceBEq, reduceCtorEq, Nat.reduceEqDiff, Nat.reduceAdd, Nat.reduceMul, Nat.reduceSub, Int.reduceToNat, Int.reduceEq, Int.reduceLT, Int.reduceLE, Int.reduceAdd, Int.reduceSub, Int.reduceMul, reduceIte, resVs, resV, packV, initT, addr, t0, t3]; first | done | rfl | (congr 1; omega))
      · omega
      · exact ⟨by omega, by omega, hO', hB'⟩
end Go.Proofs.YtgkmlbkocgjmmaaDoor.S
namespace Go.Proofs.YtgkmlbkocgjmmaaDoor
open Go Go.AM
set_option linter.unusedVariables false
set_option linter.unusedSimpArgs false
set_option maxHeartbeats 2000000
set_option maxRecDepth 100000

/-- A derivation's name. -/
def dnameR (d : DrvR) : List UInt8 × Int := if rightR d = true then N.nameR (S.shaR (putB d)) (d.name ++ [46, 100, 114, 118]) else ([], 2)
theorem putB_len {d : DrvR} (hd : d.ok) (hr : rightR d = true) : (putB d).length ≤ 10000000 := by
  obtain ⟨f1, f2, f3⟩ := right_few hr
  have := insB_len hd.inputs d.inputs.length (Nat.le_refl _)
  simp only [putB, List.length_append, textB_len, numB_len, headB, List.length_cons, List.length_nil]; omega
theorem dname_ok (m : AMem) (d : DrvR) (a : Option Addr) (c : Nat) (hg : S.Glob m) (hd : d.ok) (ha : StrR m a d.inputs) :
    RelC Tryd.prog 3 14 [.agg (dRow d a c).toArray] m fun r m' => r = .tuple #[.string ⟨(dnameR d).1.toArray⟩, .int .i64 (dnameR d).2] ∧ Old m m' := by
  refine rel_of_W (fn := Tryd.f14) rfl rfl F14_ok (by simp [F14]) ?_
  have hp := put_ok (mx m [.cells (dRow d a c) 24 true .exact]) d a c hd (ha.old (Old.here _ _))
  have hgS := hg.s
  simp only [dRow] at hp
  repeat first | simp (implicitDefEqProofs := false) (maxSteps := 1000000) (disch := first | omega | with_reducible assumption | (simp only [lenT, Nat.reduceAdd]; omega)) only [amT, cut, bnd, Nat.reduceBEq, reduceCtorEq, Nat.reduceEqDiff, Nat.reduceAdd, Nat.reduceMul, Nat.reduceSub, Int.reduceToNat, Int.reduceEq, Int.reduceLT, Int.reduceLE, Int.reduceAdd, Int.reduceSub, Int.reduceMul, reduceIte, resVs, resV, packV, initT, addr, F14, dRow, cellsOf_dRow, cutL3] | refine OrW.go ?_
  refine RelC.call hp ?_
  rintro r M1 ⟨hO, hr⟩
  have hOm : Old m M1 := (Old.here m _).trans hO
  have hz := hO.1
  rw [mx_size] at hz
  simp only [List.length_cons, List.length_nil, Nat.zero_add] at hz
  have hb : M1.get m.size = .cells [.string ⟨d.name.toArray⟩, .slice a d.inputs.length c, .string ⟨d.recipe.toArray⟩] 24 true .exact := by rw [hO.2 _ (by rw [mx_size]; simp)]; exact mx_new0 _ _
  cases hri : rightR d with
  | false =>
    rw [hri] at hr
    simp only [Bool.false_eq_true, if_false] at hr
    subst hr
    have e : dnameR d = ([], 2) := by simp [dnameR, hri]
    rw [e]
    repeat first | simp (implicitDefEqProofs := false) (maxSteps := 1000000) (disch := first | omega | with_reducible assumption | (simp only [lenT, Nat.reduceAdd]; omega)) only [amT, cut, bnd, Nat.reduceBEq, reduceCtorEq, Nat.reduceEqDiff, Nat.reduceAdd, Nat.reduceMul, Nat.reduceSub, Int.reduceToNat, Int.reduceEq, Int.reduceLT, Int.reduceLE, Int.reduceAdd, Int.reduceSub, Int.reduceMul, reduceIte, resVs, resV, packV, initT, addr] | refine OrW.go ?_
    exact ⟨_, rfl, fun _ => ⟨rfl, hOm.mx []⟩⟩
  | true =>
    rw [hri] at hr
    simp only [if_true] at hr
    obtain ⟨a', c', rfl, hB⟩ := hr
    have e : dnameR d = N.nameR (S.shaR (putB d)) (d.name ++ [46, 100, 114, 118]) := by simp [dnameR, hri]
    rw [e]
    have hl := putB_len hd hri
    have hn := (right_few hri).1
    have k35 := DetC.known (S.sum_ok (mx M1 []) a' c' (putB d) ((hg.old hOm).old (Old.here _ [])) (hB.old (Old.here _ [])) (by omega))
    have k34 := @N.kName (mx M1 []) (d.name ++ [46, 100, 114, 118]) (S.shaR (putB d)) (S.shaR_length _) (by rw [List.length_append]; simp; omega)
    repeat first | simp (implicitDefEqProofs := false) (maxSteps := 1000000) (disch := first | omega | with_reducible assumption | (simp only [lenT, Nat.reduceAdd]; omega)) only [amT, cut, bnd, Nat.reduceBEq, reduceCtorEq, Nat.reduceEqDiff, Nat.reduceAdd, Nat.reduceMul, Nat.reduceSub, Int.reduceToNat, Int.reduceEq, Int.reduceLT, Int.reduceLE, Int.reduceAdd, Int.reduceSub, Int.reduceMul, reduceIte, resVs, resV, packV, initT, addr, hb, k35, k34] | refine OrW.go ?_
    exact ⟨_, rfl, fun _ => ⟨rfl, hOm.mx []⟩⟩
end Go.Proofs.YtgkmlbkocgjmmaaDoor
namespace Go.Proofs.YtgkmlbkocgjmmaaDoor
open Go Go.AM
set_option linter.unusedVariables false
set_option linter.unusedSimpArgs false
set_option maxHeartbeats 2000000
set_option maxRecDepth 100000

theorem cut_one {X : List Value} {o : Nat} {v : Value} (h : X[o]? = some v) : cutL X o 1 = some [v] := by
  obtain ⟨ho, h⟩ := List.getElem?_eq_some_iff.1 h
  unfold cutL
  rw [if_pos (by omega), List.drop_eq_getElem_cons ho, h]; rfl
theorem strR_at (M : AMem) (l : List AObj) (k : Nat) {ls : List (List UInt8)} {X : List Value} {e : TypeId} {w : Bool} {sp : Spare} (h : l[k]? = some (.cells X e w sp)) (hX : X.take ls.length = ls.map sV) : StrR (mx M l) (some ⟨M.size + k, 0, none⟩) ls := fun i hi => by
  have hk : k < l.length := (List.getElem?_eq_some_iff.1 h).1
  have hg : (mx M l).get (M.size + k) = .cells X e w sp := by rw [mx_new]; simp [List.getD, h]
  refine ⟨_, _, rfl, by rw [mx_size]; omega, ?_⟩
  rw [hg, rdO_cells, Nat.zero_add]
  refine cut_one ?_
  have h1 : (X.take ls.length)[i]? = (ls.map sV)[i]? := by rw [hX]
  rw [List.getElem?_take, if_pos hi] at h1
  rw [h1]; simp [hi, sV]
theorem src_at (M : AMem) (l : List AObj) (k : Nat) {ls : List (List UInt8)} {e : TypeId} {w : Bool} {sp : Spare} (h : l[k]? = some (.cells (ls.map sV) e w sp)) : Src (mx M l) (some ⟨M.size + k, 0, none⟩) ls := by
  have hk : k < l.length := (List.getElem?_eq_some_iff.1 h).1
  have hg : (mx M l).get (M.size + k) = .cells (ls.map sV) e w sp := by rw [mx_new]; simp [List.getD, h]
  exact .inr ⟨_, _, rfl, by rw [mx_size]; omega, by rw [hg, rdO_cells]; exact cutL_all (by simp)⟩
theorem intR_at (M : AMem) (l : List AObj) (k : Nat) {ls : List Nat} {e : TypeId} {w : Bool} {sp : Spare} (h : l[k]? = some (.cells (ls.map iV) e w sp)) : IntR (mx M l) (some ⟨M.size + k, 0, none⟩) ls := by
  have hk : k < l.length := (List.getElem?_eq_some_iff.1 h).1
  have hg : (mx M l).get (M.size + k) = .cells (ls.map iV) e w sp := by rw [mx_new]; simp [List.getD, h]
  exact intR_cells (by rw [mx_size]; omega) hg
def wN : List (List UInt8) := [[97], [98], [99], [100]]
def wD : List (List (List UInt8)) := [[[98], [99]], [[99]], [], [[100]]]
def wX : DrvR := ⟨[120], [], []⟩
def wO (z : Nat) : List AObj := [.cells (wN.map sV) 9 true .exact, .cells ([[98], [99]].map sV) 9 true .exact, .cells ([[99]].map sV) 9 true .exact, .cells ([[100]].map sV) 9 true .exact,
  .cells [.slice (some ⟨z + 1, 0, none⟩) 2 2, .slice (some ⟨z + 2, 0, none⟩) 1 1, .slice none 0 0, .slice (some ⟨z + 3, 0, none⟩) 1 1] 22 true .exact]
theorem w_names (m : AMem) : StrR (mx m (wO m.size)) (some ⟨m.size, 0, none⟩) wN := strR_at m (wO m.size) 0 rfl rfl
theorem w_names3 (m : AMem) : StrR (mx m (wO m.size)) (some ⟨m.size, 0, none⟩) (wN.take 3) := strR_at m (wO m.size) 0 rfl rfl
theorem w_needs (m : AMem) : NeedsR (mx m (wO m.size)) (some ⟨m.size + 4, 0, none⟩) wD := fun i hi => by
  have hl : m.size + 4 < (mx m (wO m.size)).size := by rw [mx_size]; simp [wO]
  have hg := mx_new m (wO m.size) 4
  have r1 := src_at m (wO m.size) 1 (ls := [[98], [99]]) rfl
  have r2 := src_at m (wO m.size) 2 (ls := [[99]]) rfl
  have r3 := src_at m (wO m.size) 3 (ls := [[100]]) rfl
  match i, hi with
  | 0, _ => exact ⟨_, _, some ⟨m.size + 1, 0, none⟩, 2, rfl, hl, by rw [hg]; rfl, r1, by simp [wD]⟩
  | 1, _ => exact ⟨_, _, some ⟨m.size + 2, 0, none⟩, 1, rfl, hl, by rw [hg]; rfl, r2, by simp [wD]⟩
  | 2, _ => exact ⟨_, _, none, 0, rfl, hl, by rw [hg]; rfl, .inl ⟨rfl, rfl⟩, by simp [wD]⟩
  | 3, _ => exact ⟨_, _, some ⟨m.size + 3, 0, none⟩, 1, rfl, hl, by rw [hg]; rfl, r3, by simp [wD]⟩
theorem w_sort4 : sortR wN wD = ([], 240) := by decide +kernel
theorem w_sort3 : sortR (wN.take 3) wD = ([2, 1, 0], 0) := by decide +kernel
theorem w_clos1 : closR wN wD [[98]] = ([1, 2], 0) := by
  have h0 := CInv.init wN wD [[98]]
  have h1 := h0.take (k := 1) (by decide +kernel)
  have e1 : ([] : List (List UInt8)) ++ rowOf wD 1 = [[99]] := rfl
  rw [e1] at h1
  have h2 := h1.take (k := 2) (by decide +kernel)
  have e2 : ([] : List (List UInt8)) ++ rowOf wD 2 = [] := rfl
  rw [e2] at h2
  have e3 := closO_of h2
  unfold closR
  rw [if_pos (by decide +kernel), e3]; decide +kernel
theorem w_clos2 : closR wN wD [[100], [120]] = ([3], 0) := by
  have h0 := CInv.init wN wD [[100], [120]]
  have h1 := h0.take (k := 3) (by decide +kernel)
  have e1 : [[120]] ++ rowOf wD 3 = [[120], [100]] := rfl
  rw [e1] at h1
  have h2 := h1.skip fun k hk => by
    rw [show plR wN [120] = none by decide +kernel] at hk; cases hk
  have h3 := h2.skip fun k hk => by
    rw [show plR wN [100] = some 3 by decide +kernel] at hk; cases hk; decide +kernel
  have e3 := closO_of h3
  unfold closR
  rw [if_pos (by decide +kernel), e3]; decide +kernel
theorem w_right : rightR wX = true := by decide +kernel
theorem w_put : putB wX = [68, 82, 86, 49, 0, 0, 0, 1, 120, 0, 0, 0, 0, 0, 0] := by decide +kernel
theorem w_get : getR (putB wX) = (wX, 0) := by kernel_rfl
theorem w_name : (dnameR wX).2 = 0 ∧ (dnameR wX).1.length = 38 := by
  have e : dnameR wX = N.nameR (S.shaR (putB wX)) [120, 46, 100, 114, 118] := by simp only [dnameR, w_right, if_true]; rfl
  have hr : N.rightB [120, 46, 100, 114, 118] = true := by decide +kernel
  rw [e]
  simp [N.nameR, hr, N.lettersOf_length]
theorem w_ok : wX.ok := ⟨by decide, by decide, by decide, by decide⟩
theorem w_sl (a : Nat) (M : AMem) : slVv 1 (.slice (some ⟨a, 0, none⟩) 4 4) none (some (.int .i64 3)) none M = some (.slice (some ⟨a, 0, none⟩) 3 4, M) := by
  have h : ¬ (4 : Nat) = openCap := openCap_ne (by omega)
  simp only [slVv, if_neg h]; rfl
theorem w_rows : ∀ i, (rowOf wD i).length ≤ 1000
  | 0 => by simp [rowOf, wD]
  | 1 => by simp [rowOf, wD]
  | 2 => by simp [rowOf, wD]
  | 3 => by simp [rowOf, wD]
  | n + 4 => by simp [rowOf, wD, List.getD]
theorem same_w {M : AMem} {v : Value} {l : List Nat} (h : IntB M v l) (hl : l.length ≤ 100) (objs : List AObj) (k q : Nat) (hk : objs[k]? = some (.cells (l.map iV) 3 true .exact)) (hq : q = M.size + k) : Known Tryd.prog 3 24 [v, .slice (some ⟨q, 0, none⟩) l.length l.length] (mx M objs) (.bool true) (mx M objs) := by
  obtain ⟨a, c, rfl⟩ := h.len
  subst hq
  have h2 := intR_at M objs k hk
  have := DetC.known (sameInts_ok (mx M objs) a c l (h.row.old (Old.here _ _)) (some ⟨M.size + k, 0, none⟩) l.length l h2 (by omega) (by omega))
  simpa using this
theorem works_ok (m : AMem) (hg : S.Glob m) : PureC Tryd.prog 3 11 [] m (.bool true) := by
  refine pure_of_W (fn := Tryd.f11) rfl rfl F11_ok (by simp [F11]) (.bool _) ?_
  repeat first | simp (implicitDefEqProofs := false) (maxSteps := 1000000) (disch := first | omega | with_reducible assumption | (simp only [lenT, Nat.reduceAdd]; omega)) only [amT, cut, bnd, Nat.reduceBEq, reduceCtorEq, Nat.reduceEqDiff, Nat.reduceAdd, Nat.reduceMul, Nat.reduceSub, Int.reduceToNat, Int.reduceEq, Int.reduceLT, Int.reduceLE, Int.reduceAdd, Int.reduceSub, Int.reduceMul, reduceIte, resVs, resV, packV, initT, addr, F11] | refine OrW.go ?_
  refine RelC.call (sort_ok (mx m (wO m.size)) (some ⟨m.size, 0, none⟩) 4 wN (w_names m) (by decide) (some ⟨m.size + 4, 0, none⟩) 4 wD (w_needs m) (by decide)) ?_
  rintro r M1 ⟨hz1, v1, rfl, hI1⟩
  simp only [w_sort4] at hI1 ⊢
  repeat first | simp (implicitDefEqProofs := false) (maxSteps := 1000000) (disch := first | omega | with_reducible assumption | (simp only [lenT, Nat.reduceAdd]; omega)) only [amT, cut, bnd, Nat.reduceBEq, reduceCtorEq, Nat.reduceEqDiff, Nat.reduceAdd, Nat.reduceMul, Nat.reduceSub, Int.reduceToNat, Int.reduceEq, Int.reduceLT, Int.reduceLE, Int.reduceAdd, Int.reduceSub, Int.reduceMul, reduceIte, resVs, resV, packV, initT, addr, stepOp_slV_v, w_sl] | refine OrW.go ?_
  refine RelC.call (sort_ok (mx M1 []) (some ⟨m.size, 0, none⟩) 4 (wN.take 3) ((w_names3 m).old (hz1.mx [])) (by decide) (some ⟨m.size + 4, 0, none⟩) 4 wD ((w_needs m).old (hz1.mx [])) (by decide)) ?_
  rintro r M2 ⟨hO2, v2, rfl, hI2⟩
  simp only [w_sort3] at hI2 ⊢
  have hz2 : Old (mx m (wO m.size)) M2 := hz1.trans ((Old.here _ _).trans hO2)
  repeat first | simp (implicitDefEqProofs := false) (maxSteps := 1000000) (disch := first | omega | with_reducible assumption | (simp only [lenT, Nat.reduceAdd]; omega)) only [amT, cut, bnd, Nat.reduceBEq, reduceCtorEq, Nat.reduceEqDiff, Nat.reduceAdd, Nat.reduceMul, Nat.reduceSub, Int.reduceToNat, Int.reduceEq, Int.reduceLT, Int.reduceLE, Int.reduceAdd, Int.reduceSub, Int.reduceMul, reduceIte, resVs, resV, packV, initT, addr] | refine OrW.go ?_
  refine RelC.call (closure_ok (mx M2 [.cells ([[98]].map sV) 9 true .exact]) (some ⟨m.size, 0, none⟩) 4 wN ((w_names m).old (hz2.mx _)) (by decide) (some ⟨m.size + 4, 0, none⟩) 4 wD ((w_needs m).old (hz2.mx _)) (by decide) (some ⟨M2.size, 0, none⟩) 1 [[98]] (src_at M2 _ 0 rfl) (by decide) w_rows) ?_
  rintro r M3 ⟨hO3, v3, rfl, hI3⟩
  simp only [w_clos1] at hI3 ⊢
  have hy3 : Old M2 M3 := (Old.here _ _).trans hO3
  have hz3 := hz2.trans hy3
  repeat first | simp (implicitDefEqProofs := false) (maxSteps := 1000000) (disch := first | omega | with_reducible assumption | (simp only [lenT, Nat.reduceAdd]; omega)) only [amT, cut, bnd, Nat.reduceBEq, reduceCtorEq, Nat.reduceEqDiff, Nat.reduceAdd, Nat.reduceMul, Nat.reduceSub, Int.reduceToNat, Int.reduceEq, Int.reduceLT, Int.reduceLE, Int.reduceAdd, Int.reduceSub, Int.reduceMul, reduceIte, resVs, resV, packV, initT, addr] | refine OrW.go ?_
  refine RelC.call (closure_ok (mx M3 [.cells ([[100], [120]].map sV) 9 true .exact]) (some ⟨m.size, 0, none⟩) 4 wN ((w_names m).old (hz3.mx _)) (by decide) (some ⟨m.size + 4, 0, none⟩) 4 wD ((w_needs m).old (hz3.mx _)) (by decide) (some ⟨M3.size, 0, none⟩) 2 [[100], [120]] (src_at M3 _ 0 rfl) (by decide) w_rows) ?_
  rintro r M4 ⟨hO4, v4, rfl, hI4⟩
  simp only [w_clos2] at hI4 ⊢
  have hy4 : Old M3 M4 := (Old.here _ _).trans hO4
  have hz4 := hz3.trans hy4
  repeat first | simp (implicitDefEqProofs := false) (maxSteps := 1000000) (disch := first | omega | with_reducible assumption | (simp only [lenT, Nat.reduceAdd]; omega)) only [amT, cut, bnd, Nat.reduceBEq, reduceCtorEq, Nat.reduceEqDiff, Nat.reduceAdd, Nat.reduceMul, Nat.reduceSub, Int.reduceToNat, Int.reduceEq, Int.reduceLT, Int.reduceLE, Int.reduceAdd, Int.reduceSub, Int.reduceMul, reduceIte, resVs, resV, packV, initT, addr] | refine OrW.go ?_
  refine RelC.call (put_ok (mx M4 []) wX none 0 w_ok (fun i h => by cases h)) ?_
  rintro r M5 ⟨hO5, hr5⟩
  rw [w_right, if_pos rfl] at hr5
  obtain ⟨a5, c5, rfl, hB5⟩ := hr5
  have hy5 : Old M4 M5 := (Old.here _ _).trans hO5
  repeat first | simp (implicitDefEqProofs := false) (maxSteps := 1000000) (disch := first | omega | with_reducible assumption | (simp only [lenT, Nat.reduceAdd]; omega)) only [amT, cut, bnd, Nat.reduceBEq, reduceCtorEq, Nat.reduceEqDiff, Nat.reduceAdd, Nat.reduceMul, Nat.reduceSub, Int.reduceToNat, Int.reduceEq, Int.reduceLT, Int.reduceLE, Int.reduceAdd, Int.reduceSub, Int.reduceMul, reduceIte, resVs, resV, packV, initT, addr] | refine OrW.go ?_
  refine RelC.call (get_ok (mx M5 []) a5 c5 (putB wX) (hB5.old (Old.here _ _)) (by decide +kernel)) ?_
  rintro r M6 ⟨hO6, a6, c6, rfl, hS6⟩
  have hy6 : Old M5 M6 := (Old.here _ _).trans hO6
  simp only [w_get] at hS6 ⊢
  repeat first | simp (implicitDefEqProofs := false) (maxSteps := 1000000) (disch := first | omega | with_reducible assumption | (simp only [lenT, Nat.reduceAdd]; omega)) only [amT, cut, bnd, Nat.reduceBEq, reduceCtorEq, Nat.reduceEqDiff, Nat.reduceAdd, Nat.reduceMul, Nat.reduceSub, Int.reduceToNat, Int.reduceEq, Int.reduceLT, Int.reduceLE, Int.reduceAdd, Int.reduceSub, Int.reduceMul, reduceIte, resVs, resV, packV, initT, addr, dRow, cellsOf_dRow, cutL3, splice3] | refine OrW.go ?_
  have hz6 := hz4.trans (hy5.trans hy6)
  have hgm : Old m M6 := (Old.here m _).trans hz6
  refine RelC.call (dname_ok (mx M6 [.cells (dRow wX a6 c6) 24 true .exact]) wX a6 c6 (hg.old (hgm.mx _)) w_ok (hS6.old (Old.here _ _))) ?_
  rintro r M7 ⟨rfl, hO7⟩
  obtain ⟨n1, n2⟩ := w_name
  rw [n1]
  have hy7 : Old M6 M7 := (Old.here _ _).trans hO7
  have hl6 : M6.size < M7.size := by have := hO7.1; rw [mx_size] at this; simp at this; omega
  have hb6 : M7.get M6.size = .cells (dRow wX a6 c6) 24 true .exact := by rw [hO7.2 _ (by rw [mx_size]; simp)]; exact mx_new0 _ _
  simp only [dRow] at hb6
  have q2 : IntB M7 v2 [2, 1, 0] := hI2.old (hy3.trans (hy4.trans (hy5.trans (hy6.trans hy7))))
  have q3 : IntB M7 v3 [1, 2] := hI3.old (hy4.trans (hy5.trans (hy6.trans hy7)))
  have q4 : IntB M7 v4 [3] := hI4.old (hy5.trans (hy6.trans hy7))
  have s2 := same_w q2 (by decide) [.cells [.int .i64 2, .int .i64 1, .int .i64 0] 3 true .exact] 0 M7.size rfl rfl
  have s3 := same_w q3 (by decide) [.cells [.int .i64 2, .int .i64 1, .int .i64 0] 3 true .exact, .cells [.int .i64 1, .int .i64 2] 3 true .exact] 1 (M7.size + 1) rfl rfl
  have s4 := same_w q4 (by decide) [.cells [.int .i64 2, .int .i64 1, .int .i64 0] 3 true .exact, .cells [.int .i64 1, .int .i64 2] 3 true .exact, .cells [.int .i64 3] 3 true .exact] 2 (M7.size + 2) rfl rfl
  simp only [List.length_cons, List.length_nil, Nat.zero_add, Nat.reduceAdd] at s2 s3 s4
  have hS7 : StrR M7 a6 wX.inputs := (hS6.old (Old.refl _)).old hy7
  have hB7 : BSl M7 a5 c5 (putB wX) := hB5.old (hy6.trans hy7)
  have hstr := (hB7.old (Old.here M7 [.cells [.int .i64 2, .int .i64 1, .int .i64 0] 3 true .exact, .cells [.int .i64 1, .int .i64 2] 3 true .exact, .cells [.int .i64 3] 3 true .exact])).str
  have e1 : strEq ⟨(putB wX).toArray⟩ ⟨[68, 82, 86, 49, 0, 0, 0, 1, 120, 0, 0, 0, 0, 0, 0].toArray⟩ = true := by rw [w_put]; exact strEq_self _
  have e2 : strEq ⟨wX.name.toArray⟩ ⟨[120].toArray⟩ = true := strEq_self _
  have kr := DetC.known (right_ok (mx M7 [.cells [.int .i64 2, .int .i64 1, .int .i64 0] 3 true .exact, .cells [.int .i64 1, .int .i64 2] 3 true .exact, .cells [.int .i64 3] 3 true .exact]) wX a6 c6 w_ok (hS7.old (Old.here _ _)))
  rw [w_right] at kr
  simp only [dRow] at kr
  repeat first | simp (implicitDefEqProofs := false) (maxSteps := 1000000) (disch := first | omega | with_reducible assumption | (simp only [lenT, Nat.reduceAdd]; omega)) only [amT, cut, bnd, Nat.reduceBEq, reduceCtorEq, Nat.reduceEqDiff, Nat.reduceAdd, Nat.reduceMul, Nat.reduceSub, Int.reduceToNat, Int.reduceEq, Int.reduceLT, Int.reduceLE, Int.reduceAdd, Int.reduceSub, Int.reduceMul, reduceIte, resVs, resV, packV, initT, addr, s2, s3, s4, stepOp_b2s_v, hstr, e1, hb6, e2, n2, kr, cutL3] | refine OrW.go ?_
  exact (hgm.trans hy7).mx _
theorem kWorks {M : AMem} (hg : S.Glob M) (l : List AObj) : Known Tryd.prog 3 11 [] (mx M l) (.bool true) (mx M l) := DetC.known (works_ok _ (hg.old (Old.here _ _)))
end Go.Proofs.YtgkmlbkocgjmmaaDoor
namespace Go.Proofs.YtgkmlbkocgjmmaaDoor
open Go Go.AM
set_option linter.unusedVariables false
set_option linter.unusedSimpArgs false
set_option maxHeartbeats 2000000
set_option maxRecDepth 100000

theorem refRight_ok (m : AMem) (d : DrvR) (a : Option Addr) (c : Nat) (hd : d.ok) (ha : StrR m a d.inputs) : PureC Tryd.prog 3 17 [.agg (dRow d a c).toArray] m (.bool (rightR d)) := by
  refine pure_of_W (fn := Tryd.f17) rfl rfl F17_ok (by simp [F17]) (.bool _) ?_
  have hn := hd.name; have hf := hd.few; have hr := hd.recipe
  have kR : N.rightB d.name = N.rightB d.name := rfl
  have kRight := @N.kRefRight (mx m [.cells (dRow d a c) 24 true .exact]) d.name hn
  simp only [dRow] at kRight
  by_cases h1 : N.rightB d.name = true
  case neg =>
    have h1' : N.rightB d.name = false := by simpa using h1
    have e : rightR d = false := by simp [rightR, h1']
    repeat first | simp (implicitDefEqProofs := false) (maxSteps := 1000000) (disch := first | omega | with_reducible assumption | (simp only [lenT, Nat.reduceAdd]; omega)) only [amT, cut, bnd, Nat.reduceBEq, reduceCtorEq, Nat.reduceEqDiff, Nat.reduceAdd, Nat.reduceMul, Nat.reduceSub, Int.reduceToNat, Int.reduceEq, Int.reduceLT, Int.reduceLE, Int.reduceAdd, Int.reduceSub, Int.reduceMul, reduceIte, resVs, resV, packV, initT, addr, F17, dRow, cellsOf_dRow, kRight, h1'] | refine OrW.go ?_
    rw [e]
  by_cases h2 : (60 : Int) < (d.name.length : Int)
  · have e : rightR d = false := by simp [rightR]; intros; omega
    repeat first | simp (implicitDefEqProofs := false) (maxSteps := 1000000) (disch := first | omega | with_reducible assumption | (simp only [lenT, Nat.reduceAdd]; omega)) only [amT, cut, bnd, Nat.reduceBEq, reduceCtorEq, Nat.reduceEqDiff, Nat.reduceAdd, Nat.reduceMul, Nat.reduceSub, Int.reduceToNat, Int.reduceEq, Int.reduceLT, Int.reduceLE, Int.reduceAdd, Int.reduceSub, Int.reduceMul, reduceIte, resVs, resV, packV, initT, addr, F17, dRow, cellsOf_dRow, kRight, h1, h2] | refine OrW.go ?_
    rw [e]
  by_cases h3 : (64 : Int) < (d.inputs.length : Int)
  · have e : rightR d = false := by simp [rightR]; intros; omega
    repeat first | simp (implicitDefEqProofs := false) (maxSteps := 1000000) (disch := first | omega | with_reducible assumption | (simp only [lenT, Nat.reduceAdd]; omega)) only [amT, cut, bnd, Nat.reduceBEq, reduceCtorEq, Nat.reduceEqDiff, Nat.reduceAdd, Nat.reduceMul, Nat.reduceSub, Int.reduceToNat, Int.reduceEq, Int.reduceLT, Int.reduceLE, Int.reduceAdd, Int.reduceSub, Int.reduceMul, reduceIte, resVs, resV, packV, initT, addr, F17, dRow, cellsOf_dRow, kRight, h1, h2, h3] | refine OrW.go ?_
    rw [e]
  by_cases h4 : (262144 : Int) < (d.recipe.length : Int)
  · have e : rightR d = false := by simp [rightR]; intros; omega
    repeat first | simp (implicitDefEqProofs := false) (maxSteps := 1000000) (disch := first | omega | with_reducible assumption | (simp only [lenT, Nat.reduceAdd]; omega)) only [amT, cut, bnd, Nat.reduceBEq, reduceCtorEq, Nat.reduceEqDiff, Nat.reduceAdd, Nat.reduceMul, Nat.reduceSub, Int.reduceToNat, Int.reduceEq, Int.reduceLT, Int.reduceLE, Int.reduceAdd, Int.reduceSub, Int.reduceMul, reduceIte, resVs, resV, packV, initT, addr, F17, dRow, cellsOf_dRow, kRight, h1, h2, h3, h4] | refine OrW.go ?_
    rw [e]
  have e : rightR d = okIns d.inputs d.inputs.length := by
    have g1 : ¬ 60 < d.name.length := by omega
    have g2 : ¬ 64 < d.inputs.length := by omega
    have g3 : ¬ 262144 < d.recipe.length := by omega
    simp [rightR, h1, g1, g2, g3]
  repeat first | simp (implicitDefEqProofs := false) (maxSteps := 1000000) (disch := first | omega | with_reducible assumption | (simp only [lenT, Nat.reduceAdd]; omega)) only [amT, cut, bnd, Nat.reduceBEq, reduceCtorEq, Nat.reduceEqDiff, Nat.reduceAdd, Nat.reduceMul, Nat.reduceSub, Int.reduceToNat, Int.reduceEq, Int.reduceLT, Int.reduceLE, Int.reduceAdd, Int.reduceSub, Int.reduceMul, reduceIte, resVs, resV, packV, initT, addr, F17, dRow, cellsOf_dRow, kRight, h1, h2, h3, h4] | refine OrW.go ?_
  rw [e]
  refine W_loop (fun N qs => ∃ (i : Nat), N = d.inputs.length - i ∧ qs.ds = [] ∧ qs.m = mx m [.cells [.string ⟨d.name.toArray⟩, .slice a d.inputs.length c, .string ⟨d.recipe.toArray⟩] 24 true .exact] ∧ qs.t 1 = .pointer (some ⟨m.size, 0, none⟩) ∧ qs.t 3 = .int .i64 i ∧ i ≤ d.inputs.length ∧ okIns d.inputs i = true) (d.inputs.length - (0)) ⟨0, rfl, rfl, ?qm, ?q1, ?q3, ?_⟩ ?_
  case qm | q1 | q3 => first | rfl | (simp (implicitDefEqProofs := false) (maxSteps := 1000000) (disch := first | omega | with_reducible assumption | (simp only [lenT, Nat.reduceAdd]; omega)) only [amT, cut, bnd, Nat.reduceBEq, reduceCtorEq, Nat.reduceEqDiff, Nat.reduceAdd, Nat.reduceMul, Nat.reduceSub, Int.reduceToNat, Int.reduceEq, Int.reduceLT, Int.reduceLE, Int.reduceAdd, Int.reduceSub, Int.reduceMul, reduceIte, resVs, resV, packV, initT, addr]; first | done | rfl | (congr 1; omega))
  · exact ⟨by omega, rfl⟩
  · rintro N t m1 ds ⟨i, rfl, hds, hm, t1, t3, hp⟩
    simp only at hds hm t1 t3
    subst hds; replace hm := hm.symm; subst hm
    obtain ⟨hi, hp⟩ := hp
    by_cases g : (i : Int) < (d.inputs.length : Int)
    · have hi' : i < d.inputs.length := by omega
      obtain ⟨b, o, rfl, hb, hr1⟩ := ha i hi'
      have hl := hd.inputs _ (List.getElem_mem hi')
      have kP := @N.kRefParse (mx m [.cells [.string ⟨d.name.toArray⟩, .slice (some ⟨b, o, none⟩) d.inputs.length c, .string ⟨d.recipe.toArray⟩] 24 true .exact]) d.inputs[i] hl
      rw [← N.parse_eq] at kP
      have hsucc := okIns_succ d.inputs i
      rw [hp, Bool.true_and] at hsucc
      have hok : okIn d.inputs i = (decide ((N.parseR d.inputs[i]).2.2 = 0) && (decide (i = 0) || !(ltB d.inputs[i] (d.inputs.getD (i - 1) []) || strEq ⟨d.inputs[i].toArray⟩ ⟨(d.inputs.getD (i - 1) []).toArray⟩))) := by
        unfold okIn; rw [show d.inputs.getD i [] = d.inputs[i] from by simp [List.getD, hi']]
      by_cases q1 : (N.parseR d.inputs[i]).2.2 = 0
      · cases i with
        | zero =>
          have hok0 : okIn d.inputs 0 = true := by rw [hok]; simp [q1]
          rw [Nat.add_zero] at hr1
          have g0 : (0 : Int) < (d.inputs.length : Int) := by omega
          repeat first | simp (implicitDefEqProofs := false) (maxSteps := 1000000) (disch := first | omega | with_reducible assumption | (simp only [lenT, Nat.reduceAdd]; omega)) only [amT, cut, bnd, Nat.reduceBEq, reduceCtorEq, Nat.reduceEqDiff, Nat.reduceAdd, Nat.reduceMul, Nat.reduceSub, Int.reduceToNat, Int.reduceEq, Int.reduceLT, Int.reduceLE, Int.reduceAdd, Int.reduceSub, Int.reduceMul, reduceIte, resVs, resV, packV, initT, addr, F17_l0, t1, t3, g0, hr1, kP, q1, undef] | refine OrW.go ?_
          rw [LoopK_normal]; refine ⟨_, ?_, 1, rfl, rfl, ?qm, ?q1, ?q3, ?_⟩
          case qm | q1 | q3 => first | rfl | (simp (implicitDefEqProofs := false) (maxSteps := 1000000) (disch := first | omega | with_reducible assumption | (simp only [lenT, Nat.reduceAdd]; omega)) only [amT, cut, bnd, Nat.reduceBEq, reduceCtorEq, Nat.reduceEqDiff, Nat.reduceAdd, Nat.reduceMul, Nat.reduceSub, Int.reduceToNat, Int.reduceEq, Int.reduceLT, Int.reduceLE, Int.reduceAdd, Int.reduceSub, Int.reduceMul, reduceIte, resVs, resV, packV, initT, addr, t1, t3]; first | done | rfl | (congr 1; omega))
          · omega
          · exact ⟨by omega, by rw [hsucc, hok0]⟩
        | succ k =>
          obtain ⟨b', o', hbe, hb', hr0⟩ := ha k (by omega)
          cases hbe
          have hik : ((k + 1 : Nat) : Int) - 1 = (k : Int) := by omega
          have hk0 : (0 : Int) < ((k + 1 : Nat) : Int) := by omega
          have hkk : d.inputs.getD (k + 1 - 1) [] = d.inputs[k] := by simp [List.getD, show k < d.inputs.length by omega]
          rw [hkk] at hok
          rw [← strLt_mk] at hok
          generalize hlt : (strLt ⟨d.inputs[k + 1].toArray⟩ ⟨d.inputs[k].toArray⟩ || strEq ⟨d.inputs[k + 1].toArray⟩ ⟨d.inputs[k].toArray⟩) = le at hok
          cases le with
          | true =>
            have hbad : okIns d.inputs d.inputs.length = false := okIns_bad hi' (by rw [hok]; simp)
            rw [hbad]
            repeat first | simp (implicitDefEqProofs := false) (maxSteps := 1000000) (disch := first | omega | with_reducible assumption | (simp only [lenT, Nat.reduceAdd]; omega)) only [amT, cut, bnd, Nat.reduceBEq, reduceCtorEq, Nat.reduceEqDiff, Nat.reduceAdd, Nat.reduceMul, Nat.reduceSub, Int.reduceToNat, Int.reduceEq, Int.reduceLT, Int.reduceLE, Int.reduceAdd, Int.reduceSub, Int.reduceMul, reduceIte, resVs, resV, packV, initT, addr, F17_l0, t1, t3, g, hr1, kP, q1, hik, hk0, hr0, binV_sleq, hlt] | refine OrW.go ?_
          | false =>
            repeat first | simp (implicitDefEqProofs := false) (maxSteps := 1000000) (disch := first | omega | with_reducible assumption | (simp only [lenT, Nat.reduceAdd]; omega)) only [amT, cut, bnd, Nat.reduceBEq, reduceCtorEq, Nat.reduceEqDiff, Nat.reduceAdd, Nat.reduceMul, Nat.reduceSub, Int.reduceToNat, Int.reduceEq, Int.reduceLT, Int.reduceLE, Int.reduceAdd, Int.reduceSub, Int.reduceMul, reduceIte, resVs, resV, packV, initT, addr, F17_l0, t1, t3, g, hr1, kP, q1, hik, hk0, hr0, binV_sleq, hlt] | refine OrW.go ?_
            rw [LoopK_normal]; refine ⟨_, ?_, k + 1 + 1, rfl, rfl, ?qm, ?q1, ?q3, ?_⟩
            case qm | q1 | q3 => first | rfl | (simp (implicitDefEqProofs := false) (maxSteps := 1000000) (disch := first | omega | with_reducible assumption | (simp only [lenT, Nat.reduceAdd]; omega)) only [amT, cut, bnd, Nat.reduceBEq, reduceCtorEq, Nat.reduceEqDiff, Nat.reduceAdd, Nat.reduceMul, Nat.reduceSub, Int.reduceToNat, Int.reduceEq, Int.reduceLT, Int.reduceLE, Int.reduceAdd, Int.reduceSub, Int.reduceMul, reduceIte, resVs, resV, packV, initT, addr, t1, t3]; first | done | rfl | (congr 1; omega))
            · omega
            · exact ⟨by omega, by rw [hsucc, hok]; simp [q1]⟩
      · have hbad : okIns d.inputs d.inputs.length = false := okIns_bad hi' (by rw [hok]; simp [q1])
        rw [hbad]
        repeat first | simp (implicitDefEqProofs := false) (maxSteps := 1000000) (disch := first | omega | with_reducible assumption | (simp only [lenT, Nat.reduceAdd]; omega)) only [amT, cut, bnd, Nat.reduceBEq, reduceCtorEq, Nat.reduceEqDiff, Nat.reduceAdd, Nat.reduceMul, Nat.reduceSub, Int.reduceToNat, Int.reduceEq, Int.reduceLT, Int.reduceLE, Int.reduceAdd, Int.reduceSub, Int.reduceMul, reduceIte, resVs, resV, packV, initT, addr, F17_l0, t1, t3, g, hr1, kP, q1, undef] | refine OrW.go ?_
    · obtain rfl : i = d.inputs.length := by omega
      rw [hp]
      repeat first | simp (implicitDefEqProofs := false) (maxSteps := 1000000) (disch := first | omega | with_reducible assumption | (simp only [lenT, Nat.reduceAdd]; omega)) only [amT, cut, bnd, Nat.reduceBEq, reduceCtorEq, Nat.reduceEqDiff, Nat.reduceAdd, Nat.reduceMul, Nat.reduceSub, Int.reduceToNat, Int.reduceEq, Int.reduceLT, Int.reduceLE, Int.reduceAdd, Int.reduceSub, Int.reduceMul, reduceIte, resVs, resV, packV, initT, addr, F17_l0, t1, t3, g] | refine OrW.go ?_
end Go.Proofs.YtgkmlbkocgjmmaaDoor
namespace Go.Proofs.YtgkmlbkocgjmmaaDoor.S
open Go Go.AM
set_option maxRecDepth 100000
set_option linter.unusedVariables false
set_option linter.unusedSimpArgs false

theorem kR_all (k : Nat) (h1 : 1 ≤ k) (h2 : k ≤ 31) (m : AMem) (x : UInt32) : Known Tryd.prog 3 81 [.int .i64 (k : Int), w32 x] m (w32 (rotr k x)) m := DetC.known (r_ok m x k h1 h2)
theorem kR17 {m : AMem} {x : UInt32} : Known Tryd.prog 3 81 [.int .i64 17, w32 x] m (w32 (rotr 17 x)) m := kR_all 17 (by omega) (by omega) m x
theorem kR19 {m : AMem} {x : UInt32} : Known Tryd.prog 3 81 [.int .i64 19, w32 x] m (w32 (rotr 19 x)) m := kR_all 19 (by omega) (by omega) m x
theorem kR7 {m : AMem} {x : UInt32} : Known Tryd.prog 3 81 [.int .i64 7, w32 x] m (w32 (rotr 7 x)) m := kR_all 7 (by omega) (by omega) m x
theorem kR18 {m : AMem} {x : UInt32} : Known Tryd.prog 3 81 [.int .i64 18, w32 x] m (w32 (rotr 18 x)) m := kR_all 18 (by omega) (by omega) m x
theorem kR6 {m : AMem} {x : UInt32} : Known Tryd.prog 3 81 [.int .i64 6, w32 x] m (w32 (rotr 6 x)) m := kR_all 6 (by omega) (by omega) m x
theorem kR11 {m : AMem} {x : UInt32} : Known Tryd.prog 3 81 [.int .i64 11, w32 x] m (w32 (rotr 11 x)) m := kR_all 11 (by omega) (by omega) m x
theorem kR25 {m : AMem} {x : UInt32} : Known Tryd.prog 3 81 [.int .i64 25, w32 x] m (w32 (rotr 25 x)) m := kR_all 25 (by omega) (by omega) m x
theorem kR2 {m : AMem} {x : UInt32} : Known Tryd.prog 3 81 [.int .i64 2, w32 x] m (w32 (rotr 2 x)) m := kR_all 2 (by omega) (by omega) m x
theorem kR13 {m : AMem} {x : UInt32} : Known Tryd.prog 3 81 [.int .i64 13, w32 x] m (w32 (rotr 13 x)) m := kR_all 13 (by omega) (by omega) m x
theorem kR22 {m : AMem} {x : UInt32} : Known Tryd.prog 3 81 [.int .i64 22, w32 x] m (w32 (rotr 22 x)) m := kR_all 22 (by omega) (by omega) m x
theorem shl24 {k : IntKind} {x : UInt32} : binV .shl (w32 x) (.int k 24) = some (w32 (shlW x 24)) := binV_shlw (b := 24) (by omega)
theorem shl16 {k : IntKind} {x : UInt32} : binV .shl (w32 x) (.int k 16) = some (w32 (shlW x 16)) := binV_shlw (b := 16) (by omega)
theorem shl8 {k : IntKind} {x : UInt32} : binV .shl (w32 x) (.int k 8) = some (w32 (shlW x 8)) := binV_shlw (b := 8) (by omega)
theorem shr10 {k : IntKind} {x : UInt32} : binV .shr (w32 x) (.int k 10) = some (w32 (shrW x 10)) := binV_shrw (b := 10) (by omega)
theorem shr3 {k : IntKind} {x : UInt32} : binV .shr (w32 x) (.int k 3) = some (w32 (shrW x 3)) := binV_shrw (b := 3) (by omega)
theorem fill_w {z : List Value} {o : Nat} {r : List (Nat × Nat × Value)} {x : UInt32} (h : o < z.length) : fill z ((o, 1, w32 x) :: r) = fill (z.set o (w32 x)) r := fill_one rfl h

theorem step4 (x : UInt32) (c : UInt8) : (shlW x 8 ||| UInt32.ofNat c.toNat).toNat = (x.toNat * 256 + c.toNat) % 2 ^ 32 := by
  have hc := c.toNat_lt
  have hx := x.toNat_lt
  rw [UInt32.toNat_or]
  have h1 : (shlW x 8).toNat = 2 ^ 8 * (x.toNat % 2 ^ 24) := by
    simp only [shlW, UInt32.toNat_ofNat, Nat.shiftLeft_eq]
    simp; omega
  have h2 : (UInt32.ofNat c.toNat).toNat = c.toNat := by simp
  rw [h1, h2, ← Nat.two_pow_add_eq_or_of_lt (by omega)]
  omega
theorem word4_sum (a b c d : UInt8) : word4 [a, b, c, d] = shlW (UInt32.ofNat a.toNat) 24 + shlW (UInt32.ofNat b.toNat) 16 + shlW (UInt32.ofNat c.toNat) 8 + UInt32.ofNat d.toNat := by
  apply UInt32.toNat_inj.1
  have ha := a.toNat_lt; have hb := b.toNat_lt; have hc := c.toNat_lt; have hd := d.toNat_lt
  have hs : ∀ (x : UInt8) (k : Nat), (shlW (UInt32.ofNat x.toNat) k).toNat = x.toNat * 2 ^ k % 2 ^ 32 := fun x k => by
    have := x.toNat_lt
    simp [shlW, Nat.shiftLeft_eq, Nat.mod_eq_of_lt (show x.toNat < 4294967296 by omega)]
  have h2 : (UInt32.ofNat d.toNat).toNat = d.toNat := by simp
  simp only [word4, List.foldl_cons, List.foldl_nil, step4, UInt32.toNat_add, hs, h2]
  simp; omega

theorem schedule_ok (m : AMem) (b o cap : Nat) (c : List UInt8) (X : List Value) (e : TypeId) (w : Bool) (sp : Spare) (hb : b < m.size) (hm : m.get b = .cells X e w sp) (h64 : c.length = 64) (hX : ∀ i (h : i < c.length), X[o + i]? = some (byteV c[i])) :
    DetC Tryd.prog 3 80 [.slice (some ⟨b, o, none⟩) 64 cap] m (.slice (some ⟨m.size, 0, none⟩) 64 openCap) (mx m [.cells ((sched c 64).map w32) 91 true (.room [.int .u32 0])]) := by
  refine det_of_W (fn := Tryd.f80) rfl rfl F80_ok (by simp [F80]) ?_
  have hlen : ∀ j, ((sched c j).map w32).length = j := fun j => by rw [List.length_map, sched_length]
  simp (implicitDefEqProofs := false) (maxSteps := 1000000) (disch := first | omega | with_reducible assumption | (simp only [lenT, Nat.reduceAdd]; omega)) only [amT, cut, bnd, Nat.reduceBEq, reduceCtorEq, Nat.reduceEqDiff, Nat.reduceAdd, Nat.reduceMul, Nat.reduceSub, Int.reduceToNat, Int.reduceEq, Int.reduceLT, Int.reduceLE, Int.reduceAdd, Int.reduceSub, Int.reduceMul, reduceIte, resVs, resV, packV, initT, addr, F80]
  refine W_loop (fun N qs => ∃ (i : Nat) (M : AMem) (av : Option Addr) (cv : Nat), N = 16 - i ∧ qs.ds = [] ∧ qs.m = mx M [] ∧ qs.t 0 = .slice (some ⟨b, o, none⟩) 64 cap ∧ qs.t 3 = .slice av i cv ∧ qs.t 4 = .int .i64 i ∧ i ≤ 16 ∧ Old m M ∧ Buf m M (.slice av i cv) ((sched c i).map w32) 91 (.int .u32 0)) (16 - (0)) ⟨0, mx m [], none, 0, rfl, rfl, ?qm, ?q0, ?q3, ?q4, ?_⟩ ?_
  case qm | q0 | q3 | q4 => first | rfl | (simp (implicitDefEqProofs := false) (maxSteps := 1000000) (disch := first | omega | with_reducible assumption | (simp only [lenT, Nat.reduceAdd]; omega)) only [amT, cut, bnd, Nat.reduceBEq, reduceCtorEq, Nat.reduceEqDiff, Nat.reduceAdd, Nat.reduceMul, Nat.reduceSub, Int.reduceToNat, Int.reduceEq, Int.reduceLT, Int.reduceLE, Int.reduceAdd, Int.reduceSub, Int.reduceMul, reduceIte, resVs, resV, packV, initT, addr]; first | done | rfl | (congr 1; omega))
  · exact ⟨by omega, Old.here _ _, .inl ⟨rfl, rfl⟩⟩
  · rintro N t m1 ds ⟨i, M, av, cv, rfl, hds, hm, t0, t3, t4, hp⟩
    simp only at hds hm t0 t3 t4
    subst hds; replace hm := hm.symm; subst hm
    obtain ⟨hi16, hO, hB⟩ := hp
    by_cases hi : (i : Int) < 16
    · have e0 : (4 : Int) * (i : Int) = ((4 * i : Nat) : Int) := by omega
      have e1 : ((4 * i : Nat) : Int) + 1 = ((4 * i + 1 : Nat) : Int) := by omega
      have e2 : ((4 * i : Nat) : Int) + 2 = ((4 * i + 2 : Nat) : Int) := by omega
      have e3 : ((4 * i : Nat) : Int) + 3 = ((4 * i + 3 : Nat) : Int) := by omega
      have hMb : M.get b = .cells X e w sp := by rw [hO.2 b hb]; exact hm
      have hbM : b < M.size := Nat.lt_of_lt_of_le hb hO.1
      have x0 := hX (4 * i) (by omega)
      have x1 := hX (4 * i + 1) (by omega)
      have x2 := hX (4 * i + 2) (by omega)
      have x3 := hX (4 * i + 3) (by omega)
      generalize hc0 : c[4 * i]'(by omega) = c0 at x0
      generalize hc1 : c[4 * i + 1]'(by omega) = c1 at x1
      generalize hc2 : c[4 * i + 2]'(by omega) = c2 at x2
      generalize hc3 : c[4 * i + 3]'(by omega) = c3 at x3
      have l0 := c0.toNat_lt; have l1 := c1.toNat_lt; have l2 := c2.toNat_lt; have l3 := c3.toNat_lt
      have hw : wordAt c (sched c i) i = shlW (UInt32.ofNat c0.toNat) 24 + shlW (UInt32.ofNat c1.toNat) 16 + shlW (UInt32.ofNat c2.toNat) 8 + UInt32.ofNat c3.toNat := by
        unfold wordAt; rw [if_pos (by omega), ← word4_sum]
        congr 1
        rw [List.drop_eq_getElem_cons (show 4 * i < c.length by omega), List.drop_eq_getElem_cons (show 4 * i + 1 < c.length by omega), List.drop_eq_getElem_cons (show 4 * i + 1 + 1 < c.length by omega), List.drop_eq_getElem_cons (show 4 * i + 1 + 1 + 1 < c.length by omega)]
        simp only [List.take_succ_cons, List.take_zero, hc0, hc1, hc2, hc3]
      obtain ⟨v', M', happ, hB', hF⟩ := hB.app1 (e2 := 91) (x := w32 (wordAt c (sched c i) i)) (bytes := 4) hO.1 rfl rfl (by rw [hlen]; omega) (by rw [hlen]; omega)
      have hO' := hO.fr hF hB.new
      have hnx : (sched c i).map w32 ++ [w32 (wordAt c (sched c i) i)] = (sched c (i + 1)).map w32 := by simp [sched]
      rw [hnx] at hB'
      obtain ⟨av', cv', rfl⟩ := hB'.len
      rw [hlen] at happ hB'
      rw [hw] at happ
      simp (implicitDefEqProofs := false) (maxSteps := 1000000) (disch := first | omega | with_reducible assumption | (simp only [lenT, Nat.reduceAdd]; omega)) only [amT, cut, bnd, Nat.reduceBEq, reduceCtorEq, Nat.reduceEqDiff, Nat.reduceAdd, Nat.reduceMul, Nat.reduceSub, Int.reduceToNat, Int.reduceEq, Int.reduceLT, Int.reduceLE, Int.reduceAdd, Int.reduceSub, Int.reduceMul, reduceIte, resVs, resV, packV, initT, addr, F80_l0, t0, t3, t4, hi, e0, e1, e2, e3, hMb, x0, x1, x2, x3, byteV_def, w32_of_byte, shl24, shl16, shl8, amW, fill_w, stepOp_app_v, happ]
      rw [LoopK_normal]; refine ⟨_, ?_, i + 1, M', av', cv', rfl, rfl, ?qm, ?q0, ?q3, ?q4, ?_⟩
      case qm | q0 | q3 | q4 => first | rfl | (simp (implicitDefEqProofs := false) (maxSteps := 1000000) (disch := first | omega | with_reducible assumption | (simp only [lenT, Nat.reduceAdd]; omega)) only [amT, cut, bnd, Nat.reduceBEq, reduceCtorEq, Nat.reduceEqDiff, Nat.reduceAdd, Nat.reduceMul, Nat.reduceSub, Int.reduceToNat, Int.reduceEq, Int.reduceLT, Int.reduceLE, Int.reduceAdd, Int.reduceSub, Int.reduceMul, reduceIte, resVs, resV, packV, initT, addr, t0, t3, t4]; first | done | rfl | (congr 1; omega))
      · omega
      · exact ⟨by omega, hO', hB'⟩
    · have h16 : i = 16 := by omega
      subst h16
      simp (implicitDefEqProofs := false) (maxSteps := 1000000) (disch := first | omega | with_reducible assumption | (simp only [lenT, Nat.reduceAdd]; omega)) only [amT, cut, bnd, Nat.reduceBEq, reduceCtorEq, Nat.reduceEqDiff, Nat.reduceAdd, Nat.reduceMul, Nat.reduceSub, Int.reduceToNat, Int.reduceEq, Int.reduceLT, Int.reduceLE, Int.reduceAdd, Int.reduceSub, Int.reduceMul, reduceIte, resVs, resV, packV, initT, addr, F80_l0, t0, t3, t4]
      clear hi hi16
      refine W_loop (fun N qs => ∃ (i : Nat) (M : AMem) (av : Option Addr) (cv : Nat), N = 64 - i ∧ qs.ds = [] ∧ qs.m = mx M [] ∧ qs.t 3 = .slice av i cv ∧ qs.t 5 = .int .i64 i ∧ 16 ≤ i ∧ i ≤ 64 ∧ Old m M ∧ Buf m M (.slice av i cv) ((sched c i).map w32) 91 (.int .u32 0)) (64 - (16)) ⟨16, M, av, cv, rfl, rfl, ?qm, ?q3, ?q5, ?_⟩ ?_
      case qm | q3 | q5 => first | rfl | (simp (implicitDefEqProofs := false) (maxSteps := 1000000) (disch := first | omega | with_reducible assumption | (simp only [lenT, Nat.reduceAdd]; omega)) only [amT, cut, bnd, Nat.reduceBEq, reduceCtorEq, Nat.reduceEqDiff, Nat.reduceAdd, Nat.reduceMul, Nat.reduceSub, Int.reduceToNat, Int.reduceEq, Int.reduceLT, Int.reduceLE, Int.reduceAdd, Int.reduceSub, Int.reduceMul, reduceIte, resVs, resV, packV, initT, addr, t0, t3, t4]; first | done | rfl | (congr 1; omega))
      · exact ⟨by omega, by omega, hO, hB⟩
      · clear t0 t3 t4 hO hB
        rintro N t m1 ds ⟨i, M, av, cv, rfl, hds, hm, t3, t5, hp⟩
        simp only at hds hm t3 t5
        subst hds; replace hm := hm.symm; subst hm
        obtain ⟨hi16, hi64, hO, hB⟩ := hp
        by_cases hi : (i : Int) < 64
        · have e1 : (i : Int) - 2 = ((i - 2 : Nat) : Int) := by omega
          have e2 : (i : Int) - 7 = ((i - 7 : Nat) : Int) := by omega
          have e3 : (i : Int) - 15 = ((i - 15 : Nat) : Int) := by omega
          have e4 : (i : Int) - 16 = ((i - 16 : Nat) : Int) := by omega
          have hsl := sched_length c i
          obtain ⟨bb, b1, b2, rfl, _, rfl, b3⟩ := hB.blk (by intro h; rw [List.map_eq_nil_iff] at h; rw [h] at hsl; simp at hsl; omega)
          have hw : wordAt c (sched c i) i = (rotr 17 ((sched c i)[i - 2]'(by omega)) ^^^ rotr 19 ((sched c i)[i - 2]'(by omega)) ^^^ shrW ((sched c i)[i - 2]'(by omega)) 10) + (sched c i)[i - 7]'(by omega) + (rotr 7 ((sched c i)[i - 15]'(by omega)) ^^^ rotr 18 ((sched c i)[i - 15]'(by omega)) ^^^ shrW ((sched c i)[i - 15]'(by omega)) 3) + (sched c i)[i - 16]'(by omega) := by
            unfold wordAt; rw [if_neg (by omega)]
            simp only [List.getD_eq_getElem?_getD, List.getElem?_eq_getElem (show i - 2 < (sched c i).length by omega), List.getElem?_eq_getElem (show i - 7 < (sched c i).length by omega), List.getElem?_eq_getElem (show i - 15 < (sched c i).length by omega), List.getElem?_eq_getElem (show i - 16 < (sched c i).length by omega), Option.getD_some]
            rfl
          obtain ⟨v', M', happ, hB', hF⟩ := hB.app1 (e2 := 91) (x := w32 (wordAt c (sched c i) i)) (bytes := 4) hO.1 rfl rfl (by rw [hlen]; omega) (by rw [hlen]; omega)
          have hO' := hO.fr hF hB.new
          have hnx : (sched c i).map w32 ++ [w32 (wordAt c (sched c i) i)] = (sched c (i + 1)).map w32 := by simp [sched]
          rw [hnx] at hB'
          obtain ⟨av', cv', rfl⟩ := hB'.len
          rw [hlen] at happ hB'
          rw [hw] at happ
          simp (implicitDefEqProofs := false) (maxSteps := 1000000) (disch := first | omega | with_reducible assumption | (simp only [lenT, Nat.reduceAdd]; omega)) only [amT, cut, bnd, Nat.reduceBEq, reduceCtorEq, Nat.reduceEqDiff, Nat.reduceAdd, Nat.reduceMul, Nat.reduceSub, Int.reduceToNat, Int.reduceEq, Int.reduceLT, Int.reduceLE, Int.reduceAdd, Int.reduceSub, Int.reduceMul, reduceIte, resVs, resV, packV, initT, addr, F80_l1, t3, t5, hi, e1, e2, e3, e4, b3, kR17, kR19, kR7, kR18, shr10, shr3, amW, fill_w, stepOp_app_v, happ]
          repeat refine OrW.go ?_
          rw [LoopK_normal]; refine ⟨_, ?_, i + 1, M', av', cv', rfl, rfl, ?qm, ?q3, ?q5, ?_⟩
          case qm | q3 | q5 => first | rfl | (simp (implicitDefEqProofs := false) (maxSteps := 1000000) (disch := first | omega | with_reducible assumption | (simp only [lenT, Nat.reduceAdd]; omega)) only [amT, cut, bnd, Nat.reduceBEq, reduceCtorEq, Nat.reduceEqDiff, Nat.reduceAdd, Nat.reduceMul, Nat.reduceSub, Int.reduceToNat, Int.reduceEq, Int.reduceLT, Int.reduceLE, Int.reduceAdd, Int.reduceSub, Int.reduceMul, reduceIte, resVs, resV, packV, initT, addr, t3, t5]; first | done | rfl | (congr 1; omega))
          · omega
          · exact ⟨by omega, by omega, hO', hB'⟩
        · have h64 : i = 64 := by omega
          subst h64
          simp (implicitDefEqProofs := false) (maxSteps := 1000000) (disch := first | omega | with_reducible assumption | (simp only [lenT, Nat.reduceAdd]; omega)) only [amT, cut, bnd, Nat.reduceBEq, reduceCtorEq, Nat.reduceEqDiff, Nat.reduceAdd, Nat.reduceMul, Nat.reduceSub, Int.reduceToNat, Int.reduceEq, Int.reduceLT, Int.reduceLE, Int.reduceAdd, Int.reduceSub, Int.reduceMul, reduceIte, resVs, resV, packV, initT, addr, F80_l1, t3, t5]
          intro _
          have := hB.kept hO (by intro h; have := hlen 64; rw [h] at this; simp at this) (fun v hv => by simp only [List.mem_map] at hv; obtain ⟨x, _, rfl⟩ := hv; exact plain_w32 _)
          rw [hlen] at this
          exact this
end Go.Proofs.YtgkmlbkocgjmmaaDoor.S
namespace Go.Proofs.YtgkmlbkocgjmmaaDoor.S
open Go Go.AM
set_option maxRecDepth 100000
set_option linter.unusedVariables false
set_option linter.unusedSimpArgs false

theorem changed_ok (m : AMem) (b o cap : Nat) (c : List UInt8) (X : List Value) (e : TypeId) (w : Bool) (sp : Spare) (hb : b < m.size) (hm : m.get b = .cells X e w sp) (h64 : c.length = 64) (hX : ∀ i (h : i < c.length), X[o + i]? = some (byteV c[i]))
    (bs cs : Nat) (S : List UInt32) (es : TypeId) (ws : Bool) (ss : Spare) (hbs : bs < m.size) (hms : m.get bs = .cells (S.map w32) es ws ss) (hS : S.length = 8)
    (bk ck : Nat) (K : List UInt32) (ek : TypeId) (wk : Bool) (sk : Spare) (hbk : bk < m.size) (hmk : m.get bk = .cells (K.map w32) ek wk sk) (hK : K.length = 64) :
    DetC Tryd.prog 3 64 [.slice (some ⟨bs, 0, none⟩) 8 cs, .slice (some ⟨bk, 0, none⟩) 64 ck, .slice (some ⟨b, o, none⟩) 64 cap] m (.slice (some ⟨m.size, 0, none⟩) 8 openCap)
      (mx m [.cells ((zip2 S (roundsW K c S 64)).map w32) 91 true (.room [.int .u32 0])]) := by
  refine det_of_W (fn := Tryd.f64) rfl rfl F64_ok (by simp [F64]) ?_
  have hsch := DetC.known (schedule_ok (mx m []) b o cap c X e w sp (by rw [mx_size]; simp; omega) ((mx_old hb).trans hm) h64 hX)
  have hz0 : (mx m []).size = m.size := rfl
  rw [hz0] at hsch
  have hsl := sched_length c 64
  simp (implicitDefEqProofs := false) (maxSteps := 1000000) (disch := first | omega | with_reducible assumption | (simp only [lenT, Nat.reduceAdd]; omega)) only [amT, cut, bnd, Nat.reduceBEq, reduceCtorEq, Nat.reduceEqDiff, Nat.reduceAdd, Nat.reduceMul, Nat.reduceSub, Int.reduceToNat, Int.reduceEq, Int.reduceLT, Int.reduceLE, Int.reduceAdd, Int.reduceSub, Int.reduceMul, reduceIte, resVs, resV, packV, initT, addr, F64, hsch]
  repeat refine OrW.go ?_
  refine W_loop (fun N qs => ∃ (i : Nat) (M : AMem) (b8 c8 : Nat) (e8 : TypeId) (w8 : Bool) (s8 : Spare), N = 64 - i ∧ qs.ds = [] ∧ qs.m = mx M [] ∧ qs.t 0 = .slice (some ⟨bs, 0, none⟩) 8 cs ∧ qs.t 1 = .slice (some ⟨bk, 0, none⟩) 64 ck ∧ qs.t 7 = .slice (some ⟨m.size, 0, none⟩) 64 openCap ∧ qs.t 8 = .slice (some ⟨b8, 0, none⟩) 8 c8 ∧ qs.t 9 = .int .i64 i ∧ i ≤ 64 ∧ Old m M ∧ m.size < M.size ∧ M.get m.size = .cells ((sched c 64).map w32) 91 true (.room [.int .u32 0]) ∧ b8 < M.size ∧ M.get b8 = .cells ((roundsW K c S i).map w32) e8 w8 s8) (64 - (0)) ⟨0, mx m [.cells ((sched c 64).map w32) 91 true (.room [.int .u32 0])], bs, cs, es, ws, ss, rfl, rfl, ?qm, ?q0, ?q1, ?q7, ?q8, ?q9, ?_⟩ ?_
  case qm | q0 | q1 | q7 | q8 | q9 => first | rfl | (simp (implicitDefEqProofs := false) (maxSteps := 1000000) (disch := first | omega | with_reducible assumption | (simp only [lenT, Nat.reduceAdd]; omega)) only [amT, cut, bnd, Nat.reduceBEq, reduceCtorEq, Nat.reduceEqDiff, Nat.reduceAdd, Nat.reduceMul, Nat.reduceSub, Int.reduceToNat, Int.reduceEq, Int.reduceLT, Int.reduceLE, Int.reduceAdd, Int.reduceSub, Int.reduceMul, reduceIte, resVs, resV, packV, initT, addr]; first | done | rfl | (congr 1; omega))
  · exact ⟨by omega, Old.here _ _, by rw [mx_size]; simp, mx_new0 _ _, by rw [mx_size]; omega, (mx_old hbs).trans hms⟩
  · rintro N t m1 ds ⟨i, M, b8, c8, e8, w8, s8, rfl, hds, hm, t0, t1, t7, t8, t9, hp⟩
    simp only at hds hm t0 t1 t7 t8 t9
    subst hds; replace hm := hm.symm; subst hm
    obtain ⟨hi64, hO, hW, hMW, hb8, hM8⟩ := hp
    have hMk : M.get bk = .cells (K.map w32) ek wk sk := (hO.2 bk hbk).trans hmk
    have hMs : M.get bs = .cells (S.map w32) es ws ss := (hO.2 bs hbs).trans hms
    have hkM : bk < M.size := Nat.lt_of_lt_of_le hbk hO.1
    have hsM : bs < M.size := Nat.lt_of_lt_of_le hbs hO.1
    have hR : (roundsW K c S i).length = 8 := by rw [roundsW_length, hS]
    by_cases hi : (i : Int) < 64
    · have hn : roundsW K c S (i + 1) = roundW (roundsW K c S i) (K[i]'(by omega)) ((sched c 64)[i]'(by omega)) := by
        simp [roundsW, hK, hsl, show i < 64 by omega]
      obtain ⟨x0, x1, x2, x3, x4, x5, x6, x7, hx⟩ := len8 hR
      rw [hx] at hn hM8
      simp only [List.map_cons, List.map_nil] at hM8
      simp (implicitDefEqProofs := false) (maxSteps := 1000000) (disch := first | omega | with_reducible assumption | (simp only [lenT, Nat.reduceAdd]; omega)) only [amT, cut, bnd, Nat.reduceBEq, reduceCtorEq, Nat.reduceEqDiff, Nat.reduceAdd, Nat.reduceMul, Nat.reduceSub, Int.reduceToNat, Int.reduceEq, Int.reduceLT, Int.reduceLE, Int.reduceAdd, Int.reduceSub, Int.reduceMul, reduceIte, resVs, resV, packV, initT, addr, F64_l0, t0, t1, t7, t8, t9, hi, hMk, hMW, hM8, amW, fill_w, kR6, kR11, kR25, kR2, kR13, kR22]
      repeat refine OrW.go ?_
      rw [LoopK_normal]; refine ⟨_, ?_, i + 1, mx M [.cells ((roundsW K c S (i + 1)).map w32) 91 true .exact], M.size, 8, 91, true, .exact, rfl, rfl, ?qm, ?q0, ?q1, ?q7, ?q8, ?q9, ?_⟩
      case qm | q0 | q1 | q7 | q8 | q9 => first | rfl | (simp (implicitDefEqProofs := false) (maxSteps := 1000000) (disch := first | omega | with_reducible assumption | (simp only [lenT, Nat.reduceAdd]; omega)) only [amT, cut, bnd, Nat.reduceBEq, reduceCtorEq, Nat.reduceEqDiff, Nat.reduceAdd, Nat.reduceMul, Nat.reduceSub, Int.reduceToNat, Int.reduceEq, Int.reduceLT, Int.reduceLE, Int.reduceAdd, Int.reduceSub, Int.reduceMul, reduceIte, resVs, resV, packV, initT, addr, t0, t1, t7, t8, t9, hn, roundW, turnedW, ch_eq, maj_eq, List.map_cons, List.map_nil]; first | done | rfl | (congr 1; omega))
      · omega
      · exact ⟨by omega, hO.mx _, by rw [mx_size]; omega, (mx_old hW).trans hMW, by rw [mx_size]; simp, mx_new0 _ _⟩
    · have hi' : i = 64 := by omega
      subst hi'
      generalize hV : roundsW K c S 64 = V at *
      simp (implicitDefEqProofs := false) (maxSteps := 1000000) (disch := first | omega | with_reducible assumption | (simp only [lenT, Nat.reduceAdd]; omega)) only [amT, cut, bnd, Nat.reduceBEq, reduceCtorEq, Nat.reduceEqDiff, Nat.reduceAdd, Nat.reduceMul, Nat.reduceSub, Int.reduceToNat, Int.reduceEq, Int.reduceLT, Int.reduceLE, Int.reduceAdd, Int.reduceSub, Int.reduceMul, reduceIte, resVs, resV, packV, initT, addr, F64_l0, t0, t1, t7, t8, t9]
      have hzl : (zip2 S V).length = 8 := zip2_length hS hR
      have hlen : ∀ j, j ≤ 8 → (((zip2 S V).take j).map w32).length = j := fun j hj => by rw [List.length_map, List.length_take]; omega
      refine W_loop (fun N qs => ∃ (j : Nat) (M1 : AMem) (av : Option Addr) (cv : Nat), N = 8 - j ∧ qs.ds = [] ∧ qs.m = mx M1 [] ∧ qs.t 0 = .slice (some ⟨bs, 0, none⟩) 8 cs ∧ qs.t 8 = .slice (some ⟨b8, 0, none⟩) 8 c8 ∧ qs.t 18 = .slice av j cv ∧ qs.t 19 = .int .i64 j ∧ j ≤ 8 ∧ Old M M1 ∧ Buf M M1 (.slice av j cv) (((zip2 S V).take j).map w32) 91 (.int .u32 0)) (8 - (0)) ⟨0, mx M [], none, 0, rfl, rfl, ?qm, ?q0, ?q8, ?q18, ?q19, ?_⟩ ?_
      case qm | q0 | q8 | q18 | q19 => first | rfl | (simp (implicitDefEqProofs := false) (maxSteps := 1000000) (disch := first | omega | with_reducible assumption | (simp only [lenT, Nat.reduceAdd]; omega)) only [amT, cut, bnd, Nat.reduceBEq, reduceCtorEq, Nat.reduceEqDiff, Nat.reduceAdd, Nat.reduceMul, Nat.reduceSub, Int.reduceToNat, Int.reduceEq, Int.reduceLT, Int.reduceLE, Int.reduceAdd, Int.reduceSub, Int.reduceMul, reduceIte, resVs, resV, packV, initT, addr, t0, t1, t7, t8, t9]; first | done | rfl | (congr 1; omega))
      · exact ⟨by omega, Old.here _ _, .inl ⟨rfl, rfl⟩⟩
      · clear t0 t1 t7 t8 t9 hi hi64
        rintro N t m1 ds ⟨j, M1, av, cv, rfl, hds, hm, t0, t8, t18, t19, hp⟩
        simp only at hds hm t0 t8 t18 t19
        subst hds; replace hm := hm.symm; subst hm
        obtain ⟨hj8, hO1, hB⟩ := hp
        have hbs1 : bs < M1.size := Nat.lt_of_lt_of_le hsM hO1.1
        have hb81 : b8 < M1.size := Nat.lt_of_lt_of_le hb8 hO1.1
        have hMs1 : M1.get bs = .cells (S.map w32) es ws ss := (hO1.2 bs hsM).trans hMs
        have hM81 : M1.get b8 = .cells (V.map w32) e8 w8 s8 := (hO1.2 b8 hb8).trans hM8
        by_cases hj : (j : Int) < 8
        · have hzg := zip2_get (a := S) (b := V) (i := j) (by omega) (by omega)
          obtain ⟨v', M', happ, hB', hF⟩ := hB.app1 (e2 := 91) (x := w32 (S[j]'(by omega) + V[j]'(by omega))) (bytes := 4) hO1.1 rfl rfl (by rw [hlen j hj8]; omega) (by rw [hlen j hj8]; omega)
          have hO' := hO1.fr hF hB.new
          have hnx : ((zip2 S V).take j).map w32 ++ [w32 (S[j]'(by omega) + V[j]'(by omega))] = ((zip2 S V).take (j + 1)).map w32 := by
            rw [List.take_succ_eq_append_getElem (by omega), hzg]; simp
          rw [hnx] at hB'
          obtain ⟨av', cv', rfl⟩ := hB'.len
          rw [hlen (j + 1) (by omega)] at happ hB'
          simp (implicitDefEqProofs := false) (maxSteps := 1000000) (disch := first | omega | with_reducible assumption | (simp only [lenT, Nat.reduceAdd]; omega)) only [amT, cut, bnd, Nat.reduceBEq, reduceCtorEq, Nat.reduceEqDiff, Nat.reduceAdd, Nat.reduceMul, Nat.reduceSub, Int.reduceToNat, Int.reduceEq, Int.reduceLT, Int.reduceLE, Int.reduceAdd, Int.reduceSub, Int.reduceMul, reduceIte, resVs, resV, packV, initT, addr, F64_l1, t0, t8, t18, t19, hj, hMs1, hM81, amW, fill_w, stepOp_app_v, happ]
          rw [LoopK_normal]; refine ⟨_, ?_, j + 1, M', av', cv', rfl, rfl, ?qm, ?q0, ?q8, ?q18, ?q19, ?_⟩
          case qm | q0 | q8 | q18 | q19 => first | rfl | (simp (implicitDefEqProofs := false) (maxSteps := 1000000) (disch := first | omega | with_reducible assumption | (simp only [lenT, Nat.reduceAdd]; omega)) only [amT, cut, bnd, Nat.reduceBEq, reduceCtorEq, Nat.reduceEqDiff, Nat.reduceAdd, Nat.reduceMul, Nat.reduceSub, Int.reduceToNat, Int.reduceEq, Int.reduceLT, Int.reduceLE, Int.reduceAdd, Int.reduceSub, Int.reduceMul, reduceIte, resVs, resV, packV, initT, addr, t0, t8, t18, t19]; first | done | rfl | (congr 1; omega))
          · omega
          · exact ⟨by omega, hO', hB'⟩
        · have h8 : j = 8 := by omega
          subst h8
          rw [List.take_of_length_le (by omega)] at hB
          simp (implicitDefEqProofs := false) (maxSteps := 1000000) (disch := first | omega | with_reducible assumption | (simp only [lenT, Nat.reduceAdd]; omega)) only [amT, cut, bnd, Nat.reduceBEq, reduceCtorEq, Nat.reduceEqDiff, Nat.reduceAdd, Nat.reduceMul, Nat.reduceSub, Int.reduceToNat, Int.reduceEq, Int.reduceLT, Int.reduceLE, Int.reduceAdd, Int.reduceSub, Int.reduceMul, reduceIte, resVs, resV, packV, initT, addr, F64_l1, t0, t8, t18, t19]
          intro _
          have hB2 : Buf m M1 (.slice av 8 cv) ((zip2 S V).map w32) 91 (.int .u32 0) := by
            rcases hB with ⟨h, h'⟩ | ⟨x, h1, h2, h3⟩
            · exact .inl ⟨h, h'⟩
            · exact .inr ⟨x, Nat.le_trans hO.1 h1, h2, h3⟩
          have := hB2.kept (hO.trans hO1) (by intro h; have := hlen 8 (by omega); rw [List.take_of_length_le (by omega), h] at this; simp at this) (fun v hv => by simp only [List.mem_map] at hv; obtain ⟨x, _, rfl⟩ := hv; exact plain_w32 _)
          rw [List.length_map, hzl] at this
          exact this
end Go.Proofs.YtgkmlbkocgjmmaaDoor.S
namespace Go.Proofs.YtgkmlbkocgjmmaaDoor.S
open Go Go.AM
set_option maxRecDepth 100000
set_option linter.unusedVariables false
set_option linter.unusedSimpArgs false

theorem kDigit2 {m : AMem} {c : UInt8} : Known Tryd.prog 3 79 [.int .u8 (c.toNat : Int)] m (byteV (dgB c)) m := DetC.known (digit_ok m c)
theorem mul16 (x : UInt32) : binV .mul (w32 x) (.int .u32 16) = some (w32 (x * 16)) := by
  rw [w32_def, binV_mul, w32_def, show (x.toNat : Int) * 16 = ((x.toNat * 16 : Nat) : Int) by push_cast; rfl, wrap_u32n, UInt32.toNat_mul]; rfl
def wordsP (l : List UInt8) : Nat → List UInt32
  | 0 => List.replicate (l.length / 8) 0
  | i + 1 => (wordsP l i).set (i / 8) ((wordsP l i).getD (i / 8) 0 * 16 + UInt32.ofNat (dgB (l.getD i 0)).toNat)
theorem wordsP_length (l : List UInt8) : ∀ i, (wordsP l i).length = l.length / 8
  | 0 => by simp [wordsP]
  | i + 1 => by simp [wordsP, wordsP_length l i]
theorem rep_w (n : Nat) : rep [.int .u32 0] n = (List.replicate n (0 : UInt32)).map w32 := by
  simp only [rep, List.map_replicate]
  induction n with
  | zero => rfl
  | succ n ih => rw [List.replicate_succ, List.flatten_cons, ih]; rfl

theorem words_ok (m : AMem) (l : List UInt8) (h8 : l.length % 8 = 0) (hn : l.length ≤ 1000000) :
    DetC Tryd.prog 3 62 [.string ⟨l.toArray⟩] m (.slice (some ⟨m.size, 0, none⟩) (l.length / 8) (l.length / 8)) (mx m [.cells ((wordsP l l.length).map w32) 91 true .exact]) := by
  refine det_of_W (fn := Tryd.f62) rfl rfl F62_ok (by simp [F62]) ?_
  have e1 : ∀ i : Nat, (i : Int).tdiv 8 = ((i / 8 : Nat) : Int) := fun i => tdiv_nat i 8
  simp (implicitDefEqProofs := false) (maxSteps := 1000000) (disch := first | omega | with_reducible assumption | (simp only [lenT, Nat.reduceAdd]; omega)) only [amT, cut, bnd, Nat.reduceBEq, reduceCtorEq, Nat.reduceEqDiff, Nat.reduceAdd, Nat.reduceMul, Nat.reduceSub, Int.reduceToNat, Int.reduceEq, Int.reduceLT, Int.reduceLE, Int.reduceAdd, Int.reduceSub, Int.reduceMul, reduceIte, resVs, resV, packV, initT, addr, F62, e1, rep_w]
  refine W_loop (fun N qs => ∃ (i : Nat), N = l.length - i ∧ qs.ds = [] ∧ qs.m = mx m [.cells ((wordsP l i).map w32) 91 true .exact] ∧ qs.t 0 = .string ⟨l.toArray⟩ ∧ qs.t 3 = .slice (some ⟨m.size, 0, none⟩) (l.length / 8) (l.length / 8) ∧ qs.t 4 = .int .i64 i ∧ i ≤ l.length) (l.length - (0)) ⟨0, rfl, rfl, ?qm, ?q0, ?q3, ?q4, ?_⟩ ?_
  case qm | q0 | q3 | q4 => first | rfl | (simp (implicitDefEqProofs := false) (maxSteps := 1000000) (disch := first | omega | with_reducible assumption | (simp only [lenT, Nat.reduceAdd]; omega)) only [amT, cut, bnd, Nat.reduceBEq, reduceCtorEq, Nat.reduceEqDiff, Nat.reduceAdd, Nat.reduceMul, Nat.reduceSub, Int.reduceToNat, Int.reduceEq, Int.reduceLT, Int.reduceLE, Int.reduceAdd, Int.reduceSub, Int.reduceMul, reduceIte, resVs, resV, packV, initT, addr, wordsP]; first | done | rfl | (congr 1; omega))
  · omega
  · rintro N t m1 ds ⟨i, rfl, hds, hm, t0, t3, t4, hp⟩
    simp only at hds hm t0 t3 t4
    subst hds; replace hm := hm.symm; subst hm
    have hwl := wordsP_length l i
    by_cases hi : (i : Int) < (l.length : Int)
    · have hi' : i < l.length := by omega
      have hlt : i / 8 < (wordsP l i).length := by omega
      have hn : wordsP l (i + 1) = (wordsP l i).set (i / 8) ((wordsP l i)[i / 8] * 16 + UInt32.ofNat (dgB l[i]).toNat) := by
        rw [wordsP]; simp [hlt, hi']
      have hd := (dgB l[i]).toNat_lt
      simp (implicitDefEqProofs := false) (maxSteps := 1000000) (disch := first | omega | with_reducible assumption | (simp only [lenT, Nat.reduceAdd]; omega)) only [amT, cut, bnd, Nat.reduceBEq, reduceCtorEq, Nat.reduceEqDiff, Nat.reduceAdd, Nat.reduceMul, Nat.reduceSub, Int.reduceToNat, Int.reduceEq, Int.reduceLT, Int.reduceLE, Int.reduceAdd, Int.reduceSub, Int.reduceMul, reduceIte, resVs, resV, packV, initT, addr, F62_l0, t0, t3, t4, hi, e1, amW, mul16, kDigit2, byteV_def, w32_of_byte]
      repeat refine OrW.go ?_
      rw [LoopK_normal]; refine ⟨_, ?_, i + 1, rfl, rfl, ?qm, ?q0, ?q3, ?q4, ?_⟩
      case qm | q0 | q3 | q4 => first | rfl | (simp (implicitDefEqProofs := false) (maxSteps := 1000000) (disch := first | omega | with_reducible assumption | (simp only [lenT, Nat.reduceAdd]; omega)) only [amT, cut, bnd, Nat.reduceBEq, reduceCtorEq, Nat.reduceEqDiff, Nat.reduceAdd, Nat.reduceMul, Nat.reduceSub, Int.reduceToNat, Int.reduceEq, Int.reduceLT, Int.reduceLE, Int.reduceAdd, Int.reduceSub, Int.reduceMul, reduceIte, resVs, resV, packV, initT, addr, t0, t3, t4, hn]; first | done | rfl | (congr 1; omega))
      · omega
      · omega
    · have hi' : i = l.length := by omega
      subst hi'
      simp (implicitDefEqProofs := false) (maxSteps := 1000000) (disch := first | omega | with_reducible assumption | (simp only [lenT, Nat.reduceAdd]; omega)) only [amT, cut, bnd, Nat.reduceBEq, reduceCtorEq, Nat.reduceEqDiff, Nat.reduceAdd, Nat.reduceMul, Nat.reduceSub, Int.reduceToNat, Int.reduceEq, Int.reduceLT, Int.reduceLE, Int.reduceAdd, Int.reduceSub, Int.reduceMul, reduceIte, resVs, resV, packV, initT, addr, F62_l0, t0, t3, t4, hi]
      exact fun _ => ⟨_, [m.size], m, _, rfl, Kept.one (Nat.le_refl _) (by simp (implicitDefEqProofs := false) (maxSteps := 1000000) (disch := first | omega | with_reducible assumption | (simp only [lenT, Nat.reduceAdd]; omega)) only [amT, cut, bnd, Nat.reduceBEq, reduceCtorEq, Nat.reduceEqDiff, Nat.reduceAdd, Nat.reduceMul, Nat.reduceSub, Int.reduceToNat, Int.reduceEq, Int.reduceLT, Int.reduceLE, Int.reduceAdd, Int.reduceSub, Int.reduceMul, reduceIte, resVs, resV, packV, initT, addr]) (fun v hv => by simp only [List.mem_map] at hv; obtain ⟨x, _, rfl⟩ := hv; exact plain_w32 _) rfl (fun x hx => ⟨rfl, mx_old hx⟩), .slice keepS_new0, rfl⟩

/-! The chain of states. -/
def chainR (l : List UInt8) : Nat → List UInt32
  | 0 => beginW
  | i + 1 => zip2 (chainR l i) (roundsW constW ((l.drop (64 * i)).take 64) (chainR l i) 64)
theorem chainR_length (l : List UInt8) : ∀ i, (chainR l i).length = 8
  | 0 => rfl
  | i + 1 => zip2_length (chainR_length l i) (by rw [roundsW_length, chainR_length l i])
theorem hs_chain (l : List UInt8) : ∀ i, 64 * i ≤ l.length → zip2 beginW (hs0.put (l.take (64 * i))).M = chainR l i
  | 0, _ => by rw [Nat.mul_zero, List.take_zero]; show zip2 beginW (hs0.put []).M = beginW; decide +kernel
  | i + 1, h => by
    have ih := hs_chain l i (by omega)
    have hok : (hs0.put (l.take (64 * i))).ok := HS.put_ok hs0_ok _
    have hn : (hs0.put (l.take (64 * i))).n = 64 * i := by rw [HS.put_n]; simp [hs0]; omega
    have hbl : ((l.drop (64 * i)).take 64).length = 64 := by simp; omega
    rw [show 64 * (i + 1) = 64 * i + 64 by omega, List.take_add, HS.put_append, HS.put_full hok (by intro h; rw [h] at hbl; simp at hbl) (by rw [hn, hbl]; omega)]
    have h0 : (hs0.put (l.take (64 * i))).n % 64 = 0 := by rw [hn]; omega
    simp only [h0]
    rw [spl_all (by rw [hbl, hok.2]), moreStep, ← zip2_assoc, ih]; rfl
theorem shaR_chain (l : List UInt8) : shaR l = dig (chainR (l ++ padB l.length) ((l ++ padB l.length).length / 64)) := by
  have hpl : (padB l.length).length = 1 + zerosN l.length + 8 := by rw [padB, List.length_append, padA_length, lenB_length]
  have hz : zerosN l.length = (119 - l.length % 64) % 64 := rfl
  have hL : 64 * ((l ++ padB l.length).length / 64) = (l ++ padB l.length).length := by rw [List.length_append, hpl, hz]; omega
  have := hs_chain (l ++ padB l.length) ((l ++ padB l.length).length / 64) (by omega)
  rw [hL, List.take_length, HS.put_append] at this
  rw [shaR, sumOf, ← this]
  have hn : (hs0.put l).n = l.length := by rw [HS.put_n]; simp [hs0]
  rw [hn]
abbrev firstS : List UInt8 := [54, 97, 48, 57, 101, 54, 54, 55, 98, 98, 54, 55, 97, 101, 56, 53, 51, 99, 54, 101, 102, 51, 55, 50, 97, 53, 52, 102, 102, 53, 51, 97, 53, 49, 48, 101, 53, 50, 55, 102, 57, 98, 48, 53, 54, 56, 56, 99, 49, 102, 56, 51, 100, 57, 97, 98, 53, 98, 101, 48, 99, 100, 49, 57]
theorem first_words : wordsP firstS firstS.length = beginW := by decide +kernel
abbrev constS : List UInt8 := [52, 50, 56, 97, 50, 102, 57, 56, 55, 49, 51, 55, 52, 52, 57, 49, 98, 53, 99, 48, 102, 98, 99, 102, 101, 57, 98, 53, 100, 98, 97, 53, 51, 57, 53, 54, 99, 50, 53, 98, 53, 57, 102, 49, 49, 49, 102, 49, 57, 50, 51, 102, 56, 50, 97, 52, 97, 98, 49, 99, 53, 101, 100, 53, 100, 56, 48, 55, 97, 97, 57, 56, 49, 50, 56, 51, 53, 98, 48, 49, 50, 52, 51, 49, 56, 53, 98, 101, 53, 53, 48, 99, 55, 100, 99, 51, 55, 50, 98, 101, 53, 100, 55, 52, 56, 48, 100, 101, 98, 49, 102, 101, 57, 98, 100, 99, 48, 54, 97, 55, 99, 49, 57, 98, 102, 49, 55, 52, 101, 52, 57, 98, 54, 57, 99, 49, 101, 102, 98, 101, 52, 55, 56, 54, 48, 102, 99, 49, 57, 100, 99, 54, 50, 52, 48, 99, 97, 49, 99, 99, 50, 100, 101, 57, 50, 99, 54, 102, 52, 97, 55, 52, 56, 52, 97, 97, 53, 99, 98, 48, 97, 57, 100, 99, 55, 54, 102, 57, 56, 56, 100, 97, 57, 56, 51, 101, 53, 49, 53, 50, 97, 56, 51, 49, 99, 54, 54, 100, 98, 48, 48, 51, 50, 55, 99, 56, 98, 102, 53, 57, 55, 102, 99, 55, 99, 54, 101, 48, 48, 98, 102, 51, 100, 53, 97, 55, 57, 49, 52, 55, 48, 54, 99, 97, 54, 51, 53, 49, 49, 52, 50, 57, 50, 57, 54, 55, 50, 55, 98, 55, 48, 97, 56, 53, 50, 101, 49, 98, 50, 49, 51, 56, 52, 100, 50, 99, 54, 100, 102, 99, 53, 51, 51, 56, 48, 100, 49, 51, 54, 53, 48, 97, 55, 51, 53, 52, 55, 54, 54, 97, 48, 97, 98, 98, 56, 49, 99, 50, 99, 57, 50, 101, 57, 50, 55, 50, 50, 99, 56, 53, 97, 50, 98, 102, 101, 56, 97, 49, 97, 56, 49, 97, 54, 54, 52, 98, 99, 50, 52, 98, 56, 98, 55, 48, 99, 55, 54, 99, 53, 49, 97, 51, 100, 49, 57, 50, 101, 56, 49, 57, 100, 54, 57, 57, 48, 54, 50, 52, 102, 52, 48, 101, 51, 53, 56, 53, 49, 48, 54, 97, 97, 48, 55, 48, 49, 57, 97, 52, 99, 49, 49, 54, 49, 101, 51, 55, 54, 99, 48, 56, 50, 55, 52, 56, 55, 55, 52, 99, 51, 52, 98, 48, 98, 99, 98, 53, 51, 57, 49, 99, 48, 99, 98, 51, 52, 101, 100, 56, 97, 97, 52, 97, 53, 98, 57, 99, 99, 97, 52, 102, 54, 56, 50, 101, 54, 102, 102, 51, 55, 52, 56, 102, 56, 50, 101, 101, 55, 56, 97, 53, 54, 51, 54, 102, 56, 52, 99, 56, 55, 56, 49, 52, 56, 99, 99, 55, 48, 50, 48, 56, 57, 48, 98, 101, 102, 102, 102, 97, 97, 52, 53, 48, 54, 99, 101, 98, 98, 101, 102, 57, 97, 51, 102, 55, 99, 54, 55, 49, 55, 56, 102, 50]
theorem const_words : wordsP constS constS.length = constW := by decide +kernel
theorem firstS_len : firstS.length = 64 := by decide +kernel
theorem constS_len : constS.length = 512 := by decide +kernel
theorem kFirst {m : AMem} : Known Tryd.prog 3 62 [.string ⟨firstS.toArray⟩] m (.slice (some ⟨m.size, 0, none⟩) 8 8) (mx m [.cells (beginW.map w32) 91 true .exact]) := by
  have := words_ok m firstS (by decide +kernel) (by decide +kernel)
  rw [first_words, firstS_len] at this
  exact DetC.known this
theorem kConst {m : AMem} : Known Tryd.prog 3 62 [.string ⟨constS.toArray⟩] m (.slice (some ⟨m.size, 0, none⟩) 64 64) (mx m [.cells (constW.map w32) 91 true .exact]) := by
  have := words_ok m constS (by decide +kernel) (by decide +kernel)
  rw [const_words, constS_len] at this
  exact DetC.known this
end Go.Proofs.YtgkmlbkocgjmmaaDoor.S
namespace Go.Proofs.YtgkmlbkocgjmmaaDoor.S
open Go Go.AM
set_option linter.unusedVariables false
set_option linter.unusedSimpArgs false

set_option maxRecDepth 20000 in
theorem refSum_ok (m : AMem) (a : Option Addr) (cap : Nat) (c : List UInt8) (hc : BSl m a cap c) (hn : c.length ≤ 1000000) :
    PureC Tryd.prog 3 37 [.slice a c.length cap] m (.agg ((shaR c).map byteV).toArray) := by
  refine pure_of_W (fn := Tryd.f37) rfl rfl F37_ok (Nat.le_of_ble_eq_true rfl) (.bytes _) ?_
  have hmsg := DetC.known (message_ok (mx m [.cells ((List.replicate 32 (0 : UInt8)).map byteV) 52 true .exact, .cells (beginW.map w32) 91 true .exact, .cells (constW.map w32) 91 true .exact]) a cap c (hc.old (Old.here _ _)) hn)
  have hpl : (padB c.length).length = 1 + zerosN c.length + 8 := by rw [padB, List.length_append, padA_length, lenB_length]
  have hz : zerosN c.length = (119 - c.length % 64) % 64 := rfl
  have hsha := shaR_chain c
  have hml : (c ++ padB c.length).length = c.length + (padB c.length).length := List.length_append
  obtain ⟨l, hl⟩ : ∃ l, l = c ++ padB c.length := ⟨_, rfl⟩
  rw [← hl] at hmsg hsha hml
  have hl64 : l.length % 64 = 0 := by omega
  have hll : l.length ≤ 2000000 := by omega
  simp (implicitDefEqProofs := false) (maxSteps := 1000000) (disch := first | omega | with_reducible assumption | (simp only [lenT, Nat.reduceAdd]; omega)) only [amT, cut, bnd, Nat.reduceBEq, reduceCtorEq, Nat.reduceEqDiff, Nat.reduceAdd, Nat.reduceMul, Nat.reduceSub, Int.reduceToNat, Int.reduceEq, Int.reduceLT, Int.reduceLE, Int.reduceAdd, Int.reduceSub, Int.reduceMul, reduceIte, resVs, resV, packV, initT, addr, F37, kFirst, kConst, hmsg, zero32]
  repeat refine OrW.go ?_
  refine W_loop (fun N qs => ∃ (i : Nat) (M : AMem) (bs cs : Nat) (ss : Spare), N = l.length - 64 * i ∧ qs.ds = [] ∧ qs.m = mx M [] ∧ qs.t 2 = .pointer (some ⟨m.size, 0, none⟩) ∧ qs.t 3 = .slice (some ⟨bs, 0, none⟩) 8 cs ∧ qs.t 4 = .slice (some ⟨m.size + 2, 0, none⟩) 64 64 ∧ qs.t 5 = .slice (some ⟨m.size + 3, 0, none⟩) l.length openCap ∧ qs.t 6 = .int .i64 (64 * (i : Int)) ∧ 64 * i ≤ l.length ∧ Old (mx m [.cells ((List.replicate 32 (0 : UInt8)).map byteV) 52 true .exact, .cells (beginW.map w32) 91 true .exact, .cells (constW.map w32) 91 true .exact, .cells (l.map byteV) 5 true (.room [.int .u8 0])]) M ∧ bs < M.size ∧ M.get bs = .cells ((chainR l i).map w32) 91 true ss) (l.length - 64 * (0)) ⟨0, mx m [.cells ((List.replicate 32 (0 : UInt8)).map byteV) 52 true .exact, .cells (beginW.map w32) 91 true .exact, .cells (constW.map w32) 91 true .exact, .cells (l.map byteV) 5 true (.room [.int .u8 0])], m.size + 1, 8, .exact, rfl, rfl, ?qm, ?q2, ?q3, ?q4, ?q5, ?q6, ?_⟩ ?_
  case qm | q2 | q3 | q4 | q5 | q6 => first | rfl | (simp (implicitDefEqProofs := false) (maxSteps := 1000000) (disch := first | omega | with_reducible assumption | (simp only [lenT, Nat.reduceAdd]; omega)) only [amT, cut, bnd, Nat.reduceBEq, reduceCtorEq, Nat.reduceEqDiff, Nat.reduceAdd, Nat.reduceMul, Nat.reduceSub, Int.reduceToNat, Int.reduceEq, Int.reduceLT, Int.reduceLE, Int.reduceAdd, Int.reduceSub, Int.reduceMul, reduceIte, resVs, resV, packV, initT, addr]; first | done | rfl | (congr 1; omega))
  · exact ⟨by omega, .refl _, by rw [mx_size]; simp, mx_new _ _ 1⟩
  · rintro N t m1 ds ⟨i, M, bs, cs, ss, rfl, hds, hm, t2, t3, t4, t5, t6, hp⟩
    simp only at hds hm t2 t3 t4 t5 t6
    subst hds; replace hm := hm.symm; subst hm
    obtain ⟨hi64, hO, hbs, hMs⟩ := hp
    have hsz : m.size + 4 ≤ M.size := hO.1
    have hM2 : M.get (m.size + 2) = .cells (constW.map w32) 91 true .exact := (hO.2 _ (by rw [mx_size]; simp)).trans (mx_new _ _ 2)
    have hM3 : M.get (m.size + 3) = .cells (l.map byteV) 5 true (.room [.int .u8 0]) := (hO.2 _ (by rw [mx_size]; simp)).trans (mx_new _ _ 3)
    by_cases hi : (64 * (i : Int)) < (l.length : Int)
    · have e1 : (64 : Int) * (i : Int) = ((64 * i : Nat) : Int) := by omega
      have e2 : ((64 * i : Nat) : Int) + 64 = ((64 * i + 64 : Nat) : Int) := by omega
      have hsl := slV_open (M := mx M []) (b := m.size + 3) (o := 0) (L := l.length) (i := 64 * i) (h := 64 * i + 64) ((mx_old (by omega)).trans hM3) rfl (by simp) (by omega) (by simp; omega)
      rw [show 64 * i + 64 - 64 * i = 64 by omega, Nat.zero_add] at hsl
      have hbl : ((l.drop (64 * i)).take 64).length = 64 := by simp; omega
      have hch := DetC.known (changed_ok (mx M []) (m.size + 3) (64 * i) openCap ((l.drop (64 * i)).take 64) (l.map byteV) 5 true (.room [.int .u8 0]) (by rw [mx_size]; simp; omega) ((mx_old (by omega)).trans hM3) hbl
        (fun j hj => by rw [bytes_get (by omega)]; simp)
        bs cs (chainR l i) 91 true ss (by rw [mx_size]; simp; omega) ((mx_old hbs).trans hMs) (chainR_length l i)
        (m.size + 2) 64 constW 91 true .exact (by rw [mx_size]; simp; omega) ((mx_old (by omega)).trans hM2) rfl)
      rw [show (mx M []).size = M.size from rfl] at hch
      rw [e1] at t6 hi
      simp (implicitDefEqProofs := false) (maxSteps := 1000000) (disch := first | omega | with_reducible assumption | (simp only [lenT, Nat.reduceAdd]; omega)) only [amT, cut, bnd, Nat.reduceBEq, reduceCtorEq, Nat.reduceEqDiff, Nat.reduceAdd, Nat.reduceMul, Nat.reduceSub, Int.reduceToNat, Int.reduceEq, Int.reduceLT, Int.reduceLE, Int.reduceAdd, Int.reduceSub, Int.reduceMul, reduceIte, resVs, resV, packV, initT, addr, F37_l0, t2, t3, t4, t5, t6, hi, e2, stepOp_slV_v, Option.map_none, hsl, hch]
      repeat refine OrW.go ?_
      rw [LoopK_normal]; refine ⟨_, ?_, i + 1, mx M [.cells ((chainR l (i + 1)).map w32) 91 true (.room [.int .u32 0])], M.size, openCap, .room [.int .u32 0], rfl, rfl, ?qm, ?q2, ?q3, ?q4, ?q5, ?q6, ?_⟩
      case qm | q2 | q3 | q4 | q5 | q6 => first | rfl | (simp (implicitDefEqProofs := false) (maxSteps := 1000000) (disch := first | omega | with_reducible assumption | (simp only [lenT, Nat.reduceAdd]; omega)) only [amT, cut, bnd, Nat.reduceBEq, reduceCtorEq, Nat.reduceEqDiff, Nat.reduceAdd, Nat.reduceMul, Nat.reduceSub, Int.reduceToNat, Int.reduceEq, Int.reduceLT, Int.reduceLE, Int.reduceAdd, Int.reduceSub, Int.reduceMul, reduceIte, resVs, resV, packV, initT, addr, t2, t3, t4, t5, t6, chainR]; first | done | rfl | (congr 1; omega))
      · omega
      · exact ⟨by omega, hO.mx _, by rw [mx_size]; simp, mx_new0 _ _⟩
    · have hii : i = l.length / 64 := by omega
      rw [← hii] at hsha
      have hS := chainR_length l i
      generalize chainR l i = S at *
      simp (implicitDefEqProofs := false) (maxSteps := 1000000) (disch := first | omega | with_reducible assumption | (simp only [lenT, Nat.reduceAdd]; omega)) only [amT, cut, bnd, Nat.reduceBEq, reduceCtorEq, Nat.reduceEqDiff, Nat.reduceAdd, Nat.reduceMul, Nat.reduceSub, Int.reduceToNat, Int.reduceEq, Int.reduceLT, Int.reduceLE, Int.reduceAdd, Int.reduceSub, Int.reduceMul, reduceIte, resVs, resV, packV, initT, addr, F37_l0, t2, t3, t4, t5, t6, hi, zero32]
      have hM0 : M.get m.size = .cells ((List.replicate 32 (0 : UInt8)).map byteV) 52 true .exact := (hO.2 _ (by rw [mx_size]; simp)).trans (mx_new0 _ _)
      have hOm : Old m M := ⟨by omega, fun x hx => (hO.2 x (by rw [mx_size]; omega)).trans (mx_old hx)⟩
      refine W_loop (fun N qs => ∃ (p : Nat), N = 32 - p ∧ qs.ds = [] ∧ qs.m = mx M [.cells ((mix p (dig S) (List.replicate 32 (0 : UInt8))).map byteV) 52 true .exact] ∧ qs.t 2 = .pointer (some ⟨m.size, 0, none⟩) ∧ qs.t 3 = .slice (some ⟨bs, 0, none⟩) 8 cs ∧ qs.t 7 = .pointer (some ⟨M.size, 0, none⟩) ∧ qs.t 8 = .int .i64 p ∧ p ≤ 32) (32 - (0)) ⟨0, rfl, rfl, ?qm, ?q2, ?q3, ?q7, ?q8, ?_⟩ ?_
      case qm | q2 | q3 | q7 | q8 => first | rfl | (simp (implicitDefEqProofs := false) (maxSteps := 1000000) (disch := first | omega | with_reducible assumption | (simp only [lenT, Nat.reduceAdd]; omega)) only [amT, cut, bnd, Nat.reduceBEq, reduceCtorEq, Nat.reduceEqDiff, Nat.reduceAdd, Nat.reduceMul, Nat.reduceSub, Int.reduceToNat, Int.reduceEq, Int.reduceLT, Int.reduceLE, Int.reduceAdd, Int.reduceSub, Int.reduceMul, reduceIte, resVs, resV, packV, initT, addr, t2, t3, t4, t5, t6, mix_zero]; first | done | rfl | (congr 1; omega))
      · omega
      · clear t2 t3 t4 t5 t6 hi hi64
        rintro N t m1 ds ⟨p, rfl, hds, hm, t2, t3, t7, t8, hp⟩
        simp only at hds hm t2 t3 t7 t8
        subst hds; replace hm := hm.symm; subst hm
        have hmxl : (mix p (dig S) (List.replicate 32 (0 : UInt8))).length = 32 := by rw [mix_length (by rw [dig_length]; rfl)]; rfl
        by_cases hi : (p : Int) < 32
        · have hp32 : p < 32 := by omega
          have e1 : (p : Int).tdiv 4 = ((p / 4 : Nat) : Int) := tdiv_nat p 4
          have e2 : (p : Int).tmod 4 = ((p % 4 : Nat) : Int) := tmod_nat p 4
          obtain ⟨x, hx⟩ : ∃ x, x = S[p / 4]'(by omega) := ⟨_, rfl⟩
          have hg : (S.map w32)[p / 4]? = some (w32 x) := by rw [ws_get (by omega), hx]
          have e3 : binV .shr (w32 x) (.int .i64 (24 - ((p % 4 : Nat) : Int) * 8)) = some (.int .u32 ((x.toNat >>> (24 - 8 * (p % 4)) : Nat) : Int)) := by
            rw [w32_def, binV_shr _ _ (by omega), show (24 : Int) - ((p % 4 : Nat) : Int) * 8 = ((24 - 8 * (p % 4) : Nat) : Int) by omega, shr_nat _ _ _ (by simp [IntKind.bits]; omega)]
          have e4 := mix_set (k := p) (X := dig S) (B := List.replicate 32 (0 : UInt8)) (by rw [dig_length]; rfl) (by rw [dig_length]; omega)
          have hdg : (dig S)[p]'(by rw [dig_length]; omega) = UInt8.ofNat (x.toNat >>> (24 - 8 * (p % 4))) := by
            simp only [dig, List.getElem_map, List.getElem_range]
            rw [hx]; simp [List.getElem?_eq_getElem (show p / 4 < S.length by omega)]
          rw [hdg] at e4
          have e5 := map_set_byte (mix p (dig S) (List.replicate 32 (0 : UInt8))) p (UInt8.ofNat (x.toNat >>> (24 - 8 * (p % 4))))
          rw [e4, byteV_def] at e5
          simp (implicitDefEqProofs := false) (maxSteps := 1000000) (disch := first | omega | with_reducible assumption | (simp only [lenT, Nat.reduceAdd]; omega)) only [amT, cut, bnd, Nat.reduceBEq, reduceCtorEq, Nat.reduceEqDiff, Nat.reduceAdd, Nat.reduceMul, Nat.reduceSub, Int.reduceToNat, Int.reduceEq, Int.reduceLT, Int.reduceLE, Int.reduceAdd, Int.reduceSub, Int.reduceMul, reduceIte, resVs, resV, packV, initT, addr, F37_l1, t2, t3, t7, t8, hi, e1, e2, e3, hMs, hg, u8n, e5]
          rw [LoopK_normal]; refine ⟨_, ?_, p + 1, rfl, rfl, ?qm, ?q2, ?q3, ?q7, ?q8, ?_⟩
          case qm | q2 | q3 | q7 | q8 => first | rfl | (simp (implicitDefEqProofs := false) (maxSteps := 1000000) (disch := first | omega | with_reducible assumption | (simp only [lenT, Nat.reduceAdd]; omega)) only [amT, cut, bnd, Nat.reduceBEq, reduceCtorEq, Nat.reduceEqDiff, Nat.reduceAdd, Nat.reduceMul, Nat.reduceSub, Int.reduceToNat, Int.reduceEq, Int.reduceLT, Int.reduceLE, Int.reduceAdd, Int.reduceSub, Int.reduceMul, reduceIte, resVs, resV, packV, initT, addr, t2, t3, t7, t8]; first | done | rfl | (congr 1; omega))
          · omega
          · omega
        · have hp32 : p = 32 := by omega
          subst hp32
          have hmx := mix_all (k := 32) (X := dig S) (B := List.replicate 32 (0 : UInt8)) (dig_length _) rfl
          have hdl := dig_length S
          simp (implicitDefEqProofs := false) (maxSteps := 1000000) (disch := first | omega | with_reducible assumption | (simp only [lenT, Nat.reduceAdd]; omega)) only [amT, cut, bnd, Nat.reduceBEq, reduceCtorEq, Nat.reduceEqDiff, Nat.reduceAdd, Nat.reduceMul, Nat.reduceSub, Int.reduceToNat, Int.reduceEq, Int.reduceLT, Int.reduceLE, Int.reduceAdd, Int.reduceSub, Int.reduceMul, reduceIte, resVs, resV, packV, initT, addr, F37_l1, t2, t3, t7, t8, hmx, cutL_all, hM0, hsha]
          exact (hOm.set (Nat.le_refl _) _).mx _
end Go.Proofs.YtgkmlbkocgjmmaaDoor.S
namespace Go.Proofs.YtgkmlbkocgjmmaaDoor
open Go Go.AM
set_option linter.unusedVariables false
set_option linter.unusedSimpArgs false
set_option maxHeartbeats 2000000
set_option maxRecDepth 100000

theorem bsl_at (M : AMem) (l : List AObj) (k : Nat) {c : List UInt8} {e : TypeId} {w : Bool} {sp : Spare} {cap : Nat} (h : l[k]? = some (.cells (c.map byteV) e w sp)) (hc : cap < openCap) (hl : c.length ≤ cap) : BSl (mx M l) (some ⟨M.size + k, 0, none⟩) cap c := by
  have hk : k < l.length := (List.getElem?_eq_some_iff.1 h).1
  have hg : (mx M l).get (M.size + k) = .cells (c.map byteV) e w sp := by rw [mx_new]; simp [List.getD, h]
  exact .inr ⟨_, _, _, _, _, _, rfl, by rw [mx_size]; omega, hg, cutL_all (by simp), .inr ⟨hc, hl⟩⟩
theorem bsl_room {M : AMem} {b : Nat} {c : List UInt8} {e : TypeId} {w : Bool} (hb : b < M.size) (hm : M.get b = .cells (c.map byteV) e w (.room [.int .u8 0])) : BSl M (some ⟨b, 0, none⟩) openCap c :=
  .inr ⟨b, 0, _, e, w, _, rfl, hb, hm, by rw [← List.length_map (f := byteV)]; exact cutL_all rfl, .inl ⟨rfl, rfl⟩⟩
theorem byte_of (n : Nat) : IntKind.u8.wrap (n : Int) = ((UInt8.ofNat n).toNat : Int) := by
  simp [IntKind.wrap, IntKind.bits, IntKind.signed]
theorem byte_sh (n k : Nat) (hk : k ≤ 64) : IntKind.u8.wrap (shr .i64 (n : Int) (k : Int)) = ((UInt8.ofNat (n >>> k)).toNat : Int) := by
  rw [shr_nat _ _ _ hk, byte_of]
theorem refText_ok (m : AMem) (s : List UInt8) (hs : s.length ≤ 9000000000) : PureC Tryd.prog 3 33 [.string ⟨s.toArray⟩] m (.string ⟨(textB s).toArray⟩) := by
  refine pure_of_W (fn := Tryd.f33) rfl rfl F33_ok (by simp [F33]) (.string _) ?_
  have h24 := byte_sh s.length 24 (by omega)
  have h16 := byte_sh s.length 16 (by omega)
  have h8 := byte_sh s.length 8 (by omega)
  have h0 := byte_of s.length
  have hb := bsl_at m [.cells ((numB s.length 4).map byteV) 5 true .exact] 0 (c := numB s.length 4) (cap := 4) rfl (openCap_lt (by omega)) (by rw [numB_len]; omega)
  have hst := hb.str
  rw [numB_len] at hst
  simp only [numB, List.map_cons, List.map_nil, byteV, Nat.mul_zero, Nat.add_zero, Nat.shiftRight_zero, Nat.reduceMul] at hst
  simp only [Int.cast_ofNat_Int] at h24 h16 h8
  unfold textB
  simp only [numB, Nat.mul_zero, Nat.shiftRight_zero, Nat.reduceMul]
  have ho : ¬ (4 : Nat) = openCap := openCap_ne (by omega)
  repeat first | simp (implicitDefEqProofs := false) (maxSteps := 1000000) (disch := first | omega | with_reducible assumption | (simp only [lenT, Nat.reduceAdd]; omega)) only [amT, cut, bnd, Nat.reduceBEq, reduceCtorEq, Nat.reduceEqDiff, Nat.reduceAdd, Nat.reduceMul, Nat.reduceSub, Int.reduceToNat, Int.reduceEq, Int.reduceLT, Int.reduceLE, Int.reduceAdd, Int.reduceSub, Int.reduceMul, reduceIte, resVs, resV, packV, initT, addr, F33, binV_shr, h24, h16, h8, h0, stepOp_b2s_v, hst, ho] | refine OrW.go ?_
end Go.Proofs.YtgkmlbkocgjmmaaDoor
namespace Go.Proofs.YtgkmlbkocgjmmaaDoor
open Go Go.AM
set_option linter.unusedVariables false
set_option linter.unusedSimpArgs false
set_option maxHeartbeats 2000000
set_option maxRecDepth 100000

theorem numB2 {n : Nat} (h : n ≤ 64) : numB n 2 = [0, UInt8.ofNat n] := by
  have : n >>> 8 = 0 := by rw [Nat.shiftRight_eq_div_pow]; omega
  simp [numB, this]
theorem refPut_ok (m : AMem) (d : DrvR) (a : Option Addr) (c : Nat) (hd : d.ok) (ha : StrR m a d.inputs) :
    RelC Tryd.prog 3 13 [.agg (dRow d a c).toArray] m fun r m' => Old m m' ∧ if rightR d = true then ∃ a' c', r = .tuple #[.slice a' (putB d).length c', .int .i64 0] ∧ BSl m' a' c' (putB d) else r = .tuple #[.slice none 0 0, .int .i64 2] := by
  refine rel_of_W (fn := Tryd.f13) rfl rfl F13_ok (by simp [F13]) ?_
  have k17 := DetC.known (refRight_ok (mx m [.cells (dRow d a c) 24 true .exact]) d a c hd (ha.old (Old.here _ _)))
  simp only [dRow] at k17
  cases hr : rightR d with
  | false =>
    rw [hr] at k17
    repeat first | simp (implicitDefEqProofs := false) (maxSteps := 1000000) (disch := first | omega | with_reducible assumption | (simp only [lenT, Nat.reduceAdd]; omega)) only [amT, cut, bnd, Nat.reduceBEq, reduceCtorEq, Nat.reduceEqDiff, Nat.reduceAdd, Nat.reduceMul, Nat.reduceSub, Int.reduceToNat, Int.reduceEq, Int.reduceLT, Int.reduceLE, Int.reduceAdd, Int.reduceSub, Int.reduceMul, reduceIte, resVs, resV, packV, initT, addr, F13, dRow, cellsOf_dRow, cutL3, k17] | refine OrW.go ?_
    exact ⟨_, rfl, fun _ => rfl⟩
  | true =>
    rw [hr] at k17
    obtain ⟨f1, f2, f3⟩ := right_few hr
    have kt := fun (M : AMem) (s : List UInt8) (hs : s.length ≤ 9000000000) => DetC.known (refText_ok M s hs)
    have hb2 := byte_of d.inputs.length
    have ho : ¬ (2 : Nat) = openCap := openCap_ne (by omega)
    have hst := (show BSl (mx m [.cells [.string ⟨d.name.toArray⟩, .slice a d.inputs.length c, .string ⟨d.recipe.toArray⟩] 24 true .exact, .cells [.int .u8 0, .int .u8 ((UInt8.ofNat d.inputs.length).toNat : Int)] 5 true .exact]) (some ⟨m.size + 1, 0, none⟩) 2 [0, UInt8.ofNat d.inputs.length] from bsl_at m [.cells [.string ⟨d.name.toArray⟩, .slice a d.inputs.length c, .string ⟨d.recipe.toArray⟩] 24 true .exact, .cells ([0, UInt8.ofNat d.inputs.length].map byteV) 5 true .exact] 1 rfl (openCap_lt (by omega)) (by simp)).str
    simp only [List.length_cons, List.length_nil, Nat.zero_add, Nat.reduceAdd] at hst
    have hil := insB_len hd.inputs
    have hn1 := textB_len d.name
    have hn2 := textB_len d.recipe
    have hP : putB d = headB ++ textB d.name ++ [0, UInt8.ofNat d.inputs.length] ++ insB d.inputs d.inputs.length ++ textB d.recipe := by unfold putB; rw [numB2 f2]
    repeat first | simp (implicitDefEqProofs := false) (maxSteps := 1000000) (disch := first | omega | with_reducible assumption | (simp only [lenT, Nat.reduceAdd]; omega)) only [amT, cut, bnd, Nat.reduceBEq, reduceCtorEq, Nat.reduceEqDiff, Nat.reduceAdd, Nat.reduceMul, Nat.reduceSub, Int.reduceToNat, Int.reduceEq, Int.reduceLT, Int.reduceLE, Int.reduceAdd, Int.reduceSub, Int.reduceMul, reduceIte, resVs, resV, packV, initT, addr, F13, dRow, cellsOf_dRow, cutL3, k17, kt, hb2, ho, stepOp_b2s_v, hst, hn1, textB_len] | refine OrW.go ?_
    generalize hP0 : headB ++ textB d.name ++ [0, UInt8.ofNat d.inputs.length] = P0 at hP
    have hP0l : P0.length ≤ 100 := by rw [← hP0]; simp [headB, textB_len]; omega
    have hP0c : (68 :: 82 :: 86 :: 49 :: (textB d.name ++ [0, UInt8.ofNat d.inputs.length]) : List UInt8) = P0 := by rw [← hP0]; simp [headB]
    have hi0 : insB d.inputs 0 = [] := rfl
    refine W_loop (fun N qs => ∃ (i : Nat), N = d.inputs.length - i ∧ qs.ds = [] ∧ qs.m = mx m [.cells [.string ⟨d.name.toArray⟩, .slice a d.inputs.length c, .string ⟨d.recipe.toArray⟩] 24 true .exact, .cells [.int .u8 0, .int .u8 ((UInt8.ofNat d.inputs.length).toNat : Int)] 5 true .exact] ∧ qs.t 1 = .pointer (some ⟨m.size, 0, none⟩) ∧ qs.t 4 = .string ⟨(P0 ++ insB d.inputs i).toArray⟩ ∧ qs.t 5 = .int .i64 i ∧ i ≤ d.inputs.length) (d.inputs.length - (0)) ⟨0, rfl, rfl, ?qm, ?q1, ?q4, ?q5, ?_⟩ ?_
    case qm | q1 | q4 | q5 => first | rfl | (simp (implicitDefEqProofs := false) (maxSteps := 1000000) (disch := first | omega | with_reducible assumption | (simp only [lenT, Nat.reduceAdd]; omega)) only [amT, cut, bnd, Nat.reduceBEq, reduceCtorEq, Nat.reduceEqDiff, Nat.reduceAdd, Nat.reduceMul, Nat.reduceSub, Int.reduceToNat, Int.reduceEq, Int.reduceLT, Int.reduceLE, Int.reduceAdd, Int.reduceSub, Int.reduceMul, reduceIte, resVs, resV, packV, initT, addr, hP0c, hi0]; first | done | rfl | (congr 1; omega))
    · omega
    · rintro N t m1 ds ⟨i, rfl, hds, hm, t1, t4, t5, hp⟩
      simp only at hds hm t1 t4 t5
      subst hds; replace hm := hm.symm; subst hm
      have hl1 := hil i hp
      by_cases g : (i : Int) < (d.inputs.length : Int)
      · have hi' : i < d.inputs.length := by omega
        obtain ⟨b, o, rfl, hb, hr1⟩ := ha i hi'
        have hl2 := hd.inputs _ (List.getElem_mem hi')
        have hn3 := textB_len d.inputs[i]
        have hsc := insB_succ hi'
        repeat first | simp (implicitDefEqProofs := false) (maxSteps := 1000000) (disch := first | omega | with_reducible assumption | (simp only [lenT, Nat.reduceAdd]; omega)) only [amT, cut, bnd, Nat.reduceBEq, reduceCtorEq, Nat.reduceEqDiff, Nat.reduceAdd, Nat.reduceMul, Nat.reduceSub, Int.reduceToNat, Int.reduceEq, Int.reduceLT, Int.reduceLE, Int.reduceAdd, Int.reduceSub, Int.reduceMul, reduceIte, resVs, resV, packV, initT, addr, F13_l0, t1, t4, t5, g, hr1, kt] | refine OrW.go ?_
        rw [LoopK_normal]; refine ⟨_, ?_, i + 1, rfl, rfl, ?qm, ?q1, ?q4, ?q5, ?_⟩
        case qm | q1 | q4 | q5 => first | rfl | (simp (implicitDefEqProofs := false) (maxSteps := 1000000) (disch := first | omega | with_reducible assumption | (simp only [lenT, Nat.reduceAdd]; omega)) only [amT, cut, bnd, Nat.reduceBEq, reduceCtorEq, Nat.reduceEqDiff, Nat.reduceAdd, Nat.reduceMul, Nat.reduceSub, Int.reduceToNat, Int.reduceEq, Int.reduceLT, Int.reduceLE, Int.reduceAdd, Int.reduceSub, Int.reduceMul, reduceIte, resVs, resV, packV, initT, addr, t1, t4, t5, hsc, List.append_assoc]; first | done | rfl | (congr 1; omega))
        · omega
        · omega
      · obtain rfl : i = d.inputs.length := by omega
        repeat first | simp (implicitDefEqProofs := false) (maxSteps := 1000000) (disch := first | omega | with_reducible assumption | (simp only [lenT, Nat.reduceAdd]; omega)) only [amT, cut, bnd, Nat.reduceBEq, reduceCtorEq, Nat.reduceEqDiff, Nat.reduceAdd, Nat.reduceMul, Nat.reduceSub, Int.reduceToNat, Int.reduceEq, Int.reduceLT, Int.reduceLE, Int.reduceAdd, Int.reduceSub, Int.reduceMul, reduceIte, resVs, resV, packV, initT, addr, F13_l0, t1, t4, t5, g, kt] | refine OrW.go ?_
        refine ⟨_, rfl, fun _ => ⟨some ⟨m.size + 2, 0, none⟩, openCap, ?_, ?_⟩⟩
        · rw [hP]; simp [Nat.add_assoc]
        · rw [hP]
          refine bsl_room (e := 5) (w := true) (by rw [mx_size]; simp) ?_
          rw [mx_new _ _ 2]; simp [List.append_assoc]
theorem refName_ok (m : AMem) (d : DrvR) (a : Option Addr) (c : Nat) (hd : d.ok) (hfew : (putB d).length ≤ 1000000) (ha : StrR m a d.inputs) :
    RelC Tryd.prog 3 15 [.agg (dRow d a c).toArray] m fun r m' => r = .tuple #[.string ⟨(dnameR d).1.toArray⟩, .int .i64 (dnameR d).2] ∧ Old m m' := by
  refine rel_of_W (fn := Tryd.f15) rfl rfl F15_ok (by simp [F15]) ?_
  have hp := refPut_ok (mx m [.cells (dRow d a c) 24 true .exact]) d a c hd (ha.old (Old.here _ _))
  simp only [dRow] at hp
  repeat first | simp (implicitDefEqProofs := false) (maxSteps := 1000000) (disch := first | omega | with_reducible assumption | (simp only [lenT, Nat.reduceAdd]; omega)) only [amT, cut, bnd, Nat.reduceBEq, reduceCtorEq, Nat.reduceEqDiff, Nat.reduceAdd, Nat.reduceMul, Nat.reduceSub, Int.reduceToNat, Int.reduceEq, Int.reduceLT, Int.reduceLE, Int.reduceAdd, Int.reduceSub, Int.reduceMul, reduceIte, resVs, resV, packV, initT, addr, F15, dRow, cellsOf_dRow, cutL3] | refine OrW.go ?_
  refine RelC.call hp ?_
  rintro r M1 ⟨hO, hr⟩
  have hOm : Old m M1 := (Old.here m _).trans hO
  have hz := hO.1
  rw [mx_size] at hz
  simp only [List.length_cons, List.length_nil, Nat.zero_add] at hz
  have hb : M1.get m.size = .cells [.string ⟨d.name.toArray⟩, .slice a d.inputs.length c, .string ⟨d.recipe.toArray⟩] 24 true .exact := by rw [hO.2 _ (by rw [mx_size]; simp)]; exact mx_new0 _ _
  cases hri : rightR d with
  | false =>
    rw [hri] at hr
    simp only [Bool.false_eq_true, if_false] at hr
    subst hr
    have e : dnameR d = ([], 2) := by simp [dnameR, hri]
    rw [e]
    repeat first | simp (implicitDefEqProofs := false) (maxSteps := 1000000) (disch := first | omega | with_reducible assumption | (simp only [lenT, Nat.reduceAdd]; omega)) only [amT, cut, bnd, Nat.reduceBEq, reduceCtorEq, Nat.reduceEqDiff, Nat.reduceAdd, Nat.reduceMul, Nat.reduceSub, Int.reduceToNat, Int.reduceEq, Int.reduceLT, Int.reduceLE, Int.reduceAdd, Int.reduceSub, Int.reduceMul, reduceIte, resVs, resV, packV, initT, addr] | refine OrW.go ?_
    exact ⟨_, rfl, fun _ => ⟨rfl, hOm.mx []⟩⟩
  | true =>
    rw [hri] at hr
    simp only [if_true] at hr
    obtain ⟨a', c', rfl, hB⟩ := hr
    have e : dnameR d = N.nameR (S.shaR (putB d)) (d.name ++ [46, 100, 114, 118]) := by simp [dnameR, hri]
    rw [e]
    have hn := (right_few hri).1
    have k37 := DetC.known (S.refSum_ok (mx M1 []) a' c' (putB d) (hB.old (Old.here _ [])) hfew)
    have k36 := @N.kRefName (mx M1 []) (d.name ++ [46, 100, 114, 118]) (S.shaR (putB d)) (S.shaR_length _) (by rw [List.length_append]; simp; omega)
    repeat first | simp (implicitDefEqProofs := false) (maxSteps := 1000000) (disch := first | omega | with_reducible assumption | (simp only [lenT, Nat.reduceAdd]; omega)) only [amT, cut, bnd, Nat.reduceBEq, reduceCtorEq, Nat.reduceEqDiff, Nat.reduceAdd, Nat.reduceMul, Nat.reduceSub, Int.reduceToNat, Int.reduceEq, Int.reduceLT, Int.reduceLE, Int.reduceAdd, Int.reduceSub, Int.reduceMul, reduceIte, resVs, resV, packV, initT, addr, hb, k37, k36] | refine OrW.go ?_
    exact ⟨_, rfl, fun _ => ⟨rfl, hOm.mx []⟩⟩
end Go.Proofs.YtgkmlbkocgjmmaaDoor
namespace Go.Proofs.YtgkmlbkocgjmmaaDoor
open Go Go.AM
set_option linter.unusedVariables false
set_option linter.unusedSimpArgs false
set_option maxHeartbeats 2000000
set_option maxRecDepth 100000

def fewB (d : DrvR) : Bool := decide (d.name.length ≤ 200) && decide (d.recipe.length ≤ 1000) && shortB d.inputs 70
/-- Its texts may be of any length that a machine has. -/
structure DrvR.any (d : DrvR) : Prop where
  name : d.name.length ≤ 9223372036854775807
  recipe : d.recipe.length ≤ 9223372036854775807
  len : d.inputs.length ≤ 9223372036854775807
  ins : ∀ s ∈ d.inputs, s.length ≤ 9223372036854775807
theorem few_ok (m : AMem) (d : DrvR) (a : Option Addr) (c : Nat) (hd : d.any) (ha : StrR m a d.inputs) : PureC Tryd.prog 3 10 [.agg (dRow d a c).toArray] m (.bool (fewB d)) := by
  refine pure_of_W (fn := Tryd.f10) rfl rfl F10_ok (by simp [F10]) (.bool _) ?_
  have k25 := DetC.known (short_ok (mx m [.cells (dRow d a c) 24 true .exact]) a c d.inputs (ha.old (Old.here _ _)) hd.len hd.ins 70 (by omega))
  rw [show ((70 : Nat) : Int) = 70 from rfl] at k25
  simp only [dRow] at k25
  have h1 := hd.name; have h2 := hd.recipe
  by_cases g1 : (d.name.length : Int) ≤ 200
  case neg =>
    have e : fewB d = false := by simp [fewB]; intros; omega
    rw [e]
    repeat first | simp (implicitDefEqProofs := false) (maxSteps := 1000000) (disch := first | omega | with_reducible assumption | (simp only [lenT, Nat.reduceAdd]; omega)) only [amT, cut, bnd, Nat.reduceBEq, reduceCtorEq, Nat.reduceEqDiff, Nat.reduceAdd, Nat.reduceMul, Nat.reduceSub, Int.reduceToNat, Int.reduceEq, Int.reduceLT, Int.reduceLE, Int.reduceAdd, Int.reduceSub, Int.reduceMul, reduceIte, resVs, resV, packV, initT, addr, F10, dRow, cellsOf_dRow, g1] | refine OrW.go ?_
  by_cases g2 : (d.recipe.length : Int) ≤ 1000
  case neg =>
    have e : fewB d = false := by simp [fewB]; intros; omega
    rw [e]
    repeat first | simp (implicitDefEqProofs := false) (maxSteps := 1000000) (disch := first | omega | with_reducible assumption | (simp only [lenT, Nat.reduceAdd]; omega)) only [amT, cut, bnd, Nat.reduceBEq, reduceCtorEq, Nat.reduceEqDiff, Nat.reduceAdd, Nat.reduceMul, Nat.reduceSub, Int.reduceToNat, Int.reduceEq, Int.reduceLT, Int.reduceLE, Int.reduceAdd, Int.reduceSub, Int.reduceMul, reduceIte, resVs, resV, packV, initT, addr, F10, dRow, cellsOf_dRow, g1, g2] | refine OrW.go ?_
  have e : fewB d = shortB d.inputs 70 := by
    have w1 : d.name.length ≤ 200 := by omega
    have w2 : d.recipe.length ≤ 1000 := by omega
    simp [fewB, w1, w2]
  rw [e]
  repeat first | simp (implicitDefEqProofs := false) (maxSteps := 1000000) (disch := first | omega | with_reducible assumption | (simp only [lenT, Nat.reduceAdd]; omega)) only [amT, cut, bnd, Nat.reduceBEq, reduceCtorEq, Nat.reduceEqDiff, Nat.reduceAdd, Nat.reduceMul, Nat.reduceSub, Int.reduceToNat, Int.reduceEq, Int.reduceLT, Int.reduceLE, Int.reduceAdd, Int.reduceSub, Int.reduceMul, reduceIte, resVs, resV, packV, initT, addr, F10, dRow, cellsOf_dRow, g1, g2, k25] | refine OrW.go ?_
structure DrvR.small (d : DrvR) : Prop where
  ok : d.ok
  name : d.name.length ≤ 200
  recipe : d.recipe.length ≤ 1000
  len : d.inputs.length ≤ 70
  ins : ∀ s ∈ d.inputs, s.length ≤ 200
theorem few_small {d : DrvR} (h : fewB d = true) : d.small := by
  unfold fewB shortB at h
  simp only [Bool.and_eq_true, decide_eq_true_eq, List.all_eq_true] at h
  obtain ⟨⟨h1, h2⟩, h3, h4⟩ := h
  exact ⟨⟨by omega, fun s hs => by have := h4 s hs; omega, by omega, by omega⟩, h1, h2, h3, h4⟩
theorem insB_len2 {l : List (List UInt8)} (h : ∀ s ∈ l, s.length ≤ 200) : ∀ n, n ≤ l.length → (insB l n).length ≤ 204 * n
  | 0, _ => by simp [insB]
  | n + 1, hn => by
    have := insB_len2 h n (by omega)
    have h2 := h l[n] (List.getElem_mem (by omega))
    rw [insB_succ (by omega), List.length_append, textB_len]; omega
theorem small_len {d : DrvR} (h : d.small) : (putB d).length ≤ 20000 := by
  have h1 := insB_len2 h.ins d.inputs.length (Nat.le_refl _)
  have h2 := h.name; have h3 := h.recipe; have h4 := h.len
  simp only [putB, List.length_append, textB_len, numB_len, headB, List.length_cons, List.length_nil]; omega
def putA (d : DrvR) : List UInt8 × Int := if rightR d = true then (putB d, 0) else ([], 2)
/-- What is put, or nothing. -/
theorem put_all {d : DrvR} {m' : AMem} {r : Value} (h : if rightR d = true then ∃ a' c', r = .tuple #[.slice a' (putB d).length c', .int .i64 0] ∧ BSl m' a' c' (putB d) else r = .tuple #[.slice none 0 0, .int .i64 2]) :
    ∃ a' c', r = .tuple #[.slice a' (putA d).1.length c', .int .i64 (putA d).2] ∧ BSl m' a' c' (putA d).1 := by
  unfold putA
  split at h
  · rw [if_pos ‹_›]; exact h
  · rw [if_neg ‹_›]; subst h; exact ⟨none, 0, rfl, .inl ⟨rfl, rfl, rfl⟩⟩
theorem lawPut (m : AMem) (hg : S.Glob m) (d : DrvR) (a : Option Addr) (c : Nat) (hd : d.any) (ha : StrR m a d.inputs) : PureC Tryd.prog 3 3 [.agg (dRow d a c).toArray] m (.bool true) := by
  refine pure_of_W (fn := Tryd.f3) rfl rfl F3_ok (by simp [F3]) (.bool _) ?_
  have kf := DetC.known (few_ok (mx m [.cells (dRow d a c) 24 true .exact]) d a c hd (ha.old (Old.here _ _)))
  have kw := kWorks hg [.cells (dRow d a c) 24 true .exact]
  simp only [dRow] at kf kw
  cases hf : fewB d with
  | false =>
    rw [hf] at kf
    repeat first | simp (implicitDefEqProofs := false) (maxSteps := 1000000) (disch := first | omega | with_reducible assumption | (simp only [lenT, Nat.reduceAdd]; omega)) only [amT, cut, bnd, Nat.reduceBEq, reduceCtorEq, Nat.reduceEqDiff, Nat.reduceAdd, Nat.reduceMul, Nat.reduceSub, Int.reduceToNat, Int.reduceEq, Int.reduceLT, Int.reduceLE, Int.reduceAdd, Int.reduceSub, Int.reduceMul, reduceIte, resVs, resV, packV, initT, addr, F3, dRow, cellsOf_dRow, cutL3, kf, kw] | refine OrW.go ?_
  | true =>
    rw [hf] at kf
    have hsm := few_small hf
    have hpl := small_len hsm
    have hp := put_ok (mx m [.cells (dRow d a c) 24 true .exact]) d a c hsm.ok (ha.old (Old.here _ _))
    simp only [dRow] at hp
    repeat first | simp (implicitDefEqProofs := false) (maxSteps := 1000000) (disch := first | omega | with_reducible assumption | (simp only [lenT, Nat.reduceAdd]; omega)) only [amT, cut, bnd, Nat.reduceBEq, reduceCtorEq, Nat.reduceEqDiff, Nat.reduceAdd, Nat.reduceMul, Nat.reduceSub, Int.reduceToNat, Int.reduceEq, Int.reduceLT, Int.reduceLE, Int.reduceAdd, Int.reduceSub, Int.reduceMul, reduceIte, resVs, resV, packV, initT, addr, F3, dRow, cellsOf_dRow, cutL3, kf] | refine OrW.go ?_
    refine RelC.call hp ?_
    rintro r M1 ⟨hO1, hr1⟩
    obtain ⟨a1, c1, rfl, hB1⟩ := put_all hr1
    have hz1 : Old m M1 := (Old.here m _).trans hO1
    have hs1 := hO1.1
    rw [mx_size] at hs1
    simp only [List.length_cons, List.length_nil, Nat.zero_add] at hs1
    have b1 : M1.get m.size = .cells [.string ⟨d.name.toArray⟩, .slice a d.inputs.length c, .string ⟨d.recipe.toArray⟩] 24 true .exact := by rw [hO1.2 _ (by rw [mx_size]; simp)]; exact mx_new0 _ _
    have hp2 := refPut_ok (mx M1 []) d a c hsm.ok (ha.old (hz1.mx []))
    simp only [dRow] at hp2
    repeat first | simp (implicitDefEqProofs := false) (maxSteps := 1000000) (disch := first | omega | with_reducible assumption | (simp only [lenT, Nat.reduceAdd]; omega)) only [amT, cut, bnd, Nat.reduceBEq, reduceCtorEq, Nat.reduceEqDiff, Nat.reduceAdd, Nat.reduceMul, Nat.reduceSub, Int.reduceToNat, Int.reduceEq, Int.reduceLT, Int.reduceLE, Int.reduceAdd, Int.reduceSub, Int.reduceMul, reduceIte, resVs, resV, packV, initT, addr, b1, cutL3] | refine OrW.go ?_
    refine RelC.call hp2 ?_
    rintro r M2 ⟨hO2, hr2⟩
    obtain ⟨a2, c2, rfl, hB2⟩ := put_all hr2
    have hy2 : Old M1 M2 := (Old.here M1 []).trans hO2
    have b2 := b1
    rw [← hy2.2 _ (by omega)] at b2
    have hs2 := hy2.1
    have hn := dname_ok (mx M2 []) d a c (hg.old ((hz1.trans hy2).mx [])) hsm.ok (ha.old ((hz1.trans hy2).mx []))
    simp only [dRow] at hn
    repeat first | simp (implicitDefEqProofs := false) (maxSteps := 1000000) (disch := first | omega | with_reducible assumption | (simp only [lenT, Nat.reduceAdd]; omega)) only [amT, cut, bnd, Nat.reduceBEq, reduceCtorEq, Nat.reduceEqDiff, Nat.reduceAdd, Nat.reduceMul, Nat.reduceSub, Int.reduceToNat, Int.reduceEq, Int.reduceLT, Int.reduceLE, Int.reduceAdd, Int.reduceSub, Int.reduceMul, reduceIte, resVs, resV, packV, initT, addr, b2, cutL3] | refine OrW.go ?_
    refine RelC.call hn ?_
    rintro r M3 ⟨rfl, hO3⟩
    have hy3 : Old M2 M3 := (Old.here M2 []).trans hO3
    have b3 := b2
    rw [← hy3.2 _ (by omega)] at b3
    have hs3 := hy3.1
    have hn2 := refName_ok (mx M3 []) d a c hsm.ok (by omega) (ha.old ((hz1.trans (hy2.trans hy3)).mx []))
    simp only [dRow] at hn2
    repeat first | simp (implicitDefEqProofs := false) (maxSteps := 1000000) (disch := first | omega | with_reducible assumption | (simp only [lenT, Nat.reduceAdd]; omega)) only [amT, cut, bnd, Nat.reduceBEq, reduceCtorEq, Nat.reduceEqDiff, Nat.reduceAdd, Nat.reduceMul, Nat.reduceSub, Int.reduceToNat, Int.reduceEq, Int.reduceLT, Int.reduceLE, Int.reduceAdd, Int.reduceSub, Int.reduceMul, reduceIte, resVs, resV, packV, initT, addr, b3, cutL3] | refine OrW.go ?_
    refine RelC.call hn2 ?_
    rintro r M4 ⟨rfl, hO4⟩
    have hy4 : Old M3 M4 := (Old.here M3 []).trans hO4
    have b4 := b3
    rw [← hy4.2 _ (by omega)] at b4
    have hs4 := hy4.1
    have hz4 : Old m M4 := hz1.trans (hy2.trans (hy3.trans hy4))
    have k16 := DetC.known (right_ok (mx M4 []) d a c hsm.ok (ha.old (hz4.mx [])))
    have k17 := DetC.known (refRight_ok (mx M4 []) d a c hsm.ok (ha.old (hz4.mx [])))
    have s1 := ((hB1.old (hy2.trans (hy3.trans hy4))).old (Old.here M4 [])).str
    have s2 := ((hB2.old (hy3.trans hy4)).old (Old.here M4 [])).str
    have kw4 := kWorks (hg.old hz4) []
    simp only [dRow] at k16 k17
    have ee : eqV .bool (.bool (rightR d)) (.bool (rightR d)) = some true := by cases rightR d <;> rfl
    repeat first | simp (implicitDefEqProofs := false) (maxSteps := 1000000) (disch := first | omega | with_reducible assumption | (simp only [lenT, Nat.reduceAdd]; omega)) only [amT, cut, bnd, Nat.reduceBEq, reduceCtorEq, Nat.reduceEqDiff, Nat.reduceAdd, Nat.reduceMul, Nat.reduceSub, Int.reduceToNat, Int.reduceEq, Int.reduceLT, Int.reduceLE, Int.reduceAdd, Int.reduceSub, Int.reduceMul, reduceIte, resVs, resV, packV, initT, addr, b4, cutL3, k16, k17, s1, s2, kw4, stepOp_b2s_v, ee] | refine OrW.go ?_
    exact hz4.mx []
end Go.Proofs.YtgkmlbkocgjmmaaDoor
namespace Go.AM
set_option linter.unusedVariables false
section
variable {P : Program}
/-- A laid row of words. -/
theorem laid_words {w : World} {name : String} {g t e : Nat} {n : Nat} {zs : List UInt32} {cs : Array Value} {fuel : Nat} {p : List MemPlace}
    (hg : P.globalNamed name = some g) (hv : w.var? P name = some cs) (ht : P.underlying t = some (.array n e)) (he : P.underlying e = some (.int .u32)) (hct : P.cellsOf t = n) (hc : P.cellsOf e = 1)
    (hd : DataW.trod (fun _ => ()) P w 0 (fun _ => true) false fuel t cs.toList = some (.agg (zs.map fun z => .lit (.int .u32 (z.toNat : Int))), p)) :
    ∃ ty frz, w.heap[g]? = some (.cells cs ty frz) ∧ cs = (zs.map w32).toArray := by
  obtain ⟨xs, mm, _, ex, hlen, hl, hel⟩ := DataW.trod_array ht hd
  have e1 : zs.map (fun z => DataW.lit (.int .u32 (z.toNat : Int))) = xs.map (·.1) := DataW.agg.inj (Prod.mk.inj ex).1
  rw [hct] at hlen
  have hzl : zs.length = n := by have := congrArg List.length e1; simp at this; omega
  simp only [World.var?, hg, Option.bind_some] at hv
  split at hv <;> simp at hv
  rename_i cs' ty frz hh
  subst hv
  refine ⟨ty, frz, hh, ?_⟩
  apply Array.ext'
  apply List.ext_getElem
  · simp [hzl] at hlen ⊢; omega
  · intro i h1 h2
    have hi : i < n := by simp at hlen h1; omega
    have k := hel i hi
    rw [hc, Nat.mul_one] at k
    have k1 : (cs'.toList.drop i).take 1 = [cs'.toList[i]] := by rw [List.drop_eq_getElem_cons h1]; simp
    rw [k1, List.getElem?_eq_getElem (by omega)] at k
    obtain ⟨z, a0, b0, _⟩ := DataW.trod_int he k
    have a1 : cs'.toList[i] = .int .u32 z := by simpa using a0
    rw [a1]
    have e2 := congrArg (fun l => l[i]?) e1
    simp only [List.getElem?_map, List.getElem?_eq_getElem (show i < zs.length by omega), List.getElem?_eq_getElem (show i < xs.length by omega), Option.map_some, Option.some.injEq, b0] at e2
    simp only [DataW.lit.injEq, Lit.int.injEq, true_and] at e2
    simp [w32, e2]
end
end Go.AM
namespace Go.Proofs.YtgkmlbkocgjmmaaDoor.gl
open Go.ChangeShapes Go.WideShapes Go.ChangeAt Go.RowKit
set_option linter.unusedVariables false
theorem own : ownKnob Tryd.prog.godebug = none := by kernel_rfl
theorem laidOut : laidOutB Tryd.prog = true := by kernel_rfl
abbrev laid : List (String × DataW Unit) := [("tithebarn/sha.constants", Rows.laid_tithebarn_sha_constants), ("tithebarn/sha.begin", Rows.laid_tithebarn_sha_begin)]

/-- The listed variables, where they lie. -/
theorem globs {W : World} (h : laidMetH Tryd.prog laid W) : (∃ ty frz, W.heap[0]? = some (.cells (AM.constW.map AM.w32).toArray ty frz)) ∧ ∃ ty frz, W.heap[1]? = some (.cells (AM.beginW.map AM.w32).toArray ty frz) := by
  rw [MakeChecks.laidMetH_plain _ _ _ (by kernel_rfl)] at h
  obtain ⟨ps, ⟨g, t, cs, fuel, p, q, hg, ht, hv, hd, ⟨g2, t2, cs2, fuel2, p2, q2, hg2, ht2, hv2, hd2, _, _⟩, _⟩, _, _⟩ := h
  have k0 : Tryd.prog.globalNamed "tithebarn/sha.constants" = some 0 := by kernel_rfl
  have k1 : Tryd.prog.globalNamed "tithebarn/sha.begin" = some 1 := by kernel_rfl
  obtain rfl := Option.some.inj (k0.symm.trans hg)
  obtain rfl := Option.some.inj (k1.symm.trans hg2)
  obtain rfl := Option.some.inj ((show (Tryd.prog.globals[0]?).map (·.type) = some 127 by kernel_rfl).symm.trans ht)
  obtain rfl := Option.some.inj ((show (Tryd.prog.globals[1]?).map (·.type) = some 92 by kernel_rfl).symm.trans ht2)
  obtain ⟨ty, frz, h1, rfl⟩ := AM.laid_words (zs := AM.constW) k0 hv Tryd.underlying127 Tryd.underlying91 (by kernel_rfl) (by kernel_rfl) hd
  obtain ⟨ty2, frz2, h2, rfl⟩ := AM.laid_words (zs := AM.beginW) k1 hv2 Tryd.underlying92 Tryd.underlying91 (by kernel_rfl) (by kernel_rfl) hd2
  exact ⟨⟨ty, frz, h1⟩, ⟨ty2, frz2, h2⟩⟩

/-- A world in which they are as listed. -/
noncomputable def laidWorld (os : Os) : World :=
  let w0 := World.holding Tryd.prog os ⟨#[], #[], []⟩
  { w0 with heap := (w0.heap.modify 0 fun
      | .cells _ t frozen => .cells (AM.constW.map AM.w32).toArray t frozen
      | o => o).modify 1 fun
      | .cells _ t frozen => .cells (AM.beginW.map AM.w32).toArray t frozen
      | o => o }
theorem laidWorld_met (os : Os) (args : Array Value) : laidMetH Tryd.prog laid ((laidWorld os).forCall (fun _ _ => 0) ⟨#[], args, []⟩).memory := by
  rw [MakeChecks.laidMetH_plain _ _ _ (by kernel_rfl)]
  exact laidMet_of_run' 8 (by kernel_rfl) (by kernel_rfl)

/-- The memory of which a law speaks: the variables, and what the arguments lead to. -/
def osOf (ty ty2 : TypeId) (l : List (AM.AObj × AM.Loc)) : List (AM.AObj × AM.Loc) :=
  (.cells (AM.constW.map AM.w32) ty false (.full 1), ⟨0, 0, 64, 1⟩) :: (.cells (AM.beginW.map AM.w32) ty2 false (.full 1), ⟨1, 0, 8, 1⟩) :: (.dead, ⟨2, 0, 0, 1⟩) :: l
theorem plain_w (l : List UInt32) : ∀ v ∈ l.map AM.w32, AM.Plain v := fun v hv => by
  simp only [List.mem_map] at hv; obtain ⟨x, _, rfl⟩ := hv; exact AM.plain_w32 _
theorem obj_w {W : World} {ρ : AM.Ren} {g : Nat} {l : List UInt32} {ty : TypeId} {frz : Nat × Nat} (h : W.heap[g]? = some (.cells (l.map AM.w32).toArray ty frz)) {n : Nat} (hn : l.length = n) : AM.ObjRel ρ (.cells (l.map AM.w32) ty false (.full 1)) ⟨g, 0, n, 1⟩ W := by
  have := AM.ObjRel.plain (ρ := ρ) (c := l.map AM.w32) (o := 0) (e := ty) h (by simp) (fun j hj => by simp; simp at hj; simp [hj]) (plain_w l) 1 (by omega)
  rwa [List.length_map, hn] at this
theorem wrtL {ty ty2 : TypeId} {l : List (AM.AObj × AM.Loc)} (hl : ∀ x ∈ l, x.1.wrt = false) : ∀ x ∈ osOf ty ty2 l, x.1.wrt = false := fun x hx => by
  simp only [osOf, List.mem_cons] at hx
  rcases hx with rfl | rfl | rfl | hx
  · rfl
  · rfl
  · rfl
  · exact hl x hx
theorem rep {W : World} {ty ty2 : TypeId} {frz frz2 : Nat × Nat} (h0 : W.heap[0]? = some (.cells (AM.constW.map AM.w32).toArray ty frz)) (h1 : W.heap[1]? = some (.cells (AM.beginW.map AM.w32).toArray ty2 frz2))
    {l : List (AM.AObj × AM.Loc)} (hl : ∀ x ∈ l, AM.ObjRel (AM.renOf (osOf ty ty2 l)) x.1 x.2 W) (hw : ∀ x ∈ l, x.1.wrt = false) : AM.Rep 3 (AM.memOf (osOf ty ty2 l)) (AM.renOf (osOf ty ty2 l)) W := by
  refine AM.Rep.of (osOf ty ty2 l) (fun g hg => ?_) (fun x hx => ?_) (wrtL hw)
  · match g, hg with
    | 0, _ => exact ⟨_, rfl, rfl, rfl⟩
    | 1, _ => exact ⟨_, rfl, rfl, rfl⟩
    | 2, _ => exact ⟨_, rfl, rfl, rfl⟩
  · simp only [osOf, List.mem_cons] at hx
    rcases hx with rfl | rfl | rfl | hx
    · exact obj_w h0 rfl
    · exact obj_w h1 rfl
    · trivial
    · exact hl x hx
theorem glob (ty ty2 : TypeId) (l : List (AM.AObj × AM.Loc)) : S.Glob (AM.memOf (osOf ty ty2 l)) := ⟨⟨ty, _, rfl⟩, ⟨ty2, _, rfl⟩, by show 2 < l.length + 1 + 1 + 1; omega⟩
theorem os_at {ty ty2 : TypeId} {l : List (AM.AObj × AM.Loc)} {k : Nat} {x : AM.AObj × AM.Loc} (h : l[k]? = some x) : (osOf ty ty2 l)[3 + k]? = some x := by
  rw [Nat.add_comm]; exact h
theorem get_at {ty ty2 : TypeId} {l : List (AM.AObj × AM.Loc)} {k : Nat} {x : AM.AObj × AM.Loc} (h : l[k]? = some x) : (AM.memOf (osOf ty ty2 l)).get (3 + k) = x.1 := by
  simp only [AM.memOf, os_at h]
theorem ren_at {ty ty2 : TypeId} {l : List (AM.AObj × AM.Loc)} {k : Nat} {x : AM.AObj × AM.Loc} (h : l[k]? = some x) : AM.renOf (osOf ty ty2 l) (3 + k) = some x.2 := by
  simp only [AM.renOf, os_at h, Option.map_some]
theorem lt_at {ty ty2 : TypeId} {l : List (AM.AObj × AM.Loc)} {k : Nat} {x : AM.AObj × AM.Loc} (h : l[k]? = some x) : 3 + k < (AM.memOf (osOf ty ty2 l)).size := by
  have := (List.getElem?_eq_some_iff.1 h).1
  show 3 + k < l.length + 1 + 1 + 1; omega

/-- An argument whose blocks are those from the k-th on. -/
def Arg (W : World) (k : Nat) (L : List (AM.AObj × AM.Loc)) (F : AM.AMem → AM.Ren → Prop) : Prop :=
  (∀ x ∈ L, x.1.wrt = false) ∧ ∀ (ty ty2 : TypeId) (l : List (AM.AObj × AM.Loc)), (∀ j (h : j < L.length), l[k + j]? = some L[j]) → (∀ x ∈ L, AM.ObjRel (AM.renOf (osOf ty ty2 l)) x.1 x.2 W) ∧ F (AM.memOf (osOf ty ty2 l)) (AM.renOf (osOf ty ty2 l))
theorem Arg.none (W : World) (k : Nat) : Arg W k [] fun _ _ => True := ⟨(fun x h => by cases h), fun ty ty2 l _ => ⟨(fun x h => by cases h), trivial⟩⟩
theorem Arg.and {W : World} {k : Nat} {L1 L2 : List (AM.AObj × AM.Loc)} {F1 F2 : AM.AMem → AM.Ren → Prop} (h1 : Arg W k L1 F1) (h2 : Arg W (k + L1.length) L2 F2) : Arg W k (L1 ++ L2) fun m ρ => F1 m ρ ∧ F2 m ρ := by
  refine ⟨fun x hx => (List.mem_append.1 hx).elim (h1.1 x) (h2.1 x), fun ty ty2 l hl => ?_⟩
  obtain ⟨a1, b1⟩ := h1.2 ty ty2 l fun j h => by rw [hl j (by rw [List.length_append]; omega), List.getElem_append_left h]
  obtain ⟨a2, b2⟩ := h2.2 ty ty2 l fun j h => by
    rw [Nat.add_assoc, hl (L1.length + j) (by rw [List.length_append]; omega), List.getElem_append_right (by omega)]
    simp only [Nat.add_sub_cancel_left]
  exact ⟨fun x hx => (List.mem_append.1 hx).elim (a1 x) (a2 x), b1, b2⟩
theorem Arg.all {W : World} {L : List (AM.AObj × AM.Loc)} {F : AM.AMem → AM.Ren → Prop} (h : Arg W 0 L F) (ty ty2 : TypeId) : (∀ x ∈ L, AM.ObjRel (AM.renOf (osOf ty ty2 L)) x.1 x.2 W) ∧ F (AM.memOf (osOf ty ty2 L)) (AM.renOf (osOf ty ty2 L)) :=
  h.2 ty ty2 L fun j hj => by rw [Nat.zero_add]; exact List.getElem?_eq_getElem hj

/-- A row of texts. -/
theorem arg_strs {W : World} {ls : List (List UInt8)} {v : Value} (h : AM.SlP W (ls.map fun s => .string ⟨s.toArray⟩) v) (k : Nat) : ∃ (x : AM.AObj × AM.Loc) (a : Option Addr) (cap : Nat), (∀ ρ, AM.ObjRel ρ x.1 x.2 W) ∧ Arg W k [x] fun m ρ => Src m a ls ∧ AM.VRel ρ (.slice a ls.length cap) v := by
  have hp : ∀ x ∈ ls.map (fun s : List UInt8 => Value.string ⟨s.toArray⟩), AM.Plain x := fun x hx => by
    simp only [List.mem_map] at hx; obtain ⟨y, _, rfl⟩ := hx; exact .string _
  generalize hc : ls.map (fun s : List UInt8 => Value.string ⟨s.toArray⟩) = c at h hp
  have hcl : c.length = ls.length := by rw [← hc, List.length_map]
  cases h with
  | nil h =>
    subst h
    obtain rfl : ls = [] := List.length_eq_zero_iff.1 (by simpa using hcl.symm)
    exact ⟨(.dead, ⟨2, 0, 0, 1⟩), none, 0, fun _ => trivial, fun x hx => (by rw [List.mem_singleton] at hx; subst hx; rfl), fun ty ty2 l hl => ⟨fun x hx => (by rw [List.mem_singleton] at hx; subst hx; trivial), .inl ⟨rfl, rfl⟩, .nilSlice 0 0⟩⟩
  | none a h =>
    subst h
    obtain rfl : ls = [] := List.length_eq_zero_iff.1 (by simpa using hcl.symm)
    exact ⟨(.dead, ⟨2, 0, 0, 1⟩), some ⟨0, 0, none⟩, 0, fun _ => trivial, fun x hx => (by rw [List.mem_singleton] at hx; subst hx; rfl), fun ty ty2 l hl => ⟨fun x hx => (by rw [List.mem_singleton] at hx; subst hx; trivial),
      .inr ⟨0, 0, rfl, by show 0 < l.length + 1 + 1 + 1; omega, AM.cutL_zero (Nat.zero_le _)⟩, .sliceEnd (b := 0) (o := 0) (L := ⟨0, 0, 64, 1⟩) rfl (.inl rfl)⟩⟩
  | some b o cap carr t frz hh hl hcc hcap hle =>
    have hob : ∀ ρ, AM.ObjRel ρ (.cells c t false (.full 1)) ⟨b, o, c.length, 1⟩ W := fun ρ => AM.ObjRel.plain hh hl hcc hp 1 (by omega)
    refine ⟨(.cells c t false (.full 1), ⟨b, o, c.length, 1⟩), some ⟨3 + k, 0, none⟩, cap, hob, fun x hx => (by rw [List.mem_singleton] at hx; subst hx; rfl), fun ty ty2 l hl => ⟨fun x hx => (by rw [List.mem_singleton] at hx; subst hx; exact hob _), ?_, ?_⟩⟩
    · have h0 := hl 0 (by simp)
      rw [Nat.add_zero] at h0
      refine .inr ⟨3 + k, 0, rfl, lt_at h0, ?_⟩
      rw [get_at h0]
      show AM.cutL c 0 ls.length = _
      rw [← hcl, AM.cutL_all rfl, ← hc]; rfl
    · have h0 := hl 0 (by simp)
      rw [Nat.add_zero] at h0
      rw [← hcl]
      exact .slice (b := 3 + k) (o := 0) (ren_at h0) (AM.openCap_lt hcap)
/-- What a row of rows of texts is, in a world. -/
abbrev RowT := List (List UInt8) × Value
def RowT.ok (W : World) (z : RowT) : Prop := AM.SlP W (z.1.map fun s => .string ⟨s.toArray⟩) z.2 ∧ (∀ y ∈ z.1, y.length ≤ 9223372036854775807) ∧ z.1.length ≤ 9223372036854775807
instance : Inhabited RowT := ⟨([], .bool false)⟩
end Go.Proofs.YtgkmlbkocgjmmaaDoor.gl
namespace Go.Proofs.YtgkmlbkocgjmmaaDoor.gl
open Go.ChangeShapes Go.WideShapes Go.ChangeAt Go.RowKit
set_option linter.unusedVariables false
set_option maxRecDepth 100000
theorem open_drv {H : Type} {enc : TypeId × Value → H} {w : World} {base : Nat} {hd : Bool} {cs : List Value} {y : DataW H × List MemPlace} {fuel : Nat}
    (h : DataW.trod enc Tryd.prog w base (fun _ => true) hd fuel 24 cs = some y) : ∃ (d : DrvR) (v : Value), cs = [.string ⟨d.name.toArray⟩, v, .string ⟨d.recipe.toArray⟩] ∧ AM.SlP w (d.inputs.map fun s => .string ⟨s.toArray⟩) v ∧ d.any := by
  cases fuel with
  | zero => simp [DataW.trod] at h
  | succ fuel =>
    simp only [DataW.trod, Tryd.underlying24] at h
    split at h <;> try (simp at h; done)
    rename_i hlen
    have h3 : Tryd.prog.cellsOf 24 = 3 := by kernel_rfl
    rw [h3] at hlen
    simp only [Option.map_eq_some_iff] at h
    obtain ⟨xs, hxs, _⟩ := h
    obtain ⟨c0, c1, c2, rfl⟩ : ∃ a b c, cs = [a, b, c] := by
      match cs, hlen with
      | [a, b, c], _ => exact ⟨a, b, c, rfl⟩
    have k9 : Tryd.prog.cellsOf 9 = 1 := by kernel_rfl
    have k22 : Tryd.prog.cellsOf 22 = 1 := by kernel_rfl
    obtain ⟨y0, e0⟩ := Go.AM.mapM_some_get hxs 0 (by decide)
    obtain ⟨y1, e1⟩ := Go.AM.mapM_some_get hxs 1 (by decide)
    obtain ⟨y2, e2⟩ := Go.AM.mapM_some_get hxs 2 (by decide)
    simp only [List.getElem_cons_zero, List.getElem_cons_succ, k9, k22, List.drop_zero, List.drop_succ_cons, List.take_succ_cons, List.take_zero] at e0 e1 e2
    obtain ⟨s0, rfl, w0⟩ := AM.trod_str Tryd.underlying9 e0
    obtain ⟨s2, rfl, w2⟩ := AM.trod_str Tryd.underlying9 e2
    obtain ⟨v, l, ev, hs, hl, hl2⟩ := AM.open_strs Tryd.underlying22 Tryd.underlying9 k9 e1
    cases ev
    exact ⟨⟨s0, l, s2⟩, _, rfl, hs, w0, w2, hl2, hl⟩
theorem drv_of {v x y z : Value} (h : v.cells.toList = [x, y, z]) : v = .agg #[x, y, z] := by
  cases v with
  | agg cs =>
    have h : cs.toList = [x, y, z] := h
    have : cs = #[x, y, z] := Array.ext' h
    rw [this]
  | _ => simp [Value.cells] at h
theorem rel_drv {ρ : AM.Ren} {d : DrvR} {a : Option Addr} {c : Nat} {v : Value} (h : AM.VRel ρ (.slice a d.inputs.length c) v) : AM.VRel ρ (.agg (dRow d a c).toArray) (.agg #[.string ⟨d.name.toArray⟩, v, .string ⟨d.recipe.toArray⟩]) := by
  refine .agg _ _ rfl fun i h1 h2 => ?_
  match i, h1 with
  | 0, _ => exact .string _
  | 1, _ => exact h
  | 2, _ => exact .string _
end Go.Proofs.YtgkmlbkocgjmmaaDoor.gl
