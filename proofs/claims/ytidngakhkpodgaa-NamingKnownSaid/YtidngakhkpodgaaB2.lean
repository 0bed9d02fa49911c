/- Parts of a proof: contracts of functions. -/
import Derived.Test.YtidngakhkpodgaaB1
import Derived.Test.YtidngakhkpodgaaA3
set_option linter.unusedVariables false
set_option linter.unusedSimpArgs false
set_option linter.unnecessarySimpa false
namespace Go.Proofs.Ytidngakhkpodgaa
open Go Go.AM
set_option linter.unusedVariables false
set_option linter.unusedSimpArgs false

theorem outP_set {l : List UInt8} {p : Nat} (hp : p < 160) (h : (valL l).testBit (159 - p) = true) :
    splice ((outP l p).map byteV) (p / 8) [.int .u8 ((bitAt l p (p / 8) ||| 2 ^ (7 - p % 8) : Nat) : Int)] = (outP l (p + 1)).map byteV := by
  have hlen : (outP l p).length = 20 := outP_length l p
  have hpj : p / 8 < 20 := by omega
  apply List.ext_getElem
  · rw [splice_length (by simp [hlen]; omega)]; simp [outP]
  · intro i h1 h2
    have hi : i < 20 := by simpa [outP] using h2
    have hon := bitAt_on hp hi h
    rw [List.getElem_map]
    simp only [byteV]
    rw [outP_toNat l (p + 1) hi, hon]
    by_cases hin : i = p / 8
    · subst hin
      have := splice_in (c := (outP l p).map byteV) (o := p / 8) (v := [.int .u8 ((bitAt l p (p / 8) ||| 2 ^ (7 - p % 8) : Nat) : Int)]) (by simp [hlen]; omega) 0 (by simp) (by simpa using h1)
      simp only [Nat.add_zero] at this
      rw [this]
      simp
    · rw [splice_out (by simp [hlen]; omega) i (by simp; omega) (by simp [hlen]; omega) h1, if_neg hin, List.getElem_map]
      simp only [byteV]
      rw [outP_toNat l p hi]

theorem shl_one_u8 {q : Nat} (hq : q ≤ 7) : shl .u8 1 (q : Int) = ((2 ^ q : Nat) : Int) := by
  have : ∀ q : Fin 8, shl .u8 1 ((q.val : Nat) : Int) = ((2 ^ q.val : Nat) : Int) := by decide
  exact this ⟨q, by omega⟩

theorem refBytes_ok (m : AMem) (l : List UInt8) :
    ACall Try.prog 1 13 [.string ⟨l.toArray⟩] m fun r m' => r = .ret (.tuple #[.agg ((bytesR l).1.map byteV).toArray, .bool (bytesR l).2]) ∧ m' = m := by
  refine ACall.forget (Q := fun r m' => r = .ret (.tuple #[.agg ((bytesR l).1.map byteV).toArray, .bool (bytesR l).2]) ∧ ∀ x, x < m.size → m'.get x = m.get x) ?_ ?_
  · refine ACall_of_W (fn := Try.f13) rfl rfl F13_ok (by simp [F13]) ?_
    have hlenN : ∀ n, ((outTo l n).map byteV).length = 20 := fun n => by simp [outTo]
    have hlenP : ∀ n, ((outP l n).map byteV).length = 20 := fun n => by simp [outP]
    have ret : ∀ (M : AMem) (c k : List UInt8), c.length = 20 → k.length = 20 → M.get m.size = .cells ((outTo l 0).map byteV) 27 true .exact → M.get (m.size + 1) = .cells (c.map byteV) 27 true .exact →
        rd M (m.size + 1) 0 20 = some (c.map byteV) ∧ wr M m.size 0 (k.map byteV) = some (M.set m.size (.cells (k.map byteV) 27 true .exact)) ∧
        rd (M.set m.size (.cells (k.map byteV) 27 true .exact)) m.size 0 20 = some (k.map byteV) := fun M c k hc hk h1 h2 =>
      ⟨rd_all h2 (by simp [hc]), wr_all h1 (by rw [hlenN]; simp [hk]), rd_all (AMem.get_set_self _ _ _) (by simp [hk])⟩
    simp (implicitDefEqProofs := false) (disch := omega) only [amS, Nat.reduceBEq, reduceCtorEq, Nat.reduceEqDiff, Nat.reduceAdd, Nat.reduceMul, Nat.reduceSub, Int.reduceToNat, Int.reduceEq, Int.reduceLT, Int.reduceLE, Int.reduceAdd, Int.reduceSub, Int.reduceMul, reduceIte, resVs, resV, packV, initT, addr, F13, z20 l]
    have g1 : ((m.push (.cells ((outTo l 0).map byteV) 27 true .exact)).push (.cells ((outTo l 0).map byteV) 27 true .exact)).get m.size = .cells ((outTo l 0).map byteV) 27 true .exact := by simp (implicitDefEqProofs := false) (disch := omega) only [amS, Nat.reduceBEq, reduceCtorEq, Nat.reduceEqDiff, Nat.reduceAdd, Nat.reduceMul, Nat.reduceSub, Int.reduceToNat, Int.reduceEq, Int.reduceLT, Int.reduceLE, Int.reduceAdd, Int.reduceSub, Int.reduceMul, reduceIte, resVs, resV, packV, initT, addr]
    have g2 : ((m.push (.cells ((outTo l 0).map byteV) 27 true .exact)).push (.cells ((outTo l 0).map byteV) 27 true .exact)).get (m.size + 1) = .cells ((outTo l 0).map byteV) 27 true .exact := by simp (implicitDefEqProofs := false) (disch := omega) only [amS, Nat.reduceBEq, reduceCtorEq, Nat.reduceEqDiff, Nat.reduceAdd, Nat.reduceMul, Nat.reduceSub, Int.reduceToNat, Int.reduceEq, Int.reduceLT, Int.reduceLE, Int.reduceAdd, Int.reduceSub, Int.reduceMul, reduceIte, resVs, resV, packV, initT, addr]
    have g3 : ∀ x, x < m.size → ((m.push (.cells ((outTo l 0).map byteV) 27 true .exact)).push (.cells ((outTo l 0).map byteV) 27 true .exact)).get x = m.get x := fun x hx => by simp (implicitDefEqProofs := false) (disch := omega) only [amS, Nat.reduceBEq, reduceCtorEq, Nat.reduceEqDiff, Nat.reduceAdd, Nat.reduceMul, Nat.reduceSub, Int.reduceToNat, Int.reduceEq, Int.reduceLT, Int.reduceLE, Int.reduceAdd, Int.reduceSub, Int.reduceMul, reduceIte, resVs, resV, packV, initT, addr]
    generalize (m.push (.cells ((outTo l 0).map byteV) 27 true .exact)).push (.cells ((outTo l 0).map byteV) 27 true .exact) = M at *
    obtain ⟨r1, w1, r2⟩ := ret M _ _ (outTo_length l 0) (outTo_length l 0) g1 g2
    have hfail : ∀ (M : AMem) (k : List UInt8), (∀ x, x < m.size → M.get x = m.get x) → (∀ x, x < m.size → (M.set m.size (.cells (k.map byteV) 27 true .exact)).get x = m.get x) := fun M k h x hx => by
      rw [AMem.get_set_ne _ _ (by omega)]; exact h x hx
    refine BoolW_of (fun hne => ?_) (fun hne => ?_)
    · have hne' : ¬ l.length = 32 := by rw [str_size] at hne; simp at hne; omega
      simp (implicitDefEqProofs := false) (disch := omega) only [amS, Nat.reduceBEq, reduceCtorEq, Nat.reduceEqDiff, Nat.reduceAdd, Nat.reduceMul, Nat.reduceSub, Int.reduceToNat, Int.reduceEq, Int.reduceLT, Int.reduceLE, Int.reduceAdd, Int.reduceSub, Int.reduceMul, reduceIte, resVs, resV, packV, initT, addr, r1, w1, r2, hlenN]
      exact ⟨by simp [bytesR, hne'], hfail M _ g3⟩
    · have hl : l.length = 32 := by rw [str_size] at hne; simp at hne; omega
      refine W_loop (fun N s => ∃ i : Nat, i ≤ 32 ∧ N = 32 - i ∧ (∀ j (hj : j < 32), j < i → 0 ≤ valZ l[j]) ∧ s.ds = [] ∧ s.t 0 = .string ⟨l.toArray⟩ ∧ s.t 2 = .pointer (some ⟨m.size, 0, none⟩) ∧
        s.t 4 = .pointer (some ⟨m.size + 1, 0, none⟩) ∧ s.t 5 = .int .i64 i ∧
        s.m.get m.size = .cells ((outTo l 0).map byteV) 27 true .exact ∧ s.m.get (m.size + 1) = .cells ((outP l (5 * i)).map byteV) 27 true .exact ∧ ∀ x, x < m.size → s.m.get x = m.get x) 32
        ⟨0, by omega, by omega, fun j hj hji => by omega, rfl, by simp (implicitDefEqProofs := false) (disch := omega) only [amS, Nat.reduceBEq, reduceCtorEq, Nat.reduceEqDiff, Nat.reduceAdd, Nat.reduceMul, Nat.reduceSub, Int.reduceToNat, Int.reduceEq, Int.reduceLT, Int.reduceLE, Int.reduceAdd, Int.reduceSub, Int.reduceMul, reduceIte, resVs, resV, packV, initT, addr], by simp (implicitDefEqProofs := false) (disch := omega) only [amS, Nat.reduceBEq, reduceCtorEq, Nat.reduceEqDiff, Nat.reduceAdd, Nat.reduceMul, Nat.reduceSub, Int.reduceToNat, Int.reduceEq, Int.reduceLT, Int.reduceLE, Int.reduceAdd, Int.reduceSub, Int.reduceMul, reduceIte, resVs, resV, packV, initT, addr], by simp (implicitDefEqProofs := false) (disch := omega) only [amS, Nat.reduceBEq, reduceCtorEq, Nat.reduceEqDiff, Nat.reduceAdd, Nat.reduceMul, Nat.reduceSub, Int.reduceToNat, Int.reduceEq, Int.reduceLT, Int.reduceLE, Int.reduceAdd, Int.reduceSub, Int.reduceMul, reduceIte, resVs, resV, packV, initT, addr], by simp (implicitDefEqProofs := false) (disch := omega) only [amS, Nat.reduceBEq, reduceCtorEq, Nat.reduceEqDiff, Nat.reduceAdd, Nat.reduceMul, Nat.reduceSub, Int.reduceToNat, Int.reduceEq, Int.reduceLT, Int.reduceLE, Int.reduceAdd, Int.reduceSub, Int.reduceMul, reduceIte, resVs, resV, packV, initT, addr]; rfl, g1, by rw [outP_zero hl]; exact g2, g3⟩ ?_
      clear g1 g2 g3 r1 r2 w1
      rintro N t M1 ds ⟨i, hi, rfl, hval, rfl, t0, t2, t4, t5, g1, g2, g3⟩
      simp only at t0 t2 t4 t5 g1 g2 g3
      simp (implicitDefEqProofs := false) (disch := omega) only [amS, Nat.reduceBEq, reduceCtorEq, Nat.reduceEqDiff, Nat.reduceAdd, Nat.reduceMul, Nat.reduceSub, Int.reduceToNat, Int.reduceEq, Int.reduceLT, Int.reduceLE, Int.reduceAdd, Int.reduceSub, Int.reduceMul, reduceIte, resVs, resV, packV, initT, addr, F13_l0, t0, t2, t4, t5]
      refine BoolW_dec (fun hlt => ?_) (fun hlt => ?_)
      · have hi32 : i < 32 := by omega
        have hs := str_get l (i := i) (by omega)
        simp (implicitDefEqProofs := false) (disch := omega) only [amS, Nat.reduceBEq, reduceCtorEq, Nat.reduceEqDiff, Nat.reduceAdd, Nat.reduceMul, Nat.reduceSub, Int.reduceToNat, Int.reduceEq, Int.reduceLT, Int.reduceLE, Int.reduceAdd, Int.reduceSub, Int.reduceMul, reduceIte, resVs, resV, packV, initT, addr, hs, t0, t2, t4, t5]
        refine (value_ok M1 (l[i]'(by omega))).mono ?_
        rintro r m' ⟨rfl, rfl⟩
        have hv1 := valZ_lt (l[i]'(by omega))
        simp (implicitDefEqProofs := false) (disch := omega) only [amS, Nat.reduceBEq, reduceCtorEq, Nat.reduceEqDiff, Nat.reduceAdd, Nat.reduceMul, Nat.reduceSub, Int.reduceToNat, Int.reduceEq, Int.reduceLT, Int.reduceLE, Int.reduceAdd, Int.reduceSub, Int.reduceMul, reduceIte, resVs, resV, packV, initT, addr, t0, t2, t4, t5, z20 l]
        refine BoolW_dec (fun hv => ?_) (fun hv => ?_)
        · obtain ⟨r1, w1, r2⟩ := ret m' _ _ (outP_length l (5 * i)) (outTo_length l 0) g1 g2
          have hb : bytesR l = (outTo l 0, false) := by
            unfold bytesR
            rw [if_neg]
            rintro ⟨_, hall⟩
            have := hall (l[i]'(by omega)) (List.getElem_mem _)
            omega
          simp (implicitDefEqProofs := false) (disch := omega) only [amS, Nat.reduceBEq, reduceCtorEq, Nat.reduceEqDiff, Nat.reduceAdd, Nat.reduceMul, Nat.reduceSub, Int.reduceToNat, Int.reduceEq, Int.reduceLT, Int.reduceLE, Int.reduceAdd, Int.reduceSub, Int.reduceMul, reduceIte, resVs, resV, packV, initT, addr, stepOp_bld, fill, w1, r2, hlenN, t2, hb, List.map_nil]
          exact hfail m' _ g3
        · obtain ⟨v, hvv⟩ : ∃ v : Nat, valZ (l[i]'(by omega)) = v := ⟨(valZ (l[i]'(by omega))).toNat, by omega⟩
          have hval' : ∀ j (hj : j < 32), j < i + 1 → 0 ≤ valZ l[j] := fun j hj hji => by
            by_cases hje : j = i
            · subst hje; omega
            · exact hval j hj (by omega)
          rw [hvv]
          refine W_loop (fun N s => ∃ k : Nat, k ≤ 5 ∧ N = 5 - k ∧ s.ds = [] ∧ s.t 0 = .string ⟨l.toArray⟩ ∧ s.t 2 = .pointer (some ⟨m.size, 0, none⟩) ∧
            s.t 4 = .pointer (some ⟨m.size + 1, 0, none⟩) ∧ s.t 5 = .int .i64 i ∧ s.t 6 = .int .i64 v ∧ s.t 7 = .int .i64 k ∧
            s.m.get m.size = .cells ((outTo l 0).map byteV) 27 true .exact ∧ s.m.get (m.size + 1) = .cells ((outP l (5 * i + k)).map byteV) 27 true .exact ∧ ∀ x, x < m.size → s.m.get x = m.get x) 5
            ⟨0, by omega, by omega, rfl, by simp (implicitDefEqProofs := false) (disch := omega) only [amS, Nat.reduceBEq, reduceCtorEq, Nat.reduceEqDiff, Nat.reduceAdd, Nat.reduceMul, Nat.reduceSub, Int.reduceToNat, Int.reduceEq, Int.reduceLT, Int.reduceLE, Int.reduceAdd, Int.reduceSub, Int.reduceMul, reduceIte, resVs, resV, packV, initT, addr, t0], by simp (implicitDefEqProofs := false) (disch := omega) only [amS, Nat.reduceBEq, reduceCtorEq, Nat.reduceEqDiff, Nat.reduceAdd, Nat.reduceMul, Nat.reduceSub, Int.reduceToNat, Int.reduceEq, Int.reduceLT, Int.reduceLE, Int.reduceAdd, Int.reduceSub, Int.reduceMul, reduceIte, resVs, resV, packV, initT, addr, t2], by simp (implicitDefEqProofs := false) (disch := omega) only [amS, Nat.reduceBEq, reduceCtorEq, Nat.reduceEqDiff, Nat.reduceAdd, Nat.reduceMul, Nat.reduceSub, Int.reduceToNat, Int.reduceEq, Int.reduceLT, Int.reduceLE, Int.reduceAdd, Int.reduceSub, Int.reduceMul, reduceIte, resVs, resV, packV, initT, addr, t4], by simp (implicitDefEqProofs := false) (disch := omega) only [amS, Nat.reduceBEq, reduceCtorEq, Nat.reduceEqDiff, Nat.reduceAdd, Nat.reduceMul, Nat.reduceSub, Int.reduceToNat, Int.reduceEq, Int.reduceLT, Int.reduceLE, Int.reduceAdd, Int.reduceSub, Int.reduceMul, reduceIte, resVs, resV, packV, initT, addr, t5], by simp (implicitDefEqProofs := false) (disch := omega) only [amS, Nat.reduceBEq, reduceCtorEq, Nat.reduceEqDiff, Nat.reduceAdd, Nat.reduceMul, Nat.reduceSub, Int.reduceToNat, Int.reduceEq, Int.reduceLT, Int.reduceLE, Int.reduceAdd, Int.reduceSub, Int.reduceMul, reduceIte, resVs, resV, packV, initT, addr], by simp (implicitDefEqProofs := false) (disch := omega) only [amS, Nat.reduceBEq, reduceCtorEq, Nat.reduceEqDiff, Nat.reduceAdd, Nat.reduceMul, Nat.reduceSub, Int.reduceToNat, Int.reduceEq, Int.reduceLT, Int.reduceLE, Int.reduceAdd, Int.reduceSub, Int.reduceMul, reduceIte, resVs, resV, packV, initT, addr]; rfl, g1, g2, g3⟩ ?_
          clear g1 g2 g3 t0 t2 t4 t5
          rintro N t M1 ds ⟨k, hk, rfl, rfl, t0, t2, t4, t5, t6, t7, g1, g2, g3⟩
          simp only at t0 t2 t4 t5 t6 t7 g1 g2 g3
          simp (implicitDefEqProofs := false) (disch := omega) only [amS, Nat.reduceBEq, reduceCtorEq, Nat.reduceEqDiff, Nat.reduceAdd, Nat.reduceMul, Nat.reduceSub, Int.reduceToNat, Int.reduceEq, Int.reduceLT, Int.reduceLE, Int.reduceAdd, Int.reduceSub, Int.reduceMul, reduceIte, resVs, resV, packV, initT, addr, F13_l1, t0, t2, t4, t5, t6, t7]
          refine BoolW_dec (fun h5 => ?_) (fun h5 => ?_)
          · have hk5 : k < 5 := by omega
            have hbit := valZ_bit hl hi32 hk5 hvv
            have hv32 : v < 32 := by omega
            have hp : 5 * i + k < 160 := by omega
            have e0 : (5 * (i : Int) + (k : Int)) = ((5 * i + k : Nat) : Int) := by omega
            have e1 : (4 : Int) - (k : Int) = ((4 - k : Nat) : Int) := by omega
            have e2 : shr .i64 (v : Int) ((4 - k : Nat) : Int) = ((v >>> (4 - k) : Nat) : Int) := shr_nat .i64 _ _ (by simp [IntKind.bits]; omega)
            have hle := Nat.shiftRight_le v (4 - k)
            have e3 : ibits .and .i64 ((v >>> (4 - k) : Nat) : Int) 1 = ((v >>> (4 - k) &&& 1 : Nat) : Int) := by
              generalize v >>> (4 - k) = y at *
              exact ibits_and_nat (k := .i64) (b := 1) (by rw [max_i64]; omega) (by decide)
            rw [hbit] at e3
            cases hT : (valL l).testBit (159 - (5 * i + k)) with
            | false =>
              rw [hT, if_neg (by simp)] at e3
              have e3' : ibits .and .i64 ((v >>> (4 - k) : Nat) : Int) 1 = (0 : Int) := e3
              simp (implicitDefEqProofs := false) (disch := omega) only [amS, Nat.reduceBEq, reduceCtorEq, Nat.reduceEqDiff, Nat.reduceAdd, Nat.reduceMul, Nat.reduceSub, Int.reduceToNat, Int.reduceEq, Int.reduceLT, Int.reduceLE, Int.reduceAdd, Int.reduceSub, Int.reduceMul, reduceIte, resVs, resV, packV, initT, addr, e0, e1, e2, e3', t0, t2, t4, t5, t6, t7]
              refine ⟨5 - (k + 1), by omega, k + 1, by omega, rfl, rfl, by simp (implicitDefEqProofs := false) (disch := omega) only [amS, Nat.reduceBEq, reduceCtorEq, Nat.reduceEqDiff, Nat.reduceAdd, Nat.reduceMul, Nat.reduceSub, Int.reduceToNat, Int.reduceEq, Int.reduceLT, Int.reduceLE, Int.reduceAdd, Int.reduceSub, Int.reduceMul, reduceIte, resVs, resV, packV, initT, addr, t0], by simp (implicitDefEqProofs := false) (disch := omega) only [amS, Nat.reduceBEq, reduceCtorEq, Nat.reduceEqDiff, Nat.reduceAdd, Nat.reduceMul, Nat.reduceSub, Int.reduceToNat, Int.reduceEq, Int.reduceLT, Int.reduceLE, Int.reduceAdd, Int.reduceSub, Int.reduceMul, reduceIte, resVs, resV, packV, initT, addr, t2], by simp (implicitDefEqProofs := false) (disch := omega) only [amS, Nat.reduceBEq, reduceCtorEq, Nat.reduceEqDiff, Nat.reduceAdd, Nat.reduceMul, Nat.reduceSub, Int.reduceToNat, Int.reduceEq, Int.reduceLT, Int.reduceLE, Int.reduceAdd, Int.reduceSub, Int.reduceMul, reduceIte, resVs, resV, packV, initT, addr, t4], by simp (implicitDefEqProofs := false) (disch := omega) only [amS, Nat.reduceBEq, reduceCtorEq, Nat.reduceEqDiff, Nat.reduceAdd, Nat.reduceMul, Nat.reduceSub, Int.reduceToNat, Int.reduceEq, Int.reduceLT, Int.reduceLE, Int.reduceAdd, Int.reduceSub, Int.reduceMul, reduceIte, resVs, resV, packV, initT, addr, t5], by simp (implicitDefEqProofs := false) (disch := omega) only [amS, Nat.reduceBEq, reduceCtorEq, Nat.reduceEqDiff, Nat.reduceAdd, Nat.reduceMul, Nat.reduceSub, Int.reduceToNat, Int.reduceEq, Int.reduceLT, Int.reduceLE, Int.reduceAdd, Int.reduceSub, Int.reduceMul, reduceIte, resVs, resV, packV, initT, addr, t6], by simp (implicitDefEqProofs := false) (disch := omega) only [amS, Nat.reduceBEq, reduceCtorEq, Nat.reduceEqDiff, Nat.reduceAdd, Nat.reduceMul, Nat.reduceSub, Int.reduceToNat, Int.reduceEq, Int.reduceLT, Int.reduceLE, Int.reduceAdd, Int.reduceSub, Int.reduceMul, reduceIte, resVs, resV, packV, initT, addr]; rfl, g1, ?_, g3⟩
              rw [← Nat.add_assoc, outP_off hp hT]; exact g2
            | true =>
              rw [hT, if_pos rfl] at e3
              have e3' : ibits .and .i64 ((v >>> (4 - k) : Nat) : Int) 1 = (1 : Int) := e3
              have hset := outP_set hp hT
              generalize hpp : 5 * i + k = p at *
              have hp8 : p / 8 < 20 := by omega
              have e4 : (p : Int).tdiv 8 = ((p / 8 : Nat) : Int) := tdiv_nat p 8
              have e5 : (p : Int).tmod 8 = ((p % 8 : Nat) : Int) := tmod_nat p 8
              have e6 : (7 : Int) - ((p % 8 : Nat) : Int) = ((7 - p % 8 : Nat) : Int) := by omega
              have e7 := shl_one_u8 (q := 7 - p % 8) (by omega)
              have hba := bitAt_lt l p (p / 8)
              have hpw : 2 ^ (7 - p % 8) ≤ 2 ^ 7 := Nat.pow_le_pow_right (by omega) (by omega)
              have e8 : ibits .or .u8 (bitAt l p (p / 8) : Int) ((2 ^ (7 - p % 8) : Nat) : Int) = ((bitAt l p (p / 8) ||| 2 ^ (7 - p % 8) : Nat) : Int) :=
                ibits_or_nat (by rw [max_u8]; omega) (by rw [max_u8]; omega)
              have hg : rd M1 (m.size + 1) (p / 8) 1 = some [.int .u8 (bitAt l p (p / 8) : Nat)] := by
                rw [rd_one' g2]
                have h1 : ((outP l p).map byteV)[p / 8]? = some (byteV ((outP l p)[p / 8]'(by rw [outP_length]; omega))) := by
                  rw [List.getElem?_map, List.getElem?_eq_getElem (by rw [outP_length]; omega)]; rfl
                rw [h1]
                simp only [byteV, Option.map_some]
                rw [outP_toNat l p hp8]
              have w2 : wr M1 (m.size + 1) (p / 8) [.int .u8 ((bitAt l p (p / 8) ||| 2 ^ (7 - p % 8) : Nat) : Int)] = some (M1.set (m.size + 1) (.cells ((outP l (p + 1)).map byteV) 27 true .exact)) := by
                rw [← hset]; exact wr_at g2 (by rw [hlenP]; simp; omega)
              simp (implicitDefEqProofs := false) (disch := omega) only [amS, Nat.reduceBEq, reduceCtorEq, Nat.reduceEqDiff, Nat.reduceAdd, Nat.reduceMul, Nat.reduceSub, Int.reduceToNat, Int.reduceEq, Int.reduceLT, Int.reduceLE, Int.reduceAdd, Int.reduceSub, Int.reduceMul, reduceIte, resVs, resV, packV, initT, addr, e0, e1, e2, e3', e4, e5, e6, e7, e8, hg, w2, t0, t2, t4, t5, t6, t7, List.length_cons, List.length_nil]
              refine ⟨5 - (k + 1), by omega, k + 1, by omega, rfl, rfl, by simp (implicitDefEqProofs := false) (disch := omega) only [amS, Nat.reduceBEq, reduceCtorEq, Nat.reduceEqDiff, Nat.reduceAdd, Nat.reduceMul, Nat.reduceSub, Int.reduceToNat, Int.reduceEq, Int.reduceLT, Int.reduceLE, Int.reduceAdd, Int.reduceSub, Int.reduceMul, reduceIte, resVs, resV, packV, initT, addr, t0], by simp (implicitDefEqProofs := false) (disch := omega) only [amS, Nat.reduceBEq, reduceCtorEq, Nat.reduceEqDiff, Nat.reduceAdd, Nat.reduceMul, Nat.reduceSub, Int.reduceToNat, Int.reduceEq, Int.reduceLT, Int.reduceLE, Int.reduceAdd, Int.reduceSub, Int.reduceMul, reduceIte, resVs, resV, packV, initT, addr, t2], by simp (implicitDefEqProofs := false) (disch := omega) only [amS, Nat.reduceBEq, reduceCtorEq, Nat.reduceEqDiff, Nat.reduceAdd, Nat.reduceMul, Nat.reduceSub, Int.reduceToNat, Int.reduceEq, Int.reduceLT, Int.reduceLE, Int.reduceAdd, Int.reduceSub, Int.reduceMul, reduceIte, resVs, resV, packV, initT, addr, t4], by simp (implicitDefEqProofs := false) (disch := omega) only [amS, Nat.reduceBEq, reduceCtorEq, Nat.reduceEqDiff, Nat.reduceAdd, Nat.reduceMul, Nat.reduceSub, Int.reduceToNat, Int.reduceEq, Int.reduceLT, Int.reduceLE, Int.reduceAdd, Int.reduceSub, Int.reduceMul, reduceIte, resVs, resV, packV, initT, addr, t5], by simp (implicitDefEqProofs := false) (disch := omega) only [amS, Nat.reduceBEq, reduceCtorEq, Nat.reduceEqDiff, Nat.reduceAdd, Nat.reduceMul, Nat.reduceSub, Int.reduceToNat, Int.reduceEq, Int.reduceLT, Int.reduceLE, Int.reduceAdd, Int.reduceSub, Int.reduceMul, reduceIte, resVs, resV, packV, initT, addr, t6], by simp (implicitDefEqProofs := false) (disch := omega) only [amS, Nat.reduceBEq, reduceCtorEq, Nat.reduceEqDiff, Nat.reduceAdd, Nat.reduceMul, Nat.reduceSub, Int.reduceToNat, Int.reduceEq, Int.reduceLT, Int.reduceLE, Int.reduceAdd, Int.reduceSub, Int.reduceMul, reduceIte, resVs, resV, packV, initT, addr]; rfl, ?_, ?_, fun x hx => ?_⟩
              · rw [AMem.get_set_ne _ _ (by omega)]; exact g1
              · rw [show 5 * i + (k + 1) = p + 1 by omega]; exact AMem.get_set_self _ _ _
              · rw [AMem.get_set_ne _ _ (by omega)]; exact g3 x hx
          · have hk5 : k = 5 := by omega
            subst hk5
            refine ⟨32 - (i + 1), by omega, i + 1, by omega, rfl, hval', rfl, by simp (implicitDefEqProofs := false) (disch := omega) only [amS, Nat.reduceBEq, reduceCtorEq, Nat.reduceEqDiff, Nat.reduceAdd, Nat.reduceMul, Nat.reduceSub, Int.reduceToNat, Int.reduceEq, Int.reduceLT, Int.reduceLE, Int.reduceAdd, Int.reduceSub, Int.reduceMul, reduceIte, resVs, resV, packV, initT, addr, t0], by simp (implicitDefEqProofs := false) (disch := omega) only [amS, Nat.reduceBEq, reduceCtorEq, Nat.reduceEqDiff, Nat.reduceAdd, Nat.reduceMul, Nat.reduceSub, Int.reduceToNat, Int.reduceEq, Int.reduceLT, Int.reduceLE, Int.reduceAdd, Int.reduceSub, Int.reduceMul, reduceIte, resVs, resV, packV, initT, addr, t2], by simp (implicitDefEqProofs := false) (disch := omega) only [amS, Nat.reduceBEq, reduceCtorEq, Nat.reduceEqDiff, Nat.reduceAdd, Nat.reduceMul, Nat.reduceSub, Int.reduceToNat, Int.reduceEq, Int.reduceLT, Int.reduceLE, Int.reduceAdd, Int.reduceSub, Int.reduceMul, reduceIte, resVs, resV, packV, initT, addr, t4], by simp (implicitDefEqProofs := false) (disch := omega) only [amS, Nat.reduceBEq, reduceCtorEq, Nat.reduceEqDiff, Nat.reduceAdd, Nat.reduceMul, Nat.reduceSub, Int.reduceToNat, Int.reduceEq, Int.reduceLT, Int.reduceLE, Int.reduceAdd, Int.reduceSub, Int.reduceMul, reduceIte, resVs, resV, packV, initT, addr]; rfl, g1, by rw [show 5 * (i + 1) = 5 * i + 5 by omega]; exact g2, g3⟩
      · have hi : i = 32 := by omega
        subst hi
        obtain ⟨r1, w1, r2⟩ := ret M1 _ _ (outP_length l (5 * 32)) (outTo_length l 20) g1 g2
        have hb : bytesR l = (outTo l 20, true) := by
          unfold bytesR
          rw [if_pos]
          refine ⟨hl, fun c hc => ?_⟩
          obtain ⟨j, hj, rfl⟩ := List.getElem_of_mem hc
          exact hval j (by omega) (by omega)
        rw [show 5 * 32 = 160 from rfl, outP_all] at r1
        simp (implicitDefEqProofs := false) (disch := omega) only [amS, Nat.reduceBEq, reduceCtorEq, Nat.reduceEqDiff, Nat.reduceAdd, Nat.reduceMul, Nat.reduceSub, Int.reduceToNat, Int.reduceEq, Int.reduceLT, Int.reduceLE, Int.reduceAdd, Int.reduceSub, Int.reduceMul, reduceIte, resVs, resV, packV, initT, addr, r1, w1, r2, hlenN, hb, t2, t4]
        intro x hx
        rw [if_neg (by omega)]; exact g3 x hx
  · rintro r m' ⟨rfl, h⟩
    refine ⟨⟨_, rfl, Plain.tuple ?_⟩, h, rfl, rfl⟩
    intro v hv
    simp at hv
    rcases hv with rfl | rfl
    · exact plain_bytes _
    · exact .bool _
end Go.Proofs.Ytidngakhkpodgaa
namespace Go.Proofs.Ytidngakhkpodgaa
open Go Go.AM
set_option linter.unusedVariables false
set_option linter.unusedSimpArgs false

theorem lawBytes (m : AMem) (l : List UInt8) : ACall Try.prog 1 4 [.string ⟨l.toArray⟩] m fun r m' => r = .ret (.bool true) ∧ m' = m := by
  refine ACall.forget (Q := fun r m' => r = .ret (.bool true) ∧ ∀ x, x < m.size → m'.get x = m.get x) ?_ ?_
  · refine ACall_of_W (fn := Try.f4) rfl rfl F4_ok (by simp [F4]) ?_
    have b0 : ∀ a b : Value, #[a, b][0]? = some a := fun _ _ => rfl
    have b1 : ∀ a b : Value, #[a, b][1]? = some b := fun _ _ => rfl
    have hlen : ∀ k : List UInt8, (bytesR k).1.length = 20 := fun k => by unfold bytesR; split <;> simp [outTo]
    have hz := z20 l
    have sz := str_size l
    simp (implicitDefEqProofs := false) (disch := omega) only [amS, Nat.reduceBEq, reduceCtorEq, Nat.reduceEqDiff, Nat.reduceAdd, Nat.reduceMul, Nat.reduceSub, Int.reduceToNat, Int.reduceEq, Int.reduceLT, Int.reduceLE, Int.reduceAdd, Int.reduceSub, Int.reduceMul, reduceIte, resVs, resV, packV, initT, addr, F4, sz]
    refine BoolW_dec (fun h => ?_) (fun h => ?_)
    · refine (works_ok _).mono ?_
      rintro r m1 ⟨rfl, rfl⟩
      simp (implicitDefEqProofs := false) (disch := omega) only [amS, Nat.reduceBEq, reduceCtorEq, Nat.reduceEqDiff, Nat.reduceAdd, Nat.reduceMul, Nat.reduceSub, Int.reduceToNat, Int.reduceEq, Int.reduceLT, Int.reduceLE, Int.reduceAdd, Int.reduceSub, Int.reduceMul, reduceIte, resVs, resV, packV, initT, addr]
      exact fun _ _ => trivial
    · refine (bytes_ok _ l).mono ?_
      rintro r m1 ⟨rfl, rfl⟩
      have hl20 : ((bytesR l).1.map byteV).length = 20 := by simp [hlen]
      have w1 : wr (m1.push (.cells ((outTo l 0).map byteV) 27 true .exact)) m1.size 0 ((bytesR l).1.map byteV) = some ((m1.push (.cells ((outTo l 0).map byteV) 27 true .exact)).set m1.size (.cells ((bytesR l).1.map byteV) 27 true .exact)) :=
        wr_all (AMem.get_push_self _ _) (by simp [hlen, outTo])
      simp (implicitDefEqProofs := false) (disch := omega) only [amS, Nat.reduceBEq, reduceCtorEq, Nat.reduceEqDiff, Nat.reduceAdd, Nat.reduceMul, Nat.reduceSub, Int.reduceToNat, Int.reduceEq, Int.reduceLT, Int.reduceLE, Int.reduceAdd, Int.reduceSub, Int.reduceMul, reduceIte, resVs, resV, packV, initT, addr, b0, b1, hz, w1, hl20]
      refine (refBytes_ok _ l).mono ?_
      rintro r m2 ⟨rfl, rfl⟩
      have g0 : ((m1.push (.cells ((outTo l 0).map byteV) 27 true .exact)).set m1.size (.cells ((bytesR l).1.map byteV) 27 true .exact)).get m1.size = .cells ((bytesR l).1.map byteV) 27 true .exact := AMem.get_set_self _ _ _
      have g1 : ((m1.push (.cells ((outTo l 0).map byteV) 27 true .exact)).set m1.size (.cells ((bytesR l).1.map byteV) 27 true .exact)).size = m1.size + 1 := rfl
      have g2 : ∀ x, x < m1.size → ((m1.push (.cells ((outTo l 0).map byteV) 27 true .exact)).set m1.size (.cells ((bytesR l).1.map byteV) 27 true .exact)).get x = m1.get x := fun x hx => by simp (implicitDefEqProofs := false) (disch := omega) only [amS, Nat.reduceBEq, reduceCtorEq, Nat.reduceEqDiff, Nat.reduceAdd, Nat.reduceMul, Nat.reduceSub, Int.reduceToNat, Int.reduceEq, Int.reduceLT, Int.reduceLE, Int.reduceAdd, Int.reduceSub, Int.reduceMul, reduceIte, resVs, resV, packV, initT, addr]
      generalize (m1.push (.cells ((outTo l 0).map byteV) 27 true .exact)).set m1.size (.cells ((bytesR l).1.map byteV) 27 true .exact) = M at *
      have w2 : wr (M.push (.cells ((outTo l 0).map byteV) 27 true .exact)) (m1.size + 1) 0 ((bytesR l).1.map byteV) = some ((M.push (.cells ((outTo l 0).map byteV) 27 true .exact)).set (m1.size + 1) (.cells ((bytesR l).1.map byteV) 27 true .exact)) := by
        rw [← g1]; exact wr_all (AMem.get_push_self _ _) (by simp [hlen, outTo])
      have r1 : rd ((M.push (.cells ((outTo l 0).map byteV) 27 true .exact)).set (m1.size + 1) (.cells ((bytesR l).1.map byteV) 27 true .exact)) m1.size 0 20 = some ((bytesR l).1.map byteV) := by
        rw [rd_set_ne (by omega), rd_push_ne (by omega)]; exact rd_all g0 hl20
      have r2 : rd ((M.push (.cells ((outTo l 0).map byteV) 27 true .exact)).set (m1.size + 1) (.cells ((bytesR l).1.map byteV) 27 true .exact)) (m1.size + 1) 0 20 = some ((bytesR l).1.map byteV) := rd_all (AMem.get_set_self _ _ _) hl20
      have he := eqV_bytes (bytesR l).1 (bytesR l).1 20 (hlen _) (hlen _)
      simp (implicitDefEqProofs := false) (contextual := true) (maxSteps := 4000000) (disch := omega) only [amS, Nat.reduceBEq, reduceCtorEq, Nat.reduceEqDiff, Nat.reduceAdd, Nat.reduceMul, Nat.reduceSub, Int.reduceToNat, Int.reduceEq, Int.reduceLT, Int.reduceLE, Int.reduceAdd, Int.reduceSub, Int.reduceMul, reduceIte, resVs, resV, packV, initT, addr, b0, b1, hz, g1, w2, hl20, r1, r2, he, decide_true]
      refine (works_ok _).mono ?_
      rintro r m3 ⟨rfl, rfl⟩
      simp (implicitDefEqProofs := false) (contextual := true) (maxSteps := 4000000) (disch := omega) only [amS, Nat.reduceBEq, reduceCtorEq, Nat.reduceEqDiff, Nat.reduceAdd, Nat.reduceMul, Nat.reduceSub, Int.reduceToNat, Int.reduceEq, Int.reduceLT, Int.reduceLE, Int.reduceAdd, Int.reduceSub, Int.reduceMul, reduceIte, resVs, resV, packV, initT, addr]
      intro x hx
      first | exact g2 x hx | (rw [if_neg (by omega), if_neg (by omega)]; exact g2 x hx)
  · rintro r m' ⟨rfl, h⟩
    exact ⟨⟨_, rfl, .bool _⟩, h, rfl, rfl⟩
end Go.Proofs.Ytidngakhkpodgaa
namespace Go.Proofs.Ytidngakhkpodgaa
open Go Go.AM
set_option linter.unusedVariables false
set_option linter.unusedSimpArgs false

theorem valZ_alpha (v : Nat) (h : v < 32) : valZ (alpha[v]'h) = v := valZ_at h rfl
theorem valZ_inv {c : UInt8} {v : Nat} (hv : v < 32) (h : valZ c = v) : c = alpha[v]'hv := by
  have : ∀ c : Fin 256, ∀ v : Fin 32, valZ (UInt8.ofNat c.val) = v.val → UInt8.ofNat c.val = alpha[v.val]'v.isLt := by decide +kernel
  have := this ⟨c.toNat, c.toNat_lt⟩ ⟨v, hv⟩
  simp at this
  exact this h
theorem dash_none : valZ 45 = -1 := by decide +kernel

theorem valL_letters {l : List UInt8} (hl : l.length = 20) : ∀ n, n ≤ 32 → valL (lettersTo l n) = bigN l / 2 ^ (160 - 5 * n)
  | 0, _ => by
    have := bigN_lt l
    rw [hl] at this
    rw [Nat.div_eq_of_lt (by simpa using this)]; rfl
  | n + 1, h => by
    rw [lettersTo_succ, valL_append, valL_letters hl n (by omega), valL_one, letAt, valZ_alpha _ (letV_lt l n)]
    simp only [List.length_singleton, Nat.pow_one, Int.toNat_natCast, letV]
    have h1 : bigN l / 2 ^ (160 - 5 * n) = bigN l / 2 ^ (155 - 5 * n) / 32 := by
      rw [Nat.div_div_eq_div_mul, show (32 : Nat) = 2 ^ 5 from rfl, ← Nat.pow_add]; congr 2; omega
    rw [h1, show 160 - 5 * (n + 1) = 155 - 5 * n by omega]
    omega

theorem byteAt_of {s l : List UInt8} (hl : l.length = 20) (h : valL s = bigN l) (j : Nat) (hj : j < 20) : byteAt s j = l[j]'(by omega) := by
  apply UInt8.toNat_inj.1
  rw [byteAt_toNat, h]
  have h1 := bigN_take (l := l) (j := j + 1) (by omega)
  rw [bigN_take_succ (by omega), show l.length - (j + 1) = 19 - j by omega, show (256 : Nat) = 2 ^ 8 from rfl, ← Nat.pow_mul] at h1
  rw [← h1]
  have := (l[j]'(by omega)).toNat_lt
  omega

theorem outTo_all {s l : List UInt8} (hl : l.length = 20) (h : valL s = bigN l) : outTo s 20 = l := by
  apply List.ext_getElem
  · rw [outTo_length, hl]
  · intro j h1 h2
    have hj : j < 20 := by omega
    simp only [outTo, List.getElem_map, List.getElem_range, hj, if_true]
    exact byteAt_of hl h j hj

theorem lettersOf_valid (d : List UInt8) : ∀ c ∈ lettersOf d, 0 ≤ valZ c := by
  intro c hc
  simp only [lettersOf, lettersTo, List.mem_map] at hc
  obtain ⟨e, _, rfl⟩ := hc
  rw [letAt, valZ_alpha]; omega

theorem bytes_letters {d : List UInt8} (hd : d.length = 32) : bytesR (lettersOf d) = (d.take 20, true) := by
  unfold bytesR
  rw [if_pos ⟨lettersOf_length d, lettersOf_valid d⟩]
  have hl : (d.take 20).length = 20 := by simp [hd]
  rw [outTo_all hl]
  have := valL_letters hl 32 (by omega)
  simpa [lettersOf] using this

theorem bigN_out (s : List UInt8) (hs : s.length = 32) : ∀ j, j ≤ 20 → bigN ((outTo s 20).take j) = valL s / 2 ^ (8 * (20 - j))
  | 0, _ => by
    rw [Nat.div_eq_of_lt (valL_bound hs)]; rfl
  | j + 1, h => by
    have hlen : (outTo s 20).length = 20 := outTo_length s 20
    have hg : (outTo s 20)[j]'(by omega) = byteAt s j := by simp [outTo]; omega
    rw [bigN_take_succ (by omega), bigN_out s hs j (by omega), hg, byteAt_toNat]
    have h1 : valL s / 2 ^ (8 * (20 - j)) = valL s / 2 ^ (8 * (19 - j)) / 256 := by
      rw [Nat.div_div_eq_div_mul, show (256 : Nat) = 2 ^ 8 from rfl, ← Nat.pow_add]; congr 2; omega
    rw [h1, show 20 - (j + 1) = 19 - j by omega]
    omega

theorem letters_bytes {s : List UInt8} (hs : s.length = 32) (hv : ∀ c ∈ s, 0 ≤ valZ c) : lettersTo (outTo s 20) 32 = s := by
  apply List.ext_getElem
  · rw [lettersTo_length, hs]
  · intro e h1 h2
    have he : e < 32 := by omega
    simp only [lettersTo, List.getElem_map, List.getElem_range]
    obtain ⟨v, hvv⟩ := Int.eq_ofNat_of_zero_le (hv _ (List.getElem_mem h2))
    have hb := valZ_big hs he hvv
    have hbig := bigN_out s hs 20 (by omega)
    rw [List.take_of_length_le (by rw [outTo_length]; omega)] at hbig
    simp only [Nat.sub_self, Nat.mul_zero, Nat.pow_zero, Nat.div_one] at hbig
    have hl : letV (outTo s 20) e = v := by
      rw [letV, hbig, hb, show 5 * (31 - e) = 155 - 5 * e by omega]
    have hv32 : v < 32 := by rw [hb]; exact Nat.mod_lt _ (by omega)
    rw [valZ_inv hv32 hvv]
    simp only [letAt, hl]
    rfl

/-- Two valid texts of 32 letters, or digests. -/
theorem letters_iff {s d : List UInt8} (hs : (bytesR s).2 = true) (hd : d.length = 32) : (bytesR s).1 = d.take 20 ↔ s = lettersOf d := by
  have h0 : s.length = 32 ∧ ∀ c ∈ s, 0 ≤ valZ c := by
    unfold bytesR at hs
    split at hs
    · assumption
    · cases hs
  have h1 : bytesR s = (outTo s 20, true) := by unfold bytesR; rw [if_pos h0]
  rw [h1]
  constructor
  · intro h
    simp only at h
    rw [← letters_bytes h0.1 h0.2, h]; rfl
  · rintro rfl
    have := bytes_letters hd
    rw [h1] at this
    exact congrArg Prod.fst this

theorem letters_inj {d x : List UInt8} (hd : d.length = 32) (hx : x.length = 32) : lettersOf x = lettersOf d ↔ d.take 20 = x.take 20 := by
  have hs : (bytesR (lettersOf x)).2 = true := by rw [bytes_letters hx]
  have := letters_iff hs hd
  rw [bytes_letters hx] at this
  exact this.symm.trans eq_comm

/-! ### Names -/
def parse2R (l : List UInt8) : List UInt8 × List UInt8 × Int :=
  if l.length < 34 ∨ l[32]? ≠ some 45 ∨ rightB (l.drop 33) = false ∨ (bytesR (l.take 32)).2 = false then ([], [], 90) else (l.take 32, l.drop 33, 0)

theorem bytesR_ok {l : List UInt8} (h : (bytesR l).2 = true) : l.length = 32 ∧ ∀ c ∈ l, 0 ≤ valZ c := by
  unfold bytesR at h
  split at h
  · assumption
  · cases h

theorem bytesR_of {l : List UInt8} (h : l.length = 32) (k : ∀ c ∈ l, 0 ≤ valZ c) : (bytesR l).2 = true := by
  unfold bytesR; rw [if_pos ⟨h, k⟩]

theorem firstIdx_at {l : List UInt8} {n : Nat} (hn : n < l.length) (h : l[n]? = some 45) (k : ∀ c ∈ l.take n, c ≠ 45) : firstIdx ⟨l.toArray⟩ 45 = n := by
  rw [firstIdx_iff]
  refine ⟨h, fun j hj hc => ?_⟩
  refine k 45 ?_ rfl
  rw [List.mem_iff_getElem?]
  exact ⟨j, by rw [List.getElem?_take_of_lt hj]; exact hc⟩
theorem firstIdx_spec {l : List UInt8} {n : Nat} (h : firstIdx ⟨l.toArray⟩ 45 = n) : n < l.length ∧ l[n]? = some 45 := by
  have := ((firstIdx_iff l 45 n).1 h).1
  exact ⟨(List.getElem?_eq_some_iff.1 this).1, this⟩
theorem rightB_nonempty : rightB [] = false := by decide +kernel

theorem parse_eq (l : List UInt8) : parseR l = parse2R l := by
  unfold parseR parse2R
  by_cases h : l.length < 34 ∨ l[32]? ≠ some 45 ∨ rightB (l.drop 33) = false ∨ (bytesR (l.take 32)).2 = false
  · rw [if_pos h, if_neg]
    intro hc
    simp only [Bool.and_eq_true] at hc
    obtain ⟨⟨h1, h2⟩, h3⟩ := hc
    have hcut : 0 ≤ firstIdx ⟨l.toArray⟩ 45 := by
      apply Classical.byContradiction; intro hn
      unfold cutR at h1; rw [if_neg hn] at h1; cases h1
    obtain ⟨n, hn⟩ := Int.eq_ofNat_of_zero_le hcut
    have hc : cutR l = (l.take n, l.drop (n + 1), true) := by unfold cutR; rw [if_pos hcut, hn]; simp
    rw [hc] at h2 h3
    simp only at h2 h3
    obtain ⟨hlt, hg⟩ := firstIdx_spec hn
    have hlen := (bytesR_ok h2).1
    have hn32 : n = 32 := by simp at hlen; omega
    subst hn32
    rcases h with h | h | h | h
    · have : l.drop (32 + 1) = [] := List.drop_eq_nil_of_le (by omega)
      rw [this, rightB_nonempty] at h3; cases h3
    · exact h hg
    · rw [h3] at h; cases h
    · rw [h2] at h; cases h
  · rw [if_neg h]
    simp only [not_or, Nat.not_lt, ne_eq, Classical.not_not, Bool.not_eq_false] at h
    obtain ⟨h1, h2, h3, h4⟩ := h
    have hf : firstIdx ⟨l.toArray⟩ 45 = (32 : Nat) := firstIdx_at (by omega) h2 fun c hc he => by
      have := (bytesR_ok h4).2 c hc
      rw [he, dash_none] at this; omega
    have hc : cutR l = (l.take 32, l.drop 33, true) := by unfold cutR; rw [hf]; rfl
    rw [hc]
    simp [h3, h4]

def fits2R (l d : List UInt8) : Bool := decide ((parseR l).2.2 = 0) && decide ((parseR l).1 = lettersOf d)
theorem fits_eq (l d : List UInt8) (hd : d.length = 32) : fitsR l d = fits2R l d := by
  unfold fitsR fits2R
  by_cases h : (parseR l).2.2 = 0
  · have hs : (bytesR (parseR l).1).2 = true := by
      rw [parse_eq] at h ⊢
      unfold parse2R at h ⊢
      split at h
      · cases h
      · rename_i hn
        rw [if_neg hn]
        simp only [not_or, Bool.not_eq_false] at hn
        exact hn.2.2.2
    have := letters_iff hs hd
    simp [h, this]
  · simp [h]
end Go.Proofs.Ytidngakhkpodgaa
namespace Go.Proofs.Ytidngakhkpodgaa
open Go Go.AM
set_option linter.unusedVariables false
set_option linter.unusedSimpArgs false

section
variable {m : AMem} {l e : List UInt8}
theorem letters_ok' (m : AMem) (e : List UInt8) (h : e.length = 32) : PureC Try.prog 1 9 [.agg (e.map byteV).toArray] m (.string ⟨(lettersOf e).toArray⟩) := letters_ok m e h
theorem refLetters_ok' (m : AMem) (e : List UInt8) (h : e.length = 32) : PureC Try.prog 1 10 [.agg (e.map byteV).toArray] m (.string ⟨(lettersOf e).toArray⟩) := refLetters_ok m e h
theorem kWorks : type_of% (DetC.known (works_ok m)) := DetC.known (works_ok m)
theorem kRight : type_of% (DetC.known (right_ok m l)) := DetC.known (right_ok m l)
theorem kRefRight (h : l.length ≤ 100000) : type_of% (DetC.known (refRight_ok m l h)) := DetC.known (refRight_ok m l h)
theorem kLetters (h : e.length = 32) : type_of% (DetC.known (letters_ok' m e h)) := DetC.known (letters_ok' m e h)
theorem kRefLetters (h : e.length = 32) : type_of% (DetC.known (refLetters_ok' m e h)) := DetC.known (refLetters_ok' m e h)
theorem kBytes : type_of% (DetC.known (bytes_ok m l)) := DetC.known (bytes_ok m l)
theorem kRefBytes : type_of% (DetC.known (refBytes_ok m l)) := DetC.known (refBytes_ok m l)
theorem kName (h : e.length = 32) (k : l.length ≤ 100000) : type_of% (DetC.known (name_ok m e l h k)) := DetC.known (name_ok m e l h k)
theorem kRefName (h : e.length = 32) (k : l.length ≤ 100000) : type_of% (DetC.known (refName_ok m e l h k)) := DetC.known (refName_ok m e l h k)
theorem kParse (k : l.length ≤ 100000) : type_of% (DetC.known (parse_ok m l k)) := DetC.known (parse_ok m l k)
theorem kFits (k : l.length ≤ 100000) (h : e.length = 32) : type_of% (DetC.known (fits_ok m l e k h)) := DetC.known (fits_ok m l e k h)
end

theorem bytesR_len (l : List UInt8) : (bytesR l).1.length = 20 := by unfold bytesR; split <;> simp [outTo]

theorem refParse_ok (m : AMem) (l : List UInt8) (hl : l.length ≤ 100000) : PureC Try.prog 1 19 [.string ⟨l.toArray⟩] m (.tuple #[.string ⟨(parse2R l).1.toArray⟩, .string ⟨(parse2R l).2.1.toArray⟩, .int .i64 (parse2R l).2.2]) := by
  refine pure_of_W (fn := Try.f19) rfl rfl F19_ok (by simp [F19]) (.tuple3 (.string _) (.string _) (.int _ _)) ?_
  have b20 := bytesR_len (l.take 32)
  have hdl : (l.drop 33).length ≤ 100000 := by simp; omega
  by_cases h1 : (l.length : Int) < 34
  · have p : parse2R l = ([], [], 90) := if_pos (.inl (by omega))
    simp (implicitDefEqProofs := false) (maxSteps := 1000000) (disch := first | omega | with_reducible assumption | (simp only [List.length_map, List.length_cons, List.length_nil, List.length_set, List.length_append, List.length_replicate, List.length_take, List.length_drop, mk_size, Nat.reduceAdd]; omega)) only [amT, cut, bnd, Nat.reduceBEq, reduceCtorEq, Nat.reduceEqDiff, Nat.reduceAdd, Nat.reduceMul, Nat.reduceSub, Int.reduceToNat, Int.reduceEq, Int.reduceLT, Int.reduceLE, Int.reduceAdd, Int.reduceSub, Int.reduceMul, reduceIte, resVs, resV, packV, initT, addr, F19, h1, p]
  · have hg : l[32]? = some (l[32]'(by omega)) := List.getElem?_eq_getElem (by omega)
    by_cases h2 : ((l[32]'(by omega)).toNat : Int) = 45
    · cases h3 : rightB (l.drop 33) with
      | false =>
        have p : parse2R l = ([], [], 90) := if_pos (.inr (.inr (.inl h3)))
        simp (implicitDefEqProofs := false) (maxSteps := 1000000) (disch := first | omega | with_reducible assumption | (simp only [List.length_map, List.length_cons, List.length_nil, List.length_set, List.length_append, List.length_replicate, List.length_take, List.length_drop, mk_size, Nat.reduceAdd]; omega)) only [amT, cut, bnd, Nat.reduceBEq, reduceCtorEq, Nat.reduceEqDiff, Nat.reduceAdd, Nat.reduceMul, Nat.reduceSub, Int.reduceToNat, Int.reduceEq, Int.reduceLT, Int.reduceLE, Int.reduceAdd, Int.reduceSub, Int.reduceMul, reduceIte, resVs, resV, packV, initT, addr, F19, h1, p, h2, kRefRight, h3]
      | true =>
        cases h4 : (bytesR (l.take 32)).2 with
        | false =>
          have p : parse2R l = ([], [], 90) := if_pos (.inr (.inr (.inr h4)))
          simp (implicitDefEqProofs := false) (maxSteps := 1000000) (disch := first | omega | with_reducible assumption | (simp only [List.length_map, List.length_cons, List.length_nil, List.length_set, List.length_append, List.length_replicate, List.length_take, List.length_drop, mk_size, Nat.reduceAdd]; omega)) only [amT, cut, bnd, Nat.reduceBEq, reduceCtorEq, Nat.reduceEqDiff, Nat.reduceAdd, Nat.reduceMul, Nat.reduceSub, Int.reduceToNat, Int.reduceEq, Int.reduceLT, Int.reduceLE, Int.reduceAdd, Int.reduceSub, Int.reduceMul, reduceIte, resVs, resV, packV, initT, addr, F19, h1, p, h2, kRefRight, h3, kRefBytes, h4]
        | true =>
          have p : parse2R l = (l.take 32, l.drop 33, 0) := if_neg (by
            rintro (h | h | h | h)
            · omega
            · apply h; rw [hg]; congr 1; exact UInt8.toNat_inj.1 (by exact_mod_cast h2)
            · rw [h3] at h; cases h
            · rw [h4] at h; cases h)
          simp (implicitDefEqProofs := false) (maxSteps := 1000000) (disch := first | omega | with_reducible assumption | (simp only [List.length_map, List.length_cons, List.length_nil, List.length_set, List.length_append, List.length_replicate, List.length_take, List.length_drop, mk_size, Nat.reduceAdd]; omega)) only [amT, cut, bnd, Nat.reduceBEq, reduceCtorEq, Nat.reduceEqDiff, Nat.reduceAdd, Nat.reduceMul, Nat.reduceSub, Int.reduceToNat, Int.reduceEq, Int.reduceLT, Int.reduceLE, Int.reduceAdd, Int.reduceSub, Int.reduceMul, reduceIte, resVs, resV, packV, initT, addr, F19, h1, p, h2, kRefRight, h3, kRefBytes, h4]
    · have p : parse2R l = ([], [], 90) := if_pos (.inr (.inl (by rw [hg]; intro h; apply h2; simp at h; rw [h]; rfl)))
      simp (implicitDefEqProofs := false) (maxSteps := 1000000) (disch := first | omega | with_reducible assumption | (simp only [List.length_map, List.length_cons, List.length_nil, List.length_set, List.length_append, List.length_replicate, List.length_take, List.length_drop, mk_size, Nat.reduceAdd]; omega)) only [amT, cut, bnd, Nat.reduceBEq, reduceCtorEq, Nat.reduceEqDiff, Nat.reduceAdd, Nat.reduceMul, Nat.reduceSub, Int.reduceToNat, Int.reduceEq, Int.reduceLT, Int.reduceLE, Int.reduceAdd, Int.reduceSub, Int.reduceMul, reduceIte, resVs, resV, packV, initT, addr, F19, h1, p, h2]
theorem kRefParse {m : AMem} {l : List UInt8} (k : l.length ≤ 100000) : type_of% (DetC.known (refParse_ok m l k)) := DetC.known (refParse_ok m l k)

theorem refFits_ok (m : AMem) (l d : List UInt8) (hl : l.length ≤ 100000) (hd : d.length = 32) : PureC Try.prog 1 21 [.string ⟨l.toArray⟩, .agg (d.map byteV).toArray] m (.bool (fits2R l d)) := by
  refine pure_of_W (fn := Try.f21) rfl rfl F21_ok (by simp [F21]) (.bool _) ?_
  by_cases h1 : (parse2R l).2.2 = 0
  · simp (implicitDefEqProofs := false) (maxSteps := 1000000) (disch := first | omega | with_reducible assumption | (simp only [List.length_map, List.length_cons, List.length_nil, List.length_set, List.length_append, List.length_replicate, List.length_take, List.length_drop, mk_size, Nat.reduceAdd]; omega)) only [amT, cut, bnd, Nat.reduceBEq, reduceCtorEq, Nat.reduceEqDiff, Nat.reduceAdd, Nat.reduceMul, Nat.reduceSub, Int.reduceToNat, Int.reduceEq, Int.reduceLT, Int.reduceLE, Int.reduceAdd, Int.reduceSub, Int.reduceMul, reduceIte, resVs, resV, packV, initT, addr, F21, kRefParse, h1, kRefLetters, strEq_mk, fits2R, parse_eq]
  · simp (implicitDefEqProofs := false) (maxSteps := 1000000) (disch := first | omega | with_reducible assumption | (simp only [List.length_map, List.length_cons, List.length_nil, List.length_set, List.length_append, List.length_replicate, List.length_take, List.length_drop, mk_size, Nat.reduceAdd]; omega)) only [amT, cut, bnd, Nat.reduceBEq, reduceCtorEq, Nat.reduceEqDiff, Nat.reduceAdd, Nat.reduceMul, Nat.reduceSub, Int.reduceToNat, Int.reduceEq, Int.reduceLT, Int.reduceLE, Int.reduceAdd, Int.reduceSub, Int.reduceMul, reduceIte, resVs, resV, packV, initT, addr, F21, kRefParse, h1, kRefLetters, strEq_mk, fits2R, parse_eq]
theorem kRefFits {m : AMem} {l d : List UInt8} (k : l.length ≤ 100000) (h : d.length = 32) : type_of% (DetC.known (refFits_ok m l d k h)) := DetC.known (refFits_ok m l d k h)

theorem lawName (m : AMem) (d : List UInt8) (hd : d.length = 32) (l : List UInt8) : PureC Try.prog 1 5 [.agg (d.map byteV).toArray, .string ⟨l.toArray⟩] m (.bool true) := by
  refine pure_of_W (fn := Try.f5) rfl rfl F5_ok (by simp [F5]) (.bool _) ?_
  by_cases h1 : (500 : Int) < l.length
  · simp (implicitDefEqProofs := false) (maxSteps := 1000000) (disch := first | omega | with_reducible assumption | (simp only [List.length_map, List.length_cons, List.length_nil, List.length_set, List.length_append, List.length_replicate, List.length_take, List.length_drop, mk_size, Nat.reduceAdd]; omega)) only [amT, cut, bnd, Nat.reduceBEq, reduceCtorEq, Nat.reduceEqDiff, Nat.reduceAdd, Nat.reduceMul, Nat.reduceSub, Int.reduceToNat, Int.reduceEq, Int.reduceLT, Int.reduceLE, Int.reduceAdd, Int.reduceSub, Int.reduceMul, reduceIte, resVs, resV, packV, initT, addr, F5, h1, kWorks]
  · have hl : l.length ≤ 100000 := by omega
    simp (implicitDefEqProofs := false) (maxSteps := 1000000) (disch := first | omega | with_reducible assumption | (simp only [List.length_map, List.length_cons, List.length_nil, List.length_set, List.length_append, List.length_replicate, List.length_take, List.length_drop, mk_size, Nat.reduceAdd]; omega)) only [amT, cut, bnd, Nat.reduceBEq, reduceCtorEq, Nat.reduceEqDiff, Nat.reduceAdd, Nat.reduceMul, Nat.reduceSub, Int.reduceToNat, Int.reduceEq, Int.reduceLT, Int.reduceLE, Int.reduceAdd, Int.reduceSub, Int.reduceMul, reduceIte, resVs, resV, packV, initT, addr, F5, h1, kWorks, kName, kRefName, kRight, kRefRight]

theorem lawParse (m : AMem) (l d : List UInt8) (hd : d.length = 32) : PureC Try.prog 1 6 [.string ⟨l.toArray⟩, .agg (d.map byteV).toArray] m (.bool true) := by
  refine pure_of_W (fn := Try.f6) rfl rfl F6_ok (by simp [F6]) (.bool _) ?_
  by_cases h1 : (500 : Int) < l.length
  · simp (implicitDefEqProofs := false) (maxSteps := 1000000) (disch := first | omega | with_reducible assumption | (simp only [List.length_map, List.length_cons, List.length_nil, List.length_set, List.length_append, List.length_replicate, List.length_take, List.length_drop, mk_size, Nat.reduceAdd]; omega)) only [amT, cut, bnd, Nat.reduceBEq, reduceCtorEq, Nat.reduceEqDiff, Nat.reduceAdd, Nat.reduceMul, Nat.reduceSub, Int.reduceToNat, Int.reduceEq, Int.reduceLT, Int.reduceLE, Int.reduceAdd, Int.reduceSub, Int.reduceMul, reduceIte, resVs, resV, packV, initT, addr, F6, h1, kWorks]
  · have hl : l.length ≤ 100000 := by omega
    simp (implicitDefEqProofs := false) (maxSteps := 1000000) (disch := first | omega | with_reducible assumption | (simp only [List.length_map, List.length_cons, List.length_nil, List.length_set, List.length_append, List.length_replicate, List.length_take, List.length_drop, mk_size, Nat.reduceAdd]; omega)) only [amT, cut, bnd, Nat.reduceBEq, reduceCtorEq, Nat.reduceEqDiff, Nat.reduceAdd, Nat.reduceMul, Nat.reduceSub, Int.reduceToNat, Int.reduceEq, Int.reduceLT, Int.reduceLE, Int.reduceAdd, Int.reduceSub, Int.reduceMul, reduceIte, resVs, resV, packV, initT, addr, F6, h1, kWorks, kParse, kRefParse, parse_eq, kFits, kRefFits, fits_eq]
end Go.Proofs.Ytidngakhkpodgaa
namespace Go.Proofs.Ytidngakhkpodgaa
open Go Go.AM
set_option linter.unusedVariables false
set_option linter.unusedSimpArgs false

theorem take_succ_dec {d x : List UInt8} {i : Nat} (hd : i < d.length) (hx : i < x.length) : decide (d.take (i + 1) = x.take (i + 1)) = (decide (d.take i = x.take i) && decide ((d[i].toNat : Int) = x[i].toNat)) := by
  rw [List.take_succ_eq_append_getElem hd, List.take_succ_eq_append_getElem hx, Bool.eq_iff_iff]
  simp only [decide_eq_true_eq, Bool.and_eq_true]
  have hl : (d.take i).length = (x.take i).length := by simp; omega
  constructor
  · intro h
    have := List.append_inj h hl
    exact ⟨this.1, by have h2 := this.2; simp at h2; rw [h2]⟩
  · rintro ⟨h1, h2⟩
    have h3 : d[i] = x[i] := UInt8.toNat_inj.1 (by exact_mod_cast h2)
    rw [h1, h3]
theorem name_parse {d l : List UInt8} (hd : d.length = 32) (h : rightB l = true) : parseR (lettersOf d ++ [45] ++ l) = (lettersOf d, l, 0) := by
  rw [parse_eq]
  have h32 := lettersOf_length d
  have hne : l ≠ [] := fun e => by rw [e, rightB_nonempty] at h; cases h
  have hlen : 0 < l.length := List.length_pos_iff.2 hne
  have t1 : (lettersOf d ++ [45] ++ l).take 32 = lettersOf d := by simp [List.take_append, h32]
  have t2 : (lettersOf d ++ [45] ++ l).drop 33 = l := by simp [List.drop_append, h32]
  have t3 : (lettersOf d ++ [45] ++ l)[32]? = some 45 := by simp [List.getElem?_append, h32]
  unfold parse2R
  have hc : ¬ ((lettersOf d ++ [45] ++ l).length < 34 ∨ (lettersOf d ++ [45] ++ l)[32]? ≠ some 45 ∨ rightB ((lettersOf d ++ [45] ++ l).drop 33) = false ∨ (bytesR ((lettersOf d ++ [45] ++ l).take 32)).2 = false) := by
    rw [t1, t2, t3, h, bytes_letters hd]
    simp [h32]; omega
  rw [if_neg hc, t1, t2]

theorem lawBack (m : AMem) (d : List UInt8) (hd : d.length = 32) (x : List UInt8) (hx : x.length = 32) (l : List UInt8) :
    PureC Try.prog 1 7 [.agg (d.map byteV).toArray, .agg (x.map byteV).toArray, .string ⟨l.toArray⟩] m (.bool true) := by
  refine pure_of_W (fn := Try.f7) rfl rfl F7_ok (by simp [F7]) (.bool _) ?_
  by_cases h1 : (500 : Int) < l.length
  · simp (implicitDefEqProofs := false) (maxSteps := 1000000) (disch := first | omega | with_reducible assumption | (simp only [List.length_map, List.length_cons, List.length_nil, List.length_set, List.length_append, List.length_replicate, List.length_take, List.length_drop, mk_size, Nat.reduceAdd]; omega)) only [amT, cut, bnd, Nat.reduceBEq, reduceCtorEq, Nat.reduceEqDiff, Nat.reduceAdd, Nat.reduceMul, Nat.reduceSub, Int.reduceToNat, Int.reduceEq, Int.reduceLT, Int.reduceLE, Int.reduceAdd, Int.reduceSub, Int.reduceMul, reduceIte, resVs, resV, packV, initT, addr, F7, h1, kWorks]
  · have hl : l.length ≤ 100000 := by omega
    have d20 : (d.take 20).length = 20 := by simp [hd]
    simp (implicitDefEqProofs := false) (maxSteps := 1000000) (disch := first | omega | with_reducible assumption | (simp only [List.length_map, List.length_cons, List.length_nil, List.length_set, List.length_append, List.length_replicate, List.length_take, List.length_drop, mk_size, Nat.reduceAdd]; omega)) only [amT, cut, bnd, Nat.reduceBEq, reduceCtorEq, Nat.reduceEqDiff, Nat.reduceAdd, Nat.reduceMul, Nat.reduceSub, Int.reduceToNat, Int.reduceEq, Int.reduceLT, Int.reduceLE, Int.reduceAdd, Int.reduceSub, Int.reduceMul, reduceIte, resVs, resV, packV, initT, addr, F7, h1, kWorks, kLetters, kBytes, bytes_letters hd, lettersOf_length]
    repeat refine OrW.go ?_
    refine W_loop (fun N s => ∃ (i : Nat), N = 20 - i ∧ s.ds = [] ∧ s.m = mx m [.cells (d.map byteV) 23 true .exact, .cells (x.map byteV) 23 true .exact, .cells ((d.take 20).map byteV) 27 true .exact] ∧ s.t 2 = .string ⟨l.toArray⟩ ∧ s.t 3 = .pointer (some ⟨m.size, 0, none⟩) ∧ s.t 4 = .pointer (some ⟨m.size + 1, 0, none⟩) ∧ s.t 7 = .string ⟨(lettersOf d).toArray⟩ ∧ s.t 8 = .pointer (some ⟨m.size + 2, 0, none⟩) ∧ s.t 10 = .bool (decide (d.take i = x.take i)) ∧ s.t 11 = .int .i64 i ∧ i ≤ 20) (20 - (0)) ⟨0, rfl, rfl, by first | rfl | (simp (implicitDefEqProofs := false) (maxSteps := 1000000) (disch := first | omega | with_reducible assumption | (simp only [List.length_map, List.length_cons, List.length_nil, List.length_set, List.length_append, List.length_replicate, List.length_take, List.length_drop, mk_size, Nat.reduceAdd]; omega)) only [amT, cut, bnd, Nat.reduceBEq, reduceCtorEq, Nat.reduceEqDiff, Nat.reduceAdd, Nat.reduceMul, Nat.reduceSub, Int.reduceToNat, Int.reduceEq, Int.reduceLT, Int.reduceLE, Int.reduceAdd, Int.reduceSub, Int.reduceMul, reduceIte, resVs, resV, packV, initT, addr, List.take_zero]; done) | (simp (implicitDefEqProofs := false) (maxSteps := 1000000) (disch := first | omega | with_reducible assumption | (simp only [List.length_map, List.length_cons, List.length_nil, List.length_set, List.length_append, List.length_replicate, List.length_take, List.length_drop, mk_size, Nat.reduceAdd]; omega)) only [amT, cut, bnd, Nat.reduceBEq, reduceCtorEq, Nat.reduceEqDiff, Nat.reduceAdd, Nat.reduceMul, Nat.reduceSub, Int.reduceToNat, Int.reduceEq, Int.reduceLT, Int.reduceLE, Int.reduceAdd, Int.reduceSub, Int.reduceMul, reduceIte, resVs, resV, packV, initT, addr, List.take_zero]; rfl), by first | rfl | (simp (implicitDefEqProofs := false) (maxSteps := 1000000) (disch := first | omega | with_reducible assumption | (simp only [List.length_map, List.length_cons, List.length_nil, List.length_set, List.length_append, List.length_replicate, List.length_take, List.length_drop, mk_size, Nat.reduceAdd]; omega)) only [amT, cut, bnd, Nat.reduceBEq, reduceCtorEq, Nat.reduceEqDiff, Nat.reduceAdd, Nat.reduceMul, Nat.reduceSub, Int.reduceToNat, Int.reduceEq, Int.reduceLT, Int.reduceLE, Int.reduceAdd, Int.reduceSub, Int.reduceMul, reduceIte, resVs, resV, packV, initT, addr, List.take_zero]; done) | (simp (implicitDefEqProofs := false) (maxSteps := 1000000) (disch := first | omega | with_reducible assumption | (simp only [List.length_map, List.length_cons, List.length_nil, List.length_set, List.length_append, List.length_replicate, List.length_take, List.length_drop, mk_size, Nat.reduceAdd]; omega)) only [amT, cut, bnd, Nat.reduceBEq, reduceCtorEq, Nat.reduceEqDiff, Nat.reduceAdd, Nat.reduceMul, Nat.reduceSub, Int.reduceToNat, Int.reduceEq, Int.reduceLT, Int.reduceLE, Int.reduceAdd, Int.reduceSub, Int.reduceMul, reduceIte, resVs, resV, packV, initT, addr, List.take_zero]; rfl), by first | rfl | (simp (implicitDefEqProofs := false) (maxSteps := 1000000) (disch := first | omega | with_reducible assumption | (simp only [List.length_map, List.length_cons, List.length_nil, List.length_set, List.length_append, List.length_replicate, List.length_take, List.length_drop, mk_size, Nat.reduceAdd]; omega)) only [amT, cut, bnd, Nat.reduceBEq, reduceCtorEq, Nat.reduceEqDiff, Nat.reduceAdd, Nat.reduceMul, Nat.reduceSub, Int.reduceToNat, Int.reduceEq, Int.reduceLT, Int.reduceLE, Int.reduceAdd, Int.reduceSub, Int.reduceMul, reduceIte, resVs, resV, packV, initT, addr, List.take_zero]; done) | (simp (implicitDefEqProofs := false) (maxSteps := 1000000) (disch := first | omega | with_reducible assumption | (simp only [List.length_map, List.length_cons, List.length_nil, List.length_set, List.length_append, List.length_replicate, List.length_take, List.length_drop, mk_size, Nat.reduceAdd]; omega)) only [amT, cut, bnd, Nat.reduceBEq, reduceCtorEq, Nat.reduceEqDiff, Nat.reduceAdd, Nat.reduceMul, Nat.reduceSub, Int.reduceToNat, Int.reduceEq, Int.reduceLT, Int.reduceLE, Int.reduceAdd, Int.reduceSub, Int.reduceMul, reduceIte, resVs, resV, packV, initT, addr, List.take_zero]; rfl), by first | rfl | (simp (implicitDefEqProofs := false) (maxSteps := 1000000) (disch := first | omega | with_reducible assumption | (simp only [List.length_map, List.length_cons, List.length_nil, List.length_set, List.length_append, List.length_replicate, List.length_take, List.length_drop, mk_size, Nat.reduceAdd]; omega)) only [amT, cut, bnd, Nat.reduceBEq, reduceCtorEq, Nat.reduceEqDiff, Nat.reduceAdd, Nat.reduceMul, Nat.reduceSub, Int.reduceToNat, Int.reduceEq, Int.reduceLT, Int.reduceLE, Int.reduceAdd, Int.reduceSub, Int.reduceMul, reduceIte, resVs, resV, packV, initT, addr, List.take_zero]; done) | (simp (implicitDefEqProofs := false) (maxSteps := 1000000) (disch := first | omega | with_reducible assumption | (simp only [List.length_map, List.length_cons, List.length_nil, List.length_set, List.length_append, List.length_replicate, List.length_take, List.length_drop, mk_size, Nat.reduceAdd]; omega)) only [amT, cut, bnd, Nat.reduceBEq, reduceCtorEq, Nat.reduceEqDiff, Nat.reduceAdd, Nat.reduceMul, Nat.reduceSub, Int.reduceToNat, Int.reduceEq, Int.reduceLT, Int.reduceLE, Int.reduceAdd, Int.reduceSub, Int.reduceMul, reduceIte, resVs, resV, packV, initT, addr, List.take_zero]; rfl), by first | rfl | (simp (implicitDefEqProofs := false) (maxSteps := 1000000) (disch := first | omega | with_reducible assumption | (simp only [List.length_map, List.length_cons, List.length_nil, List.length_set, List.length_append, List.length_replicate, List.length_take, List.length_drop, mk_size, Nat.reduceAdd]; omega)) only [amT, cut, bnd, Nat.reduceBEq, reduceCtorEq, Nat.reduceEqDiff, Nat.reduceAdd, Nat.reduceMul, Nat.reduceSub, Int.reduceToNat, Int.reduceEq, Int.reduceLT, Int.reduceLE, Int.reduceAdd, Int.reduceSub, Int.reduceMul, reduceIte, resVs, resV, packV, initT, addr, List.take_zero]; done) | (simp (implicitDefEqProofs := false) (maxSteps := 1000000) (disch := first | omega | with_reducible assumption | (simp only [List.length_map, List.length_cons, List.length_nil, List.length_set, List.length_append, List.length_replicate, List.length_take, List.length_drop, mk_size, Nat.reduceAdd]; omega)) only [amT, cut, bnd, Nat.reduceBEq, reduceCtorEq, Nat.reduceEqDiff, Nat.reduceAdd, Nat.reduceMul, Nat.reduceSub, Int.reduceToNat, Int.reduceEq, Int.reduceLT, Int.reduceLE, Int.reduceAdd, Int.reduceSub, Int.reduceMul, reduceIte, resVs, resV, packV, initT, addr, List.take_zero]; rfl), by first | rfl | (simp (implicitDefEqProofs := false) (maxSteps := 1000000) (disch := first | omega | with_reducible assumption | (simp only [List.length_map, List.length_cons, List.length_nil, List.length_set, List.length_append, List.length_replicate, List.length_take, List.length_drop, mk_size, Nat.reduceAdd]; omega)) only [amT, cut, bnd, Nat.reduceBEq, reduceCtorEq, Nat.reduceEqDiff, Nat.reduceAdd, Nat.reduceMul, Nat.reduceSub, Int.reduceToNat, Int.reduceEq, Int.reduceLT, Int.reduceLE, Int.reduceAdd, Int.reduceSub, Int.reduceMul, reduceIte, resVs, resV, packV, initT, addr, List.take_zero]; done) | (simp (implicitDefEqProofs := false) (maxSteps := 1000000) (disch := first | omega | with_reducible assumption | (simp only [List.length_map, List.length_cons, List.length_nil, List.length_set, List.length_append, List.length_replicate, List.length_take, List.length_drop, mk_size, Nat.reduceAdd]; omega)) only [amT, cut, bnd, Nat.reduceBEq, reduceCtorEq, Nat.reduceEqDiff, Nat.reduceAdd, Nat.reduceMul, Nat.reduceSub, Int.reduceToNat, Int.reduceEq, Int.reduceLT, Int.reduceLE, Int.reduceAdd, Int.reduceSub, Int.reduceMul, reduceIte, resVs, resV, packV, initT, addr, List.take_zero]; rfl), by first | rfl | (simp (implicitDefEqProofs := false) (maxSteps := 1000000) (disch := first | omega | with_reducible assumption | (simp only [List.length_map, List.length_cons, List.length_nil, List.length_set, List.length_append, List.length_replicate, List.length_take, List.length_drop, mk_size, Nat.reduceAdd]; omega)) only [amT, cut, bnd, Nat.reduceBEq, reduceCtorEq, Nat.reduceEqDiff, Nat.reduceAdd, Nat.reduceMul, Nat.reduceSub, Int.reduceToNat, Int.reduceEq, Int.reduceLT, Int.reduceLE, Int.reduceAdd, Int.reduceSub, Int.reduceMul, reduceIte, resVs, resV, packV, initT, addr, List.take_zero]; done) | (simp (implicitDefEqProofs := false) (maxSteps := 1000000) (disch := first | omega | with_reducible assumption | (simp only [List.length_map, List.length_cons, List.length_nil, List.length_set, List.length_append, List.length_replicate, List.length_take, List.length_drop, mk_size, Nat.reduceAdd]; omega)) only [amT, cut, bnd, Nat.reduceBEq, reduceCtorEq, Nat.reduceEqDiff, Nat.reduceAdd, Nat.reduceMul, Nat.reduceSub, Int.reduceToNat, Int.reduceEq, Int.reduceLT, Int.reduceLE, Int.reduceAdd, Int.reduceSub, Int.reduceMul, reduceIte, resVs, resV, packV, initT, addr, List.take_zero]; rfl), by first | rfl | (simp (implicitDefEqProofs := false) (maxSteps := 1000000) (disch := first | omega | with_reducible assumption | (simp only [List.length_map, List.length_cons, List.length_nil, List.length_set, List.length_append, List.length_replicate, List.length_take, List.length_drop, mk_size, Nat.reduceAdd]; omega)) only [amT, cut, bnd, Nat.reduceBEq, reduceCtorEq, Nat.reduceEqDiff, Nat.reduceAdd, Nat.reduceMul, Nat.reduceSub, Int.reduceToNat, Int.reduceEq, Int.reduceLT, Int.reduceLE, Int.reduceAdd, Int.reduceSub, Int.reduceMul, reduceIte, resVs, resV, packV, initT, addr, List.take_zero]; done) | (simp (implicitDefEqProofs := false) (maxSteps := 1000000) (disch := first | omega | with_reducible assumption | (simp only [List.length_map, List.length_cons, List.length_nil, List.length_set, List.length_append, List.length_replicate, List.length_take, List.length_drop, mk_size, Nat.reduceAdd]; omega)) only [amT, cut, bnd, Nat.reduceBEq, reduceCtorEq, Nat.reduceEqDiff, Nat.reduceAdd, Nat.reduceMul, Nat.reduceSub, Int.reduceToNat, Int.reduceEq, Int.reduceLT, Int.reduceLE, Int.reduceAdd, Int.reduceSub, Int.reduceMul, reduceIte, resVs, resV, packV, initT, addr, List.take_zero]; rfl), ?_⟩ ?_
    · omega
    · rintro N t m1 ds ⟨i, rfl, hds, hm, t2, t3, t4, t7, t8, t10, t11, hp⟩
      simp only at hds hm t2 t3 t4 t7 t8 t10 t11
      subst hds hm
      by_cases hi : (i : Int) < 20
      · have hid : i < d.length := by omega
        have hix : i < x.length := by omega
        have hs := take_succ_dec hid hix
        by_cases he : d.take i = x.take i
        · rw [decide_eq_true he, Bool.true_and] at hs
          rw [decide_eq_true he] at t10
          simp (implicitDefEqProofs := false) (maxSteps := 1000000) (disch := first | omega | with_reducible assumption | (simp only [List.length_map, List.length_cons, List.length_nil, List.length_set, List.length_append, List.length_replicate, List.length_take, List.length_drop, mk_size, Nat.reduceAdd]; omega)) only [amT, cut, bnd, Nat.reduceBEq, reduceCtorEq, Nat.reduceEqDiff, Nat.reduceAdd, Nat.reduceMul, Nat.reduceSub, Int.reduceToNat, Int.reduceEq, Int.reduceLT, Int.reduceLE, Int.reduceAdd, Int.reduceSub, Int.reduceMul, reduceIte, resVs, resV, packV, initT, addr, F7_l0, t2, t3, t4, t7, t8, t10, t11, hi, List.getElem_take, byteV_def]
          rw [LoopK_normal]; refine ⟨_, ?_, i + 1, rfl, rfl, by first | rfl | (simp (implicitDefEqProofs := false) (maxSteps := 1000000) (disch := first | omega | with_reducible assumption | (simp only [List.length_map, List.length_cons, List.length_nil, List.length_set, List.length_append, List.length_replicate, List.length_take, List.length_drop, mk_size, Nat.reduceAdd]; omega)) only [amT, cut, bnd, Nat.reduceBEq, reduceCtorEq, Nat.reduceEqDiff, Nat.reduceAdd, Nat.reduceMul, Nat.reduceSub, Int.reduceToNat, Int.reduceEq, Int.reduceLT, Int.reduceLE, Int.reduceAdd, Int.reduceSub, Int.reduceMul, reduceIte, resVs, resV, packV, initT, addr, t2, t3, t4, t7, t8, t10, t11, hs]; done) | (simp (implicitDefEqProofs := false) (maxSteps := 1000000) (disch := first | omega | with_reducible assumption | (simp only [List.length_map, List.length_cons, List.length_nil, List.length_set, List.length_append, List.length_replicate, List.length_take, List.length_drop, mk_size, Nat.reduceAdd]; omega)) only [amT, cut, bnd, Nat.reduceBEq, reduceCtorEq, Nat.reduceEqDiff, Nat.reduceAdd, Nat.reduceMul, Nat.reduceSub, Int.reduceToNat, Int.reduceEq, Int.reduceLT, Int.reduceLE, Int.reduceAdd, Int.reduceSub, Int.reduceMul, reduceIte, resVs, resV, packV, initT, addr, t2, t3, t4, t7, t8, t10, t11, hs]; rfl), by first | rfl | (simp (implicitDefEqProofs := false) (maxSteps := 1000000) (disch := first | omega | with_reducible assumption | (simp only [List.length_map, List.length_cons, List.length_nil, List.length_set, List.length_append, List.length_replicate, List.length_take, List.length_drop, mk_size, Nat.reduceAdd]; omega)) only [amT, cut, bnd, Nat.reduceBEq, reduceCtorEq, Nat.reduceEqDiff, Nat.reduceAdd, Nat.reduceMul, Nat.reduceSub, Int.reduceToNat, Int.reduceEq, Int.reduceLT, Int.reduceLE, Int.reduceAdd, Int.reduceSub, Int.reduceMul, reduceIte, resVs, resV, packV, initT, addr, t2, t3, t4, t7, t8, t10, t11, hs]; done) | (simp (implicitDefEqProofs := false) (maxSteps := 1000000) (disch := first | omega | with_reducible assumption | (simp only [List.length_map, List.length_cons, List.length_nil, List.length_set, List.length_append, List.length_replicate, List.length_take, List.length_drop, mk_size, Nat.reduceAdd]; omega)) only [amT, cut, bnd, Nat.reduceBEq, reduceCtorEq, Nat.reduceEqDiff, Nat.reduceAdd, Nat.reduceMul, Nat.reduceSub, Int.reduceToNat, Int.reduceEq, Int.reduceLT, Int.reduceLE, Int.reduceAdd, Int.reduceSub, Int.reduceMul, reduceIte, resVs, resV, packV, initT, addr, t2, t3, t4, t7, t8, t10, t11, hs]; rfl), by first | rfl | (simp (implicitDefEqProofs := false) (maxSteps := 1000000) (disch := first | omega | with_reducible assumption | (simp only [List.length_map, List.length_cons, List.length_nil, List.length_set, List.length_append, List.length_replicate, List.length_take, List.length_drop, mk_size, Nat.reduceAdd]; omega)) only [amT, cut, bnd, Nat.reduceBEq, reduceCtorEq, Nat.reduceEqDiff, Nat.reduceAdd, Nat.reduceMul, Nat.reduceSub, Int.reduceToNat, Int.reduceEq, Int.reduceLT, Int.reduceLE, Int.reduceAdd, Int.reduceSub, Int.reduceMul, reduceIte, resVs, resV, packV, initT, addr, t2, t3, t4, t7, t8, t10, t11, hs]; done) | (simp (implicitDefEqProofs := false) (maxSteps := 1000000) (disch := first | omega | with_reducible assumption | (simp only [List.length_map, List.length_cons, List.length_nil, List.length_set, List.length_append, List.length_replicate, List.length_take, List.length_drop, mk_size, Nat.reduceAdd]; omega)) only [amT, cut, bnd, Nat.reduceBEq, reduceCtorEq, Nat.reduceEqDiff, Nat.reduceAdd, Nat.reduceMul, Nat.reduceSub, Int.reduceToNat, Int.reduceEq, Int.reduceLT, Int.reduceLE, Int.reduceAdd, Int.reduceSub, Int.reduceMul, reduceIte, resVs, resV, packV, initT, addr, t2, t3, t4, t7, t8, t10, t11, hs]; rfl), by first | rfl | (simp (implicitDefEqProofs := false) (maxSteps := 1000000) (disch := first | omega | with_reducible assumption | (simp only [List.length_map, List.length_cons, List.length_nil, List.length_set, List.length_append, List.length_replicate, List.length_take, List.length_drop, mk_size, Nat.reduceAdd]; omega)) only [amT, cut, bnd, Nat.reduceBEq, reduceCtorEq, Nat.reduceEqDiff, Nat.reduceAdd, Nat.reduceMul, Nat.reduceSub, Int.reduceToNat, Int.reduceEq, Int.reduceLT, Int.reduceLE, Int.reduceAdd, Int.reduceSub, Int.reduceMul, reduceIte, resVs, resV, packV, initT, addr, t2, t3, t4, t7, t8, t10, t11, hs]; done) | (simp (implicitDefEqProofs := false) (maxSteps := 1000000) (disch := first | omega | with_reducible assumption | (simp only [List.length_map, List.length_cons, List.length_nil, List.length_set, List.length_append, List.length_replicate, List.length_take, List.length_drop, mk_size, Nat.reduceAdd]; omega)) only [amT, cut, bnd, Nat.reduceBEq, reduceCtorEq, Nat.reduceEqDiff, Nat.reduceAdd, Nat.reduceMul, Nat.reduceSub, Int.reduceToNat, Int.reduceEq, Int.reduceLT, Int.reduceLE, Int.reduceAdd, Int.reduceSub, Int.reduceMul, reduceIte, resVs, resV, packV, initT, addr, t2, t3, t4, t7, t8, t10, t11, hs]; rfl), by first | rfl | (simp (implicitDefEqProofs := false) (maxSteps := 1000000) (disch := first | omega | with_reducible assumption | (simp only [List.length_map, List.length_cons, List.length_nil, List.length_set, List.length_append, List.length_replicate, List.length_take, List.length_drop, mk_size, Nat.reduceAdd]; omega)) only [amT, cut, bnd, Nat.reduceBEq, reduceCtorEq, Nat.reduceEqDiff, Nat.reduceAdd, Nat.reduceMul, Nat.reduceSub, Int.reduceToNat, Int.reduceEq, Int.reduceLT, Int.reduceLE, Int.reduceAdd, Int.reduceSub, Int.reduceMul, reduceIte, resVs, resV, packV, initT, addr, t2, t3, t4, t7, t8, t10, t11, hs]; done) | (simp (implicitDefEqProofs := false) (maxSteps := 1000000) (disch := first | omega | with_reducible assumption | (simp only [List.length_map, List.length_cons, List.length_nil, List.length_set, List.length_append, List.length_replicate, List.length_take, List.length_drop, mk_size, Nat.reduceAdd]; omega)) only [amT, cut, bnd, Nat.reduceBEq, reduceCtorEq, Nat.reduceEqDiff, Nat.reduceAdd, Nat.reduceMul, Nat.reduceSub, Int.reduceToNat, Int.reduceEq, Int.reduceLT, Int.reduceLE, Int.reduceAdd, Int.reduceSub, Int.reduceMul, reduceIte, resVs, resV, packV, initT, addr, t2, t3, t4, t7, t8, t10, t11, hs]; rfl), by first | rfl | (simp (implicitDefEqProofs := false) (maxSteps := 1000000) (disch := first | omega | with_reducible assumption | (simp only [List.length_map, List.length_cons, List.length_nil, List.length_set, List.length_append, List.length_replicate, List.length_take, List.length_drop, mk_size, Nat.reduceAdd]; omega)) only [amT, cut, bnd, Nat.reduceBEq, reduceCtorEq, Nat.reduceEqDiff, Nat.reduceAdd, Nat.reduceMul, Nat.reduceSub, Int.reduceToNat, Int.reduceEq, Int.reduceLT, Int.reduceLE, Int.reduceAdd, Int.reduceSub, Int.reduceMul, reduceIte, resVs, resV, packV, initT, addr, t2, t3, t4, t7, t8, t10, t11, hs]; done) | (simp (implicitDefEqProofs := false) (maxSteps := 1000000) (disch := first | omega | with_reducible assumption | (simp only [List.length_map, List.length_cons, List.length_nil, List.length_set, List.length_append, List.length_replicate, List.length_take, List.length_drop, mk_size, Nat.reduceAdd]; omega)) only [amT, cut, bnd, Nat.reduceBEq, reduceCtorEq, Nat.reduceEqDiff, Nat.reduceAdd, Nat.reduceMul, Nat.reduceSub, Int.reduceToNat, Int.reduceEq, Int.reduceLT, Int.reduceLE, Int.reduceAdd, Int.reduceSub, Int.reduceMul, reduceIte, resVs, resV, packV, initT, addr, t2, t3, t4, t7, t8, t10, t11, hs]; rfl), by first | rfl | (simp (implicitDefEqProofs := false) (maxSteps := 1000000) (disch := first | omega | with_reducible assumption | (simp only [List.length_map, List.length_cons, List.length_nil, List.length_set, List.length_append, List.length_replicate, List.length_take, List.length_drop, mk_size, Nat.reduceAdd]; omega)) only [amT, cut, bnd, Nat.reduceBEq, reduceCtorEq, Nat.reduceEqDiff, Nat.reduceAdd, Nat.reduceMul, Nat.reduceSub, Int.reduceToNat, Int.reduceEq, Int.reduceLT, Int.reduceLE, Int.reduceAdd, Int.reduceSub, Int.reduceMul, reduceIte, resVs, resV, packV, initT, addr, t2, t3, t4, t7, t8, t10, t11, hs]; done) | (simp (implicitDefEqProofs := false) (maxSteps := 1000000) (disch := first | omega | with_reducible assumption | (simp only [List.length_map, List.length_cons, List.length_nil, List.length_set, List.length_append, List.length_replicate, List.length_take, List.length_drop, mk_size, Nat.reduceAdd]; omega)) only [amT, cut, bnd, Nat.reduceBEq, reduceCtorEq, Nat.reduceEqDiff, Nat.reduceAdd, Nat.reduceMul, Nat.reduceSub, Int.reduceToNat, Int.reduceEq, Int.reduceLT, Int.reduceLE, Int.reduceAdd, Int.reduceSub, Int.reduceMul, reduceIte, resVs, resV, packV, initT, addr, t2, t3, t4, t7, t8, t10, t11, hs]; rfl), by first | rfl | (simp (implicitDefEqProofs := false) (maxSteps := 1000000) (disch := first | omega | with_reducible assumption | (simp only [List.length_map, List.length_cons, List.length_nil, List.length_set, List.length_append, List.length_replicate, List.length_take, List.length_drop, mk_size, Nat.reduceAdd]; omega)) only [amT, cut, bnd, Nat.reduceBEq, reduceCtorEq, Nat.reduceEqDiff, Nat.reduceAdd, Nat.reduceMul, Nat.reduceSub, Int.reduceToNat, Int.reduceEq, Int.reduceLT, Int.reduceLE, Int.reduceAdd, Int.reduceSub, Int.reduceMul, reduceIte, resVs, resV, packV, initT, addr, t2, t3, t4, t7, t8, t10, t11, hs]; done) | (simp (implicitDefEqProofs := false) (maxSteps := 1000000) (disch := first | omega | with_reducible assumption | (simp only [List.length_map, List.length_cons, List.length_nil, List.length_set, List.length_append, List.length_replicate, List.length_take, List.length_drop, mk_size, Nat.reduceAdd]; omega)) only [amT, cut, bnd, Nat.reduceBEq, reduceCtorEq, Nat.reduceEqDiff, Nat.reduceAdd, Nat.reduceMul, Nat.reduceSub, Int.reduceToNat, Int.reduceEq, Int.reduceLT, Int.reduceLE, Int.reduceAdd, Int.reduceSub, Int.reduceMul, reduceIte, resVs, resV, packV, initT, addr, t2, t3, t4, t7, t8, t10, t11, hs]; rfl), ?_⟩
          · omega
          · omega
        · rw [decide_eq_false he, Bool.false_and] at hs
          rw [decide_eq_false he] at t10
          simp (implicitDefEqProofs := false) (maxSteps := 1000000) (disch := first | omega | with_reducible assumption | (simp only [List.length_map, List.length_cons, List.length_nil, List.length_set, List.length_append, List.length_replicate, List.length_take, List.length_drop, mk_size, Nat.reduceAdd]; omega)) only [amT, cut, bnd, Nat.reduceBEq, reduceCtorEq, Nat.reduceEqDiff, Nat.reduceAdd, Nat.reduceMul, Nat.reduceSub, Int.reduceToNat, Int.reduceEq, Int.reduceLT, Int.reduceLE, Int.reduceAdd, Int.reduceSub, Int.reduceMul, reduceIte, resVs, resV, packV, initT, addr, F7_l0, t2, t3, t4, t7, t8, t10, t11, hi, List.getElem_take, byteV_def]
          rw [LoopK_normal]; refine ⟨_, ?_, i + 1, rfl, rfl, by first | rfl | (simp (implicitDefEqProofs := false) (maxSteps := 1000000) (disch := first | omega | with_reducible assumption | (simp only [List.length_map, List.length_cons, List.length_nil, List.length_set, List.length_append, List.length_replicate, List.length_take, List.length_drop, mk_size, Nat.reduceAdd]; omega)) only [amT, cut, bnd, Nat.reduceBEq, reduceCtorEq, Nat.reduceEqDiff, Nat.reduceAdd, Nat.reduceMul, Nat.reduceSub, Int.reduceToNat, Int.reduceEq, Int.reduceLT, Int.reduceLE, Int.reduceAdd, Int.reduceSub, Int.reduceMul, reduceIte, resVs, resV, packV, initT, addr, t2, t3, t4, t7, t8, t10, t11, hs]; done) | (simp (implicitDefEqProofs := false) (maxSteps := 1000000) (disch := first | omega | with_reducible assumption | (simp only [List.length_map, List.length_cons, List.length_nil, List.length_set, List.length_append, List.length_replicate, List.length_take, List.length_drop, mk_size, Nat.reduceAdd]; omega)) only [amT, cut, bnd, Nat.reduceBEq, reduceCtorEq, Nat.reduceEqDiff, Nat.reduceAdd, Nat.reduceMul, Nat.reduceSub, Int.reduceToNat, Int.reduceEq, Int.reduceLT, Int.reduceLE, Int.reduceAdd, Int.reduceSub, Int.reduceMul, reduceIte, resVs, resV, packV, initT, addr, t2, t3, t4, t7, t8, t10, t11, hs]; rfl), by first | rfl | (simp (implicitDefEqProofs := false) (maxSteps := 1000000) (disch := first | omega | with_reducible assumption | (simp only [List.length_map, List.length_cons, List.length_nil, List.length_set, List.length_append, List.length_replicate, List.length_take, List.length_drop, mk_size, Nat.reduceAdd]; omega)) only [amT, cut, bnd, Nat.reduceBEq, reduceCtorEq, Nat.reduceEqDiff, Nat.reduceAdd, Nat.reduceMul, Nat.reduceSub, Int.reduceToNat, Int.reduceEq, Int.reduceLT, Int.reduceLE, Int.reduceAdd, Int.reduceSub, Int.reduceMul, reduceIte, resVs, resV, packV, initT, addr, t2, t3, t4, t7, t8, t10, t11, hs]; done) | (simp (implicitDefEqProofs := false) (maxSteps := 1000000) (disch := first | omega | with_reducible assumption | (simp only [List.length_map, List.length_cons, List.length_nil, List.length_set, List.length_append, List.length_replicate, List.length_take, List.length_drop, mk_size, Nat.reduceAdd]; omega)) only [amT, cut, bnd, Nat.reduceBEq, reduceCtorEq, Nat.reduceEqDiff, Nat.reduceAdd, Nat.reduceMul, Nat.reduceSub, Int.reduceToNat, Int.reduceEq, Int.reduceLT, Int.reduceLE, Int.reduceAdd, Int.reduceSub, Int.reduceMul, reduceIte, resVs, resV, packV, initT, addr, t2, t3, t4, t7, t8, t10, t11, hs]; rfl), by first | rfl | (simp (implicitDefEqProofs := false) (maxSteps := 1000000) (disch := first | omega | with_reducible assumption | (simp only [List.length_map, List.length_cons, List.length_nil, List.length_set, List.length_append, List.length_replicate, List.length_take, List.length_drop, mk_size, Nat.reduceAdd]; omega)) only [amT, cut, bnd, Nat.reduceBEq, reduceCtorEq, Nat.reduceEqDiff, Nat.reduceAdd, Nat.reduceMul, Nat.reduceSub, Int.reduceToNat, Int.reduceEq, Int.reduceLT, Int.reduceLE, Int.reduceAdd, Int.reduceSub, Int.reduceMul, reduceIte, resVs, resV, packV, initT, addr, t2, t3, t4, t7, t8, t10, t11, hs]; done) | (simp (implicitDefEqProofs := false) (maxSteps := 1000000) (disch := first | omega | with_reducible assumption | (simp only [List.length_map, List.length_cons, List.length_nil, List.length_set, List.length_append, List.length_replicate, List.length_take, List.length_drop, mk_size, Nat.reduceAdd]; omega)) only [amT, cut, bnd, Nat.reduceBEq, reduceCtorEq, Nat.reduceEqDiff, Nat.reduceAdd, Nat.reduceMul, Nat.reduceSub, Int.reduceToNat, Int.reduceEq, Int.reduceLT, Int.reduceLE, Int.reduceAdd, Int.reduceSub, Int.reduceMul, reduceIte, resVs, resV, packV, initT, addr, t2, t3, t4, t7, t8, t10, t11, hs]; rfl), by first | rfl | (simp (implicitDefEqProofs := false) (maxSteps := 1000000) (disch := first | omega | with_reducible assumption | (simp only [List.length_map, List.length_cons, List.length_nil, List.length_set, List.length_append, List.length_replicate, List.length_take, List.length_drop, mk_size, Nat.reduceAdd]; omega)) only [amT, cut, bnd, Nat.reduceBEq, reduceCtorEq, Nat.reduceEqDiff, Nat.reduceAdd, Nat.reduceMul, Nat.reduceSub, Int.reduceToNat, Int.reduceEq, Int.reduceLT, Int.reduceLE, Int.reduceAdd, Int.reduceSub, Int.reduceMul, reduceIte, resVs, resV, packV, initT, addr, t2, t3, t4, t7, t8, t10, t11, hs]; done) | (simp (implicitDefEqProofs := false) (maxSteps := 1000000) (disch := first | omega | with_reducible assumption | (simp only [List.length_map, List.length_cons, List.length_nil, List.length_set, List.length_append, List.length_replicate, List.length_take, List.length_drop, mk_size, Nat.reduceAdd]; omega)) only [amT, cut, bnd, Nat.reduceBEq, reduceCtorEq, Nat.reduceEqDiff, Nat.reduceAdd, Nat.reduceMul, Nat.reduceSub, Int.reduceToNat, Int.reduceEq, Int.reduceLT, Int.reduceLE, Int.reduceAdd, Int.reduceSub, Int.reduceMul, reduceIte, resVs, resV, packV, initT, addr, t2, t3, t4, t7, t8, t10, t11, hs]; rfl), by first | rfl | (simp (implicitDefEqProofs := false) (maxSteps := 1000000) (disch := first | omega | with_reducible assumption | (simp only [List.length_map, List.length_cons, List.length_nil, List.length_set, List.length_append, List.length_replicate, List.length_take, List.length_drop, mk_size, Nat.reduceAdd]; omega)) only [amT, cut, bnd, Nat.reduceBEq, reduceCtorEq, Nat.reduceEqDiff, Nat.reduceAdd, Nat.reduceMul, Nat.reduceSub, Int.reduceToNat, Int.reduceEq, Int.reduceLT, Int.reduceLE, Int.reduceAdd, Int.reduceSub, Int.reduceMul, reduceIte, resVs, resV, packV, initT, addr, t2, t3, t4, t7, t8, t10, t11, hs]; done) | (simp (implicitDefEqProofs := false) (maxSteps := 1000000) (disch := first | omega | with_reducible assumption | (simp only [List.length_map, List.length_cons, List.length_nil, List.length_set, List.length_append, List.length_replicate, List.length_take, List.length_drop, mk_size, Nat.reduceAdd]; omega)) only [amT, cut, bnd, Nat.reduceBEq, reduceCtorEq, Nat.reduceEqDiff, Nat.reduceAdd, Nat.reduceMul, Nat.reduceSub, Int.reduceToNat, Int.reduceEq, Int.reduceLT, Int.reduceLE, Int.reduceAdd, Int.reduceSub, Int.reduceMul, reduceIte, resVs, resV, packV, initT, addr, t2, t3, t4, t7, t8, t10, t11, hs]; rfl), by first | rfl | (simp (implicitDefEqProofs := false) (maxSteps := 1000000) (disch := first | omega | with_reducible assumption | (simp only [List.length_map, List.length_cons, List.length_nil, List.length_set, List.length_append, List.length_replicate, List.length_take, List.length_drop, mk_size, Nat.reduceAdd]; omega)) only [amT, cut, bnd, Nat.reduceBEq, reduceCtorEq, Nat.reduceEqDiff, Nat.reduceAdd, Nat.reduceMul, Nat.reduceSub, Int.reduceToNat, Int.reduceEq, Int.reduceLT, Int.reduceLE, Int.reduceAdd, Int.reduceSub, Int.reduceMul, reduceIte, resVs, resV, packV, initT, addr, t2, t3, t4, t7, t8, t10, t11, hs]; done) | (simp (implicitDefEqProofs := false) (maxSteps := 1000000) (disch := first | omega | with_reducible assumption | (simp only [List.length_map, List.length_cons, List.length_nil, List.length_set, List.length_append, List.length_replicate, List.length_take, List.length_drop, mk_size, Nat.reduceAdd]; omega)) only [amT, cut, bnd, Nat.reduceBEq, reduceCtorEq, Nat.reduceEqDiff, Nat.reduceAdd, Nat.reduceMul, Nat.reduceSub, Int.reduceToNat, Int.reduceEq, Int.reduceLT, Int.reduceLE, Int.reduceAdd, Int.reduceSub, Int.reduceMul, reduceIte, resVs, resV, packV, initT, addr, t2, t3, t4, t7, t8, t10, t11, hs]; rfl), by first | rfl | (simp (implicitDefEqProofs := false) (maxSteps := 1000000) (disch := first | omega | with_reducible assumption | (simp only [List.length_map, List.length_cons, List.length_nil, List.length_set, List.length_append, List.length_replicate, List.length_take, List.length_drop, mk_size, Nat.reduceAdd]; omega)) only [amT, cut, bnd, Nat.reduceBEq, reduceCtorEq, Nat.reduceEqDiff, Nat.reduceAdd, Nat.reduceMul, Nat.reduceSub, Int.reduceToNat, Int.reduceEq, Int.reduceLT, Int.reduceLE, Int.reduceAdd, Int.reduceSub, Int.reduceMul, reduceIte, resVs, resV, packV, initT, addr, t2, t3, t4, t7, t8, t10, t11, hs]; done) | (simp (implicitDefEqProofs := false) (maxSteps := 1000000) (disch := first | omega | with_reducible assumption | (simp only [List.length_map, List.length_cons, List.length_nil, List.length_set, List.length_append, List.length_replicate, List.length_take, List.length_drop, mk_size, Nat.reduceAdd]; omega)) only [amT, cut, bnd, Nat.reduceBEq, reduceCtorEq, Nat.reduceEqDiff, Nat.reduceAdd, Nat.reduceMul, Nat.reduceSub, Int.reduceToNat, Int.reduceEq, Int.reduceLT, Int.reduceLE, Int.reduceAdd, Int.reduceSub, Int.reduceMul, reduceIte, resVs, resV, packV, initT, addr, t2, t3, t4, t7, t8, t10, t11, hs]; rfl), by first | rfl | (simp (implicitDefEqProofs := false) (maxSteps := 1000000) (disch := first | omega | with_reducible assumption | (simp only [List.length_map, List.length_cons, List.length_nil, List.length_set, List.length_append, List.length_replicate, List.length_take, List.length_drop, mk_size, Nat.reduceAdd]; omega)) only [amT, cut, bnd, Nat.reduceBEq, reduceCtorEq, Nat.reduceEqDiff, Nat.reduceAdd, Nat.reduceMul, Nat.reduceSub, Int.reduceToNat, Int.reduceEq, Int.reduceLT, Int.reduceLE, Int.reduceAdd, Int.reduceSub, Int.reduceMul, reduceIte, resVs, resV, packV, initT, addr, t2, t3, t4, t7, t8, t10, t11, hs]; done) | (simp (implicitDefEqProofs := false) (maxSteps := 1000000) (disch := first | omega | with_reducible assumption | (simp only [List.length_map, List.length_cons, List.length_nil, List.length_set, List.length_append, List.length_replicate, List.length_take, List.length_drop, mk_size, Nat.reduceAdd]; omega)) only [amT, cut, bnd, Nat.reduceBEq, reduceCtorEq, Nat.reduceEqDiff, Nat.reduceAdd, Nat.reduceMul, Nat.reduceSub, Int.reduceToNat, Int.reduceEq, Int.reduceLT, Int.reduceLE, Int.reduceAdd, Int.reduceSub, Int.reduceMul, reduceIte, resVs, resV, packV, initT, addr, t2, t3, t4, t7, t8, t10, t11, hs]; rfl), ?_⟩
          · omega
          · omega
      · have hi20 : i = 20 := by omega
        subst hi20
        have hin := letters_inj hd hx
        cases hr : rightB l with
        | false =>
          have hn : nameR d l = ([], 2) := by simp [nameR, hr]
          simp (implicitDefEqProofs := false) (maxSteps := 1000000) (disch := first | omega | with_reducible assumption | (simp only [List.length_map, List.length_cons, List.length_nil, List.length_set, List.length_append, List.length_replicate, List.length_take, List.length_drop, mk_size, Nat.reduceAdd]; omega)) only [amT, cut, bnd, Nat.reduceBEq, reduceCtorEq, Nat.reduceEqDiff, Nat.reduceAdd, Nat.reduceMul, Nat.reduceSub, Int.reduceToNat, Int.reduceEq, Int.reduceLT, Int.reduceLE, Int.reduceAdd, Int.reduceSub, Int.reduceMul, reduceIte, resVs, resV, packV, initT, addr, F7_l0, t2, t3, t4, t7, t8, t10, t11, kLetters, strEq_mk, hin, beq_self_eq_true, kName, hn, kWorks]
        | true =>
          have hn : nameR d l = (lettersOf d ++ [45] ++ l, 0) := by simp [nameR, hr]
          have hpar := name_parse hd hr
          have hlen : (lettersOf d ++ [45] ++ l).length ≤ 100000 := by simp [lettersOf_length]; omega
          have f1 : fitsR (lettersOf d ++ [45] ++ l) d = true := by rw [fits_eq _ _ hd]; unfold fits2R; rw [hpar]; simp
          have f2 : fitsR (lettersOf d ++ [45] ++ l) x = decide (d.take 20 = x.take 20) := by
            rw [fits_eq _ _ hx]; unfold fits2R; rw [hpar]; simp [← hin, eq_comm]
          simp (implicitDefEqProofs := false) (maxSteps := 1000000) (disch := first | omega | with_reducible assumption | (simp only [List.length_map, List.length_cons, List.length_nil, List.length_set, List.length_append, List.length_replicate, List.length_take, List.length_drop, mk_size, Nat.reduceAdd]; omega)) only [amT, cut, bnd, Nat.reduceBEq, reduceCtorEq, Nat.reduceEqDiff, Nat.reduceAdd, Nat.reduceMul, Nat.reduceSub, Int.reduceToNat, Int.reduceEq, Int.reduceLT, Int.reduceLE, Int.reduceAdd, Int.reduceSub, Int.reduceMul, reduceIte, resVs, resV, packV, initT, addr, F7_l0, t2, t3, t4, t7, t8, t10, t11, kLetters, strEq_mk, hin, beq_self_eq_true, kName, hn, kWorks, kParse, hpar, kFits, f1, f2]
end Go.Proofs.Ytidngakhkpodgaa
namespace Go.Proofs.Ytidngakhkpodgaa
open Go Go.AM
set_option linter.unusedVariables false
set_option linter.unusedSimpArgs false

theorem kLawLetters {m : AMem} {d : List UInt8} (h : d.length = 32) : type_of% (DetC.known (lawLetters m d h)) := DetC.known (lawLetters m d h)
theorem kLawBytes {m : AMem} {l : List UInt8} : type_of% (DetC.known (lawBytes m l)) := DetC.known (lawBytes m l)
theorem kLawName {m : AMem} {d l : List UInt8} (h : d.length = 32) : type_of% (DetC.known (lawName m d h l)) := DetC.known (lawName m d h l)
theorem kLawParse {m : AMem} {d l : List UInt8} (h : d.length = 32) : type_of% (DetC.known (lawParse m l d h)) := DetC.known (lawParse m l d h)
theorem kLawBack {m : AMem} {d x l : List UInt8} (h : d.length = 32) (k : x.length = 32) : type_of% (DetC.known (lawBack m d h x k l)) := DetC.known (lawBack m d h x k l)

theorem asStrs (Pm : AMem → Prop) {M : AMem} {e : TypeId} (S : List (List UInt8)) (h : ∀ S' : List (List UInt8), S'.length = S.length → Pm (mx M [.cells (S'.map strV) e true .exact])) : Pm (mx M [.cells (S.map strV) e true .exact]) := h S rfl
theorem pow8_lt (i : Nat) : 2 ^ (i % 8) < 256 := by
  have : 2 ^ (i % 8) ≤ 2 ^ 7 := Nat.pow_le_pow_right (by omega) (by omega)
  omega

set_option maxHeartbeats 4000000 in
theorem lawKnown (m : AMem) : PureC Try.prog 1 8 [] m (.bool true) := by
  refine pure_of_W (fn := Try.f8) rfl rfl F8_ok (by simp [F8]) (.bool _) ?_
  have hz : zeroD.length = 32 := rfl
  simp (implicitDefEqProofs := false) (maxSteps := 1000000) (disch := first | omega | with_reducible assumption | (simp only [List.length_map, List.length_cons, List.length_nil, List.length_set, List.length_append, List.length_replicate, List.length_take, List.length_drop, mk_size, Nat.reduceAdd]; omega)) only [amT, cut, bnd, Nat.reduceBEq, reduceCtorEq, Nat.reduceEqDiff, Nat.reduceAdd, Nat.reduceMul, Nat.reduceSub, Int.reduceToNat, Int.reduceEq, Int.reduceLT, Int.reduceLE, Int.reduceAdd, Int.reduceSub, Int.reduceMul, reduceIte, resVs, resV, packV, initT, addr, F8]
  refine W_loop (fun N s => ∃ (i : Nat), N = 256 - i ∧ s.ds = [] ∧ Gb m s.m ∧ s.t 1 = .int .i64 i ∧ i ≤ 256) (256 - (0)) ⟨0, rfl, rfl, by first | exact .start _ _ | exact .mk (by assumption) _, by first | rfl | (simp (implicitDefEqProofs := false) (maxSteps := 1000000) (disch := first | omega | with_reducible assumption | (simp only [List.length_map, List.length_cons, List.length_nil, List.length_set, List.length_append, List.length_replicate, List.length_take, List.length_drop, mk_size, Nat.reduceAdd]; omega)) only [amT, cut, bnd, Nat.reduceBEq, reduceCtorEq, Nat.reduceEqDiff, Nat.reduceAdd, Nat.reduceMul, Nat.reduceSub, Int.reduceToNat, Int.reduceEq, Int.reduceLT, Int.reduceLE, Int.reduceAdd, Int.reduceSub, Int.reduceMul, reduceIte, resVs, resV, packV, initT, addr]; done) | (simp (implicitDefEqProofs := false) (maxSteps := 1000000) (disch := first | omega | with_reducible assumption | (simp only [List.length_map, List.length_cons, List.length_nil, List.length_set, List.length_append, List.length_replicate, List.length_take, List.length_drop, mk_size, Nat.reduceAdd]; omega)) only [amT, cut, bnd, Nat.reduceBEq, reduceCtorEq, Nat.reduceEqDiff, Nat.reduceAdd, Nat.reduceMul, Nat.reduceSub, Int.reduceToNat, Int.reduceEq, Int.reduceLT, Int.reduceLE, Int.reduceAdd, Int.reduceSub, Int.reduceMul, reduceIte, resVs, resV, packV, initT, addr]; rfl), ?_⟩ ?_
  · omega
  · rintro N t m1 ds ⟨i, rfl, hds, hm, t1, hp⟩
    simp only at hds hm t1
    obtain ⟨M, rfl, hM⟩ := hm.base; subst hds
    by_cases hi : (i : Int) < 256
    · have e1 : (i : Int).tdiv 8 = ((i / 8 : Nat) : Int) := tdiv_nat i 8
      have e2 : (i : Int).tmod 8 = ((i % 8 : Nat) : Int) := tmod_nat i 8
      have e3 : ((i : Int) * 7).tmod 32 = ((i * 7 % 32 : Nat) : Int) := tmod_nat (i * 7) 32
      have e4 := shl_one_u8 (q := i % 8) (by omega)
      have e5 := map_set_int (l := zeroD) (i := i / 8) (pow8_lt i)
      have e6 := map_set_int (l := zeroD) (i := i * 7 % 32) (v := i) (by omega)
      simp (implicitDefEqProofs := false) (maxSteps := 1000000) (disch := first | omega | with_reducible assumption | (simp only [List.length_map, List.length_cons, List.length_nil, List.length_set, List.length_append, List.length_replicate, List.length_take, List.length_drop, mk_size, Nat.reduceAdd]; omega)) only [amT, cut, bnd, Nat.reduceBEq, reduceCtorEq, Nat.reduceEqDiff, Nat.reduceAdd, Nat.reduceMul, Nat.reduceSub, Int.reduceToNat, Int.reduceEq, Int.reduceLT, Int.reduceLE, Int.reduceAdd, Int.reduceSub, Int.reduceMul, reduceIte, resVs, resV, packV, initT, addr, F8_l0, t1, hi, z32, e1, e2, e3, e4, e5, e6, kLawLetters, kLawBytes, kLawName, kLawParse, kLawBack, kLetters, lettersOf_length]
      repeat refine OrW.go ?_
      rw [LoopK_normal]; refine ⟨_, ?_, i + 1, rfl, rfl, by first | exact .mk hM _ | (rw [mx_mx]; exact .mk hM _), by first | rfl | (simp (implicitDefEqProofs := false) (maxSteps := 1000000) (disch := first | omega | with_reducible assumption | (simp only [List.length_map, List.length_cons, List.length_nil, List.length_set, List.length_append, List.length_replicate, List.length_take, List.length_drop, mk_size, Nat.reduceAdd]; omega)) only [amT, cut, bnd, Nat.reduceBEq, reduceCtorEq, Nat.reduceEqDiff, Nat.reduceAdd, Nat.reduceMul, Nat.reduceSub, Int.reduceToNat, Int.reduceEq, Int.reduceLT, Int.reduceLE, Int.reduceAdd, Int.reduceSub, Int.reduceMul, reduceIte, resVs, resV, packV, initT, addr, t1]; done) | (simp (implicitDefEqProofs := false) (maxSteps := 1000000) (disch := first | omega | with_reducible assumption | (simp only [List.length_map, List.length_cons, List.length_nil, List.length_set, List.length_append, List.length_replicate, List.length_take, List.length_drop, mk_size, Nat.reduceAdd]; omega)) only [amT, cut, bnd, Nat.reduceBEq, reduceCtorEq, Nat.reduceEqDiff, Nat.reduceAdd, Nat.reduceMul, Nat.reduceSub, Int.reduceToNat, Int.reduceEq, Int.reduceLT, Int.reduceLE, Int.reduceAdd, Int.reduceSub, Int.reduceMul, reduceIte, resVs, resV, packV, initT, addr, t1]; rfl), ?_⟩
      · omega
      · omega
    · simp (implicitDefEqProofs := false) (maxSteps := 1000000) (disch := first | omega | with_reducible assumption | (simp only [List.length_map, List.length_cons, List.length_nil, List.length_set, List.length_append, List.length_replicate, List.length_take, List.length_drop, mk_size, Nat.reduceAdd]; omega)) only [amT, cut, bnd, Nat.reduceBEq, reduceCtorEq, Nat.reduceEqDiff, Nat.reduceAdd, Nat.reduceMul, Nat.reduceSub, Int.reduceToNat, Int.reduceEq, Int.reduceLT, Int.reduceLE, Int.reduceAdd, Int.reduceSub, Int.reduceMul, reduceIte, resVs, resV, packV, initT, addr, F8_l0, t1, hi, z32]
      refine W_loop (fun N s => ∃ (i : Nat), N = 65 - i ∧ s.ds = [] ∧ s.m = mx M [] ∧ s.t 5 = .string ⟨(List.replicate i 110).toArray⟩ ∧ s.t 6 = .int .i64 i ∧ i ≤ 65) (65 - (0)) ⟨0, rfl, rfl, by first | rfl | (simp (implicitDefEqProofs := false) (maxSteps := 1000000) (disch := first | omega | with_reducible assumption | (simp only [List.length_map, List.length_cons, List.length_nil, List.length_set, List.length_append, List.length_replicate, List.length_take, List.length_drop, mk_size, Nat.reduceAdd]; omega)) only [amT, cut, bnd, Nat.reduceBEq, reduceCtorEq, Nat.reduceEqDiff, Nat.reduceAdd, Nat.reduceMul, Nat.reduceSub, Int.reduceToNat, Int.reduceEq, Int.reduceLT, Int.reduceLE, Int.reduceAdd, Int.reduceSub, Int.reduceMul, reduceIte, resVs, resV, packV, initT, addr]; done) | (simp (implicitDefEqProofs := false) (maxSteps := 1000000) (disch := first | omega | with_reducible assumption | (simp only [List.length_map, List.length_cons, List.length_nil, List.length_set, List.length_append, List.length_replicate, List.length_take, List.length_drop, mk_size, Nat.reduceAdd]; omega)) only [amT, cut, bnd, Nat.reduceBEq, reduceCtorEq, Nat.reduceEqDiff, Nat.reduceAdd, Nat.reduceMul, Nat.reduceSub, Int.reduceToNat, Int.reduceEq, Int.reduceLT, Int.reduceLE, Int.reduceAdd, Int.reduceSub, Int.reduceMul, reduceIte, resVs, resV, packV, initT, addr]; rfl), by first | rfl | (simp (implicitDefEqProofs := false) (maxSteps := 1000000) (disch := first | omega | with_reducible assumption | (simp only [List.length_map, List.length_cons, List.length_nil, List.length_set, List.length_append, List.length_replicate, List.length_take, List.length_drop, mk_size, Nat.reduceAdd]; omega)) only [amT, cut, bnd, Nat.reduceBEq, reduceCtorEq, Nat.reduceEqDiff, Nat.reduceAdd, Nat.reduceMul, Nat.reduceSub, Int.reduceToNat, Int.reduceEq, Int.reduceLT, Int.reduceLE, Int.reduceAdd, Int.reduceSub, Int.reduceMul, reduceIte, resVs, resV, packV, initT, addr]; done) | (simp (implicitDefEqProofs := false) (maxSteps := 1000000) (disch := first | omega | with_reducible assumption | (simp only [List.length_map, List.length_cons, List.length_nil, List.length_set, List.length_append, List.length_replicate, List.length_take, List.length_drop, mk_size, Nat.reduceAdd]; omega)) only [amT, cut, bnd, Nat.reduceBEq, reduceCtorEq, Nat.reduceEqDiff, Nat.reduceAdd, Nat.reduceMul, Nat.reduceSub, Int.reduceToNat, Int.reduceEq, Int.reduceLT, Int.reduceLE, Int.reduceAdd, Int.reduceSub, Int.reduceMul, reduceIte, resVs, resV, packV, initT, addr]; rfl), by first | rfl | (simp (implicitDefEqProofs := false) (maxSteps := 1000000) (disch := first | omega | with_reducible assumption | (simp only [List.length_map, List.length_cons, List.length_nil, List.length_set, List.length_append, List.length_replicate, List.length_take, List.length_drop, mk_size, Nat.reduceAdd]; omega)) only [amT, cut, bnd, Nat.reduceBEq, reduceCtorEq, Nat.reduceEqDiff, Nat.reduceAdd, Nat.reduceMul, Nat.reduceSub, Int.reduceToNat, Int.reduceEq, Int.reduceLT, Int.reduceLE, Int.reduceAdd, Int.reduceSub, Int.reduceMul, reduceIte, resVs, resV, packV, initT, addr]; done) | (simp (implicitDefEqProofs := false) (maxSteps := 1000000) (disch := first | omega | with_reducible assumption | (simp only [List.length_map, List.length_cons, List.length_nil, List.length_set, List.length_append, List.length_replicate, List.length_take, List.length_drop, mk_size, Nat.reduceAdd]; omega)) only [amT, cut, bnd, Nat.reduceBEq, reduceCtorEq, Nat.reduceEqDiff, Nat.reduceAdd, Nat.reduceMul, Nat.reduceSub, Int.reduceToNat, Int.reduceEq, Int.reduceLT, Int.reduceLE, Int.reduceAdd, Int.reduceSub, Int.reduceMul, reduceIte, resVs, resV, packV, initT, addr]; rfl), ?_⟩ ?_
      · omega
      · clear t1 hi hp
        rintro N t m1 ds ⟨i, rfl, hds, hm, t5, t6, hp⟩
        simp only at hds hm t5 t6
        subst hds hm
        by_cases hi : (i : Int) < 65
        · have hll := lettersOf_length zeroD
          simp (implicitDefEqProofs := false) (maxSteps := 1000000) (disch := first | omega | with_reducible assumption | (simp only [List.length_map, List.length_cons, List.length_nil, List.length_set, List.length_append, List.length_replicate, List.length_take, List.length_drop, mk_size, Nat.reduceAdd]; omega)) only [amT, cut, bnd, Nat.reduceBEq, reduceCtorEq, Nat.reduceEqDiff, Nat.reduceAdd, Nat.reduceMul, Nat.reduceSub, Int.reduceToNat, Int.reduceEq, Int.reduceLT, Int.reduceLE, Int.reduceAdd, Int.reduceSub, Int.reduceMul, reduceIte, resVs, resV, packV, initT, addr, F8_l1, t5, t6, hi, z32, kLawName, kLawParse, kLetters]
          repeat refine OrW.go ?_
          rw [LoopK_normal]; refine ⟨_, ?_, i + 1, rfl, rfl, by first | rfl | (simp (implicitDefEqProofs := false) (maxSteps := 1000000) (disch := first | omega | with_reducible assumption | (simp only [List.length_map, List.length_cons, List.length_nil, List.length_set, List.length_append, List.length_replicate, List.length_take, List.length_drop, mk_size, Nat.reduceAdd]; omega)) only [amT, cut, bnd, Nat.reduceBEq, reduceCtorEq, Nat.reduceEqDiff, Nat.reduceAdd, Nat.reduceMul, Nat.reduceSub, Int.reduceToNat, Int.reduceEq, Int.reduceLT, Int.reduceLE, Int.reduceAdd, Int.reduceSub, Int.reduceMul, reduceIte, resVs, resV, packV, initT, addr, t5, t6, List.replicate_succ']; done) | (simp (implicitDefEqProofs := false) (maxSteps := 1000000) (disch := first | omega | with_reducible assumption | (simp only [List.length_map, List.length_cons, List.length_nil, List.length_set, List.length_append, List.length_replicate, List.length_take, List.length_drop, mk_size, Nat.reduceAdd]; omega)) only [amT, cut, bnd, Nat.reduceBEq, reduceCtorEq, Nat.reduceEqDiff, Nat.reduceAdd, Nat.reduceMul, Nat.reduceSub, Int.reduceToNat, Int.reduceEq, Int.reduceLT, Int.reduceLE, Int.reduceAdd, Int.reduceSub, Int.reduceMul, reduceIte, resVs, resV, packV, initT, addr, t5, t6, List.replicate_succ']; rfl), by first | rfl | (simp (implicitDefEqProofs := false) (maxSteps := 1000000) (disch := first | omega | with_reducible assumption | (simp only [List.length_map, List.length_cons, List.length_nil, List.length_set, List.length_append, List.length_replicate, List.length_take, List.length_drop, mk_size, Nat.reduceAdd]; omega)) only [amT, cut, bnd, Nat.reduceBEq, reduceCtorEq, Nat.reduceEqDiff, Nat.reduceAdd, Nat.reduceMul, Nat.reduceSub, Int.reduceToNat, Int.reduceEq, Int.reduceLT, Int.reduceLE, Int.reduceAdd, Int.reduceSub, Int.reduceMul, reduceIte, resVs, resV, packV, initT, addr, t5, t6, List.replicate_succ']; done) | (simp (implicitDefEqProofs := false) (maxSteps := 1000000) (disch := first | omega | with_reducible assumption | (simp only [List.length_map, List.length_cons, List.length_nil, List.length_set, List.length_append, List.length_replicate, List.length_take, List.length_drop, mk_size, Nat.reduceAdd]; omega)) only [amT, cut, bnd, Nat.reduceBEq, reduceCtorEq, Nat.reduceEqDiff, Nat.reduceAdd, Nat.reduceMul, Nat.reduceSub, Int.reduceToNat, Int.reduceEq, Int.reduceLT, Int.reduceLE, Int.reduceAdd, Int.reduceSub, Int.reduceMul, reduceIte, resVs, resV, packV, initT, addr, t5, t6, List.replicate_succ']; rfl), by first | rfl | (simp (implicitDefEqProofs := false) (maxSteps := 1000000) (disch := first | omega | with_reducible assumption | (simp only [List.length_map, List.length_cons, List.length_nil, List.length_set, List.length_append, List.length_replicate, List.length_take, List.length_drop, mk_size, Nat.reduceAdd]; omega)) only [amT, cut, bnd, Nat.reduceBEq, reduceCtorEq, Nat.reduceEqDiff, Nat.reduceAdd, Nat.reduceMul, Nat.reduceSub, Int.reduceToNat, Int.reduceEq, Int.reduceLT, Int.reduceLE, Int.reduceAdd, Int.reduceSub, Int.reduceMul, reduceIte, resVs, resV, packV, initT, addr, t5, t6, List.replicate_succ']; done) | (simp (implicitDefEqProofs := false) (maxSteps := 1000000) (disch := first | omega | with_reducible assumption | (simp only [List.length_map, List.length_cons, List.length_nil, List.length_set, List.length_append, List.length_replicate, List.length_take, List.length_drop, mk_size, Nat.reduceAdd]; omega)) only [amT, cut, bnd, Nat.reduceBEq, reduceCtorEq, Nat.reduceEqDiff, Nat.reduceAdd, Nat.reduceMul, Nat.reduceSub, Int.reduceToNat, Int.reduceEq, Int.reduceLT, Int.reduceLE, Int.reduceAdd, Int.reduceSub, Int.reduceMul, reduceIte, resVs, resV, packV, initT, addr, t5, t6, List.replicate_succ']; rfl), ?_⟩
          · omega
          · omega
        · have hll := lettersOf_length zeroD
          simp (implicitDefEqProofs := false) (maxSteps := 1000000) (disch := first | omega | with_reducible assumption | (simp only [List.length_map, List.length_cons, List.length_nil, List.length_set, List.length_append, List.length_replicate, List.length_take, List.length_drop, mk_size, Nat.reduceAdd]; omega)) only [amT, cut, bnd, Nat.reduceBEq, reduceCtorEq, Nat.reduceEqDiff, Nat.reduceAdd, Nat.reduceMul, Nat.reduceSub, Int.reduceToNat, Int.reduceEq, Int.reduceLT, Int.reduceLE, Int.reduceAdd, Int.reduceSub, Int.reduceMul, reduceIte, resVs, resV, packV, initT, addr, F8_l1, t5, t6, hi, z32, kLetters, lettersOf_length]
          repeat refine OrW.go ?_
          refine asStrs (fun X => W Try.prog 1 _ _ ⟨_, X, _⟩) [_, _, _, _, _, _, _, _, _, _, _, _, _, _] ?_
          intro S hS
          simp only [List.length_cons, List.length_nil, Nat.reduceAdd] at hS
          refine W_loop (fun N s => ∃ (i : Nat), N = 14 - i ∧ s.ds = [] ∧ s.m = mx M [.cells (S.map strV) 9 true .exact] ∧ s.t 134 = .slice (some ⟨M.size, 0, none⟩) 14 14 ∧ s.t 135 = .int .i64 14 ∧ s.t 136 = .int .i64 i ∧ i ≤ 14) (14 - (0)) ⟨0, rfl, rfl, by first | rfl | (simp (implicitDefEqProofs := false) (maxSteps := 1000000) (disch := first | omega | with_reducible assumption | (simp only [List.length_map, List.length_cons, List.length_nil, List.length_set, List.length_append, List.length_replicate, List.length_take, List.length_drop, mk_size, Nat.reduceAdd]; omega)) only [amT, cut, bnd, Nat.reduceBEq, reduceCtorEq, Nat.reduceEqDiff, Nat.reduceAdd, Nat.reduceMul, Nat.reduceSub, Int.reduceToNat, Int.reduceEq, Int.reduceLT, Int.reduceLE, Int.reduceAdd, Int.reduceSub, Int.reduceMul, reduceIte, resVs, resV, packV, initT, addr]; done) | (simp (implicitDefEqProofs := false) (maxSteps := 1000000) (disch := first | omega | with_reducible assumption | (simp only [List.length_map, List.length_cons, List.length_nil, List.length_set, List.length_append, List.length_replicate, List.length_take, List.length_drop, mk_size, Nat.reduceAdd]; omega)) only [amT, cut, bnd, Nat.reduceBEq, reduceCtorEq, Nat.reduceEqDiff, Nat.reduceAdd, Nat.reduceMul, Nat.reduceSub, Int.reduceToNat, Int.reduceEq, Int.reduceLT, Int.reduceLE, Int.reduceAdd, Int.reduceSub, Int.reduceMul, reduceIte, resVs, resV, packV, initT, addr]; rfl), by first | rfl | (simp (implicitDefEqProofs := false) (maxSteps := 1000000) (disch := first | omega | with_reducible assumption | (simp only [List.length_map, List.length_cons, List.length_nil, List.length_set, List.length_append, List.length_replicate, List.length_take, List.length_drop, mk_size, Nat.reduceAdd]; omega)) only [amT, cut, bnd, Nat.reduceBEq, reduceCtorEq, Nat.reduceEqDiff, Nat.reduceAdd, Nat.reduceMul, Nat.reduceSub, Int.reduceToNat, Int.reduceEq, Int.reduceLT, Int.reduceLE, Int.reduceAdd, Int.reduceSub, Int.reduceMul, reduceIte, resVs, resV, packV, initT, addr]; done) | (simp (implicitDefEqProofs := false) (maxSteps := 1000000) (disch := first | omega | with_reducible assumption | (simp only [List.length_map, List.length_cons, List.length_nil, List.length_set, List.length_append, List.length_replicate, List.length_take, List.length_drop, mk_size, Nat.reduceAdd]; omega)) only [amT, cut, bnd, Nat.reduceBEq, reduceCtorEq, Nat.reduceEqDiff, Nat.reduceAdd, Nat.reduceMul, Nat.reduceSub, Int.reduceToNat, Int.reduceEq, Int.reduceLT, Int.reduceLE, Int.reduceAdd, Int.reduceSub, Int.reduceMul, reduceIte, resVs, resV, packV, initT, addr]; rfl), by first | rfl | (simp (implicitDefEqProofs := false) (maxSteps := 1000000) (disch := first | omega | with_reducible assumption | (simp only [List.length_map, List.length_cons, List.length_nil, List.length_set, List.length_append, List.length_replicate, List.length_take, List.length_drop, mk_size, Nat.reduceAdd]; omega)) only [amT, cut, bnd, Nat.reduceBEq, reduceCtorEq, Nat.reduceEqDiff, Nat.reduceAdd, Nat.reduceMul, Nat.reduceSub, Int.reduceToNat, Int.reduceEq, Int.reduceLT, Int.reduceLE, Int.reduceAdd, Int.reduceSub, Int.reduceMul, reduceIte, resVs, resV, packV, initT, addr]; done) | (simp (implicitDefEqProofs := false) (maxSteps := 1000000) (disch := first | omega | with_reducible assumption | (simp only [List.length_map, List.length_cons, List.length_nil, List.length_set, List.length_append, List.length_replicate, List.length_take, List.length_drop, mk_size, Nat.reduceAdd]; omega)) only [amT, cut, bnd, Nat.reduceBEq, reduceCtorEq, Nat.reduceEqDiff, Nat.reduceAdd, Nat.reduceMul, Nat.reduceSub, Int.reduceToNat, Int.reduceEq, Int.reduceLT, Int.reduceLE, Int.reduceAdd, Int.reduceSub, Int.reduceMul, reduceIte, resVs, resV, packV, initT, addr]; rfl), by first | rfl | (simp (implicitDefEqProofs := false) (maxSteps := 1000000) (disch := first | omega | with_reducible assumption | (simp only [List.length_map, List.length_cons, List.length_nil, List.length_set, List.length_append, List.length_replicate, List.length_take, List.length_drop, mk_size, Nat.reduceAdd]; omega)) only [amT, cut, bnd, Nat.reduceBEq, reduceCtorEq, Nat.reduceEqDiff, Nat.reduceAdd, Nat.reduceMul, Nat.reduceSub, Int.reduceToNat, Int.reduceEq, Int.reduceLT, Int.reduceLE, Int.reduceAdd, Int.reduceSub, Int.reduceMul, reduceIte, resVs, resV, packV, initT, addr]; done) | (simp (implicitDefEqProofs := false) (maxSteps := 1000000) (disch := first | omega | with_reducible assumption | (simp only [List.length_map, List.length_cons, List.length_nil, List.length_set, List.length_append, List.length_replicate, List.length_take, List.length_drop, mk_size, Nat.reduceAdd]; omega)) only [amT, cut, bnd, Nat.reduceBEq, reduceCtorEq, Nat.reduceEqDiff, Nat.reduceAdd, Nat.reduceMul, Nat.reduceSub, Int.reduceToNat, Int.reduceEq, Int.reduceLT, Int.reduceLE, Int.reduceAdd, Int.reduceSub, Int.reduceMul, reduceIte, resVs, resV, packV, initT, addr]; rfl), ?_⟩ ?_
          · omega
          · clear t5 t6 hi hp
            rintro N t m1 ds ⟨i, rfl, hds, hm, t134, t135, t136, hp⟩
            simp only at hds hm t134 t135 t136
            subst hds hm
            by_cases hi : (i : Int) < 14
            · simp (implicitDefEqProofs := false) (maxSteps := 1000000) (disch := first | omega | with_reducible assumption | (simp only [List.length_map, List.length_cons, List.length_nil, List.length_set, List.length_append, List.length_replicate, List.length_take, List.length_drop, mk_size, Nat.reduceAdd]; omega)) only [amT, cut, bnd, Nat.reduceBEq, reduceCtorEq, Nat.reduceEqDiff, Nat.reduceAdd, Nat.reduceMul, Nat.reduceSub, Int.reduceToNat, Int.reduceEq, Int.reduceLT, Int.reduceLE, Int.reduceAdd, Int.reduceSub, Int.reduceMul, reduceIte, resVs, resV, packV, initT, addr, F8_l2, t134, t135, t136, hi, z32, kLawParse, kLawBytes, strs_get, strV_def]
              repeat refine OrW.go ?_
              rw [LoopK_normal]; refine ⟨_, ?_, i + 1, rfl, rfl, by first | rfl | (simp (implicitDefEqProofs := false) (maxSteps := 1000000) (disch := first | omega | with_reducible assumption | (simp only [List.length_map, List.length_cons, List.length_nil, List.length_set, List.length_append, List.length_replicate, List.length_take, List.length_drop, mk_size, Nat.reduceAdd]; omega)) only [amT, cut, bnd, Nat.reduceBEq, reduceCtorEq, Nat.reduceEqDiff, Nat.reduceAdd, Nat.reduceMul, Nat.reduceSub, Int.reduceToNat, Int.reduceEq, Int.reduceLT, Int.reduceLE, Int.reduceAdd, Int.reduceSub, Int.reduceMul, reduceIte, resVs, resV, packV, initT, addr, t134, t135, t136]; done) | (simp (implicitDefEqProofs := false) (maxSteps := 1000000) (disch := first | omega | with_reducible assumption | (simp only [List.length_map, List.length_cons, List.length_nil, List.length_set, List.length_append, List.length_replicate, List.length_take, List.length_drop, mk_size, Nat.reduceAdd]; omega)) only [amT, cut, bnd, Nat.reduceBEq, reduceCtorEq, Nat.reduceEqDiff, Nat.reduceAdd, Nat.reduceMul, Nat.reduceSub, Int.reduceToNat, Int.reduceEq, Int.reduceLT, Int.reduceLE, Int.reduceAdd, Int.reduceSub, Int.reduceMul, reduceIte, resVs, resV, packV, initT, addr, t134, t135, t136]; rfl), by first | rfl | (simp (implicitDefEqProofs := false) (maxSteps := 1000000) (disch := first | omega | with_reducible assumption | (simp only [List.length_map, List.length_cons, List.length_nil, List.length_set, List.length_append, List.length_replicate, List.length_take, List.length_drop, mk_size, Nat.reduceAdd]; omega)) only [amT, cut, bnd, Nat.reduceBEq, reduceCtorEq, Nat.reduceEqDiff, Nat.reduceAdd, Nat.reduceMul, Nat.reduceSub, Int.reduceToNat, Int.reduceEq, Int.reduceLT, Int.reduceLE, Int.reduceAdd, Int.reduceSub, Int.reduceMul, reduceIte, resVs, resV, packV, initT, addr, t134, t135, t136]; done) | (simp (implicitDefEqProofs := false) (maxSteps := 1000000) (disch := first | omega | with_reducible assumption | (simp only [List.length_map, List.length_cons, List.length_nil, List.length_set, List.length_append, List.length_replicate, List.length_take, List.length_drop, mk_size, Nat.reduceAdd]; omega)) only [amT, cut, bnd, Nat.reduceBEq, reduceCtorEq, Nat.reduceEqDiff, Nat.reduceAdd, Nat.reduceMul, Nat.reduceSub, Int.reduceToNat, Int.reduceEq, Int.reduceLT, Int.reduceLE, Int.reduceAdd, Int.reduceSub, Int.reduceMul, reduceIte, resVs, resV, packV, initT, addr, t134, t135, t136]; rfl), by first | rfl | (simp (implicitDefEqProofs := false) (maxSteps := 1000000) (disch := first | omega | with_reducible assumption | (simp only [List.length_map, List.length_cons, List.length_nil, List.length_set, List.length_append, List.length_replicate, List.length_take, List.length_drop, mk_size, Nat.reduceAdd]; omega)) only [amT, cut, bnd, Nat.reduceBEq, reduceCtorEq, Nat.reduceEqDiff, Nat.reduceAdd, Nat.reduceMul, Nat.reduceSub, Int.reduceToNat, Int.reduceEq, Int.reduceLT, Int.reduceLE, Int.reduceAdd, Int.reduceSub, Int.reduceMul, reduceIte, resVs, resV, packV, initT, addr, t134, t135, t136]; done) | (simp (implicitDefEqProofs := false) (maxSteps := 1000000) (disch := first | omega | with_reducible assumption | (simp only [List.length_map, List.length_cons, List.length_nil, List.length_set, List.length_append, List.length_replicate, List.length_take, List.length_drop, mk_size, Nat.reduceAdd]; omega)) only [amT, cut, bnd, Nat.reduceBEq, reduceCtorEq, Nat.reduceEqDiff, Nat.reduceAdd, Nat.reduceMul, Nat.reduceSub, Int.reduceToNat, Int.reduceEq, Int.reduceLT, Int.reduceLE, Int.reduceAdd, Int.reduceSub, Int.reduceMul, reduceIte, resVs, resV, packV, initT, addr, t134, t135, t136]; rfl), by first | rfl | (simp (implicitDefEqProofs := false) (maxSteps := 1000000) (disch := first | omega | with_reducible assumption | (simp only [List.length_map, List.length_cons, List.length_nil, List.length_set, List.length_append, List.length_replicate, List.length_take, List.length_drop, mk_size, Nat.reduceAdd]; omega)) only [amT, cut, bnd, Nat.reduceBEq, reduceCtorEq, Nat.reduceEqDiff, Nat.reduceAdd, Nat.reduceMul, Nat.reduceSub, Int.reduceToNat, Int.reduceEq, Int.reduceLT, Int.reduceLE, Int.reduceAdd, Int.reduceSub, Int.reduceMul, reduceIte, resVs, resV, packV, initT, addr, t134, t135, t136]; done) | (simp (implicitDefEqProofs := false) (maxSteps := 1000000) (disch := first | omega | with_reducible assumption | (simp only [List.length_map, List.length_cons, List.length_nil, List.length_set, List.length_append, List.length_replicate, List.length_take, List.length_drop, mk_size, Nat.reduceAdd]; omega)) only [amT, cut, bnd, Nat.reduceBEq, reduceCtorEq, Nat.reduceEqDiff, Nat.reduceAdd, Nat.reduceMul, Nat.reduceSub, Int.reduceToNat, Int.reduceEq, Int.reduceLT, Int.reduceLE, Int.reduceAdd, Int.reduceSub, Int.reduceMul, reduceIte, resVs, resV, packV, initT, addr, t134, t135, t136]; rfl), ?_⟩
              · omega
              · omega
            · simp (implicitDefEqProofs := false) (maxSteps := 1000000) (disch := first | omega | with_reducible assumption | (simp only [List.length_map, List.length_cons, List.length_nil, List.length_set, List.length_append, List.length_replicate, List.length_take, List.length_drop, mk_size, Nat.reduceAdd]; omega)) only [amT, cut, bnd, Nat.reduceBEq, reduceCtorEq, Nat.reduceEqDiff, Nat.reduceAdd, Nat.reduceMul, Nat.reduceSub, Int.reduceToNat, Int.reduceEq, Int.reduceLT, Int.reduceLE, Int.reduceAdd, Int.reduceSub, Int.reduceMul, reduceIte, resVs, resV, packV, initT, addr, F8_l2, t134, t135, t136, hi, kWorks, old_mx' hM]
end Go.Proofs.Ytidngakhkpodgaa
