/- The reference: the letters that stand in bytes. -/
import Derived.Test.YtighienjnhglnaaB1
import Derived.Test.YtighienjnhglnaaA4
set_option linter.unusedVariables false
set_option linter.unusedSimpArgs false
set_option linter.unnecessarySimpa false
namespace Go.Proofs.Ytighienjnhglnaa.N
open Go Go.AM
set_option maxRecDepth 100000
set_option linter.unusedVariables false
set_option linter.unusedSimpArgs false

theorem outP_set {l : List UInt8} {p : Nat} (hp : p < 160) (h : (valL l).testBit (159 - p) = true) :
    splice ((outP l p).map byteV) (p / 8) [.int .u8 ((bitAt l p (p / 8) ||| 2 ^ (7 - p % 8) : Nat) : Int)] = (outP l (p + 1)).map byteV := by
  have hlen : (outP l p).length = 20 := outP_length l p
  have hpj : p / 8 < 20 := by omega
  apply List.ext_getElem
  · rw [splice_length (by simp [hlen]; omega)]; simp [outP]
  · intro i h1 h2
    have hi : i < 20 := by simpa [outP] using h2
    have hon := bitAt_on hp hi h
    rw [List.getElem_map]
    simp only [byteV]
    rw [outP_toNat l (p + 1) hi, hon]
    by_cases hin : i = p / 8
    · subst hin
      have := splice_in (c := (outP l p).map byteV) (o := p / 8) (v := [.int .u8 ((bitAt l p (p / 8) ||| 2 ^ (7 - p % 8) : Nat) : Int)]) (by simp [hlen]; omega) 0 (by simp) (by simpa using h1)
      simp only [Nat.add_zero] at this
      rw [this]
      simp
    · rw [splice_out (by simp [hlen]; omega) i (by simp; omega) (by simp [hlen]; omega) h1, if_neg hin, List.getElem_map]
      simp only [byteV]
      rw [outP_toNat l p hi]

theorem shl_one_u8 {q : Nat} (hq : q ≤ 7) : shl .u8 1 (q : Int) = ((2 ^ q : Nat) : Int) := by
  have : ∀ q : Fin 8, shl .u8 1 ((q.val : Nat) : Int) = ((2 ^ q.val : Nat) : Int) := by decide
  exact this ⟨q, by omega⟩

theorem refBytes_ok (m : AMem) (l : List UInt8) :
    ACall Try.prog 1 19 [.string ⟨l.toArray⟩] m fun r m' => r = .ret (.tuple #[.agg ((bytesR l).1.map byteV).toArray, .bool (bytesR l).2]) ∧ m' = m := by
  refine ACall.forget (Q := fun r m' => r = .ret (.tuple #[.agg ((bytesR l).1.map byteV).toArray, .bool (bytesR l).2]) ∧ ∀ x, x < m.size → m'.get x = m.get x) ?_ ?_
  · refine ACall_of_W (fn := Try.f19) rfl rfl F19_ok (by simp [F19]) ?_
    have hlenN : ∀ n, ((outTo l n).map byteV).length = 20 := fun n => by simp [outTo]
    have hlenP : ∀ n, ((outP l n).map byteV).length = 20 := fun n => by simp [outP]
    have ret : ∀ (M : AMem) (c k : List UInt8), c.length = 20 → k.length = 20 → M.get m.size = .cells ((outTo l 0).map byteV) 51 true .exact → M.get (m.size + 1) = .cells (c.map byteV) 51 true .exact →
        rd M (m.size + 1) 0 20 = some (c.map byteV) ∧ wr M m.size 0 (k.map byteV) = some (M.set m.size (.cells (k.map byteV) 51 true .exact)) ∧
        rd (M.set m.size (.cells (k.map byteV) 51 true .exact)) m.size 0 20 = some (k.map byteV) := fun M c k hc hk h1 h2 =>
      ⟨rd_all h2 (by simp [hc]), wr_all h1 (by rw [hlenN]; simp [hk]), rd_all (AMem.get_set_self _ _ _) (by simp [hk])⟩
    simp (implicitDefEqProofs := false) (disch := omega) only [amS, Nat.reduceBEq, reduceCtorEq, Nat.reduceEqDiff, Nat.reduceAdd, Nat.reduceMul, Nat.reduceSub, Int.reduceToNat, Int.reduceEq, Int.reduceLT, Int.reduceLE, Int.reduceAdd, Int.reduceSub, Int.reduceMul, reduceIte, resVs, resV, packV, initT, addr, F19, z20 l]
    have g1 : ((m.push (.cells ((outTo l 0).map byteV) 51 true .exact)).push (.cells ((outTo l 0).map byteV) 51 true .exact)).get m.size = .cells ((outTo l 0).map byteV) 51 true .exact := by simp (implicitDefEqProofs := false) (disch := omega) only [amS, Nat.reduceBEq, reduceCtorEq, Nat.reduceEqDiff, Nat.reduceAdd, Nat.reduceMul, Nat.reduceSub, Int.reduceToNat, Int.reduceEq, Int.reduceLT, Int.reduceLE, Int.reduceAdd, Int.reduceSub, Int.reduceMul, reduceIte, resVs, resV, packV, initT, addr]
    have g2 : ((m.push (.cells ((outTo l 0).map byteV) 51 true .exact)).push (.cells ((outTo l 0).map byteV) 51 true .exact)).get (m.size + 1) = .cells ((outTo l 0).map byteV) 51 true .exact := by simp (implicitDefEqProofs := false) (disch := omega) only [amS, Nat.reduceBEq, reduceCtorEq, Nat.reduceEqDiff, Nat.reduceAdd, Nat.reduceMul, Nat.reduceSub, Int.reduceToNat, Int.reduceEq, Int.reduceLT, Int.reduceLE, Int.reduceAdd, Int.reduceSub, Int.reduceMul, reduceIte, resVs, resV, packV, initT, addr]
    have g3 : ∀ x, x < m.size → ((m.push (.cells ((outTo l 0).map byteV) 51 true .exact)).push (.cells ((outTo l 0).map byteV) 51 true .exact)).get x = m.get x := fun x hx => by simp (implicitDefEqProofs := false) (disch := omega) only [amS, Nat.reduceBEq, reduceCtorEq, Nat.reduceEqDiff, Nat.reduceAdd, Nat.reduceMul, Nat.reduceSub, Int.reduceToNat, Int.reduceEq, Int.reduceLT, Int.reduceLE, Int.reduceAdd, Int.reduceSub, Int.reduceMul, reduceIte, resVs, resV, packV, initT, addr]
    generalize (m.push (.cells ((outTo l 0).map byteV) 51 true .exact)).push (.cells ((outTo l 0).map byteV) 51 true .exact) = M at *
    obtain ⟨r1, w1, r2⟩ := ret M _ _ (outTo_length l 0) (outTo_length l 0) g1 g2
    have hfail : ∀ (M : AMem) (k : List UInt8), (∀ x, x < m.size → M.get x = m.get x) → (∀ x, x < m.size → (M.set m.size (.cells (k.map byteV) 51 true .exact)).get x = m.get x) := fun M k h x hx => by
      rw [AMem.get_set_ne _ _ (by omega)]; exact h x hx
    refine BoolW_of (fun hne => ?_) (fun hne => ?_)
    · have hne' : ¬ l.length = 32 := by rw [str_size] at hne; simp at hne; omega
      simp (implicitDefEqProofs := false) (disch := omega) only [amS, Nat.reduceBEq, reduceCtorEq, Nat.reduceEqDiff, Nat.reduceAdd, Nat.reduceMul, Nat.reduceSub, Int.reduceToNat, Int.reduceEq, Int.reduceLT, Int.reduceLE, Int.reduceAdd, Int.reduceSub, Int.reduceMul, reduceIte, resVs, resV, packV, initT, addr, r1, w1, r2, hlenN]
      exact ⟨by simp [bytesR, hne'], hfail M _ g3⟩
    · have hl : l.length = 32 := by rw [str_size] at hne; simp at hne; omega
      refine W_loop (fun N s => ∃ i : Nat, i ≤ 32 ∧ N = 32 - i ∧ (∀ j (hj : j < 32), j < i → 0 ≤ valZ l[j]) ∧ s.ds = [] ∧ s.t 0 = .string ⟨l.toArray⟩ ∧ s.t 2 = .pointer (some ⟨m.size, 0, none⟩) ∧
        s.t 4 = .pointer (some ⟨m.size + 1, 0, none⟩) ∧ s.t 5 = .int .i64 i ∧
        s.m.get m.size = .cells ((outTo l 0).map byteV) 51 true .exact ∧ s.m.get (m.size + 1) = .cells ((outP l (5 * i)).map byteV) 51 true .exact ∧ ∀ x, x < m.size → s.m.get x = m.get x) 32
        ⟨0, by omega, by omega, fun j hj hji => by omega, rfl, by simp (implicitDefEqProofs := false) (disch := omega) only [amS, Nat.reduceBEq, reduceCtorEq, Nat.reduceEqDiff, Nat.reduceAdd, Nat.reduceMul, Nat.reduceSub, Int.reduceToNat, Int.reduceEq, Int.reduceLT, Int.reduceLE, Int.reduceAdd, Int.reduceSub, Int.reduceMul, reduceIte, resVs, resV, packV, initT, addr], by simp (implicitDefEqProofs := false) (disch := omega) only [amS, Nat.reduceBEq, reduceCtorEq, Nat.reduceEqDiff, Nat.reduceAdd, Nat.reduceMul, Nat.reduceSub, Int.reduceToNat, Int.reduceEq, Int.reduceLT, Int.reduceLE, Int.reduceAdd, Int.reduceSub, Int.reduceMul, reduceIte, resVs, resV, packV, initT, addr], by simp (implicitDefEqProofs := false) (disch := omega) only [amS, Nat.reduceBEq, reduceCtorEq, Nat.reduceEqDiff, Nat.reduceAdd, Nat.reduceMul, Nat.reduceSub, Int.reduceToNat, Int.reduceEq, Int.reduceLT, Int.reduceLE, Int.reduceAdd, Int.reduceSub, Int.reduceMul, reduceIte, resVs, resV, packV, initT, addr], by simp (implicitDefEqProofs := false) (disch := omega) only [amS, Nat.reduceBEq, reduceCtorEq, Nat.reduceEqDiff, Nat.reduceAdd, Nat.reduceMul, Nat.reduceSub, Int.reduceToNat, Int.reduceEq, Int.reduceLT, Int.reduceLE, Int.reduceAdd, Int.reduceSub, Int.reduceMul, reduceIte, resVs, resV, packV, initT, addr]; rfl, g1, by rw [outP_zero hl]; exact g2, g3⟩ ?_
      clear g1 g2 g3 r1 r2 w1
      rintro N t M1 ds ⟨i, hi, rfl, hval, rfl, t0, t2, t4, t5, g1, g2, g3⟩
      simp only at t0 t2 t4 t5 g1 g2 g3
      simp (implicitDefEqProofs := false) (disch := omega) only [amS, Nat.reduceBEq, reduceCtorEq, Nat.reduceEqDiff, Nat.reduceAdd, Nat.reduceMul, Nat.reduceSub, Int.reduceToNat, Int.reduceEq, Int.reduceLT, Int.reduceLE, Int.reduceAdd, Int.reduceSub, Int.reduceMul, reduceIte, resVs, resV, packV, initT, addr, F19_l0, t0, t2, t4, t5]
      refine BoolW_dec (fun hlt => ?_) (fun hlt => ?_)
      · have hi32 : i < 32 := by omega
        have hs := str_get l (i := i) (by omega)
        simp (implicitDefEqProofs := false) (disch := omega) only [amS, Nat.reduceBEq, reduceCtorEq, Nat.reduceEqDiff, Nat.reduceAdd, Nat.reduceMul, Nat.reduceSub, Int.reduceToNat, Int.reduceEq, Int.reduceLT, Int.reduceLE, Int.reduceAdd, Int.reduceSub, Int.reduceMul, reduceIte, resVs, resV, packV, initT, addr, hs, t0, t2, t4, t5]
        refine (value_ok M1 (l[i]'(by omega))).mono ?_
        rintro r m' ⟨rfl, rfl⟩
        have hv1 := valZ_lt (l[i]'(by omega))
        simp (implicitDefEqProofs := false) (disch := omega) only [amS, Nat.reduceBEq, reduceCtorEq, Nat.reduceEqDiff, Nat.reduceAdd, Nat.reduceMul, Nat.reduceSub, Int.reduceToNat, Int.reduceEq, Int.reduceLT, Int.reduceLE, Int.reduceAdd, Int.reduceSub, Int.reduceMul, reduceIte, resVs, resV, packV, initT, addr, t0, t2, t4, t5, z20 l]
        refine BoolW_dec (fun hv => ?_) (fun hv => ?_)
        · obtain ⟨r1, w1, r2⟩ := ret m' _ _ (outP_length l (5 * i)) (outTo_length l 0) g1 g2
          have hb : bytesR l = (outTo l 0, false) := by
            unfold bytesR
            rw [if_neg]
            rintro ⟨_, hall⟩
            have := hall (l[i]'(by omega)) (List.getElem_mem _)
            omega
          simp (implicitDefEqProofs := false) (disch := omega) only [amS, Nat.reduceBEq, reduceCtorEq, Nat.reduceEqDiff, Nat.reduceAdd, Nat.reduceMul, Nat.reduceSub, Int.reduceToNat, Int.reduceEq, Int.reduceLT, Int.reduceLE, Int.reduceAdd, Int.reduceSub, Int.reduceMul, reduceIte, resVs, resV, packV, initT, addr, stepOp_bld, fill, w1, r2, hlenN, t2, hb, List.map_nil]
          exact hfail m' _ g3
        · obtain ⟨v, hvv⟩ : ∃ v : Nat, valZ (l[i]'(by omega)) = v := ⟨(valZ (l[i]'(by omega))).toNat, by omega⟩
          have hval' : ∀ j (hj : j < 32), j < i + 1 → 0 ≤ valZ l[j] := fun j hj hji => by
            by_cases hje : j = i
            · subst hje; omega
            · exact hval j hj (by omega)
          rw [hvv]
          refine W_loop (fun N s => ∃ k : Nat, k ≤ 5 ∧ N = 5 - k ∧ s.ds = [] ∧ s.t 0 = .string ⟨l.toArray⟩ ∧ s.t 2 = .pointer (some ⟨m.size, 0, none⟩) ∧
            s.t 4 = .pointer (some ⟨m.size + 1, 0, none⟩) ∧ s.t 5 = .int .i64 i ∧ s.t 6 = .int .i64 v ∧ s.t 7 = .int .i64 k ∧
            s.m.get m.size = .cells ((outTo l 0).map byteV) 51 true .exact ∧ s.m.get (m.size + 1) = .cells ((outP l (5 * i + k)).map byteV) 51 true .exact ∧ ∀ x, x < m.size → s.m.get x = m.get x) 5
            ⟨0, by omega, by omega, rfl, by simp (implicitDefEqProofs := false) (disch := omega) only [amS, Nat.reduceBEq, reduceCtorEq, Nat.reduceEqDiff, Nat.reduceAdd, Nat.reduceMul, Nat.reduceSub, Int.reduceToNat, Int.reduceEq, Int.reduceLT, Int.reduceLE, Int.reduceAdd, Int.reduceSub, Int.reduceMul, reduceIte, resVs, resV, packV, initT, addr, t0], by simp (implicitDefEqProofs := false) (disch := omega) only [amS, Nat.reduceBEq, reduceCtorEq, Nat.reduceEqDiff, Nat.reduceAdd, Nat.reduceMul, Nat.reduceSub, Int.reduceToNat, Int.reduceEq, Int.reduceLT, Int.reduceLE, Int.reduceAdd, Int.reduceSub, Int.reduceMul, reduceIte, resVs, resV, packV, initT, addr, t2], by simp (implicitDefEqProofs := false) (disch := omega) only [amS, Nat.reduceBEq, reduceCtorEq, Nat.reduceEqDiff, Nat.reduceAdd, Nat.reduceMul, Nat.reduceSub, Int.reduceToNat, Int.reduceEq, Int.reduceLT, Int.reduceLE, Int.reduceAdd, Int.reduceSub, Int.reduceMul, reduceIte, resVs, resV, packV, initT, addr, t4], by simp (implicitDefEqProofs := false) (disch := omega) only [amS, Nat.reduceBEq, reduceCtorEq, Nat.reduceEqDiff, Nat.reduceAdd, Nat.reduceMul, Nat.reduceSub, Int.reduceToNat, Int.reduceEq, Int.reduceLT, Int.reduceLE, Int.reduceAdd, Int.reduceSub, Int.reduceMul, reduceIte, resVs, resV, packV, initT, addr, t5], by simp (implicitDefEqProofs := false) (disch := omega) only [amS, Nat.reduceBEq, reduceCtorEq, Nat.reduceEqDiff, Nat.reduceAdd, Nat.reduceMul, Nat.reduceSub, Int.reduceToNat, Int.reduceEq, Int.reduceLT, Int.reduceLE, Int.reduceAdd, Int.reduceSub, Int.reduceMul, reduceIte, resVs, resV, packV, initT, addr], by simp (implicitDefEqProofs := false) (disch := omega) only [amS, Nat.reduceBEq, reduceCtorEq, Nat.reduceEqDiff, Nat.reduceAdd, Nat.reduceMul, Nat.reduceSub, Int.reduceToNat, Int.reduceEq, Int.reduceLT, Int.reduceLE, Int.reduceAdd, Int.reduceSub, Int.reduceMul, reduceIte, resVs, resV, packV, initT, addr]; rfl, g1, g2, g3⟩ ?_
          clear g1 g2 g3 t0 t2 t4 t5
          rintro N t M1 ds ⟨k, hk, rfl, rfl, t0, t2, t4, t5, t6, t7, g1, g2, g3⟩
          simp only at t0 t2 t4 t5 t6 t7 g1 g2 g3
          simp (implicitDefEqProofs := false) (disch := omega) only [amS, Nat.reduceBEq, reduceCtorEq, Nat.reduceEqDiff, Nat.reduceAdd, Nat.reduceMul, Nat.reduceSub, Int.reduceToNat, Int.reduceEq, Int.reduceLT, Int.reduceLE, Int.reduceAdd, Int.reduceSub, Int.reduceMul, reduceIte, resVs, resV, packV, initT, addr, F19_l1, t0, t2, t4, t5, t6, t7]
          refine BoolW_dec (fun h5 => ?_) (fun h5 => ?_)
          · have hk5 : k < 5 := by omega
            have hbit := valZ_bit hl hi32 hk5 hvv
            have hv32 : v < 32 := by omega
            have hp : 5 * i + k < 160 := by omega
            have e0 : (5 * (i : Int) + (k : Int)) = ((5 * i + k : Nat) : Int) := by omega
            have e1 : (4 : Int) - (k : Int) = ((4 - k : Nat) : Int) := by omega
            have e2 : shr .i64 (v : Int) ((4 - k : Nat) : Int) = ((v >>> (4 - k) : Nat) : Int) := shr_nat .i64 _ _ (by simp [IntKind.bits]; omega)
            have hle := Nat.shiftRight_le v (4 - k)
            have e3 : ibits .and .i64 ((v >>> (4 - k) : Nat) : Int) 1 = ((v >>> (4 - k) &&& 1 : Nat) : Int) := by
              generalize v >>> (4 - k) = y at *
              exact ibits_and_nat (k := .i64) (b := 1) (by rw [max_i64]; omega) (by decide)
            rw [hbit] at e3
            cases hT : (valL l).testBit (159 - (5 * i + k)) with
            | false =>
              rw [hT, if_neg (by simp)] at e3
              have e3' : ibits .and .i64 ((v >>> (4 - k) : Nat) : Int) 1 = (0 : Int) := e3
              simp (implicitDefEqProofs := false) (disch := omega) only [amS, Nat.reduceBEq, reduceCtorEq, Nat.reduceEqDiff, Nat.reduceAdd, Nat.reduceMul, Nat.reduceSub, Int.reduceToNat, Int.reduceEq, Int.reduceLT, Int.reduceLE, Int.reduceAdd, Int.reduceSub, Int.reduceMul, reduceIte, resVs, resV, packV, initT, addr, e0, e1, e2, e3', t0, t2, t4, t5, t6, t7]
              refine ⟨5 - (k + 1), by omega, k + 1, by omega, rfl, rfl, by simp (implicitDefEqProofs := false) (disch := omega) only [amS, Nat.reduceBEq, reduceCtorEq, Nat.reduceEqDiff, Nat.reduceAdd, Nat.reduceMul, Nat.reduceSub, Int.reduceToNat, Int.reduceEq, Int.reduceLT, Int.reduceLE, Int.reduceAdd, Int.reduceSub, Int.reduceMul, reduceIte, resVs, resV, packV, initT, addr, t0], by simp (implicitDefEqProofs := false) (disch := omega) only [amS, Nat.reduceBEq, reduceCtorEq, Nat.reduceEqDiff, Nat.reduceAdd, Nat.reduceMul, Nat.reduceSub, Int.reduceToNat, Int.reduceEq, Int.reduceLT, Int.reduceLE, Int.reduceAdd, Int.reduceSub, Int.reduceMul, reduceIte, resVs, resV, packV, initT, addr, t2], by simp (implicitDefEqProofs := false) (disch := omega) only [amS, Nat.reduceBEq, reduceCtorEq, Nat.reduceEqDiff, Nat.reduceAdd, Nat.reduceMul, Nat.reduceSub, Int.reduceToNat, Int.reduceEq, Int.reduceLT, Int.reduceLE, Int.reduceAdd, Int.reduceSub, Int.reduceMul, reduceIte, resVs, resV, packV, initT, addr, t4], by simp (implicitDefEqProofs := false) (disch := omega) only [amS, Nat.reduceBEq, reduceCtorEq, Nat.reduceEqDiff, Nat.reduceAdd, Nat.reduceMul, Nat.reduceSub, Int.reduceToNat, Int.reduceEq, Int.reduceLT, Int.reduceLE, Int.reduceAdd, Int.reduceSub, Int.reduceMul, reduceIte, resVs, resV, packV, initT, addr, t5], by simp (implicitDefEqProofs := false) (disch := omega) only [amS, Nat.reduceBEq, reduceCtorEq, Nat.reduceEqDiff, Nat.reduceAdd, Nat.reduceMul, Nat.reduceSub, Int.reduceToNat, Int.reduceEq, Int.reduceLT, Int.reduceLE, Int.reduceAdd, Int.reduceSub, Int.reduceMul, reduceIte, resVs, resV, packV, initT, addr, t6], by simp (implicitDefEqProofs := false) (disch := omega) only [amS, Nat.reduceBEq, reduceCtorEq, Nat.reduceEqDiff, Nat.reduceAdd, Nat.reduceMul, Nat.reduceSub, Int.reduceToNat, Int.reduceEq, Int.reduceLT, Int.reduceLE, Int.reduceAdd, Int.reduceSub, Int.reduceMul, reduceIte, resVs, resV, packV, initT, addr]; rfl, g1, ?_, g3⟩
              rw [← Nat.add_assoc, outP_off hp hT]; exact g2
            | true =>
              rw [hT, if_pos rfl] at e3
              have e3' : ibits .and .i64 ((v >>> (4 - k) : Nat) : Int) 1 = (1 : Int) := e3
              have hset := outP_set hp hT
              generalize hpp : 5 * i + k = p at *
              have hp8 : p / 8 < 20 := by omega
              have e4 : (p : Int).tdiv 8 = ((p / 8 : Nat) : Int) := tdiv_nat p 8
              have e5 : (p : Int).tmod 8 = ((p % 8 : Nat) : Int) := tmod_nat p 8
              have e6 : (7 : Int) - ((p % 8 : Nat) : Int) = ((7 - p % 8 : Nat) : Int) := by omega
              have e7 := shl_one_u8 (q := 7 - p % 8) (by omega)
              have hba := bitAt_lt l p (p / 8)
              have hpw : 2 ^ (7 - p % 8) ≤ 2 ^ 7 := Nat.pow_le_pow_right (by omega) (by omega)
              have e8 : ibits .or .u8 (bitAt l p (p / 8) : Int) ((2 ^ (7 - p % 8) : Nat) : Int) = ((bitAt l p (p / 8) ||| 2 ^ (7 - p % 8) : Nat) : Int) :=
                ibits_or_nat (by rw [max_u8]; omega) (by rw [max_u8]; omega)
              have hg : rd M1 (m.size + 1) (p / 8) 1 = some [.int .u8 (bitAt l p (p / 8) : Nat)] := by
                rw [rd_one' g2]
                have h1 : ((outP l p).map byteV)[p / 8]? = some (byteV ((outP l p)[p / 8]'(by rw [outP_length]; omega))) := by
                  rw [List.getElem?_map, List.getElem?_eq_getElem (by rw [outP_length]; omega)]; rfl
                rw [h1]
                simp only [byteV, Option.map_some]
                rw [outP_toNat l p hp8]
              have w2 : wr M1 (m.size + 1) (p / 8) [.int .u8 ((bitAt l p (p / 8) ||| 2 ^ (7 - p % 8) : Nat) : Int)] = some (M1.set (m.size + 1) (.cells ((outP l (p + 1)).map byteV) 51 true .exact)) := by
                rw [← hset]; exact wr_at g2 (by rw [hlenP]; simp; omega)
              simp (implicitDefEqProofs := false) (disch := omega) only [amS, Nat.reduceBEq, reduceCtorEq, Nat.reduceEqDiff, Nat.reduceAdd, Nat.reduceMul, Nat.reduceSub, Int.reduceToNat, Int.reduceEq, Int.reduceLT, Int.reduceLE, Int.reduceAdd, Int.reduceSub, Int.reduceMul, reduceIte, resVs, resV, packV, initT, addr, e0, e1, e2, e3', e4, e5, e6, e7, e8, hg, w2, t0, t2, t4, t5, t6, t7, List.length_cons, List.length_nil]
              refine ⟨5 - (k + 1), by omega, k + 1, by omega, rfl, rfl, by simp (implicitDefEqProofs := false) (disch := omega) only [amS, Nat.reduceBEq, reduceCtorEq, Nat.reduceEqDiff, Nat.reduceAdd, Nat.reduceMul, Nat.reduceSub, Int.reduceToNat, Int.reduceEq, Int.reduceLT, Int.reduceLE, Int.reduceAdd, Int.reduceSub, Int.reduceMul, reduceIte, resVs, resV, packV, initT, addr, t0], by simp (implicitDefEqProofs := false) (disch := omega) only [amS, Nat.reduceBEq, reduceCtorEq, Nat.reduceEqDiff, Nat.reduceAdd, Nat.reduceMul, Nat.reduceSub, Int.reduceToNat, Int.reduceEq, Int.reduceLT, Int.reduceLE, Int.reduceAdd, Int.reduceSub, Int.reduceMul, reduceIte, resVs, resV, packV, initT, addr, t2], by simp (implicitDefEqProofs := false) (disch := omega) only [amS, Nat.reduceBEq, reduceCtorEq, Nat.reduceEqDiff, Nat.reduceAdd, Nat.reduceMul, Nat.reduceSub, Int.reduceToNat, Int.reduceEq, Int.reduceLT, Int.reduceLE, Int.reduceAdd, Int.reduceSub, Int.reduceMul, reduceIte, resVs, resV, packV, initT, addr, t4], by simp (implicitDefEqProofs := false) (disch := omega) only [amS, Nat.reduceBEq, reduceCtorEq, Nat.reduceEqDiff, Nat.reduceAdd, Nat.reduceMul, Nat.reduceSub, Int.reduceToNat, Int.reduceEq, Int.reduceLT, Int.reduceLE, Int.reduceAdd, Int.reduceSub, Int.reduceMul, reduceIte, resVs, resV, packV, initT, addr, t5], by simp (implicitDefEqProofs := false) (disch := omega) only [amS, Nat.reduceBEq, reduceCtorEq, Nat.reduceEqDiff, Nat.reduceAdd, Nat.reduceMul, Nat.reduceSub, Int.reduceToNat, Int.reduceEq, Int.reduceLT, Int.reduceLE, Int.reduceAdd, Int.reduceSub, Int.reduceMul, reduceIte, resVs, resV, packV, initT, addr, t6], by simp (implicitDefEqProofs := false) (disch := omega) only [amS, Nat.reduceBEq, reduceCtorEq, Nat.reduceEqDiff, Nat.reduceAdd, Nat.reduceMul, Nat.reduceSub, Int.reduceToNat, Int.reduceEq, Int.reduceLT, Int.reduceLE, Int.reduceAdd, Int.reduceSub, Int.reduceMul, reduceIte, resVs, resV, packV, initT, addr]; rfl, ?_, ?_, fun x hx => ?_⟩
              · rw [AMem.get_set_ne _ _ (by omega)]; exact g1
              · rw [show 5 * i + (k + 1) = p + 1 by omega]; exact AMem.get_set_self _ _ _
              · rw [AMem.get_set_ne _ _ (by omega)]; exact g3 x hx
          · have hk5 : k = 5 := by omega
            subst hk5
            refine ⟨32 - (i + 1), by omega, i + 1, by omega, rfl, hval', rfl, by simp (implicitDefEqProofs := false) (disch := omega) only [amS, Nat.reduceBEq, reduceCtorEq, Nat.reduceEqDiff, Nat.reduceAdd, Nat.reduceMul, Nat.reduceSub, Int.reduceToNat, Int.reduceEq, Int.reduceLT, Int.reduceLE, Int.reduceAdd, Int.reduceSub, Int.reduceMul, reduceIte, resVs, resV, packV, initT, addr, t0], by simp (implicitDefEqProofs := false) (disch := omega) only [amS, Nat.reduceBEq, reduceCtorEq, Nat.reduceEqDiff, Nat.reduceAdd, Nat.reduceMul, Nat.reduceSub, Int.reduceToNat, Int.reduceEq, Int.reduceLT, Int.reduceLE, Int.reduceAdd, Int.reduceSub, Int.reduceMul, reduceIte, resVs, resV, packV, initT, addr, t2], by simp (implicitDefEqProofs := false) (disch := omega) only [amS, Nat.reduceBEq, reduceCtorEq, Nat.reduceEqDiff, Nat.reduceAdd, Nat.reduceMul, Nat.reduceSub, Int.reduceToNat, Int.reduceEq, Int.reduceLT, Int.reduceLE, Int.reduceAdd, Int.reduceSub, Int.reduceMul, reduceIte, resVs, resV, packV, initT, addr, t4], by simp (implicitDefEqProofs := false) (disch := omega) only [amS, Nat.reduceBEq, reduceCtorEq, Nat.reduceEqDiff, Nat.reduceAdd, Nat.reduceMul, Nat.reduceSub, Int.reduceToNat, Int.reduceEq, Int.reduceLT, Int.reduceLE, Int.reduceAdd, Int.reduceSub, Int.reduceMul, reduceIte, resVs, resV, packV, initT, addr]; rfl, g1, by rw [show 5 * (i + 1) = 5 * i + 5 by omega]; exact g2, g3⟩
      · have hi : i = 32 := by omega
        subst hi
        obtain ⟨r1, w1, r2⟩ := ret M1 _ _ (outP_length l (5 * 32)) (outTo_length l 20) g1 g2
        have hb : bytesR l = (outTo l 20, true) := by
          unfold bytesR
          rw [if_pos]
          refine ⟨hl, fun c hc => ?_⟩
          obtain ⟨j, hj, rfl⟩ := List.getElem_of_mem hc
          exact hval j (by omega) (by omega)
        rw [show 5 * 32 = 160 from rfl, outP_all] at r1
        simp (implicitDefEqProofs := false) (disch := omega) only [amS, Nat.reduceBEq, reduceCtorEq, Nat.reduceEqDiff, Nat.reduceAdd, Nat.reduceMul, Nat.reduceSub, Int.reduceToNat, Int.reduceEq, Int.reduceLT, Int.reduceLE, Int.reduceAdd, Int.reduceSub, Int.reduceMul, reduceIte, resVs, resV, packV, initT, addr, r1, w1, r2, hlenN, hb, t2, t4]
        intro x hx
        rw [if_neg (by omega)]; exact g3 x hx
  · rintro r m' ⟨rfl, h⟩
    refine ⟨⟨_, rfl, Plain.tuple ?_⟩, h, rfl, rfl⟩
    intro v hv
    simp at hv
    rcases hv with rfl | rfl
    · exact plain_bytes _
    · exact .bool _
end Go.Proofs.Ytighienjnhglnaa.N
namespace Go.AM
theorem BSl.sub {m : AMem} {a : Option Addr} {cap : Nat} {c : List UInt8} (h : BSl m a cap c) (hcl : c.length < openCap) {i j : Nat} (hij : i ≤ j) (hj : j ≤ c.length) :
    ∃ a' c', slVv 1 (.slice a c.length cap) (some (.int .i64 (i : Int))) (some (.int .i64 (j : Int))) none m = some (.slice a' (j - i) c', m) ∧ BSl m a' c' ((c.drop i).take (j - i)) := by
  have hc : ∀ len cap : Nat, j ≤ cap → cutV len cap (some (.int .i64 (i : Int))) (some (.int .i64 (j : Int))) none = some (i, j, cap) := fun len cap h2 => by
    simp only [cutV]; rw [if_pos (by omega)]; simp
  have cutL_part : ∀ {X : List Value} {o : Nat} {c : List UInt8} (h : cutL X o c.length = some (c.map byteV)) {i n : Nat} (hn : i + n ≤ c.length), cutL X (o + i) ((c.drop i).take n).length = some (((c.drop i).take n).map byteV) := fun {X o c} h {i n} hn => by
    have h1 := cutL_drop h (k := i) (by omega)
    have h2 := cutL_take h1 (k := n) (by omega)
    rw [List.length_take, List.length_drop, Nat.min_eq_left (by omega), h2, List.map_take, List.map_drop]
  rcases h with ⟨rfl, rfl, rfl⟩ | ⟨x, o, X, e, w, sp, rfl, h2, h3, h4, h5⟩
  · obtain rfl : j = 0 := by simpa using hj
    obtain rfl : i = 0 := by omega
    refine ⟨none, 0, ?_, .inl ⟨rfl, rfl, by simp⟩⟩
    simp only [slVv]
    rw [if_neg (Nat.ne_of_lt zeroCap_lt), hc _ _ (by simp)]
  · have hle := cutL_le h4
    have hp := cutL_part h4 (i := i) (n := j - i) (by omega)
    rcases h5 with ⟨rfl, hs⟩ | ⟨hlt, hle2⟩
    · refine ⟨some ⟨x, o + i, none⟩, openCap, ?_, .inr ⟨x, o + i, X, e, w, sp, rfl, h2, h3, hp, .inl ⟨rfl, hs⟩⟩⟩
      simp only [slVv, if_true, h3]
      rw [if_pos ⟨hs, by simp; omega⟩, hc _ _ (by simp; omega)]
      simp
    · by_cases hci : cap = i
      · refine ⟨some ⟨x, o, none⟩, cap - i, ?_, .inr ⟨x, o, X, e, w, sp, rfl, h2, h3, ?_, .inr ⟨by omega, by rw [List.length_take]; omega⟩⟩⟩
        · simp only [slVv]
          rw [if_neg (Nat.ne_of_lt hlt), hc _ _ (by omega)]
          simp [hci]
        · have : j - i = 0 := by omega
          rw [this, List.take_zero]; exact cutL_zero (by omega)
      · refine ⟨some ⟨x, o + i, none⟩, cap - i, ?_, .inr ⟨x, o + i, X, e, w, sp, rfl, h2, h3, hp, .inr ⟨by omega, by rw [List.length_take]; omega⟩⟩⟩
        simp only [slVv]
        rw [if_neg (Nat.ne_of_lt hlt), hc _ _ (by omega)]
        simp [hci]
end Go.AM
namespace Go.Proofs.Ytighienjnhglnaa
open Go Go.AM
set_option linter.unusedVariables false
set_option linter.unusedSimpArgs false
set_option maxHeartbeats 2000000
set_option maxRecDepth 100000

theorem ok_val (c : UInt8) : okL c = true ↔ 0 ≤ N.valZ c := by
  unfold okL N.valZ
  by_cases h : c ∈ N.alpha
  · simp [h]
  · simp [h]
theorem bytes_win {w : List UInt8} (hw : w.length = 32) : (N.bytesR w).2 = w.all okL := by
  unfold N.bytesR
  by_cases h : w.all okL = true
  · rw [h, if_pos ⟨hw, fun c hc => (ok_val c).1 (List.all_eq_true.1 h c hc)⟩]
  · rw [if_neg (fun h' => h (List.all_eq_true.2 fun c hc => (ok_val c).2 (h'.2 c hc)))]
    simpa using h
theorem bytes_len (w : List UInt8) : (N.bytesR w).1.length = 20 := by
  unfold N.bytesR
  split <;> simp [N.outTo]
theorem mem_take_succ {l : List (List UInt8)} {s : List UInt8} {i : Nat} (hi : i < l.length) (h : s ∉ l.take i) (hne : l[i] ≠ s) : s ∉ l.take (i + 1) := by
  rw [List.take_succ_eq_append_getElem hi, List.mem_append, List.mem_singleton]
  rintro (h' | h')
  · exact h h'
  · exact hne h'.symm
theorem refHas_ok (m : AMem) (a : Option Addr) (c : Nat) (l : List (List UInt8)) (s : List UInt8) (h : StrR m a l) (hl : l.length ≤ 9223372036854775807) :
    PureC Try.prog 1 20 [.slice a l.length c, .string ⟨s.toArray⟩] m (.bool (decide (s ∈ l))) := by
  refine pure_of_W (fn := Try.f20) rfl rfl F20_ok (by simp [F20]) (.bool _) ?_
  simp (implicitDefEqProofs := false) (maxSteps := 1000000) (disch := first | omega | with_reducible assumption | (simp only [lenT, Nat.reduceAdd]; omega)) only [amT, cut, bnd, Nat.reduceBEq, reduceCtorEq, Nat.reduceEqDiff, Nat.reduceAdd, Nat.reduceMul, Nat.reduceSub, Int.reduceToNat, Int.reduceEq, Int.reduceLT, Int.reduceLE, Int.reduceAdd, Int.reduceSub, Int.reduceMul, reduceIte, resVs, resV, packV, initT, addr, F20]
  refine W_loop (fun N qs => ∃ (i : Nat), N = l.length - i ∧ qs.ds = [] ∧ qs.m = mx m [] ∧ qs.t 0 = .slice a l.length c ∧ qs.t 1 = .string ⟨s.toArray⟩ ∧ qs.t 5 = .int .i64 i ∧ i ≤ l.length ∧ s ∉ l.take i) (l.length - (0)) ⟨0, rfl, rfl, ?qm, ?q0, ?q1, ?q5, ?_⟩ ?_
  case qm | q0 | q1 | q5 => first | rfl | (simp (implicitDefEqProofs := false) (maxSteps := 1000000) (disch := first | omega | with_reducible assumption | (simp only [lenT, Nat.reduceAdd]; omega)) only [amT, cut, bnd, Nat.reduceBEq, reduceCtorEq, Nat.reduceEqDiff, Nat.reduceAdd, Nat.reduceMul, Nat.reduceSub, Int.reduceToNat, Int.reduceEq, Int.reduceLT, Int.reduceLE, Int.reduceAdd, Int.reduceSub, Int.reduceMul, reduceIte, resVs, resV, packV, initT, addr]; first | done | rfl | (congr 1; omega))
  · exact ⟨by omega, by simp⟩
  · rintro N t m1 ds ⟨i, rfl, hds, hm, t0, t1, t5, hp⟩
    simp only at hds hm t0 t1 t5
    subst hds; replace hm := hm.symm; subst hm
    obtain ⟨hi, hn⟩ := hp
    by_cases g : (i : Int) < (l.length : Int)
    · have hi' : i < l.length := by omega
      obtain ⟨b1, o1, rfl, hb1, r1⟩ := h i hi'
      by_cases he : l[i] = s
      · have hm : s ∈ l := he ▸ List.getElem_mem hi'
        repeat first | simp (implicitDefEqProofs := false) (maxSteps := 1000000) (disch := first | omega | with_reducible assumption | (simp only [lenT, Nat.reduceAdd]; omega)) only [amT, cut, bnd, Nat.reduceBEq, reduceCtorEq, Nat.reduceEqDiff, Nat.reduceAdd, Nat.reduceMul, Nat.reduceSub, Int.reduceToNat, Int.reduceEq, Int.reduceLT, Int.reduceLE, Int.reduceAdd, Int.reduceSub, Int.reduceMul, reduceIte, resVs, resV, packV, initT, addr, F20_l0, t0, t1, t5, g, r1, strEq_mk, he] | refine OrW.go ?_
        simp [hm]
      · repeat first | simp (implicitDefEqProofs := false) (maxSteps := 1000000) (disch := first | omega | with_reducible assumption | (simp only [lenT, Nat.reduceAdd]; omega)) only [amT, cut, bnd, Nat.reduceBEq, reduceCtorEq, Nat.reduceEqDiff, Nat.reduceAdd, Nat.reduceMul, Nat.reduceSub, Int.reduceToNat, Int.reduceEq, Int.reduceLT, Int.reduceLE, Int.reduceAdd, Int.reduceSub, Int.reduceMul, reduceIte, resVs, resV, packV, initT, addr, F20_l0, t0, t1, t5, g, r1, strEq_mk, he] | refine OrW.go ?_
        rw [LoopK_normal]; refine ⟨_, ?_, i + 1, rfl, rfl, ?qm, ?q0, ?q1, ?q5, ?_⟩
        case qm | q0 | q1 | q5 => first | rfl | (simp (implicitDefEqProofs := false) (maxSteps := 1000000) (disch := first | omega | with_reducible assumption | (simp only [lenT, Nat.reduceAdd]; omega)) only [amT, cut, bnd, Nat.reduceBEq, reduceCtorEq, Nat.reduceEqDiff, Nat.reduceAdd, Nat.reduceMul, Nat.reduceSub, Int.reduceToNat, Int.reduceEq, Int.reduceLT, Int.reduceLE, Int.reduceAdd, Int.reduceSub, Int.reduceMul, reduceIte, resVs, resV, packV, initT, addr, t0, t1, t5]; first | done | rfl | (congr 1; omega))
        · omega
        · exact ⟨by omega, mem_take_succ hi' hn he⟩
    · obtain rfl : i = l.length := by omega
      rw [List.take_length] at hn
      repeat first | simp (implicitDefEqProofs := false) (maxSteps := 1000000) (disch := first | omega | with_reducible assumption | (simp only [lenT, Nat.reduceAdd]; omega)) only [amT, cut, bnd, Nat.reduceBEq, reduceCtorEq, Nat.reduceEqDiff, Nat.reduceAdd, Nat.reduceMul, Nat.reduceSub, Int.reduceToNat, Int.reduceEq, Int.reduceLT, Int.reduceLE, Int.reduceAdd, Int.reduceSub, Int.reduceMul, reduceIte, resVs, resV, packV, initT, addr, F20_l0, t0, t1, t5, g] | refine OrW.go ?_
      simp [hn]
theorem refAll_ok (m : AMem) (a : Option Addr) (c : Nat) (b : List UInt8) (hb : BArg m a c b) (hl : b.length ≤ 1000000) :
    RelC Try.prog 1 8 [.slice a b.length c] m fun v M => ∃ a' c', v = .slice a' (allR b).length c' ∧ SRow m M a' c' (allR b) := by
  refine rel_of_W (fn := Try.f8) rfl rfl F8_ok (by simp [F8]) ?_
  simp (implicitDefEqProofs := false) (maxSteps := 1000000) (disch := first | omega | with_reducible assumption | (simp only [lenT, Nat.reduceAdd]; omega)) only [amT, cut, bnd, Nat.reduceBEq, reduceCtorEq, Nat.reduceEqDiff, Nat.reduceAdd, Nat.reduceMul, Nat.reduceSub, Int.reduceToNat, Int.reduceEq, Int.reduceLT, Int.reduceLE, Int.reduceAdd, Int.reduceSub, Int.reduceMul, reduceIte, resVs, resV, packV, initT, addr, F8]
  refine W_loop (fun N qs => ∃ (i : Nat) (M : AMem) (sa : Option Addr) (sc : Nat), N = b.length - i ∧ qs.ds = [] ∧ qs.m = mx M [] ∧ qs.t 0 = .slice a b.length c ∧ qs.t 3 = .slice sa (onceR (winsTo okL b i)).length sc ∧ qs.t 4 = .int .i64 i ∧ i ≤ b.length + 1 - 32 ∧ SRow m M sa sc (onceR (winsTo okL b i))) (b.length - (0)) ⟨0, m, none, 0, rfl, rfl, ?qm, ?q0, ?q3, ?q4, ?_⟩ ?_
  case qm | q0 | q3 | q4 => first | rfl | (simp (implicitDefEqProofs := false) (maxSteps := 1000000) (disch := first | omega | with_reducible assumption | (simp only [lenT, Nat.reduceAdd]; omega)) only [amT, cut, bnd, Nat.reduceBEq, reduceCtorEq, Nat.reduceEqDiff, Nat.reduceAdd, Nat.reduceMul, Nat.reduceSub, Int.reduceToNat, Int.reduceEq, Int.reduceLT, Int.reduceLE, Int.reduceAdd, Int.reduceSub, Int.reduceMul, reduceIte, resVs, resV, packV, initT, addr, winsTo_zero, onceR, List.foldl_nil, List.length_nil]; first | done | rfl | (congr 1; omega))
  · exact ⟨by omega, SRow.nil m⟩
  · rintro N t m1 ds ⟨i, M, sa, sc, rfl, hds, hm, t0, t3, t4, hp⟩
    simp only at hds hm t0 t3 t4
    subst hds; replace hm := hm.symm; subst hm
    obtain ⟨hi, hS⟩ := hp
    by_cases g : (i : Int) + 32 ≤ (b.length : Int)
    · have hw := win_len (b := b) (j := i) (by omega)
      obtain ⟨a1, c1, q1, B1⟩ := (((hb.sl (by omega)).old hS.old).old (Old.here M [])).sub (openCap_lt (by omega)) (i := i) (j := i + 32) (by omega) (by omega)
      rw [show i + 32 - i = 32 by omega] at q1 B1
      have hwe : (b.drop i).take 32 = winAt b i := rfl
      rw [hwe] at B1
      have s1 := B1.str
      rw [hw] at s1
      have kB := DetC.known (N.refBytes_ok (mx M []) (winAt b i))
      rw [bytes_win hw] at kB
      have hbl := bytes_len (winAt b i)
      have e0 : (i : Int) + 32 = ((i + 32 : Nat) : Int) := by omega
      have hsn := winsTo_succ okL b i
      have hol := onceR_len (winsTo okL b i)
      have hwl := winsTo_len okL b i
      have hon := onceR_snoc (winsTo okL b i) (winAt b i)
      generalize winAt b i = w at *
      generalize hbb : (N.bytesR w).1 = bb at *
      have g' : ((i + 32 : Nat) : Int) ≤ (b.length : Int) := by omega
      have hO1 : Old M (mx M [.cells (bb.map byteV) 51 true .exact]) := Old.here _ _
      cases hv : w.all okL with
      | false =>
        rw [hv] at kB hsn
        simp only [Bool.false_eq_true, if_false, List.append_nil] at hsn
        repeat first | simp (implicitDefEqProofs := false) (maxSteps := 1000000) (disch := first | omega | with_reducible assumption | (simp only [lenT, Nat.reduceAdd]; omega)) only [amT, cut, bnd, Nat.reduceBEq, reduceCtorEq, Nat.reduceEqDiff, Nat.reduceAdd, Nat.reduceMul, Nat.reduceSub, Int.reduceToNat, Int.reduceEq, Int.reduceLT, Int.reduceLE, Int.reduceAdd, Int.reduceSub, Int.reduceMul, reduceIte, resVs, resV, packV, initT, addr, F8_l0, t0, t3, t4, g', e0, stepOp_slV_v, q1, stepOp_b2s_v, s1, kB, undef] | refine OrW.go ?_
        rw [LoopK_normal]; refine ⟨_, ?_, i + 1, mx M [.cells (bb.map byteV) 51 true .exact], sa, sc, rfl, rfl, ?qm, ?q0, ?q3, ?q4, ?_⟩
        case qm | q0 | q3 | q4 => first | rfl | (simp (implicitDefEqProofs := false) (maxSteps := 1000000) (disch := first | omega | with_reducible assumption | (simp only [lenT, Nat.reduceAdd]; omega)) only [amT, cut, bnd, Nat.reduceBEq, reduceCtorEq, Nat.reduceEqDiff, Nat.reduceAdd, Nat.reduceMul, Nat.reduceSub, Int.reduceToNat, Int.reduceEq, Int.reduceLT, Int.reduceLE, Int.reduceAdd, Int.reduceSub, Int.reduceMul, reduceIte, resVs, resV, packV, initT, addr, t0, t3, t4, hsn, mx_mx, List.append_nil]; first | done | rfl | (congr 1; omega))
        · omega
        · rw [hsn]; exact ⟨by omega, hS.more hO1⟩
      | true =>
        rw [hv] at kB hsn
        simp only [if_true] at hsn
        rw [← hsn] at hon
        have kH := DetC.known (refHas_ok (mx M [.cells (bb.map byteV) 51 true .exact]) sa sc (onceR (winsTo okL b i)) w (hS.strs.row.old hO1) (by omega))
        by_cases hm : w ∈ onceR (winsTo okL b i)
        · rw [decide_eq_true hm] at kH
          rw [if_pos hm] at hon
          repeat first | simp (implicitDefEqProofs := false) (maxSteps := 1000000) (disch := first | omega | with_reducible assumption | (simp only [lenT, Nat.reduceAdd]; omega)) only [amT, cut, bnd, Nat.reduceBEq, reduceCtorEq, Nat.reduceEqDiff, Nat.reduceAdd, Nat.reduceMul, Nat.reduceSub, Int.reduceToNat, Int.reduceEq, Int.reduceLT, Int.reduceLE, Int.reduceAdd, Int.reduceSub, Int.reduceMul, reduceIte, resVs, resV, packV, initT, addr, F8_l0, t0, t3, t4, g', e0, stepOp_slV_v, q1, stepOp_b2s_v, s1, kB, kH, undef] | refine OrW.go ?_
          rw [LoopK_normal]; refine ⟨_, ?_, i + 1, mx M [.cells (bb.map byteV) 51 true .exact], sa, sc, rfl, rfl, ?qm, ?q0, ?q3, ?q4, ?_⟩
          case qm | q0 | q3 | q4 => first | rfl | (simp (implicitDefEqProofs := false) (maxSteps := 1000000) (disch := first | omega | with_reducible assumption | (simp only [lenT, Nat.reduceAdd]; omega)) only [amT, cut, bnd, Nat.reduceBEq, reduceCtorEq, Nat.reduceEqDiff, Nat.reduceAdd, Nat.reduceMul, Nat.reduceSub, Int.reduceToNat, Int.reduceEq, Int.reduceLT, Int.reduceLE, Int.reduceAdd, Int.reduceSub, Int.reduceMul, reduceIte, resVs, resV, packV, initT, addr, t0, t3, t4, hon, mx_mx, List.append_nil]; first | done | rfl | (congr 1; omega))
          · omega
          · rw [hon]; exact ⟨by omega, hS.more hO1⟩
        · rw [decide_eq_false hm] at kH
          rw [if_neg hm] at hon
          obtain ⟨a', c', M', happ, hS'⟩ := (hS.more hO1).one (by omega) w
          rw [mx_mx, mx_size] at happ
          simp only [List.length_cons, List.length_nil, Nat.zero_add, Nat.reduceAdd, List.cons_append, List.nil_append] at happ
          repeat first | simp (implicitDefEqProofs := false) (maxSteps := 1000000) (disch := first | omega | with_reducible assumption | (simp only [lenT, Nat.reduceAdd]; omega)) only [amT, cut, bnd, Nat.reduceBEq, reduceCtorEq, Nat.reduceEqDiff, Nat.reduceAdd, Nat.reduceMul, Nat.reduceSub, Int.reduceToNat, Int.reduceEq, Int.reduceLT, Int.reduceLE, Int.reduceAdd, Int.reduceSub, Int.reduceMul, reduceIte, resVs, resV, packV, initT, addr, F8_l0, t0, t3, t4, g', e0, stepOp_slV_v, q1, stepOp_b2s_v, s1, kB, kH, stepOp_app_v, happ] | refine OrW.go ?_
          rw [LoopK_normal]; refine ⟨_, ?_, i + 1, M', a', c', rfl, rfl, ?qm, ?q0, ?q3, ?q4, ?_⟩
          case qm | q0 | q3 | q4 => first | rfl | (simp (implicitDefEqProofs := false) (maxSteps := 1000000) (disch := first | omega | with_reducible assumption | (simp only [lenT, Nat.reduceAdd]; omega)) only [amT, cut, bnd, Nat.reduceBEq, reduceCtorEq, Nat.reduceEqDiff, Nat.reduceAdd, Nat.reduceMul, Nat.reduceSub, Int.reduceToNat, Int.reduceEq, Int.reduceLT, Int.reduceLE, Int.reduceAdd, Int.reduceSub, Int.reduceMul, reduceIte, resVs, resV, packV, initT, addr, t0, t3, t4, hon, List.length_append, List.length_cons, List.length_nil]; first | done | rfl | (congr 1; omega))
          · omega
          · rw [hon]; exact ⟨by omega, hS'⟩
    · obtain rfl : i = b.length + 1 - 32 := by omega
      repeat first | simp (implicitDefEqProofs := false) (maxSteps := 1000000) (disch := first | omega | with_reducible assumption | (simp only [lenT, Nat.reduceAdd]; omega)) only [amT, cut, bnd, Nat.reduceBEq, reduceCtorEq, Nat.reduceEqDiff, Nat.reduceAdd, Nat.reduceMul, Nat.reduceSub, Int.reduceToNat, Int.reduceEq, Int.reduceLT, Int.reduceLE, Int.reduceAdd, Int.reduceSub, Int.reduceMul, reduceIte, resVs, resV, packV, initT, addr, F8_l0, t0, t3, t4, g] | refine OrW.go ?_
      exact ⟨_, rfl, fun _ => ⟨sa, sc, rfl, hS.more (Old.here _ _)⟩⟩
end Go.Proofs.Ytighienjnhglnaa
namespace Go.Proofs.Ytighienjnhglnaa
open Go Go.AM
set_option linter.unusedVariables false
set_option linter.unusedSimpArgs false
set_option maxHeartbeats 2000000
set_option maxRecDepth 100000

def toldB (S : List (List UInt8)) (n : List UInt8) : Bool := decide ((N.parseR n).2.2 = 0) && decide ((N.parseR n).1 ∈ S)
def toldR (S names : List (List UInt8)) : List (List UInt8) := names.filter (toldB S)
def mapS (S : List (List UInt8)) (s : List UInt8) : Option Value := if s ∈ S then some (.int .i64 1) else none
theorem told_ok (m : AMem) (r : Nat) (S : List (List UInt8)) (hm : MapAt m r (mapS S)) (a : Option Addr) (c : Nat) (names : List (List UInt8)) (h : StrR m a names) (hl : names.length ≤ 100000) (hs : ∀ s ∈ names, s.length ≤ 100000) :
    RelC Try.prog 1 24 [.map (some r), .slice a names.length c] m fun v M => ∃ a' c', v = .slice a' (toldR S names).length c' ∧ SRow m M a' c' (toldR S names) := by
  refine rel_of_W (fn := Try.f24) rfl rfl F24_ok (by simp [F24]) ?_
  simp (implicitDefEqProofs := false) (maxSteps := 1000000) (disch := first | omega | with_reducible assumption | (simp only [lenT, Nat.reduceAdd]; omega)) only [amT, cut, bnd, Nat.reduceBEq, reduceCtorEq, Nat.reduceEqDiff, Nat.reduceAdd, Nat.reduceMul, Nat.reduceSub, Int.reduceToNat, Int.reduceEq, Int.reduceLT, Int.reduceLE, Int.reduceAdd, Int.reduceSub, Int.reduceMul, reduceIte, resVs, resV, packV, initT, addr, F24]
  refine W_loop (fun N qs => ∃ (i : Nat) (M : AMem) (sa : Option Addr) (sc : Nat), N = names.length - i ∧ qs.ds = [] ∧ qs.m = mx M [] ∧ qs.t 0 = .map (some r) ∧ qs.t 5 = .slice sa (toldR S (names.take i)).length sc ∧ qs.t 11 = .slice a names.length c ∧ qs.t 12 = .int .i64 names.length ∧ qs.t 13 = .int .i64 i ∧ i ≤ names.length ∧ SRow m M sa sc (toldR S (names.take i))) (names.length - (0)) ⟨0, m, none, 0, rfl, rfl, ?qm, ?q0, ?q5, ?q11, ?q12, ?q13, ?_⟩ ?_
  case qm | q0 | q5 | q11 | q12 | q13 => first | rfl | (simp (implicitDefEqProofs := false) (maxSteps := 1000000) (disch := first | omega | with_reducible assumption | (simp only [lenT, Nat.reduceAdd]; omega)) only [amT, cut, bnd, Nat.reduceBEq, reduceCtorEq, Nat.reduceEqDiff, Nat.reduceAdd, Nat.reduceMul, Nat.reduceSub, Int.reduceToNat, Int.reduceEq, Int.reduceLT, Int.reduceLE, Int.reduceAdd, Int.reduceSub, Int.reduceMul, reduceIte, resVs, resV, packV, initT, addr, List.take_zero, toldR, List.filter_nil, List.length_nil]; first | done | rfl | (congr 1; omega))
  · exact ⟨by omega, SRow.nil m⟩
  · rintro N t m1 ds ⟨i, M, sa, sc, rfl, hds, hm, t0, t5, t11, t12, t13, hp⟩
    simp only at hds hm t0 t5 t11 t12 t13
    subst hds; replace hm := hm.symm; subst hm
    obtain ⟨hi, hS⟩ := hp
    by_cases g : (i : Int) < (names.length : Int)
    · have hi' : i < names.length := by omega
      obtain ⟨b1, o1, rfl, hb1, r1⟩ := h i hi'
      have hb1M : b1 < M.size := Nat.lt_of_lt_of_le hb1 hS.old.1
      have r1M : rdO (M.get b1) (o1 + i) 1 = some [.string ⟨names[i].toArray⟩] := by rw [hS.old.2 b1 hb1]; exact r1
      have hsn : names.take (i + 1) = names.take i ++ [names[i]] := List.take_succ_eq_append_getElem hi'
      have hlen : (toldR S (names.take i)).length ≤ i := by unfold toldR; exact Nat.le_trans (List.length_filter_le _ _) (by rw [List.length_take]; omega)
      have kP := DetC.known (N.parse_ok (mx M []) names[i] (hs _ (List.getElem_mem hi')))
      have kl := ((hm.old hS.old).old (Old.here M [])).look (.int .i64 0) false (N.parseR names[i]).1
      rw [lkRes_one] at kl
      have hts : toldR S (names.take (i + 1)) = toldR S (names.take i) ++ if toldB S names[i] then [names[i]] else [] := by
        unfold toldR; rw [hsn, List.filter_append]; congr 1
        by_cases ht : toldB S names[i] = true <;> simp [ht]
      by_cases h0 : (N.parseR names[i]).2.2 = 0
      · by_cases hin : (N.parseR names[i]).1 ∈ S
        · have ht : toldB S names[i] = true := by simp [toldB, h0, hin]
          rw [ht, if_pos rfl] at hts
          have kl2 : (mapS S (N.parseR names[i]).1).getD (.int .i64 0) = .int .i64 1 := by simp [mapS, hin]
          rw [kl2] at kl
          obtain ⟨a', c', M', happ, hS'⟩ := hS.one (by omega) names[i]
          rw [h0] at kP
          repeat first | simp (implicitDefEqProofs := false) (maxSteps := 1000000) (disch := first | omega | with_reducible assumption | (simp only [lenT, Nat.reduceAdd]; omega)) only [amT, cut, bnd, Nat.reduceBEq, reduceCtorEq, Nat.reduceEqDiff, Nat.reduceAdd, Nat.reduceMul, Nat.reduceSub, Int.reduceToNat, Int.reduceEq, Int.reduceLT, Int.reduceLE, Int.reduceAdd, Int.reduceSub, Int.reduceMul, reduceIte, resVs, resV, packV, initT, addr, F24_l0, t0, t5, t11, t12, t13, g, hb1M, r1M, kP, stepOp_lkp_v, kl, stepOp_app_v, happ] | refine OrW.go ?_
          rw [LoopK_normal]; refine ⟨_, ?_, i + 1, M', a', c', rfl, rfl, ?qm, ?q0, ?q5, ?q11, ?q12, ?q13, ?_⟩
          case qm | q0 | q5 | q11 | q12 | q13 => first | rfl | (simp (implicitDefEqProofs := false) (maxSteps := 1000000) (disch := first | omega | with_reducible assumption | (simp only [lenT, Nat.reduceAdd]; omega)) only [amT, cut, bnd, Nat.reduceBEq, reduceCtorEq, Nat.reduceEqDiff, Nat.reduceAdd, Nat.reduceMul, Nat.reduceSub, Int.reduceToNat, Int.reduceEq, Int.reduceLT, Int.reduceLE, Int.reduceAdd, Int.reduceSub, Int.reduceMul, reduceIte, resVs, resV, packV, initT, addr, t0, t5, t11, t12, t13, hts]; first | done | rfl | (congr 1; omega))
          · omega
          · rw [hts]; exact ⟨by omega, hS'⟩
        · have ht : toldB S names[i] = false := by simp [toldB, hin]
          rw [ht] at hts
          simp only [Bool.false_eq_true, if_false, List.append_nil] at hts
          have kl2 : (mapS S (N.parseR names[i]).1).getD (.int .i64 0) = .int .i64 0 := by simp [mapS, hin]
          rw [kl2] at kl
          rw [h0] at kP
          repeat first | simp (implicitDefEqProofs := false) (maxSteps := 1000000) (disch := first | omega | with_reducible assumption | (simp only [lenT, Nat.reduceAdd]; omega)) only [amT, cut, bnd, Nat.reduceBEq, reduceCtorEq, Nat.reduceEqDiff, Nat.reduceAdd, Nat.reduceMul, Nat.reduceSub, Int.reduceToNat, Int.reduceEq, Int.reduceLT, Int.reduceLE, Int.reduceAdd, Int.reduceSub, Int.reduceMul, reduceIte, resVs, resV, packV, initT, addr, F24_l0, t0, t5, t11, t12, t13, g, hb1M, r1M, kP, stepOp_lkp_v, kl] | refine OrW.go ?_
          rw [LoopK_normal]; refine ⟨_, ?_, i + 1, M, sa, sc, rfl, rfl, ?qm, ?q0, ?q5, ?q11, ?q12, ?q13, ?_⟩
          case qm | q0 | q5 | q11 | q12 | q13 => first | rfl | (simp (implicitDefEqProofs := false) (maxSteps := 1000000) (disch := first | omega | with_reducible assumption | (simp only [lenT, Nat.reduceAdd]; omega)) only [amT, cut, bnd, Nat.reduceBEq, reduceCtorEq, Nat.reduceEqDiff, Nat.reduceAdd, Nat.reduceMul, Nat.reduceSub, Int.reduceToNat, Int.reduceEq, Int.reduceLT, Int.reduceLE, Int.reduceAdd, Int.reduceSub, Int.reduceMul, reduceIte, resVs, resV, packV, initT, addr, t0, t5, t11, t12, t13, hts]; first | done | rfl | (congr 1; omega))
          · omega
          · rw [hts]; exact ⟨by omega, hS⟩
      · have ht : toldB S names[i] = false := by simp [toldB, h0]
        rw [ht] at hts
        simp only [Bool.false_eq_true, if_false, List.append_nil] at hts
        repeat first | simp (implicitDefEqProofs := false) (maxSteps := 1000000) (disch := first | omega | with_reducible assumption | (simp only [lenT, Nat.reduceAdd]; omega)) only [amT, cut, bnd, Nat.reduceBEq, reduceCtorEq, Nat.reduceEqDiff, Nat.reduceAdd, Nat.reduceMul, Nat.reduceSub, Int.reduceToNat, Int.reduceEq, Int.reduceLT, Int.reduceLE, Int.reduceAdd, Int.reduceSub, Int.reduceMul, reduceIte, resVs, resV, packV, initT, addr, F24_l0, t0, t5, t11, t12, t13, g, hb1M, r1M, kP, h0, undef] | refine OrW.go ?_
        rw [LoopK_normal]; refine ⟨_, ?_, i + 1, M, sa, sc, rfl, rfl, ?qm, ?q0, ?q5, ?q11, ?q12, ?q13, ?_⟩
        case qm | q0 | q5 | q11 | q12 | q13 => first | rfl | (simp (implicitDefEqProofs := false) (maxSteps := 1000000) (disch := first | omega | with_reducible assumption | (simp only [lenT, Nat.reduceAdd]; omega)) only [amT, cut, bnd, Nat.reduceBEq, reduceCtorEq, Nat.reduceEqDiff, Nat.reduceAdd, Nat.reduceMul, Nat.reduceSub, Int.reduceToNat, Int.reduceEq, Int.reduceLT, Int.reduceLE, Int.reduceAdd, Int.reduceSub, Int.reduceMul, reduceIte, resVs, resV, packV, initT, addr, t0, t5, t11, t12, t13, hts]; first | done | rfl | (congr 1; omega))
        · omega
        · rw [hts]; exact ⟨by omega, hS⟩
    · obtain rfl : i = names.length := by omega
      rw [List.take_length] at hS t5
      repeat first | simp (implicitDefEqProofs := false) (maxSteps := 1000000) (disch := first | omega | with_reducible assumption | (simp only [lenT, Nat.reduceAdd]; omega)) only [amT, cut, bnd, Nat.reduceBEq, reduceCtorEq, Nat.reduceEqDiff, Nat.reduceAdd, Nat.reduceMul, Nat.reduceSub, Int.reduceToNat, Int.reduceEq, Int.reduceLT, Int.reduceLE, Int.reduceAdd, Int.reduceSub, Int.reduceMul, reduceIte, resVs, resV, packV, initT, addr, F24_l0, t0, t5, t11, t12, t13, g] | refine OrW.go ?_
      exact ⟨_, rfl, fun _ => ⟨sa, sc, rfl, hS.more (Old.here _ _)⟩⟩
/-- Between two rounds of the second loop. -/
structure RefJ (m : AMem) (b : List UInt8) (t : Tmps) (rec : Loop) (k : Nat) (M : AMem) : Prop where
  size : m.size + 5 ≤ M.size
  old : ∀ y, y < m.size → M.get y = m.get y
  seen : M.get (m.size + 1) = .cells [.map (some m.size)] 47 true .exact
  text : M.get (m.size + 2) = .cells [.string ⟨b.toArray⟩] 9 true .exact
  map : MapAt M m.size (mapS ((wins okL b).take k))
  defd : M.get (m.size + 3) = .defd
  loop : M.get (m.size + 4) = .loop .ready none t rec
theorem RefJ.nil {m : AMem} {b : List UInt8} {t : Tmps} {rec : Loop} {k : Nat} {M : AMem} (h : RefJ m b t rec k M) : RefJ m b t rec k (mx M []) := by
  have hz := h.size
  exact ⟨by rw [mx_nil_size]; exact hz, fun y hy => by rw [mx_old (by omega)]; exact h.old y hy, by rw [mx_old (by omega)]; exact h.seen, by rw [mx_old (by omega)]; exact h.text, h.map.old (Old.here _ _), by rw [mx_old (by omega)]; exact h.defd, by rw [mx_old (by omega)]; exact h.loop⟩
theorem ref_round (m : AMem) (b : List UInt8) (t : Tmps) (h5 : t 5 = .pointer (some ⟨m.size + 1, 0, none⟩)) (rec : Loop) (i : Nat) (M : AMem) (hi : i < (wins okL b).length) (hJ : RefJ m b t rec i M) :
    W Try.prog 1 F12_g0 (AssignK (m.size + 4) t rec fun s' => W Try.prog 1 F12_b0 (RoundK (m.size + 4) t rec fun r M' => r = .ret (.bool true) ∧ RefJ m b t rec (i + 1) M') s') ⟨roundT t [11] [.string ⟨(wins okL b)[i].toArray⟩], mx M [], []⟩ := by
  have hz := hJ.size
  have l4 : m.size + 4 < M.size := by omega
  have hloop := hJ.loop
  simp (implicitDefEqProofs := false) (maxSteps := 1000000) (disch := first | omega | with_reducible assumption | (simp only [lenT, Nat.reduceAdd]; omega)) only [amT, cut, bnd, Nat.reduceBEq, reduceCtorEq, Nat.reduceEqDiff, Nat.reduceAdd, Nat.reduceMul, Nat.reduceSub, Int.reduceToNat, Int.reduceEq, Int.reduceLT, Int.reduceLE, Int.reduceAdd, Int.reduceSub, Int.reduceMul, reduceIte, resVs, resV, packV, initT, addr, F12_g0, roundT, List.zip_cons_cons, List.zip_nil_right, List.foldl_cons, List.foldl_nil]
  refine ⟨by rw [mx_old l4]; exact hloop, ?_⟩
  simp only
  rw [mx_set_old l4]
  have hsn : (wins okL b).take (i + 1) = (wins okL b).take i ++ [(wins okL b)[i]] := List.take_succ_eq_append_getElem hi
  have hmap := hJ.map
  have hold := hJ.old
  have hseen := hJ.seen
  have htext := hJ.text
  have hdefd := hJ.defd
  generalize (wins okL b)[i] = w at *
  generalize hL : (wins okL b).take i = L at *
  have e1 : ∀ y, y ≠ m.size + 4 → (M.set (m.size + 4) (.loop .busy none t rec)).get y = M.get y := fun y hy => AMem.get_set_ne _ _ hy
  have e2 : (M.set (m.size + 4) (.loop .busy none t rec)).get (m.size + 4) = .loop .busy none t rec := AMem.get_set_self _ _ _
  have e3 : (M.set (m.size + 4) (.loop .busy none t rec)).size = M.size := rfl
  generalize M.set (m.size + 4) (.loop .busy none t rec) = M1 at *
  have q1 : m.size + 1 < M1.size := by omega
  have q0 : m.size < M1.size := by omega
  have r1 : M1.get (m.size + 1) = .cells [.map (some m.size)] 47 true .exact := by rw [e1 _ (by omega)]; exact hseen
  have hmap1 : MapAt M1 m.size (mapS L) := hmap.keep (by omega) (e1 _ (by omega))
  obtain ⟨o, p1, p2⟩ := (hmap1.old (Old.here M1 [])).put w (v := .int .i64 1) rfl
  rw [mx_set_old q0] at p1 p2
  have f1 : ∀ y, y ≠ m.size → (M1.set m.size o).get y = M1.get y := fun y hy => AMem.get_set_ne _ _ hy
  have f2 : (M1.set m.size o).size = M1.size := rfl
  have p3 := p2.keep (m' := M1.set m.size o) (by rw [mx_nil_size]; exact Nat.le_refl _) (by rw [mx_old (by rw [f2]; exact q0)])
  generalize M1.set m.size o = M2 at *
  repeat first | simp (implicitDefEqProofs := false) (maxSteps := 1000000) (disch := first | omega | with_reducible assumption | (simp only [lenT, Nat.reduceAdd]; omega)) only [amT, cut, bnd, Nat.reduceBEq, reduceCtorEq, Nat.reduceEqDiff, Nat.reduceAdd, Nat.reduceMul, Nat.reduceSub, Int.reduceToNat, Int.reduceEq, Int.reduceLT, Int.reduceLE, Int.reduceAdd, Int.reduceSub, Int.reduceMul, reduceIte, resVs, resV, packV, initT, addr, F12_b0, h5, r1, q1, stepOp_mup_v, p1] | refine OrW.go ?_
  refine ⟨by rw [mx_old (by omega), f1 _ (by omega)]; exact e2, rfl, ?_⟩
  simp only
  rw [mx_set_old (by omega)]
  have hk : ∀ y, y ≠ m.size → y ≠ m.size + 4 → (M2.set (m.size + 4) (.loop .ready none t rec)).get y = M.get y := fun y a b => by rw [AMem.get_set_ne _ _ b, f1 y a, e1 y b]
  refine RefJ.nil ⟨by rw [AMem.size_set]; omega, fun y hy => by rw [hk y (by omega) (by omega)]; exact hold y hy, by rw [hk _ (by omega) (by omega)]; exact hseen, by rw [hk _ (by omega) (by omega)]; exact htext, ?_, by rw [hk _ (by omega) (by omega)]; exact hdefd, AMem.get_set_self _ _ _⟩
  rw [hsn]
  have hfe : mapS (L ++ [w]) = fun s => if s = w then some (Value.int .i64 1) else mapS L s := by
    funext s
    unfold mapS
    by_cases h1 : s = w
    · simp [h1]
    · simp [h1]
  rw [hfe]
  exact p3.keep (by rw [AMem.size_set]; exact Nat.le_refl _) (by rw [AMem.get_set_ne _ _ (by omega)])
theorem ref_loop (m : AMem) (b : List UInt8) (hl : b.length ≤ 1000000) (t : Tmps) (h5 : t 5 = .pointer (some ⟨m.size + 1, 0, none⟩)) (h10 : t 10 = .func (.func 32) #[] #[.pointer (some ⟨m.size + 2, 0, none⟩)]) (Q : AExit → ASt → Prop)
    (hdone : ∀ rec M, RefJ m b t rec (wins okL b).length M → Q .normal ⟨t, mx (M.set (m.size + 4) .dead) [], [⟨.collected (m.size + 3), #[]⟩]⟩) :
    W Try.prog 1 (.rangeF (.t 10) [11] F12_g0 F12_b0) Q ⟨t, mx m [.map #[] 0, .cells [.map (some m.size)] 47 true .exact, .cells [.string ⟨b.toArray⟩] 9 true .exact], []⟩ := by
  refine W_rangeT (gf := 32) (first := #[]) (captured := #[.pointer (some ⟨m.size + 2, 0, none⟩)]) (vs := (wins okL b).map fun w => [.string ⟨w.toArray⟩]) h10 ⟨_, _, rfl, rfl, rfl⟩ (letters1_ok (m.size + 2) b hl) (fun x hx => ?_) (fun rec k M => RefJ m b t rec k M) (m.size + 3) (m.size + 4) (by rw [mx_size]; rfl) rfl (fun rec => ?_) (fun rec i M h => ?_) (fun rec i M hi h => ?_) (fun rec M h => ?_)
  · simp only [List.mem_map] at hx; obtain ⟨w, _, rfl⟩ := hx; rfl
  · refine ⟨by rw [mx_size]; simp, fun y hy => mx_old hy, ?_, ?_, MapAt.new (by rw [mx_size]; simp) ?_, ?_, ?_⟩
    · exact mx_new _ _ 1
    · exact mx_new _ _ 2
    · exact mx_new0 _ _
    · exact mx_new _ _ 3
    · exact mx_new _ _ 4
  · exact ⟨by have := h.size; omega, h.loop, by have := h.size; omega, h.text⟩
  · rw [List.length_map] at hi
    rw [List.getElem_map]
    exact ref_round m b t h5 rec i M hi h
  · rw [List.length_map] at h
    exact hdone rec M h
def refsR (b : List UInt8) (names : List (List UInt8)) : List (List UInt8) := toldR (wins okL b) names
theorem refs_ok (m : AMem) (a : Option Addr) (c : Nat) (b : List UInt8) (hb : BArg m a c b) (hl : b.length ≤ 1000000) (na : Option Addr) (nc : Nat) (names : List (List UInt8)) (h : StrR m na names) (hnl : names.length ≤ 100000) (hs : ∀ s ∈ names, s.length ≤ 100000) :
    RelC Try.prog 1 12 [.slice a b.length c, .slice na names.length nc] m fun v M => ∃ a' c', v = .slice a' (refsR b names).length c' ∧ SRow m M a' c' (refsR b names) := by
  refine rel_of_WD (fn := Try.f12) rfl rfl F12_ok (by simp [F12]) ?_
  let o3 : List AObj := [.map #[] 0, .cells [.map (some m.size)] 47 true .exact]
  have s0 := hb.str _ (Old.here m o3)
  have kL := DetC.known (lettersF_ok (mx m o3) b)
  simp only [o3] at s0 kL
  rw [mx_mx, mx_size] at kL
  simp only [List.length_cons, List.length_nil, Nat.zero_add, Nat.reduceAdd, List.cons_append, List.nil_append] at kL
  have cm : ∀ x, cellsOf (.map x) = some [.map x] := fun _ => rfl
  repeat first | simp (implicitDefEqProofs := false) (maxSteps := 1000000) (disch := first | omega | with_reducible assumption | (simp only [lenT, Nat.reduceAdd]; omega)) only [amT, cut, bnd, Nat.reduceBEq, reduceCtorEq, Nat.reduceEqDiff, Nat.reduceAdd, Nat.reduceMul, Nat.reduceSub, Int.reduceToNat, Int.reduceEq, Int.reduceLT, Int.reduceLE, Int.reduceAdd, Int.reduceSub, Int.reduceMul, reduceIte, resVs, resV, packV, initT, addr, F12, stepOp_mkM, stepOp_b2s_v, s0, kL, cm] | refine OrW.go ?_
  refine ref_loop m b hl _ (by simp (implicitDefEqProofs := false) (maxSteps := 1000000) (disch := first | omega | with_reducible assumption | (simp only [lenT, Nat.reduceAdd]; omega)) only [amT, cut, bnd, Nat.reduceBEq, reduceCtorEq, Nat.reduceEqDiff, Nat.reduceAdd, Nat.reduceMul, Nat.reduceSub, Int.reduceToNat, Int.reduceEq, Int.reduceLT, Int.reduceLE, Int.reduceAdd, Int.reduceSub, Int.reduceMul, reduceIte, resVs, resV, packV, initT, addr]) (by simp (implicitDefEqProofs := false) (maxSteps := 1000000) (disch := first | omega | with_reducible assumption | (simp only [lenT, Nat.reduceAdd]; omega)) only [amT, cut, bnd, Nat.reduceBEq, reduceCtorEq, Nat.reduceEqDiff, Nat.reduceAdd, Nat.reduceMul, Nat.reduceSub, Int.reduceToNat, Int.reduceEq, Int.reduceLT, Int.reduceLE, Int.reduceAdd, Int.reduceSub, Int.reduceMul, reduceIte, resVs, resV, packV, initT, addr]) _ fun rec M hJ => ?_
  have hz := hJ.size
  have hmap := hJ.map
  rw [List.take_length] at hmap
  have r0 : (M.set (m.size + 4) .dead).get (m.size + 1) = .cells [.map (some m.size)] 47 true .exact := by rw [AMem.get_set_ne _ _ (by omega)]; exact hJ.seen
  have q0 : m.size + 1 < (M.set (m.size + 4) .dead).size := by rw [AMem.size_set]; omega
  have hd : (M.set (m.size + 4) .dead).get (m.size + 3) = .defd := by rw [AMem.get_set_ne _ _ (by omega)]; exact hJ.defd
  have hO : Old m (M.set (m.size + 4) .dead) := ⟨by rw [AMem.size_set]; omega, fun y hy => by rw [AMem.get_set_ne _ _ (by omega)]; exact hJ.old y hy⟩
  have q4 : m.size + 3 < (M.set (m.size + 4) .dead).size := by rw [AMem.size_set]; omega
  have hmap2 : MapAt (M.set (m.size + 4) .dead) m.size (mapS (wins okL b)) := hmap.keep (by rw [AMem.size_set]; exact Nat.le_refl _) (AMem.get_set_ne _ _ (by omega))
  generalize M.set (m.size + 4) .dead = N at *
  have kT := told_ok (mx N []) m.size (wins okL b) (hmap2.old (Old.here _ _)) na nc names (h.old (hO.mx [])) hnl hs
  simp (implicitDefEqProofs := false) (maxSteps := 1000000) (disch := first | omega | with_reducible assumption | (simp only [lenT, Nat.reduceAdd]; omega)) only [amT, cut, bnd, Nat.reduceBEq, reduceCtorEq, Nat.reduceEqDiff, Nat.reduceAdd, Nat.reduceMul, Nat.reduceSub, Int.reduceToNat, Int.reduceEq, Int.reduceLT, Int.reduceLE, Int.reduceAdd, Int.reduceSub, Int.reduceMul, reduceIte, resVs, resV, packV, initT, addr, r0, q0]
  refine RelC.call kT ?_
  rintro r M2 ⟨a', c', rfl, hS⟩
  have hO2 : Old N M2 := (Old.here N []).trans hS.old
  have hd2 : M2.get (m.size + 3) = .defd := by rw [hO2.2 _ q4]; exact hd
  have q5 : m.size + 3 < M2.size := Nat.lt_of_lt_of_le q4 hO2.1
  have hown : ∀ x, ownV (.slice a' (toldR (wins okL b) names).length c') x → x ≠ m.size + 3 := fun x hx e => by have := hS.own x hx; rw [mx_nil_size] at this; omega
  simp (implicitDefEqProofs := false) (maxSteps := 1000000) (disch := first | omega | with_reducible assumption | (simp only [lenT, Nat.reduceAdd]; omega)) only [amT, cut, bnd, Nat.reduceBEq, reduceCtorEq, Nat.reduceEqDiff, Nat.reduceAdd, Nat.reduceMul, Nat.reduceSub, Int.reduceToNat, Int.reduceEq, Int.reduceLT, Int.reduceLE, Int.reduceAdd, Int.reduceSub, Int.reduceMul, reduceIte, resVs, resV, packV, initT, addr]
  refine ⟨mx (M2.set (m.size + 3) .dead) [], ?_, ?_⟩
  · simp only [takeD]
    rw [mx_old q5, hd2]
    simp only
    rw [mx_set_old q5]
  · simp (implicitDefEqProofs := false) (maxSteps := 1000000) (disch := first | omega | with_reducible assumption | (simp only [lenT, Nat.reduceAdd]; omega)) only [amT, cut, bnd, Nat.reduceBEq, reduceCtorEq, Nat.reduceEqDiff, Nat.reduceAdd, Nat.reduceMul, Nat.reduceSub, Int.reduceToNat, Int.reduceEq, Int.reduceLT, Int.reduceLE, Int.reduceAdd, Int.reduceSub, Int.reduceMul, reduceIte, resVs, resV, packV, initT, addr]
    refine ⟨_, rfl, fun _ => ⟨a', c', rfl, ⟨?_, ?_, fun x hx => ?_⟩⟩⟩
    · refine Old.mx ⟨by rw [AMem.size_set]; exact Nat.le_trans hO.1 hO2.1, fun y hy => ?_⟩ []
      rw [AMem.get_set_ne _ _ (by omega), hO2.2 y (Nat.lt_of_lt_of_le hy hO.1)]; exact hO.2 y hy
    · exact (hS.strs.keep (O := fun x => x = m.size + 3) ⟨by rw [AMem.size_set]; exact Nat.le_refl _, fun x hx hn => AMem.get_set_ne _ _ hn⟩ hown).old (Old.here _ _)
    · have := hS.own x hx; rw [mx_nil_size] at this; have := hO.1; omega
end Go.Proofs.Ytighienjnhglnaa
namespace Go.Proofs.Ytighienjnhglnaa
open Go Go.AM
set_option linter.unusedVariables false
set_option linter.unusedSimpArgs false
set_option maxHeartbeats 4000000
set_option maxRecDepth 100000

theorem BSl.room {M : AMem} {b : Nat} {c : List UInt8} {e : TypeId} {w : Bool} (hb : b < M.size) (hm : M.get b = .cells (c.map byteV) e w (.room [.int .u8 0])) : BSl M (some ⟨b, 0, none⟩) openCap c :=
  .inr ⟨b, 0, _, e, w, _, rfl, hb, hm, by rw [← List.length_map (f := byteV)]; exact cutL_all rfl, .inl ⟨rfl, rfl⟩⟩
def zz : List UInt8 := List.replicate 32 48
theorem zz_len : zz.length = 32 := rfl
theorem refs_det (m : AMem) (a : Option Addr) (c : Nat) (b : List UInt8) (hb : BArg m a c b) (hl : b.length ≤ 1000000) (na : Option Addr) (nc : Nat) (names : List (List UInt8)) (h : StrR m na names) (hnl : names.length ≤ 100000) (hs : ∀ s ∈ names, s.length ≤ 100000) (hne : refsR b names ≠ []) :
    DetC Try.prog 1 12 [.slice a b.length c, .slice na names.length nc] m (.slice (strA m (refsR b names)) (refsR b names).length (strC (refsR b names))) (mx m (strO (refsR b names))) :=
  det_strs ((refs_ok m a c b hb hl na nc names h hnl hs).mono fun v M ⟨a', c', e, hS⟩ => ⟨hS.old, a', c', e, hS.strs, hS.own, fun h => absurd h hne⟩)
theorem bk_at (M : AMem) (l : List AObj) (k : Nat) (b : List UInt8) (h : l[k]? = some (.cells (b.map byteV) 5 true (.room [.int .u8 0]))) : BSl (mx M l) (some ⟨M.size + k, 0, none⟩) openCap b := by
  have hlt : k < l.length := (List.getElem?_eq_some_iff.1 h).1
  refine BSl.room (e := 5) (w := true) (by rw [mx_size]; omega) (by rw [mx_new]; simp [List.getD, h])
theorem rs_at (M : AMem) (l : List AObj) (k : Nat) (b : List (List UInt8)) {sp : Spare} (h : l[k]? = some (.cells (b.map sV) 9 true sp)) : StrR (mx M l) (some ⟨M.size + k, 0, none⟩) b := (src_at M l k h).str
theorem w0 : allR (zz.drop 1) = [] := by decide +kernel
theorem w1 : allR (zz ++ [48]) = [zz] := by decide +kernel
theorem w2 : allR (101 :: (zz ++ [101])) = [zz] := by decide +kernel
theorem w3 : allR (zz ++ [49]) = [zz, zz.drop 1 ++ [49]] := by decide +kernel
theorem w4 : refsR zz [zz ++ [45, 97], [98]] = [zz ++ [45, 97]] := by decide +kernel
theorem works_ok (m : AMem) : PureC Try.prog 1 6 [] m (.bool true) := by
  refine pure_of_W (fn := Try.f6) rfl rfl F6_ok (by simp [F6]) (.bool _) ?_
  have kZ := DetC.known (N.letters_ok (mx m []) N.zeroD rfl)
  have ez : N.lettersTo (N.zeroD.take 20) 32 = zz := N.f1
  rw [ez] at kZ
  have hz := zz_len
  have w0 := w0; have w1 := w1; have w2 := w2; have w3 := w3; have w4 := w4
  generalize zz = z at kZ hz w0 w1 w2 w3 w4
  have hzi : (z.length : Int) = 32 := by omega
  have hl1 : (List.drop 1 z).length = 31 := by simp [hz]
  have hl2 : ∀ x : UInt8, (z ++ [x]).length = 33 := fun x => by simp [hz]
  have hl3 : (101 :: (z ++ [101])).length = 34 := by simp [hz]
  have k0 := DetC.known (all_det (mx m [.cells ((z.drop 1).map byteV) 5 true (.room [.int .u8 0]), .dead, .dead, .dead, .dead, .dead, .dead, .dead, .dead, .dead]) _ _ (z.drop 1) (.of <| bk_at m [.cells ((z.drop 1).map byteV) 5 true (.room [.int .u8 0]), .dead, .dead, .dead, .dead, .dead, .dead, .dead, .dead, .dead] 0 (z.drop 1) rfl) (by simp; omega))
  have k1 := DetC.known (all_det (mx m [.cells ((z.drop 1).map byteV) 5 true (.room [.int .u8 0]), .cells ((z ++ [48]).map byteV) 5 true (.room [.int .u8 0]), .cells ([z].map sV) 9 true .exact, .dead, .dead, .dead, .dead, .dead, .dead, .dead]) _ _ (z ++ [48]) (.of <| bk_at m [.cells ((z.drop 1).map byteV) 5 true (.room [.int .u8 0]), .cells ((z ++ [48]).map byteV) 5 true (.room [.int .u8 0]), .cells ([z].map sV) 9 true .exact, .dead, .dead, .dead, .dead, .dead, .dead, .dead] 1 (z ++ [48]) rfl) (by simp; omega))
  have s1 := DetC.known (sameTexts_ok (mx m [.cells ((z.drop 1).map byteV) 5 true (.room [.int .u8 0]), .cells ((z ++ [48]).map byteV) 5 true (.room [.int .u8 0]), .cells ([z].map sV) 9 true .exact, .dead, .dead, .dead, .dead, .dead, .dead, .dead, .cells ([z].map sV) 9 true (.room [.string ⟨#[]⟩])]) _ openCap _ 1 ([z]) (rs_at m [.cells ((z.drop 1).map byteV) 5 true (.room [.int .u8 0]), .cells ((z ++ [48]).map byteV) 5 true (.room [.int .u8 0]), .cells ([z].map sV) 9 true .exact, .dead, .dead, .dead, .dead, .dead, .dead, .dead, .cells ([z].map sV) 9 true (.room [.string ⟨#[]⟩])] 10 ([z]) rfl) (rs_at m [.cells ((z.drop 1).map byteV) 5 true (.room [.int .u8 0]), .cells ((z ++ [48]).map byteV) 5 true (.room [.int .u8 0]), .cells ([z].map sV) 9 true .exact, .dead, .dead, .dead, .dead, .dead, .dead, .dead, .cells ([z].map sV) 9 true (.room [.string ⟨#[]⟩])] 2 ([z]) rfl) (by simp))
  have k2 := DetC.known (all_det (mx m [.cells ((z.drop 1).map byteV) 5 true (.room [.int .u8 0]), .cells ((z ++ [48]).map byteV) 5 true (.room [.int .u8 0]), .cells ([z].map sV) 9 true .exact, .cells ((101 :: (z ++ [101])).map byteV) 5 true (.room [.int .u8 0]), .cells ([z].map sV) 9 true .exact, .dead, .dead, .dead, .dead, .dead, .cells ([z].map sV) 9 true (.room [.string ⟨#[]⟩])]) _ _ (101 :: (z ++ [101])) (.of <| bk_at m [.cells ((z.drop 1).map byteV) 5 true (.room [.int .u8 0]), .cells ((z ++ [48]).map byteV) 5 true (.room [.int .u8 0]), .cells ([z].map sV) 9 true .exact, .cells ((101 :: (z ++ [101])).map byteV) 5 true (.room [.int .u8 0]), .cells ([z].map sV) 9 true .exact, .dead, .dead, .dead, .dead, .dead, .cells ([z].map sV) 9 true (.room [.string ⟨#[]⟩])] 3 (101 :: (z ++ [101])) rfl) (by simp; omega))
  have s2 := DetC.known (sameTexts_ok (mx m [.cells ((z.drop 1).map byteV) 5 true (.room [.int .u8 0]), .cells ((z ++ [48]).map byteV) 5 true (.room [.int .u8 0]), .cells ([z].map sV) 9 true .exact, .cells ((101 :: (z ++ [101])).map byteV) 5 true (.room [.int .u8 0]), .cells ([z].map sV) 9 true .exact, .dead, .dead, .dead, .dead, .dead, .cells ([z].map sV) 9 true (.room [.string ⟨#[]⟩]), .cells ([z].map sV) 9 true (.room [.string ⟨#[]⟩])]) _ openCap _ 1 ([z]) (rs_at m [.cells ((z.drop 1).map byteV) 5 true (.room [.int .u8 0]), .cells ((z ++ [48]).map byteV) 5 true (.room [.int .u8 0]), .cells ([z].map sV) 9 true .exact, .cells ((101 :: (z ++ [101])).map byteV) 5 true (.room [.int .u8 0]), .cells ([z].map sV) 9 true .exact, .dead, .dead, .dead, .dead, .dead, .cells ([z].map sV) 9 true (.room [.string ⟨#[]⟩]), .cells ([z].map sV) 9 true (.room [.string ⟨#[]⟩])] 11 ([z]) rfl) (rs_at m [.cells ((z.drop 1).map byteV) 5 true (.room [.int .u8 0]), .cells ((z ++ [48]).map byteV) 5 true (.room [.int .u8 0]), .cells ([z].map sV) 9 true .exact, .cells ((101 :: (z ++ [101])).map byteV) 5 true (.room [.int .u8 0]), .cells ([z].map sV) 9 true .exact, .dead, .dead, .dead, .dead, .dead, .cells ([z].map sV) 9 true (.room [.string ⟨#[]⟩]), .cells ([z].map sV) 9 true (.room [.string ⟨#[]⟩])] 4 ([z]) rfl) (by simp))
  have k3 := DetC.known (all_det (mx m [.cells ((z.drop 1).map byteV) 5 true (.room [.int .u8 0]), .cells ((z ++ [48]).map byteV) 5 true (.room [.int .u8 0]), .cells ([z].map sV) 9 true .exact, .cells ((101 :: (z ++ [101])).map byteV) 5 true (.room [.int .u8 0]), .cells ([z].map sV) 9 true .exact, .cells ((z ++ [49]).map byteV) 5 true (.room [.int .u8 0]), .cells ([z, z.drop 1 ++ [49]].map sV) 9 true .exact, .dead, .dead, .dead, .cells ([z].map sV) 9 true (.room [.string ⟨#[]⟩]), .cells ([z].map sV) 9 true (.room [.string ⟨#[]⟩])]) _ _ (z ++ [49]) (.of <| bk_at m [.cells ((z.drop 1).map byteV) 5 true (.room [.int .u8 0]), .cells ((z ++ [48]).map byteV) 5 true (.room [.int .u8 0]), .cells ([z].map sV) 9 true .exact, .cells ((101 :: (z ++ [101])).map byteV) 5 true (.room [.int .u8 0]), .cells ([z].map sV) 9 true .exact, .cells ((z ++ [49]).map byteV) 5 true (.room [.int .u8 0]), .cells ([z, z.drop 1 ++ [49]].map sV) 9 true .exact, .dead, .dead, .dead, .cells ([z].map sV) 9 true (.room [.string ⟨#[]⟩]), .cells ([z].map sV) 9 true (.room [.string ⟨#[]⟩])] 5 (z ++ [49]) rfl) (by simp; omega))
  have s3 := DetC.known (sameTexts_ok (mx m [.cells ((z.drop 1).map byteV) 5 true (.room [.int .u8 0]), .cells ((z ++ [48]).map byteV) 5 true (.room [.int .u8 0]), .cells ([z].map sV) 9 true .exact, .cells ((101 :: (z ++ [101])).map byteV) 5 true (.room [.int .u8 0]), .cells ([z].map sV) 9 true .exact, .cells ((z ++ [49]).map byteV) 5 true (.room [.int .u8 0]), .cells ([z, z.drop 1 ++ [49]].map sV) 9 true .exact, .dead, .dead, .dead, .cells ([z].map sV) 9 true (.room [.string ⟨#[]⟩]), .cells ([z].map sV) 9 true (.room [.string ⟨#[]⟩]), .cells ([z, z.drop 1 ++ [49]].map sV) 9 true (.room [.string ⟨#[]⟩])]) _ openCap _ 2 ([z, z.drop 1 ++ [49]]) (rs_at m [.cells ((z.drop 1).map byteV) 5 true (.room [.int .u8 0]), .cells ((z ++ [48]).map byteV) 5 true (.room [.int .u8 0]), .cells ([z].map sV) 9 true .exact, .cells ((101 :: (z ++ [101])).map byteV) 5 true (.room [.int .u8 0]), .cells ([z].map sV) 9 true .exact, .cells ((z ++ [49]).map byteV) 5 true (.room [.int .u8 0]), .cells ([z, z.drop 1 ++ [49]].map sV) 9 true .exact, .dead, .dead, .dead, .cells ([z].map sV) 9 true (.room [.string ⟨#[]⟩]), .cells ([z].map sV) 9 true (.room [.string ⟨#[]⟩]), .cells ([z, z.drop 1 ++ [49]].map sV) 9 true (.room [.string ⟨#[]⟩])] 12 ([z, z.drop 1 ++ [49]]) rfl) (rs_at m [.cells ((z.drop 1).map byteV) 5 true (.room [.int .u8 0]), .cells ((z ++ [48]).map byteV) 5 true (.room [.int .u8 0]), .cells ([z].map sV) 9 true .exact, .cells ((101 :: (z ++ [101])).map byteV) 5 true (.room [.int .u8 0]), .cells ([z].map sV) 9 true .exact, .cells ((z ++ [49]).map byteV) 5 true (.room [.int .u8 0]), .cells ([z, z.drop 1 ++ [49]].map sV) 9 true .exact, .dead, .dead, .dead, .cells ([z].map sV) 9 true (.room [.string ⟨#[]⟩]), .cells ([z].map sV) 9 true (.room [.string ⟨#[]⟩]), .cells ([z, z.drop 1 ++ [49]].map sV) 9 true (.room [.string ⟨#[]⟩])] 6 ([z, z.drop 1 ++ [49]]) rfl) (by simp))
  have k4 := DetC.known (refs_det (mx m [.cells ((z.drop 1).map byteV) 5 true (.room [.int .u8 0]), .cells ((z ++ [48]).map byteV) 5 true (.room [.int .u8 0]), .cells ([z].map sV) 9 true .exact, .cells ((101 :: (z ++ [101])).map byteV) 5 true (.room [.int .u8 0]), .cells ([z].map sV) 9 true .exact, .cells ((z ++ [49]).map byteV) 5 true (.room [.int .u8 0]), .cells ([z, z.drop 1 ++ [49]].map sV) 9 true .exact, .cells (z.map byteV) 5 true (.room [.int .u8 0]), .cells ([z ++ [45, 97], [98]].map sV) 9 true .exact, .cells ([z ++ [45, 97]].map sV) 9 true .exact, .cells ([z].map sV) 9 true (.room [.string ⟨#[]⟩]), .cells ([z].map sV) 9 true (.room [.string ⟨#[]⟩]), .cells ([z, z.drop 1 ++ [49]].map sV) 9 true (.room [.string ⟨#[]⟩])]) _ _ z (.of <| bk_at m [.cells ((z.drop 1).map byteV) 5 true (.room [.int .u8 0]), .cells ((z ++ [48]).map byteV) 5 true (.room [.int .u8 0]), .cells ([z].map sV) 9 true .exact, .cells ((101 :: (z ++ [101])).map byteV) 5 true (.room [.int .u8 0]), .cells ([z].map sV) 9 true .exact, .cells ((z ++ [49]).map byteV) 5 true (.room [.int .u8 0]), .cells ([z, z.drop 1 ++ [49]].map sV) 9 true .exact, .cells (z.map byteV) 5 true (.room [.int .u8 0]), .cells ([z ++ [45, 97], [98]].map sV) 9 true .exact, .cells ([z ++ [45, 97]].map sV) 9 true .exact, .cells ([z].map sV) 9 true (.room [.string ⟨#[]⟩]), .cells ([z].map sV) 9 true (.room [.string ⟨#[]⟩]), .cells ([z, z.drop 1 ++ [49]].map sV) 9 true (.room [.string ⟨#[]⟩])] 7 z rfl) (by omega) _ 2 [z ++ [45, 97], [98]] (rs_at m [.cells ((z.drop 1).map byteV) 5 true (.room [.int .u8 0]), .cells ((z ++ [48]).map byteV) 5 true (.room [.int .u8 0]), .cells ([z].map sV) 9 true .exact, .cells ((101 :: (z ++ [101])).map byteV) 5 true (.room [.int .u8 0]), .cells ([z].map sV) 9 true .exact, .cells ((z ++ [49]).map byteV) 5 true (.room [.int .u8 0]), .cells ([z, z.drop 1 ++ [49]].map sV) 9 true .exact, .cells (z.map byteV) 5 true (.room [.int .u8 0]), .cells ([z ++ [45, 97], [98]].map sV) 9 true .exact, .cells ([z ++ [45, 97]].map sV) 9 true .exact, .cells ([z].map sV) 9 true (.room [.string ⟨#[]⟩]), .cells ([z].map sV) 9 true (.room [.string ⟨#[]⟩]), .cells ([z, z.drop 1 ++ [49]].map sV) 9 true (.room [.string ⟨#[]⟩])] 8 [z ++ [45, 97], [98]] rfl) (by simp) (fun s hs => by simp at hs; rcases hs with rfl | rfl <;> simp <;> omega) (by rw [w4]; simp))
  have s4 := DetC.known (sameTexts_ok (mx m [.cells ((z.drop 1).map byteV) 5 true (.room [.int .u8 0]), .cells ((z ++ [48]).map byteV) 5 true (.room [.int .u8 0]), .cells ([z].map sV) 9 true .exact, .cells ((101 :: (z ++ [101])).map byteV) 5 true (.room [.int .u8 0]), .cells ([z].map sV) 9 true .exact, .cells ((z ++ [49]).map byteV) 5 true (.room [.int .u8 0]), .cells ([z, z.drop 1 ++ [49]].map sV) 9 true .exact, .cells (z.map byteV) 5 true (.room [.int .u8 0]), .cells ([z ++ [45, 97], [98]].map sV) 9 true .exact, .cells ([z ++ [45, 97]].map sV) 9 true .exact, .cells ([z].map sV) 9 true (.room [.string ⟨#[]⟩]), .cells ([z].map sV) 9 true (.room [.string ⟨#[]⟩]), .cells ([z, z.drop 1 ++ [49]].map sV) 9 true (.room [.string ⟨#[]⟩]), .cells ([z ++ [45, 97]].map sV) 9 true (.room [.string ⟨#[]⟩])]) _ openCap _ 1 ([z ++ [45, 97]]) (rs_at m [.cells ((z.drop 1).map byteV) 5 true (.room [.int .u8 0]), .cells ((z ++ [48]).map byteV) 5 true (.room [.int .u8 0]), .cells ([z].map sV) 9 true .exact, .cells ((101 :: (z ++ [101])).map byteV) 5 true (.room [.int .u8 0]), .cells ([z].map sV) 9 true .exact, .cells ((z ++ [49]).map byteV) 5 true (.room [.int .u8 0]), .cells ([z, z.drop 1 ++ [49]].map sV) 9 true .exact, .cells (z.map byteV) 5 true (.room [.int .u8 0]), .cells ([z ++ [45, 97], [98]].map sV) 9 true .exact, .cells ([z ++ [45, 97]].map sV) 9 true .exact, .cells ([z].map sV) 9 true (.room [.string ⟨#[]⟩]), .cells ([z].map sV) 9 true (.room [.string ⟨#[]⟩]), .cells ([z, z.drop 1 ++ [49]].map sV) 9 true (.room [.string ⟨#[]⟩]), .cells ([z ++ [45, 97]].map sV) 9 true (.room [.string ⟨#[]⟩])] 13 ([z ++ [45, 97]]) rfl) (rs_at m [.cells ((z.drop 1).map byteV) 5 true (.room [.int .u8 0]), .cells ((z ++ [48]).map byteV) 5 true (.room [.int .u8 0]), .cells ([z].map sV) 9 true .exact, .cells ((101 :: (z ++ [101])).map byteV) 5 true (.room [.int .u8 0]), .cells ([z].map sV) 9 true .exact, .cells ((z ++ [49]).map byteV) 5 true (.room [.int .u8 0]), .cells ([z, z.drop 1 ++ [49]].map sV) 9 true .exact, .cells (z.map byteV) 5 true (.room [.int .u8 0]), .cells ([z ++ [45, 97], [98]].map sV) 9 true .exact, .cells ([z ++ [45, 97]].map sV) 9 true .exact, .cells ([z].map sV) 9 true (.room [.string ⟨#[]⟩]), .cells ([z].map sV) 9 true (.room [.string ⟨#[]⟩]), .cells ([z, z.drop 1 ++ [49]].map sV) 9 true (.room [.string ⟨#[]⟩]), .cells ([z ++ [45, 97]].map sV) 9 true (.room [.string ⟨#[]⟩])] 9 ([z ++ [45, 97]]) rfl) (by simp))
  rw [w0] at k0
  rw [w1] at k1
  rw [w2] at k2
  rw [w3] at k3
  rw [w4] at k4
  simp only [strA, strC, strO, mx_mx, mx_size, List.length_cons, List.length_nil, List.length_append, List.length_drop, hz, if_true, if_neg (List.cons_ne_nil _ _), List.append_nil, List.cons_append, List.nil_append, Nat.zero_add, Nat.reduceAdd, Nat.reduceSub, Nat.add_zero, List.map_cons, List.map_nil, sV] at k0 k1 k2 k3 k4 s1 s2 s3 s4
  repeat first | simp (implicitDefEqProofs := false) (maxSteps := 1000000) (disch := first | omega | with_reducible assumption | (simp only [lenT, Nat.reduceAdd]; omega)) only [amT, cut, bnd, Nat.reduceBEq, reduceCtorEq, Nat.reduceEqDiff, Nat.reduceAdd, Nat.reduceMul, Nat.reduceSub, Int.reduceToNat, Int.reduceEq, Int.reduceLT, Int.reduceLE, Int.reduceAdd, Int.reduceSub, Int.reduceMul, reduceIte, resVs, resV, packV, initT, addr, F6, N.z32, kZ, hzi, hz, hl1, hl2, hl3, k0, k1, k2, k3, k4, s1, s2, s3, s4] | refine OrW.go ?_
  done
end Go.Proofs.Ytighienjnhglnaa
namespace Go.Proofs.Ytighienjnhglnaa
open Go Go.AM
set_option linter.unusedVariables false
set_option linter.unusedSimpArgs false
set_option maxHeartbeats 2000000
set_option maxRecDepth 100000

theorem allR_len (b : List UInt8) : (allR b).length ≤ b.length + 1 := by
  have h1 := onceR_len (wins okL b)
  have h2 := winsTo_len okL b (b.length + 1 - 32)
  unfold allR; unfold wins at *; omega
theorem lawAll (m : AMem) (a : Option Addr) (c : Nat) (b : List UInt8) (hb : BArg m a c b) (hbl : b.length ≤ 9223372036854775807) : PureC Try.prog 1 3 [.slice a b.length c] m (.bool true) := by
  refine pure_of_W (fn := Try.f3) rfl rfl F3_ok (by simp [F3]) (.bool _) ?_
  have kw := DetC.known (works_ok (mx m []))
  by_cases h : (600 : Int) < (b.length : Int)
  · repeat first | simp (implicitDefEqProofs := false) (maxSteps := 1000000) (disch := first | omega | with_reducible assumption | (simp only [lenT, Nat.reduceAdd]; omega)) only [amT, cut, bnd, Nat.reduceBEq, reduceCtorEq, Nat.reduceEqDiff, Nat.reduceAdd, Nat.reduceMul, Nat.reduceSub, Int.reduceToNat, Int.reduceEq, Int.reduceLT, Int.reduceLE, Int.reduceAdd, Int.reduceSub, Int.reduceMul, reduceIte, resVs, resV, packV, initT, addr, F3, h, kw] | refine OrW.go ?_
  have hl : b.length ≤ 600 := by omega
  have s0 := hb.str _ (Old.here m [])
  have hown0 : BSl (mx m [.cells (b.map byteV) 5 true (.room [.int .u8 0])]) (some ⟨m.size, 0, none⟩) openCap b := BSl.room (e := 5) (w := true) (by rw [mx_size]; simp) (mx_new0 _ _)
  have hA := all_ok (mx m [.cells (b.map byteV) 5 true (.room [.int .u8 0])]) _ _ b (.of hown0) (by omega)
  repeat first | simp (implicitDefEqProofs := false) (maxSteps := 1000000) (disch := first | omega | with_reducible assumption | (simp only [lenT, Nat.reduceAdd]; omega)) only [amT, cut, bnd, Nat.reduceBEq, reduceCtorEq, Nat.reduceEqDiff, Nat.reduceAdd, Nat.reduceMul, Nat.reduceSub, Int.reduceToNat, Int.reduceEq, Int.reduceLT, Int.reduceLE, Int.reduceAdd, Int.reduceSub, Int.reduceMul, reduceIte, resVs, resV, packV, initT, addr, F3, h, stepOp_b2s_v, s0] | refine OrW.go ?_
  refine RelC.call hA ?_
  rintro r M1 ⟨hO1, a1, c1, rfl, hB1, ho1, -⟩
  have hz1 := hO1.1
  rw [mx_size] at hz1
  simp only [List.length_cons, List.length_nil, Nat.zero_add] at hz1
  have hOm1 : Old m M1 := (Old.here m _).trans hO1
  have hp1 : M1.get m.size = .cells (b.map byteV) 5 true (.room [.int .u8 0]) := by rw [hO1.2 _ (by rw [mx_size]; simp)]; exact mx_new0 _ _
  have hR := refAll_ok (mx M1 []) a c b (hb.old (hOm1.mx [])) (by omega)
  repeat first | simp (implicitDefEqProofs := false) (maxSteps := 1000000) (disch := first | omega | with_reducible assumption | (simp only [lenT, Nat.reduceAdd]; omega)) only [amT, cut, bnd, Nat.reduceBEq, reduceCtorEq, Nat.reduceEqDiff, Nat.reduceAdd, Nat.reduceMul, Nat.reduceSub, Int.reduceToNat, Int.reduceEq, Int.reduceLT, Int.reduceLE, Int.reduceAdd, Int.reduceSub, Int.reduceMul, reduceIte, resVs, resV, packV, initT, addr] | refine OrW.go ?_
  refine RelC.call hR ?_
  rintro r M2 ⟨a2, c2, rfl, hS2⟩
  have hO12 : Old M1 M2 := (Old.here M1 []).trans hS2.old
  have hz2 := hO12.1
  have hp2 : M2.get m.size = .cells (b.map byteV) 5 true (.room [.int .u8 0]) := by rw [hO12.2 _ (by omega)]; exact hp1
  have hlen := allR_len b
  have hB12 := hB1.old hO12
  have ks := DetC.known (sameTexts_ok (mx M2 []) a1 c1 a2 c2 (allR b) (hB12.row.old (Old.here _ _)) (hS2.strs.row.old (Old.here _ _)) (by omega))
  have hown2 : BSl (mx M2 []) (some ⟨m.size, 0, none⟩) openCap b := (BSl.room (e := 5) (w := true) (by omega) hp2).old (Old.here _ _)
  have s1 := hown2.str
  have s2 := hb.str _ ((hOm1.trans hO12).mx [])
  repeat first | simp (implicitDefEqProofs := false) (maxSteps := 1000000) (disch := first | omega | with_reducible assumption | (simp only [lenT, Nat.reduceAdd]; omega)) only [amT, cut, bnd, Nat.reduceBEq, reduceCtorEq, Nat.reduceEqDiff, Nat.reduceAdd, Nat.reduceMul, Nat.reduceSub, Int.reduceToNat, Int.reduceEq, Int.reduceLT, Int.reduceLE, Int.reduceAdd, Int.reduceSub, Int.reduceMul, reduceIte, resVs, resV, packV, initT, addr, ks, stepOp_b2s_v, s1, s2] | refine OrW.go ?_
  refine W_loop (fun N qs => ∃ (i : Nat) (M : AMem) (X : List Value), N = b.length - i ∧ qs.ds = [] ∧ qs.m = mx M [] ∧ qs.t 3 = .slice (some ⟨m.size, 0, none⟩) b.length openCap ∧ qs.t 4 = .slice a1 (allR b).length c1 ∧ qs.t 5 = .slice a2 (allR b).length c2 ∧ qs.t 6 = .int .i64 i ∧ i ≤ b.length ∧ X.length = b.length ∧ M.size = M2.size ∧ M.get m.size = .cells X 5 true (.room [.int .u8 0]) ∧ (∀ y, y ≠ m.size → M.get y = M2.get y)) (b.length - (0)) ⟨0, M2, b.map byteV, rfl, rfl, ?qm, ?q3, ?q4, ?q5, ?q6, ?_⟩ ?_
  case qm | q3 | q4 | q5 | q6 => first | rfl | (simp (implicitDefEqProofs := false) (maxSteps := 1000000) (disch := first | omega | with_reducible assumption | (simp only [lenT, Nat.reduceAdd]; omega)) only [amT, cut, bnd, Nat.reduceBEq, reduceCtorEq, Nat.reduceEqDiff, Nat.reduceAdd, Nat.reduceMul, Nat.reduceSub, Int.reduceToNat, Int.reduceEq, Int.reduceLT, Int.reduceLE, Int.reduceAdd, Int.reduceSub, Int.reduceMul, reduceIte, resVs, resV, packV, initT, addr]; first | done | rfl | (congr 1; omega))
  · exact ⟨by omega, by simp, rfl, hp2, fun y _ => rfl⟩
  · rintro N t m1 ds ⟨i, M, X, rfl, hds, hm, t3, t4, t5, t6, hp⟩
    simp only at hds hm t3 t4 t5 t6
    subst hds; replace hm := hm.symm; subst hm
    obtain ⟨hi, hXl, hMs, hMp, hMk⟩ := hp
    by_cases g : (i : Int) < (b.length : Int)
    · have hi' : i < X.length := by omega
      have hpl : m.size < M.size := by omega
      repeat first | simp (implicitDefEqProofs := false) (maxSteps := 1000000) (disch := first | omega | with_reducible assumption | (simp only [lenT, Nat.reduceAdd]; omega)) only [amT, cut, bnd, Nat.reduceBEq, reduceCtorEq, Nat.reduceEqDiff, Nat.reduceAdd, Nat.reduceMul, Nat.reduceSub, Int.reduceToNat, Int.reduceEq, Int.reduceLT, Int.reduceLE, Int.reduceAdd, Int.reduceSub, Int.reduceMul, reduceIte, resVs, resV, packV, initT, addr, F3_l0, t3, t4, t5, t6, g, hMp] | refine OrW.go ?_
      rw [LoopK_normal]; refine ⟨_, ?_, i + 1, M.set m.size (.cells (X.set i (.int .u8 63)) 5 true (.room [.int .u8 0])), X.set i (.int .u8 63), rfl, rfl, ?qm, ?q3, ?q4, ?q5, ?q6, ?_⟩
      case qm | q3 | q4 | q5 | q6 => first | rfl | (simp (implicitDefEqProofs := false) (maxSteps := 1000000) (disch := first | omega | with_reducible assumption | (simp only [lenT, Nat.reduceAdd]; omega)) only [amT, cut, bnd, Nat.reduceBEq, reduceCtorEq, Nat.reduceEqDiff, Nat.reduceAdd, Nat.reduceMul, Nat.reduceSub, Int.reduceToNat, Int.reduceEq, Int.reduceLT, Int.reduceLE, Int.reduceAdd, Int.reduceSub, Int.reduceMul, reduceIte, resVs, resV, packV, initT, addr, t3, t4, t5, t6]; first | done | rfl | (congr 1; omega))
      · omega
      · exact ⟨by omega, by rw [List.length_set]; exact hXl, hMs, AMem.get_set_self _ _ _, fun y hy => by rw [AMem.get_set_ne _ _ hy]; exact hMk y hy⟩
    · have hk : Keep (fun x => x = m.size) M2 M := ⟨by omega, fun x _ hn => hMk x hn⟩
      have q1 := hB12.keep hk (fun x hx e => by have := ho1 x hx; rw [mx_size] at this; simp at this; omega)
      have q2 := hS2.strs.keep hk (fun x hx e => by have := hS2.own x hx; rw [mx_nil_size] at this; omega)
      have kl := DetC.known (sameTexts_ok (mx M []) a1 c1 a2 c2 (allR b) (q1.row.old (Old.here _ _)) (q2.row.old (Old.here _ _)) (by omega))
      have kw2 := DetC.known (works_ok (mx M []))
      have hOM : Old m M := ⟨by omega, fun y hy => by rw [hMk y (by omega)]; exact (hOm1.trans hO12).2 y hy⟩
      repeat first | simp (implicitDefEqProofs := false) (maxSteps := 1000000) (disch := first | omega | with_reducible assumption | (simp only [lenT, Nat.reduceAdd]; omega)) only [amT, cut, bnd, Nat.reduceBEq, reduceCtorEq, Nat.reduceEqDiff, Nat.reduceAdd, Nat.reduceMul, Nat.reduceSub, Int.reduceToNat, Int.reduceEq, Int.reduceLT, Int.reduceLE, Int.reduceAdd, Int.reduceSub, Int.reduceMul, reduceIte, resVs, resV, packV, initT, addr, F3_l0, t3, t4, t5, t6, g, kl, kw2] | refine OrW.go ?_
      exact hOM.mx []
end Go.Proofs.Ytighienjnhglnaa
namespace Go.Proofs.Ytighienjnhglnaa
open Go Go.AM
theorem rep1 {W : World} {l : List (AObj × AM.Loc)} (hl : ∀ x ∈ l, ObjRel (renOf (os0 l)) x.1 x.2 W) (hw : ∀ x ∈ l, x.1.wrt = false) : Rep 1 (memOf (os0 l)) (renOf (os0 l)) W := by
  refine Rep.of (os0 l) (fun g hg => ?_) (fun x hx => ?_) (wrt0 hw)
  · obtain rfl : g = 0 := by omega
    exact ⟨_, rfl, rfl, rfl⟩
  · simp only [os0, List.mem_cons] at hx
    rcases hx with rfl | hx
    · trivial
    · exact hl x hx
theorem arg_b {W : World} {v : Value} (h : SlB W v) (k : Nat) : ∃ (x : AObj × AM.Loc) (a : Option Addr) (cap : Nat) (c : List UInt8), x.1.wrt = false ∧ (∀ ρ, ObjRel ρ x.1 x.2 W) ∧ c.length ≤ 9223372036854775807 ∧
    ∀ l : List (AObj × AM.Loc), l[k]? = some x → BArg (memOf (os0 l)) a cap c ∧ VRel (renOf (os0 l)) (.slice a c.length cap) v := by
  cases h with
  | nil => exact ⟨(.dead, ⟨0, 0, 0, 1⟩), none, 0, [], rfl, fun _ => trivial, by simp, fun l hl => ⟨.of (.inl ⟨rfl, rfl, rfl⟩), .nilSlice 0 0⟩⟩
  | none a => exact ⟨(.dead, ⟨0, 0, 0, 1⟩), some ⟨0, 0, none⟩, 0, [], rfl, fun _ => trivial, by simp, fun l hl => ⟨.zero _ 0 0, .sliceEnd (b := 0) (o := 0) (L := ⟨0, 0, 0, 1⟩) rfl (.inl rfl)⟩⟩
  | some b o cap c carr t frz hh hl hc hcap hle =>
    have ho := fun ρ => ObjRel.plain (ρ := ρ) (c := c.map byteV) (o := o) (e := t) hh (by rw [List.length_map]; exact hl) (fun j hj => by rw [List.getElem_map]; exact hc j (by simpa using hj)) (plain_byteV c) 1 (by omega)
    rw [List.length_map] at ho
    refine ⟨(.cells (c.map byteV) t false (.full 1), ⟨b, o, c.length, 1⟩), some ⟨1 + k, 0, none⟩, cap, c, rfl, ho, Nat.le_trans hle hcap, fun l hk => ⟨.of (.inr ⟨1 + k, 0, _, _, _, _, rfl, lt0_at hk, get0_at hk, ?_, .inr ⟨openCap_lt hcap, hle⟩⟩), ?_⟩⟩
    · rw [← List.length_map (f := byteV)]; exact cutL_all rfl
    · exact .slice (b := 1 + k) (o := 0) (ren0_at hk) (openCap_lt hcap)
end Go.Proofs.Ytighienjnhglnaa
