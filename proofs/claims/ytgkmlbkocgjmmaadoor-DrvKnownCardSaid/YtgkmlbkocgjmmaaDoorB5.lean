/- Derivations: the reference's Put and Name. -/
import Derived.Test.YtgkmlbkocgjmmaaDoorB4
import Derived.Test.YtgkmlbkocgjmmaaDoorB1
import Derived.Test.YtgkmlbkocgjmmaaDoorB2
import Derived.Test.YtgkmlbkocgjmmaaDoorB3
import Derived.Test.YtgkmlbkocgjmmaaDoorDrvF3
import Derived.Test.YtgkmlbkocgjmmaaDoorDrvF5
import Derived.Test.YtgkmlbkocgjmmaaDoorA4
import Derived.Test.YtgkmlbkocgjmmaaDoorRows
import Derived.WalkKit
import Derived.ProofKit
import Derived.OpenShut
import Derived.ShutString
import Derived.ChangeOld
import Derived.Below
import Derived.SizedLaws
import Derived.Handed
import Derived.JoinedOf
import Derived.Deep.Slices
set_option linter.unusedVariables false
set_option linter.unusedSimpArgs false
set_option linter.unnecessarySimpa false
open Nat renaming reduceBEq → zA, reduceEqDiff → zB, reduceAdd → zC, reduceMul → zD, reduceSub → zE
open Int renaming reduceToNat → zF, reduceEq → zG, reduceLT → zH, reduceLE → zI, reduceAdd → zJ, reduceSub → zK, reduceMul → zL
namespace Go.Proofs.YtgkmlbkocgjmmaaDoor.S
open Go Go.AM
set_option maxRecDepth 100000
set_option linter.unusedVariables false
set_option linter.unusedSimpArgs false

theorem kDigit2 {m : AMem} {c : UInt8} : Known Tryd.prog 3 79 [.int .u8 (c.toNat : Int)] m (byteV (dgB c)) m := DetC.known (digit_ok m c)
theorem mul16 (x : UInt32) : binV .mul (w32 x) (.int .u32 16) = some (w32 (x * 16)) := by
  rw [w32_def, binV_mul, w32_def, show (x.toNat : Int) * 16 = ((x.toNat * 16 : Nat) : Int) by push_cast; rfl, wrap_u32n, UInt32.toNat_mul]; rfl
def wordsP (l : List UInt8) : Nat → List UInt32
  | 0 => List.replicate (l.length / 8) 0
  | i + 1 => (wordsP l i).set (i / 8) ((wordsP l i).getD (i / 8) 0 * 16 + UInt32.ofNat (dgB (l.getD i 0)).toNat)
theorem wordsP_length (l : List UInt8) : ∀ i, (wordsP l i).length = l.length / 8
  | 0 => by simp [wordsP]
  | i + 1 => by simp [wordsP, wordsP_length l i]
theorem rep_w (n : Nat) : rep [.int .u32 0] n = (List.replicate n (0 : UInt32)).map w32 := by
  simp only [rep, List.map_replicate]
  induction n with
  | zero => rfl
  | succ n ih => rw [List.replicate_succ, List.flatten_cons, ih]; rfl

theorem words_ok (m : AMem) (l : List UInt8) (h8 : l.length % 8 = 0) (hn : l.length ≤ 1000000) :
    DetC Tryd.prog 3 62 [.string ⟨l.toArray⟩] m (.slice (some ⟨m.size, 0, none⟩) (l.length / 8) (l.length / 8)) (mx m [.cells ((wordsP l l.length).map w32) 91 true .exact]) := by
  refine det_of_W (fn := Tryd.f62) rfl rfl F62_ok (by simp [F62]) ?_
  have e1 : ∀ i : Nat, (i : Int).tdiv 8 = ((i / 8 : Nat) : Int) := fun i => tdiv_nat i 8
  simp -implicitDefEqProofs (disch := first | omega | with_reducible assumption | (simp only [zU, zC]; omega)) only [zT, zA, reduceCtorEq, zB, zC, zD, zE, zF, zG, zH, zI, zJ, zK, zL, reduceIte, F62, e1, rep_w]
  refine W_loop (fun N qs => ∃ (i : Nat), N = l.length - i ∧ qs.ds = [] ∧ qs.m = mx m [.cells ((wordsP l i).map w32) 91 true .exact] ∧ qs.t 0 = .string ⟨l.toArray⟩ ∧ qs.t 3 = .slice (some ⟨m.size, 0, none⟩) (l.length / 8) (l.length / 8) ∧ qs.t 4 = .int .i64 i ∧ i ≤ l.length) (l.length - (0)) ⟨0, rfl, rfl, ?qm, ?q0, ?q3, ?q4, ?_⟩ ?_
  case qm | q0 | q3 | q4 => first | rfl | (simp -implicitDefEqProofs (disch := first | omega | with_reducible assumption | (simp only [zU, zC]; omega)) only [zT, zA, reduceCtorEq, zB, zC, zD, zE, zF, zG, zH, zI, zJ, zK, zL, reduceIte, wordsP]; first | done | rfl | (congr 1; omega))
  · omega
  · rintro N t m1 ds ⟨i, rfl, hds, hm, t0, t3, t4, hp⟩
    simp only at hds hm t0 t3 t4
    subst hds; replace hm := hm.symm; subst hm
    have hwl := wordsP_length l i
    by_cases hi : (i : Int) < (l.length : Int)
    · have hi' : i < l.length := by omega
      have hlt : i / 8 < (wordsP l i).length := by omega
      have hn : wordsP l (i + 1) = (wordsP l i).set (i / 8) ((wordsP l i)[i / 8] * 16 + UInt32.ofNat (dgB l[i]).toNat) := by
        rw [wordsP]; simp [hlt, hi']
      have hd := (dgB l[i]).toNat_lt
      simp -implicitDefEqProofs (disch := first | omega | with_reducible assumption | (simp only [zU, zC]; omega)) only [zT, zA, reduceCtorEq, zB, zC, zD, zE, zF, zG, zH, zI, zJ, zK, zL, reduceIte, F62_l0, t0, t3, t4, hi, e1, amW, mul16, kDigit2, byteV_def, w32_of_byte]
      repeat refine OrW.go ?_
      rw [LoopK_normal]; refine ⟨_, ?_, i + 1, rfl, rfl, ?qm, ?q0, ?q3, ?q4, ?_⟩
      case qm | q0 | q3 | q4 => first | rfl | (simp -implicitDefEqProofs (disch := first | omega | with_reducible assumption | (simp only [zU, zC]; omega)) only [zT, zA, reduceCtorEq, zB, zC, zD, zE, zF, zG, zH, zI, zJ, zK, zL, reduceIte, t0, t3, t4, hn]; first | done | rfl | (congr 1; omega))
      · omega
      · omega
    · have hi' : i = l.length := by omega
      subst hi'
      simp -implicitDefEqProofs (disch := first | omega | with_reducible assumption | (simp only [zU, zC]; omega)) only [zT, zA, reduceCtorEq, zB, zC, zD, zE, zF, zG, zH, zI, zJ, zK, zL, reduceIte, F62_l0, t0, t3, t4, hi]
      exact fun _ => ⟨_, [m.size], m, _, rfl, Kept.one (Nat.le_refl _) (by simp -implicitDefEqProofs (disch := first | omega | with_reducible assumption | (simp only [zU, zC]; omega)) only [zT, zA, reduceCtorEq, zB, zC, zD, zE, zF, zG, zH, zI, zJ, zK, zL, reduceIte]) (fun v hv => by simp only [List.mem_map] at hv; obtain ⟨x, _, rfl⟩ := hv; exact plain_w32 _) rfl (fun x hx => ⟨rfl, mx_old hx⟩), .slice keepS_new0, rfl⟩

/-! The chain of states. -/
def chainR (l : List UInt8) : Nat → List UInt32
  | 0 => beginW
  | i + 1 => zip2 (chainR l i) (roundsW constW ((l.drop (64 * i)).take 64) (chainR l i) 64)
theorem chainR_length (l : List UInt8) : ∀ i, (chainR l i).length = 8
  | 0 => rfl
  | i + 1 => zip2_length (chainR_length l i) (by rw [roundsW_length, chainR_length l i])
theorem hs_chain (l : List UInt8) : ∀ i, 64 * i ≤ l.length → zip2 beginW (hs0.put (l.take (64 * i))).M = chainR l i
  | 0, _ => by rw [Nat.mul_zero, List.take_zero]; show zip2 beginW (hs0.put []).M = beginW; decide +kernel
  | i + 1, h => by
    have ih := hs_chain l i (by omega)
    have hok : (hs0.put (l.take (64 * i))).ok := HS.put_ok hs0_ok _
    have hn : (hs0.put (l.take (64 * i))).n = 64 * i := by rw [HS.put_n]; simp [hs0]; omega
    have hbl : ((l.drop (64 * i)).take 64).length = 64 := by simp; omega
    rw [show 64 * (i + 1) = 64 * i + 64 by omega, List.take_add, HS.put_append, HS.put_full hok (by intro h; rw [h] at hbl; simp at hbl) (by rw [hn, hbl]; omega)]
    have h0 : (hs0.put (l.take (64 * i))).n % 64 = 0 := by rw [hn]; omega
    simp only [h0]
    rw [spl_all (by rw [hbl, hok.2]), moreStep, ← zip2_assoc, ih]; rfl
theorem shaR_chain (l : List UInt8) : shaR l = dig (chainR (l ++ padB l.length) ((l ++ padB l.length).length / 64)) := by
  have hpl : (padB l.length).length = 1 + zerosN l.length + 8 := by rw [padB, List.length_append, padA_length, lenB_length]
  have hz : zerosN l.length = (119 - l.length % 64) % 64 := rfl
  have hL : 64 * ((l ++ padB l.length).length / 64) = (l ++ padB l.length).length := by rw [List.length_append, hpl, hz]; omega
  have := hs_chain (l ++ padB l.length) ((l ++ padB l.length).length / 64) (by omega)
  rw [hL, List.take_length, HS.put_append] at this
  rw [shaR, sumOf, ← this]
  have hn : (hs0.put l).n = l.length := by rw [HS.put_n]; simp [hs0]
  rw [hn]
abbrev firstS : List UInt8 := [54, 97, 48, 57, 101, 54, 54, 55, 98, 98, 54, 55, 97, 101, 56, 53, 51, 99, 54, 101, 102, 51, 55, 50, 97, 53, 52, 102, 102, 53, 51, 97, 53, 49, 48, 101, 53, 50, 55, 102, 57, 98, 48, 53, 54, 56, 56, 99, 49, 102, 56, 51, 100, 57, 97, 98, 53, 98, 101, 48, 99, 100, 49, 57]
theorem first_words : wordsP firstS firstS.length = beginW := by decide +kernel
abbrev constS : List UInt8 := [52, 50, 56, 97, 50, 102, 57, 56, 55, 49, 51, 55, 52, 52, 57, 49, 98, 53, 99, 48, 102, 98, 99, 102, 101, 57, 98, 53, 100, 98, 97, 53, 51, 57, 53, 54, 99, 50, 53, 98, 53, 57, 102, 49, 49, 49, 102, 49, 57, 50, 51, 102, 56, 50, 97, 52, 97, 98, 49, 99, 53, 101, 100, 53, 100, 56, 48, 55, 97, 97, 57, 56, 49, 50, 56, 51, 53, 98, 48, 49, 50, 52, 51, 49, 56, 53, 98, 101, 53, 53, 48, 99, 55, 100, 99, 51, 55, 50, 98, 101, 53, 100, 55, 52, 56, 48, 100, 101, 98, 49, 102, 101, 57, 98, 100, 99, 48, 54, 97, 55, 99, 49, 57, 98, 102, 49, 55, 52, 101, 52, 57, 98, 54, 57, 99, 49, 101, 102, 98, 101, 52, 55, 56, 54, 48, 102, 99, 49, 57, 100, 99, 54, 50, 52, 48, 99, 97, 49, 99, 99, 50, 100, 101, 57, 50, 99, 54, 102, 52, 97, 55, 52, 56, 52, 97, 97, 53, 99, 98, 48, 97, 57, 100, 99, 55, 54, 102, 57, 56, 56, 100, 97, 57, 56, 51, 101, 53, 49, 53, 50, 97, 56, 51, 49, 99, 54, 54, 100, 98, 48, 48, 51, 50, 55, 99, 56, 98, 102, 53, 57, 55, 102, 99, 55, 99, 54, 101, 48, 48, 98, 102, 51, 100, 53, 97, 55, 57, 49, 52, 55, 48, 54, 99, 97, 54, 51, 53, 49, 49, 52, 50, 57, 50, 57, 54, 55, 50, 55, 98, 55, 48, 97, 56, 53, 50, 101, 49, 98, 50, 49, 51, 56, 52, 100, 50, 99, 54, 100, 102, 99, 53, 51, 51, 56, 48, 100, 49, 51, 54, 53, 48, 97, 55, 51, 53, 52, 55, 54, 54, 97, 48, 97, 98, 98, 56, 49, 99, 50, 99, 57, 50, 101, 57, 50, 55, 50, 50, 99, 56, 53, 97, 50, 98, 102, 101, 56, 97, 49, 97, 56, 49, 97, 54, 54, 52, 98, 99, 50, 52, 98, 56, 98, 55, 48, 99, 55, 54, 99, 53, 49, 97, 51, 100, 49, 57, 50, 101, 56, 49, 57, 100, 54, 57, 57, 48, 54, 50, 52, 102, 52, 48, 101, 51, 53, 56, 53, 49, 48, 54, 97, 97, 48, 55, 48, 49, 57, 97, 52, 99, 49, 49, 54, 49, 101, 51, 55, 54, 99, 48, 56, 50, 55, 52, 56, 55, 55, 52, 99, 51, 52, 98, 48, 98, 99, 98, 53, 51, 57, 49, 99, 48, 99, 98, 51, 52, 101, 100, 56, 97, 97, 52, 97, 53, 98, 57, 99, 99, 97, 52, 102, 54, 56, 50, 101, 54, 102, 102, 51, 55, 52, 56, 102, 56, 50, 101, 101, 55, 56, 97, 53, 54, 51, 54, 102, 56, 52, 99, 56, 55, 56, 49, 52, 56, 99, 99, 55, 48, 50, 48, 56, 57, 48, 98, 101, 102, 102, 102, 97, 97, 52, 53, 48, 54, 99, 101, 98, 98, 101, 102, 57, 97, 51, 102, 55, 99, 54, 55, 49, 55, 56, 102, 50]
theorem const_words : wordsP constS constS.length = constW := by decide +kernel
theorem firstS_len : firstS.length = 64 := by decide +kernel
theorem constS_len : constS.length = 512 := by decide +kernel
theorem kFirst {m : AMem} : Known Tryd.prog 3 62 [.string ⟨firstS.toArray⟩] m (.slice (some ⟨m.size, 0, none⟩) 8 8) (mx m [.cells (beginW.map w32) 91 true .exact]) := by
  have := words_ok m firstS (by decide +kernel) (by decide +kernel)
  rw [first_words, firstS_len] at this
  exact DetC.known this
theorem kConst {m : AMem} : Known Tryd.prog 3 62 [.string ⟨constS.toArray⟩] m (.slice (some ⟨m.size, 0, none⟩) 64 64) (mx m [.cells (constW.map w32) 91 true .exact]) := by
  have := words_ok m constS (by decide +kernel) (by decide +kernel)
  rw [const_words, constS_len] at this
  exact DetC.known this
end Go.Proofs.YtgkmlbkocgjmmaaDoor.S
namespace Go.Proofs.YtgkmlbkocgjmmaaDoor.S
open Go Go.AM
set_option linter.unusedVariables false
set_option linter.unusedSimpArgs false

set_option maxRecDepth 20000 in
theorem refSum_ok (m : AMem) (a : Option Addr) (cap : Nat) (c : List UInt8) (hc : BSl m a cap c) (hn : c.length ≤ 1000000) :
    PureC Tryd.prog 3 37 [.slice a c.length cap] m (.agg ((shaR c).map byteV).toArray) := by
  refine pure_of_W (fn := Tryd.f37) rfl rfl F37_ok (Nat.le_of_ble_eq_true rfl) (.bytes _) ?_
  have hmsg := DetC.known (message_ok (mx m [.cells ((List.replicate 32 (0 : UInt8)).map byteV) 52 true .exact, .cells (beginW.map w32) 91 true .exact, .cells (constW.map w32) 91 true .exact]) a cap c (hc.old (Old.here _ _)) hn)
  have hpl : (padB c.length).length = 1 + zerosN c.length + 8 := by rw [padB, List.length_append, padA_length, lenB_length]
  have hz : zerosN c.length = (119 - c.length % 64) % 64 := rfl
  have hsha := shaR_chain c
  have hml : (c ++ padB c.length).length = c.length + (padB c.length).length := List.length_append
  obtain ⟨l, hl⟩ : ∃ l, l = c ++ padB c.length := ⟨_, rfl⟩
  rw [← hl] at hmsg hsha hml
  have hl64 : l.length % 64 = 0 := by omega
  have hll : l.length ≤ 2000000 := by omega
  simp -implicitDefEqProofs (disch := first | omega | with_reducible assumption | (simp only [zU, zC]; omega)) only [zT, zA, reduceCtorEq, zB, zC, zD, zE, zF, zG, zH, zI, zJ, zK, zL, reduceIte, F37, kFirst, kConst, hmsg, zero32]
  repeat refine OrW.go ?_
  refine W_loop (fun N qs => ∃ (i : Nat) (M : AMem) (bs cs : Nat) (ss : Spare), N = l.length - 64 * i ∧ qs.ds = [] ∧ qs.m = mx M [] ∧ qs.t 2 = .pointer (some ⟨m.size, 0, none⟩) ∧ qs.t 3 = .slice (some ⟨bs, 0, none⟩) 8 cs ∧ qs.t 4 = .slice (some ⟨m.size + 2, 0, none⟩) 64 64 ∧ qs.t 5 = .slice (some ⟨m.size + 3, 0, none⟩) l.length openCap ∧ qs.t 6 = .int .i64 (64 * (i : Int)) ∧ 64 * i ≤ l.length ∧ Old (mx m [.cells ((List.replicate 32 (0 : UInt8)).map byteV) 52 true .exact, .cells (beginW.map w32) 91 true .exact, .cells (constW.map w32) 91 true .exact, .cells (l.map byteV) 5 true (.room [.int .u8 0])]) M ∧ bs < M.size ∧ M.get bs = .cells ((chainR l i).map w32) 91 true ss) (l.length - 64 * (0)) ⟨0, mx m [.cells ((List.replicate 32 (0 : UInt8)).map byteV) 52 true .exact, .cells (beginW.map w32) 91 true .exact, .cells (constW.map w32) 91 true .exact, .cells (l.map byteV) 5 true (.room [.int .u8 0])], m.size + 1, 8, .exact, rfl, rfl, ?qm, ?q2, ?q3, ?q4, ?q5, ?q6, ?_⟩ ?_
  case qm | q2 | q3 | q4 | q5 | q6 => first | rfl | (simp -implicitDefEqProofs (disch := first | omega | with_reducible assumption | (simp only [zU, zC]; omega)) only [zT, zA, reduceCtorEq, zB, zC, zD, zE, zF, zG, zH, zI, zJ, zK, zL, reduceIte]; first | done | rfl | (congr 1; omega))
  · exact ⟨by omega, .refl _, by rw [mx_size]; simp, mx_new _ _ 1⟩
  · rintro N t m1 ds ⟨i, M, bs, cs, ss, rfl, hds, hm, t2, t3, t4, t5, t6, hp⟩
    simp only at hds hm t2 t3 t4 t5 t6
    subst hds; replace hm := hm.symm; subst hm
    obtain ⟨hi64, hO, hbs, hMs⟩ := hp
    have hsz : m.size + 4 ≤ M.size := hO.1
    have hM2 : M.get (m.size + 2) = .cells (constW.map w32) 91 true .exact := (hO.2 _ (by rw [mx_size]; simp)).trans (mx_new _ _ 2)
    have hM3 : M.get (m.size + 3) = .cells (l.map byteV) 5 true (.room [.int .u8 0]) := (hO.2 _ (by rw [mx_size]; simp)).trans (mx_new _ _ 3)
    by_cases hi : (64 * (i : Int)) < (l.length : Int)
    · have e1 : (64 : Int) * (i : Int) = ((64 * i : Nat) : Int) := by omega
      have e2 : ((64 * i : Nat) : Int) + 64 = ((64 * i + 64 : Nat) : Int) := by omega
      have hsl := slV_open (M := mx M []) (b := m.size + 3) (o := 0) (L := l.length) (i := 64 * i) (h := 64 * i + 64) ((mx_old (by omega)).trans hM3) rfl (by simp) (by omega) (by simp; omega)
      rw [show 64 * i + 64 - 64 * i = 64 by omega, Nat.zero_add] at hsl
      have hbl : ((l.drop (64 * i)).take 64).length = 64 := by simp; omega
      have hch := DetC.known (changed_ok (mx M []) (m.size + 3) (64 * i) openCap ((l.drop (64 * i)).take 64) (l.map byteV) 5 true (.room [.int .u8 0]) (by rw [mx_size]; simp; omega) ((mx_old (by omega)).trans hM3) hbl
        (fun j hj => by rw [bytes_get (by omega)]; simp)
        bs cs (chainR l i) 91 true ss (by rw [mx_size]; simp; omega) ((mx_old hbs).trans hMs) (chainR_length l i)
        (m.size + 2) 64 constW 91 true .exact (by rw [mx_size]; simp; omega) ((mx_old (by omega)).trans hM2) rfl)
      rw [show (mx M []).size = M.size from rfl] at hch
      rw [e1] at t6 hi
      simp -implicitDefEqProofs (disch := first | omega | with_reducible assumption | (simp only [zU, zC]; omega)) only [zT, zA, reduceCtorEq, zB, zC, zD, zE, zF, zG, zH, zI, zJ, zK, zL, reduceIte, F37_l0, t2, t3, t4, t5, t6, hi, e2, stepOp_slV_v, Option.map_none, hsl, hch]
      repeat refine OrW.go ?_
      rw [LoopK_normal]; refine ⟨_, ?_, i + 1, mx M [.cells ((chainR l (i + 1)).map w32) 91 true (.room [.int .u32 0])], M.size, openCap, .room [.int .u32 0], rfl, rfl, ?qm, ?q2, ?q3, ?q4, ?q5, ?q6, ?_⟩
      case qm | q2 | q3 | q4 | q5 | q6 => first | rfl | (simp -implicitDefEqProofs (disch := first | omega | with_reducible assumption | (simp only [zU, zC]; omega)) only [zT, zA, reduceCtorEq, zB, zC, zD, zE, zF, zG, zH, zI, zJ, zK, zL, reduceIte, t2, t3, t4, t5, t6, chainR]; first | done | rfl | (congr 1; omega))
      · omega
      · exact ⟨by omega, hO.mx _, by rw [mx_size]; simp, mx_new0 _ _⟩
    · have hii : i = l.length / 64 := by omega
      rw [← hii] at hsha
      have hS := chainR_length l i
      generalize chainR l i = S at *
      simp -implicitDefEqProofs (disch := first | omega | with_reducible assumption | (simp only [zU, zC]; omega)) only [zT, zA, reduceCtorEq, zB, zC, zD, zE, zF, zG, zH, zI, zJ, zK, zL, reduceIte, F37_l0, t2, t3, t4, t5, t6, hi, zero32]
      have hM0 : M.get m.size = .cells ((List.replicate 32 (0 : UInt8)).map byteV) 52 true .exact := (hO.2 _ (by rw [mx_size]; simp)).trans (mx_new0 _ _)
      have hOm : Old m M := ⟨by omega, fun x hx => (hO.2 x (by rw [mx_size]; omega)).trans (mx_old hx)⟩
      refine W_loop (fun N qs => ∃ (p : Nat), N = 32 - p ∧ qs.ds = [] ∧ qs.m = mx M [.cells ((mix p (dig S) (List.replicate 32 (0 : UInt8))).map byteV) 52 true .exact] ∧ qs.t 2 = .pointer (some ⟨m.size, 0, none⟩) ∧ qs.t 3 = .slice (some ⟨bs, 0, none⟩) 8 cs ∧ qs.t 7 = .pointer (some ⟨M.size, 0, none⟩) ∧ qs.t 8 = .int .i64 p ∧ p ≤ 32) (32 - (0)) ⟨0, rfl, rfl, ?qm, ?q2, ?q3, ?q7, ?q8, ?_⟩ ?_
      case qm | q2 | q3 | q7 | q8 => first | rfl | (simp -implicitDefEqProofs (disch := first | omega | with_reducible assumption | (simp only [zU, zC]; omega)) only [zT, zA, reduceCtorEq, zB, zC, zD, zE, zF, zG, zH, zI, zJ, zK, zL, reduceIte, t2, t3, t4, t5, t6, mix_zero]; first | done | rfl | (congr 1; omega))
      · omega
      · clear t2 t3 t4 t5 t6 hi hi64
        rintro N t m1 ds ⟨p, rfl, hds, hm, t2, t3, t7, t8, hp⟩
        simp only at hds hm t2 t3 t7 t8
        subst hds; replace hm := hm.symm; subst hm
        have hmxl : (mix p (dig S) (List.replicate 32 (0 : UInt8))).length = 32 := by rw [mix_length (by rw [dig_length]; rfl)]; rfl
        by_cases hi : (p : Int) < 32
        · have hp32 : p < 32 := by omega
          have e1 : (p : Int).tdiv 4 = ((p / 4 : Nat) : Int) := tdiv_nat p 4
          have e2 : (p : Int).tmod 4 = ((p % 4 : Nat) : Int) := tmod_nat p 4
          obtain ⟨x, hx⟩ : ∃ x, x = S[p / 4]'(by omega) := ⟨_, rfl⟩
          have hg : (S.map w32)[p / 4]? = some (w32 x) := by rw [ws_get (by omega), hx]
          have e3 : binV .shr (w32 x) (.int .i64 (24 - ((p % 4 : Nat) : Int) * 8)) = some (.int .u32 ((x.toNat >>> (24 - 8 * (p % 4)) : Nat) : Int)) := by
            rw [w32_def, binV_shr _ _ (by omega), show (24 : Int) - ((p % 4 : Nat) : Int) * 8 = ((24 - 8 * (p % 4) : Nat) : Int) by omega, shr_nat _ _ _ (by simp [IntKind.bits]; omega)]
          have e4 := mix_set (k := p) (X := dig S) (B := List.replicate 32 (0 : UInt8)) (by rw [dig_length]; rfl) (by rw [dig_length]; omega)
          have hdg : (dig S)[p]'(by rw [dig_length]; omega) = UInt8.ofNat (x.toNat >>> (24 - 8 * (p % 4))) := by
            simp only [dig, List.getElem_map, List.getElem_range]
            rw [hx]; simp [List.getElem?_eq_getElem (show p / 4 < S.length by omega)]
          rw [hdg] at e4
          have e5 := map_set_byte (mix p (dig S) (List.replicate 32 (0 : UInt8))) p (UInt8.ofNat (x.toNat >>> (24 - 8 * (p % 4))))
          rw [e4, byteV_def] at e5
          simp -implicitDefEqProofs (disch := first | omega | with_reducible assumption | (simp only [zU, zC]; omega)) only [zT, zA, reduceCtorEq, zB, zC, zD, zE, zF, zG, zH, zI, zJ, zK, zL, reduceIte, F37_l1, t2, t3, t7, t8, hi, e1, e2, e3, hMs, hg, u8n, e5]
          rw [LoopK_normal]; refine ⟨_, ?_, p + 1, rfl, rfl, ?qm, ?q2, ?q3, ?q7, ?q8, ?_⟩
          case qm | q2 | q3 | q7 | q8 => first | rfl | (simp -implicitDefEqProofs (disch := first | omega | with_reducible assumption | (simp only [zU, zC]; omega)) only [zT, zA, reduceCtorEq, zB, zC, zD, zE, zF, zG, zH, zI, zJ, zK, zL, reduceIte, t2, t3, t7, t8]; first | done | rfl | (congr 1; omega))
          · omega
          · omega
        · have hp32 : p = 32 := by omega
          subst hp32
          have hmx := mix_all (k := 32) (X := dig S) (B := List.replicate 32 (0 : UInt8)) (dig_length _) rfl
          have hdl := dig_length S
          simp -implicitDefEqProofs (disch := first | omega | with_reducible assumption | (simp only [zU, zC]; omega)) only [zT, zA, reduceCtorEq, zB, zC, zD, zE, zF, zG, zH, zI, zJ, zK, zL, reduceIte, F37_l1, t2, t3, t7, t8, hmx, cutL_all, hM0, hsha]
          exact (hOm.set (Nat.le_refl _) _).mx _
end Go.Proofs.YtgkmlbkocgjmmaaDoor.S
namespace Go.Proofs.YtgkmlbkocgjmmaaDoor
open Go Go.AM
set_option linter.unusedVariables false
set_option linter.unusedSimpArgs false
set_option maxHeartbeats 2000000
set_option maxRecDepth 100000

theorem bsl_at (M : AMem) (l : List AObj) (k : Nat) {c : List UInt8} {e : TypeId} {w : Bool} {sp : Spare} {cap : Nat} (h : l[k]? = some (.cells (c.map byteV) e w sp)) (hc : cap < openCap) (hl : c.length ≤ cap) : BSl (mx M l) (some ⟨M.size + k, 0, none⟩) cap c := by
  have hk : k < l.length := (List.getElem?_eq_some_iff.1 h).1
  have hg : (mx M l).get (M.size + k) = .cells (c.map byteV) e w sp := by rw [mx_new]; simp [List.getD, h]
  exact .inr ⟨_, _, _, _, _, _, rfl, by rw [mx_size]; omega, hg, cutL_all (by simp), .inr ⟨hc, hl⟩⟩
theorem bsl_room {M : AMem} {b : Nat} {c : List UInt8} {e : TypeId} {w : Bool} (hb : b < M.size) (hm : M.get b = .cells (c.map byteV) e w (.room [.int .u8 0])) : BSl M (some ⟨b, 0, none⟩) openCap c :=
  .inr ⟨b, 0, _, e, w, _, rfl, hb, hm, by rw [← List.length_map (f := byteV)]; exact cutL_all rfl, .inl ⟨rfl, rfl⟩⟩
theorem byte_of (n : Nat) : IntKind.u8.wrap (n : Int) = ((UInt8.ofNat n).toNat : Int) := by
  simp [IntKind.wrap, IntKind.bits, IntKind.signed]
theorem byte_sh (n k : Nat) (hk : k ≤ 64) : IntKind.u8.wrap (shr .i64 (n : Int) (k : Int)) = ((UInt8.ofNat (n >>> k)).toNat : Int) := by
  rw [shr_nat _ _ _ hk, byte_of]
theorem refText_ok (m : AMem) (s : List UInt8) (hs : s.length ≤ 9000000000) : PureC Tryd.prog 3 33 [.string ⟨s.toArray⟩] m (.string ⟨(textB s).toArray⟩) := by
  refine pure_of_W (fn := Tryd.f33) rfl rfl F33_ok (by simp [F33]) (.string _) ?_
  have h24 := byte_sh s.length 24 (by omega)
  have h16 := byte_sh s.length 16 (by omega)
  have h8 := byte_sh s.length 8 (by omega)
  have h0 := byte_of s.length
  have hb := bsl_at m [.cells ((numB s.length 4).map byteV) 5 true .exact] 0 (c := numB s.length 4) (cap := 4) rfl (openCap_lt (by omega)) (by rw [numB_len]; omega)
  have hst := hb.str
  rw [numB_len] at hst
  simp only [numB, List.map_cons, List.map_nil, byteV, Nat.mul_zero, Nat.add_zero, Nat.shiftRight_zero, zD] at hst
  simp only [Int.cast_ofNat_Int] at h24 h16 h8
  unfold textB
  simp only [numB, Nat.mul_zero, Nat.shiftRight_zero, zD]
  have ho : ¬ (4 : Nat) = openCap := openCap_ne (by omega)
  repeat first | simp -implicitDefEqProofs (disch := first | omega | with_reducible assumption | (simp only [zU, zC]; omega)) only [zT, zA, reduceCtorEq, zB, zC, zD, zE, zF, zG, zH, zI, zJ, zK, zL, reduceIte, F33, binV_shr, h24, h16, h8, h0, stepOp_b2s_v, hst, ho] | refine OrW.go ?_
end Go.Proofs.YtgkmlbkocgjmmaaDoor
namespace Go.Proofs.YtgkmlbkocgjmmaaDoor
open Go Go.AM
set_option linter.unusedVariables false
set_option linter.unusedSimpArgs false
set_option maxHeartbeats 2000000
set_option maxRecDepth 100000

theorem numB2 {n : Nat} (h : n ≤ 64) : numB n 2 = [0, UInt8.ofNat n] := by
  have : n >>> 8 = 0 := by rw [Nat.shiftRight_eq_div_pow]; omega
  simp [numB, this]
theorem refPut_ok (m : AMem) (d : DrvR) (a : Option Addr) (c : Nat) (hd : d.ok) (ha : StrR m a d.inputs) :
    RelC Tryd.prog 3 13 [.agg (dRow d a c).toArray] m fun r m' => Old m m' ∧ if rightR d = true then ∃ a' c', r = .tuple #[.slice a' (putB d).length c', .int .i64 0] ∧ BSl m' a' c' (putB d) else r = .tuple #[.slice none 0 0, .int .i64 2] := by
  refine rel_of_W (fn := Tryd.f13) rfl rfl F13_ok (by simp [F13]) ?_
  have k17 := DetC.known (refRight_ok (mx m [.cells (dRow d a c) 24 true .exact]) d a c hd (ha.old (Old.here _ _)))
  simp only [dRow] at k17
  cases hr : rightR d with
  | false =>
    rw [hr] at k17
    repeat first | simp -implicitDefEqProofs (disch := first | omega | with_reducible assumption | (simp only [zU, zC]; omega)) only [zT, zA, reduceCtorEq, zB, zC, zD, zE, zF, zG, zH, zI, zJ, zK, zL, reduceIte, F13, dRow, cellsOf_dRow, cutL3, k17] | refine OrW.go ?_
    exact ⟨_, rfl, fun _ => rfl⟩
  | true =>
    rw [hr] at k17
    obtain ⟨f1, f2, f3⟩ := right_few hr
    have kt := fun (M : AMem) (s : List UInt8) (hs : s.length ≤ 9000000000) => DetC.known (refText_ok M s hs)
    have hb2 := byte_of d.inputs.length
    have ho : ¬ (2 : Nat) = openCap := openCap_ne (by omega)
    have hst := (show BSl (mx m [.cells [.string ⟨d.name.toArray⟩, .slice a d.inputs.length c, .string ⟨d.recipe.toArray⟩] 24 true .exact, .cells [.int .u8 0, .int .u8 ((UInt8.ofNat d.inputs.length).toNat : Int)] 5 true .exact]) (some ⟨m.size + 1, 0, none⟩) 2 [0, UInt8.ofNat d.inputs.length] from bsl_at m [.cells [.string ⟨d.name.toArray⟩, .slice a d.inputs.length c, .string ⟨d.recipe.toArray⟩] 24 true .exact, .cells ([0, UInt8.ofNat d.inputs.length].map byteV) 5 true .exact] 1 rfl (openCap_lt (by omega)) (by simp)).str
    simp only [List.length_cons, List.length_nil, Nat.zero_add, zC] at hst
    have hil := insB_len hd.inputs
    have hn1 := textB_len d.name
    have hn2 := textB_len d.recipe
    have hP : putB d = headB ++ textB d.name ++ [0, UInt8.ofNat d.inputs.length] ++ insB d.inputs d.inputs.length ++ textB d.recipe := by unfold putB; rw [numB2 f2]
    repeat first | simp -implicitDefEqProofs (disch := first | omega | with_reducible assumption | (simp only [zU, zC]; omega)) only [zT, zA, reduceCtorEq, zB, zC, zD, zE, zF, zG, zH, zI, zJ, zK, zL, reduceIte, F13, dRow, cellsOf_dRow, cutL3, k17, kt, hb2, ho, stepOp_b2s_v, hst, hn1, textB_len] | refine OrW.go ?_
    generalize hP0 : headB ++ textB d.name ++ [0, UInt8.ofNat d.inputs.length] = P0 at hP
    have hP0l : P0.length ≤ 100 := by rw [← hP0]; simp [headB, textB_len]; omega
    have hP0c : (68 :: 82 :: 86 :: 49 :: (textB d.name ++ [0, UInt8.ofNat d.inputs.length]) : List UInt8) = P0 := by rw [← hP0]; simp [headB]
    have hi0 : insB d.inputs 0 = [] := rfl
    refine W_loop (fun N qs => ∃ (i : Nat), N = d.inputs.length - i ∧ qs.ds = [] ∧ qs.m = mx m [.cells [.string ⟨d.name.toArray⟩, .slice a d.inputs.length c, .string ⟨d.recipe.toArray⟩] 24 true .exact, .cells [.int .u8 0, .int .u8 ((UInt8.ofNat d.inputs.length).toNat : Int)] 5 true .exact] ∧ qs.t 1 = .pointer (some ⟨m.size, 0, none⟩) ∧ qs.t 4 = .string ⟨(P0 ++ insB d.inputs i).toArray⟩ ∧ qs.t 5 = .int .i64 i ∧ i ≤ d.inputs.length) (d.inputs.length - (0)) ⟨0, rfl, rfl, ?qm, ?q1, ?q4, ?q5, ?_⟩ ?_
    case qm | q1 | q4 | q5 => first | rfl | (simp -implicitDefEqProofs (disch := first | omega | with_reducible assumption | (simp only [zU, zC]; omega)) only [zT, zA, reduceCtorEq, zB, zC, zD, zE, zF, zG, zH, zI, zJ, zK, zL, reduceIte, hP0c, hi0]; first | done | rfl | (congr 1; omega))
    · omega
    · rintro N t m1 ds ⟨i, rfl, hds, hm, t1, t4, t5, hp⟩
      simp only at hds hm t1 t4 t5
      subst hds; replace hm := hm.symm; subst hm
      have hl1 := hil i hp
      by_cases g : (i : Int) < (d.inputs.length : Int)
      · have hi' : i < d.inputs.length := by omega
        obtain ⟨b, o, rfl, hb, hr1⟩ := ha i hi'
        have hl2 := hd.inputs _ (List.getElem_mem hi')
        have hn3 := textB_len d.inputs[i]
        have hsc := insB_succ hi'
        repeat first | simp -implicitDefEqProofs (disch := first | omega | with_reducible assumption | (simp only [zU, zC]; omega)) only [zT, zA, reduceCtorEq, zB, zC, zD, zE, zF, zG, zH, zI, zJ, zK, zL, reduceIte, F13_l0, t1, t4, t5, g, hr1, kt] | refine OrW.go ?_
        rw [LoopK_normal]; refine ⟨_, ?_, i + 1, rfl, rfl, ?qm, ?q1, ?q4, ?q5, ?_⟩
        case qm | q1 | q4 | q5 => first | rfl | (simp -implicitDefEqProofs (disch := first | omega | with_reducible assumption | (simp only [zU, zC]; omega)) only [zT, zA, reduceCtorEq, zB, zC, zD, zE, zF, zG, zH, zI, zJ, zK, zL, reduceIte, t1, t4, t5, hsc, List.append_assoc]; first | done | rfl | (congr 1; omega))
        · omega
        · omega
      · obtain rfl : i = d.inputs.length := by omega
        repeat first | simp -implicitDefEqProofs (disch := first | omega | with_reducible assumption | (simp only [zU, zC]; omega)) only [zT, zA, reduceCtorEq, zB, zC, zD, zE, zF, zG, zH, zI, zJ, zK, zL, reduceIte, F13_l0, t1, t4, t5, g, kt] | refine OrW.go ?_
        refine ⟨_, rfl, fun _ => ⟨some ⟨m.size + 2, 0, none⟩, openCap, ?_, ?_⟩⟩
        · rw [hP]; simp [Nat.add_assoc]
        · rw [hP]
          refine bsl_room (e := 5) (w := true) (by rw [mx_size]; simp) ?_
          rw [mx_new _ _ 2]; simp [List.append_assoc]
theorem refName_ok (m : AMem) (d : DrvR) (a : Option Addr) (c : Nat) (hd : d.ok) (hfew : (putB d).length ≤ 1000000) (ha : StrR m a d.inputs) :
    RelC Tryd.prog 3 15 [.agg (dRow d a c).toArray] m fun r m' => r = .tuple #[.string ⟨(dnameR d).1.toArray⟩, .int .i64 (dnameR d).2] ∧ Old m m' := by
  refine rel_of_W (fn := Tryd.f15) rfl rfl F15_ok (by simp [F15]) ?_
  have hp := refPut_ok (mx m [.cells (dRow d a c) 24 true .exact]) d a c hd (ha.old (Old.here _ _))
  simp only [dRow] at hp
  repeat first | simp -implicitDefEqProofs (disch := first | omega | with_reducible assumption | (simp only [zU, zC]; omega)) only [zT, zA, reduceCtorEq, zB, zC, zD, zE, zF, zG, zH, zI, zJ, zK, zL, reduceIte, F15, dRow, cellsOf_dRow, cutL3] | refine OrW.go ?_
  refine RelC.call hp ?_
  rintro r M1 ⟨hO, hr⟩
  have hOm : Old m M1 := (Old.here m _).trans hO
  have hz := hO.1
  rw [mx_size] at hz
  simp only [List.length_cons, List.length_nil, Nat.zero_add] at hz
  have hb : M1.get m.size = .cells [.string ⟨d.name.toArray⟩, .slice a d.inputs.length c, .string ⟨d.recipe.toArray⟩] 24 true .exact := by rw [hO.2 _ (by rw [mx_size]; simp)]; exact mx_new0 _ _
  cases hri : rightR d with
  | false =>
    rw [hri] at hr
    simp only [Bool.false_eq_true, if_false] at hr
    subst hr
    have e : dnameR d = ([], 2) := by simp [dnameR, hri]
    rw [e]
    repeat first | simp -implicitDefEqProofs (disch := first | omega | with_reducible assumption | (simp only [zU, zC]; omega)) only [zT, zA, reduceCtorEq, zB, zC, zD, zE, zF, zG, zH, zI, zJ, zK, zL, reduceIte] | refine OrW.go ?_
    exact ⟨_, rfl, fun _ => ⟨rfl, hOm.mx []⟩⟩
  | true =>
    rw [hri] at hr
    simp only [if_true] at hr
    obtain ⟨a', c', rfl, hB⟩ := hr
    have e : dnameR d = N.nameR (S.shaR (putB d)) (d.name ++ [46, 100, 114, 118]) := by simp [dnameR, hri]
    rw [e]
    have hn := (right_few hri).1
    have k37 := DetC.known (S.refSum_ok (mx M1 []) a' c' (putB d) (hB.old (Old.here _ [])) hfew)
    have k36 := @N.kRefName (mx M1 []) (d.name ++ [46, 100, 114, 118]) (S.shaR (putB d)) (S.shaR_length _) (by rw [List.length_append]; simp; omega)
    repeat first | simp -implicitDefEqProofs (disch := first | omega | with_reducible assumption | (simp only [zU, zC]; omega)) only [zT, zA, reduceCtorEq, zB, zC, zD, zE, zF, zG, zH, zI, zJ, zK, zL, reduceIte, hb, k37, k36] | refine OrW.go ?_
    exact ⟨_, rfl, fun _ => ⟨rfl, hOm.mx []⟩⟩
end Go.Proofs.YtgkmlbkocgjmmaaDoor
namespace Go.Proofs.YtgkmlbkocgjmmaaDoor
open Go Go.AM
set_option linter.unusedVariables false
set_option linter.unusedSimpArgs false
set_option maxHeartbeats 2000000
set_option maxRecDepth 100000

def fewB (d : DrvR) : Bool := decide (d.name.length ≤ 200) && decide (d.recipe.length ≤ 1000) && shortB d.inputs 70
structure DrvR.any (d : DrvR) : Prop where
  name : d.name.length ≤ 9223372036854775807
  recipe : d.recipe.length ≤ 9223372036854775807
  len : d.inputs.length ≤ 9223372036854775807
  ins : ∀ s ∈ d.inputs, s.length ≤ 9223372036854775807
theorem few_ok (m : AMem) (d : DrvR) (a : Option Addr) (c : Nat) (hd : d.any) (ha : StrR m a d.inputs) : PureC Tryd.prog 3 10 [.agg (dRow d a c).toArray] m (.bool (fewB d)) := by
  refine pure_of_W (fn := Tryd.f10) rfl rfl F10_ok (by simp [F10]) (.bool _) ?_
  have k25 := DetC.known (short_ok (mx m [.cells (dRow d a c) 24 true .exact]) a c d.inputs (ha.old (Old.here _ _)) hd.len hd.ins 70 (by omega))
  rw [show ((70 : Nat) : Int) = 70 from rfl] at k25
  simp only [dRow] at k25
  have h1 := hd.name; have h2 := hd.recipe
  by_cases g1 : (d.name.length : Int) ≤ 200
  case neg =>
    have e : fewB d = false := by simp [fewB]; intros; omega
    rw [e]
    repeat first | simp -implicitDefEqProofs (disch := first | omega | with_reducible assumption | (simp only [zU, zC]; omega)) only [zT, zA, reduceCtorEq, zB, zC, zD, zE, zF, zG, zH, zI, zJ, zK, zL, reduceIte, F10, dRow, cellsOf_dRow, g1] | refine OrW.go ?_
  by_cases g2 : (d.recipe.length : Int) ≤ 1000
  case neg =>
    have e : fewB d = false := by simp [fewB]; intros; omega
    rw [e]
    repeat first | simp -implicitDefEqProofs (disch := first | omega | with_reducible assumption | (simp only [zU, zC]; omega)) only [zT, zA, reduceCtorEq, zB, zC, zD, zE, zF, zG, zH, zI, zJ, zK, zL, reduceIte, F10, dRow, cellsOf_dRow, g1, g2] | refine OrW.go ?_
  have e : fewB d = shortB d.inputs 70 := by
    have w1 : d.name.length ≤ 200 := by omega
    have w2 : d.recipe.length ≤ 1000 := by omega
    simp [fewB, w1, w2]
  rw [e]
  repeat first | simp -implicitDefEqProofs (disch := first | omega | with_reducible assumption | (simp only [zU, zC]; omega)) only [zT, zA, reduceCtorEq, zB, zC, zD, zE, zF, zG, zH, zI, zJ, zK, zL, reduceIte, F10, dRow, cellsOf_dRow, g1, g2, k25] | refine OrW.go ?_
structure DrvR.small (d : DrvR) : Prop where
  ok : d.ok
  name : d.name.length ≤ 200
  recipe : d.recipe.length ≤ 1000
  len : d.inputs.length ≤ 70
  ins : ∀ s ∈ d.inputs, s.length ≤ 200
theorem few_small {d : DrvR} (h : fewB d = true) : d.small := by
  unfold fewB shortB at h
  simp only [Bool.and_eq_true, decide_eq_true_eq, List.all_eq_true] at h
  obtain ⟨⟨h1, h2⟩, h3, h4⟩ := h
  exact ⟨⟨by omega, fun s hs => by have := h4 s hs; omega, by omega, by omega⟩, h1, h2, h3, h4⟩
theorem insB_len2 {l : List (List UInt8)} (h : ∀ s ∈ l, s.length ≤ 200) : ∀ n, n ≤ l.length → (insB l n).length ≤ 204 * n
  | 0, _ => by simp [insB]
  | n + 1, hn => by
    have := insB_len2 h n (by omega)
    have h2 := h l[n] (List.getElem_mem (by omega))
    rw [insB_succ (by omega), List.length_append, textB_len]; omega
theorem small_len {d : DrvR} (h : d.small) : (putB d).length ≤ 20000 := by
  have h1 := insB_len2 h.ins d.inputs.length (Nat.le_refl _)
  have h2 := h.name; have h3 := h.recipe; have h4 := h.len
  simp only [putB, List.length_append, textB_len, numB_len, headB, List.length_cons, List.length_nil]; omega
def putA (d : DrvR) : List UInt8 × Int := if rightR d = true then (putB d, 0) else ([], 2)
theorem put_all {d : DrvR} {m' : AMem} {r : Value} (h : if rightR d = true then ∃ a' c', r = .tuple #[.slice a' (putB d).length c', .int .i64 0] ∧ BSl m' a' c' (putB d) else r = .tuple #[.slice none 0 0, .int .i64 2]) :
    ∃ a' c', r = .tuple #[.slice a' (putA d).1.length c', .int .i64 (putA d).2] ∧ BSl m' a' c' (putA d).1 := by
  unfold putA
  split at h
  · rw [if_pos ‹_›]; exact h
  · rw [if_neg ‹_›]; subst h; exact ⟨none, 0, rfl, .inl ⟨rfl, rfl, rfl⟩⟩
theorem lawPut (m : AMem) (hg : S.Glob m) (d : DrvR) (a : Option Addr) (c : Nat) (hd : d.any) (ha : StrR m a d.inputs) : PureC Tryd.prog 3 3 [.agg (dRow d a c).toArray] m (.bool true) := by
  refine pure_of_W (fn := Tryd.f3) rfl rfl F3_ok (by simp [F3]) (.bool _) ?_
  have kf := DetC.known (few_ok (mx m [.cells (dRow d a c) 24 true .exact]) d a c hd (ha.old (Old.here _ _)))
  have kw := kWorks hg [.cells (dRow d a c) 24 true .exact]
  simp only [dRow] at kf kw
  cases hf : fewB d with
  | false =>
    rw [hf] at kf
    repeat first | simp -implicitDefEqProofs (disch := first | omega | with_reducible assumption | (simp only [zU, zC]; omega)) only [zT, zA, reduceCtorEq, zB, zC, zD, zE, zF, zG, zH, zI, zJ, zK, zL, reduceIte, F3, dRow, cellsOf_dRow, cutL3, kf, kw] | refine OrW.go ?_
  | true =>
    rw [hf] at kf
    have hsm := few_small hf
    have hpl := small_len hsm
    have hp := put_ok (mx m [.cells (dRow d a c) 24 true .exact]) d a c hsm.ok (ha.old (Old.here _ _))
    simp only [dRow] at hp
    repeat first | simp -implicitDefEqProofs (disch := first | omega | with_reducible assumption | (simp only [zU, zC]; omega)) only [zT, zA, reduceCtorEq, zB, zC, zD, zE, zF, zG, zH, zI, zJ, zK, zL, reduceIte, F3, dRow, cellsOf_dRow, cutL3, kf] | refine OrW.go ?_
    refine RelC.call hp ?_
    rintro r M1 ⟨hO1, hr1⟩
    obtain ⟨a1, c1, rfl, hB1⟩ := put_all hr1
    have hz1 : Old m M1 := (Old.here m _).trans hO1
    have hs1 := hO1.1
    rw [mx_size] at hs1
    simp only [List.length_cons, List.length_nil, Nat.zero_add] at hs1
    have b1 : M1.get m.size = .cells [.string ⟨d.name.toArray⟩, .slice a d.inputs.length c, .string ⟨d.recipe.toArray⟩] 24 true .exact := by rw [hO1.2 _ (by rw [mx_size]; simp)]; exact mx_new0 _ _
    have hp2 := refPut_ok (mx M1 []) d a c hsm.ok (ha.old (hz1.mx []))
    simp only [dRow] at hp2
    repeat first | simp -implicitDefEqProofs (disch := first | omega | with_reducible assumption | (simp only [zU, zC]; omega)) only [zT, zA, reduceCtorEq, zB, zC, zD, zE, zF, zG, zH, zI, zJ, zK, zL, reduceIte, b1, cutL3] | refine OrW.go ?_
    refine RelC.call hp2 ?_
    rintro r M2 ⟨hO2, hr2⟩
    obtain ⟨a2, c2, rfl, hB2⟩ := put_all hr2
    have hy2 : Old M1 M2 := (Old.here M1 []).trans hO2
    have b2 := b1
    rw [← hy2.2 _ (by omega)] at b2
    have hs2 := hy2.1
    have hn := dname_ok (mx M2 []) d a c (hg.old ((hz1.trans hy2).mx [])) hsm.ok (ha.old ((hz1.trans hy2).mx []))
    simp only [dRow] at hn
    repeat first | simp -implicitDefEqProofs (disch := first | omega | with_reducible assumption | (simp only [zU, zC]; omega)) only [zT, zA, reduceCtorEq, zB, zC, zD, zE, zF, zG, zH, zI, zJ, zK, zL, reduceIte, b2, cutL3] | refine OrW.go ?_
    refine RelC.call hn ?_
    rintro r M3 ⟨rfl, hO3⟩
    have hy3 : Old M2 M3 := (Old.here M2 []).trans hO3
    have b3 := b2
    rw [← hy3.2 _ (by omega)] at b3
    have hs3 := hy3.1
    have hn2 := refName_ok (mx M3 []) d a c hsm.ok (by omega) (ha.old ((hz1.trans (hy2.trans hy3)).mx []))
    simp only [dRow] at hn2
    repeat first | simp -implicitDefEqProofs (disch := first | omega | with_reducible assumption | (simp only [zU, zC]; omega)) only [zT, zA, reduceCtorEq, zB, zC, zD, zE, zF, zG, zH, zI, zJ, zK, zL, reduceIte, b3, cutL3] | refine OrW.go ?_
    refine RelC.call hn2 ?_
    rintro r M4 ⟨rfl, hO4⟩
    have hy4 : Old M3 M4 := (Old.here M3 []).trans hO4
    have b4 := b3
    rw [← hy4.2 _ (by omega)] at b4
    have hs4 := hy4.1
    have hz4 : Old m M4 := hz1.trans (hy2.trans (hy3.trans hy4))
    have k16 := DetC.known (right_ok (mx M4 []) d a c hsm.ok (ha.old (hz4.mx [])))
    have k17 := DetC.known (refRight_ok (mx M4 []) d a c hsm.ok (ha.old (hz4.mx [])))
    have s1 := ((hB1.old (hy2.trans (hy3.trans hy4))).old (Old.here M4 [])).str
    have s2 := ((hB2.old (hy3.trans hy4)).old (Old.here M4 [])).str
    have kw4 := kWorks (hg.old hz4) []
    simp only [dRow] at k16 k17
    have ee : eqV .bool (.bool (rightR d)) (.bool (rightR d)) = some true := by cases rightR d <;> rfl
    repeat first | simp -implicitDefEqProofs (disch := first | omega | with_reducible assumption | (simp only [zU, zC]; omega)) only [zT, zA, reduceCtorEq, zB, zC, zD, zE, zF, zG, zH, zI, zJ, zK, zL, reduceIte, b4, cutL3, k16, k17, s1, s2, kw4, stepOp_b2s_v, ee] | refine OrW.go ?_
    exact hz4.mx []
end Go.Proofs.YtgkmlbkocgjmmaaDoor
namespace Go.Proofs.YtgkmlbkocgjmmaaDoor
open Go Go.AM
set_option linter.unusedVariables false
set_option linter.unusedSimpArgs false

theorem beN_cons (c : UInt8) (l : List UInt8) : beN (c :: l) = c.toNat * 256 ^ l.length + beN l := by
  have h : ∀ (l : List UInt8) (n : Nat), l.foldl (fun n c => n * 256 + c.toNat) n = n * 256 ^ l.length + beN l := by
    intro l
    induction l with
    | nil => intro n; simp [beN]
    | cons x l ih =>
      intro n
      have h1 := ih x.toNat
      have e : beN (x :: l) = l.foldl (fun n c => n * 256 + c.toNat) (0 * 256 + x.toNat) := rfl
      rw [List.foldl_cons, ih (n * 256 + x.toNat), e, ih (0 * 256 + x.toNat), List.length_cons, Nat.pow_succ, Nat.zero_mul, Nat.zero_add, Nat.add_mul, Nat.mul_assoc, Nat.mul_comm 256, Nat.add_assoc]
  have e : beN (c :: l) = l.foldl (fun n c => n * 256 + c.toNat) (0 * 256 + c.toNat) := rfl
  rw [e, h, Nat.zero_mul, Nat.zero_add]
theorem shr_div (n w : Nat) : n >>> (8 * w) = n / 256 ^ w := by rw [Nat.shiftRight_eq_div_pow, Nat.pow_mul]
theorem beN_numB (n : Nat) : ∀ w, beN (numB n w) = n % 256 ^ w
  | 0 => by simp [numB, beN, Nat.mod_one]
  | w + 1 => by
    have h : (UInt8.ofNat (n >>> (8 * w))).toNat = n / 256 ^ w % 256 := by rw [shr_div]; simp
    rw [numB, beN_cons, numB_len, beN_numB n w, h, Nat.mod_pow_succ, Nat.mul_comm, Nat.add_comm]
theorem numB_mod (n m : Nat) : ∀ w, n % 256 ^ w = m % 256 ^ w → numB n w = numB m w
  | 0, _ => rfl
  | w + 1, h => by
    have h1 : n % 256 ^ w = m % 256 ^ w := by
      have := congrArg (· % 256 ^ w) h
      simpa [Nat.pow_succ, Nat.mod_mul_right_mod] using this
    have h2 : n / 256 ^ w % 256 = m / 256 ^ w % 256 := by
      rw [Nat.mod_pow_succ, Nat.mod_pow_succ, h1] at h
      have := Nat.add_left_cancel h
      exact Nat.eq_of_mul_eq_mul_left (Nat.pow_pos (by omega)) this
    rw [numB, numB, numB_mod n m w h1]
    congr 1
    rw [shr_div, shr_div]
    apply UInt8.toNat.inj
    simpa using h2
theorem numB_beN : ∀ (l : List UInt8) (w : Nat), l.length = w → numB (beN l) w = l
  | [], 0, _ => rfl
  | c :: l, w + 1, h => by
    have hl : l.length = w := by simpa using h
    have hlt := beN_lt l
    rw [hl] at hlt
    have hc := c.toNat_lt
    have e : beN (c :: l) = c.toNat * 256 ^ w + beN l := by rw [beN_cons, hl]
    have hp : 0 < 256 ^ w := Nat.pow_pos (by omega)
    have hd : beN (c :: l) / 256 ^ w = c.toNat := by
      rw [e, Nat.add_comm, Nat.add_mul_div_right _ _ hp, Nat.div_eq_of_lt hlt, Nat.zero_add]
    have hm : beN (c :: l) % 256 ^ w = beN l % 256 ^ w := by rw [e, Nat.add_comm, Nat.add_mul_mod_self_right]
    rw [numB, shr_div, hd, numB_mod _ _ w hm, numB_beN l w hl]
    congr 1
    apply UInt8.toNat.inj
    simp
theorem takeR_app (x rest : List UInt8) : takeR ⟨x ++ rest, false⟩ x.length = (x, ⟨rest, false⟩) := by
  simp [takeR]
theorem numR_app (n w : Nat) (rest : List UInt8) (h : n < 256 ^ w) : numR ⟨numB n w ++ rest, false⟩ w = (n, ⟨rest, false⟩) := by
  have e := takeR_app (numB n w) rest
  rw [numB_len] at e
  unfold numR
  rw [e]
  simp only [beN_numB, Nat.mod_eq_of_lt h]
theorem textR_app (s rest : List UInt8) (h : s.length < 256 ^ 4) : textR ⟨textB s ++ rest, false⟩ = (s, ⟨rest, false⟩) := by
  unfold textR textB
  rw [List.append_assoc, numR_app _ 4 _ h]
  exact takeR_app s rest
theorem readIns_app : ∀ (l : List (List UInt8)) (rest : List UInt8), (∀ s ∈ l, s.length < 256 ^ 4) → readIns l.length ⟨(l.map textB).flatten ++ rest, false⟩ = (l, ⟨rest, false⟩)
  | [], rest, _ => rfl
  | s :: l, rest, h => by
    have e := textR_app s ((l.map textB).flatten ++ rest) (h s (by simp))
    rw [← List.append_assoc] at e
    have e2 : ((s :: l).map textB).flatten ++ rest = textB s ++ (l.map textB).flatten ++ rest := by simp
    rw [e2]
    simp only [List.length_cons, readIns, Bool.false_eq_true, if_false, e, readIns_app l rest fun x hx => h x (by simp [hx])]
theorem insB_all (l : List (List UInt8)) : insB l l.length = (l.map textB).flatten := by unfold insB; rw [List.take_length]
theorem get_put {d : DrvR} (hr : rightR d = true) (hi : ∀ s ∈ d.inputs, s.length ≤ 100000) : getR (putB d) = (d, 0) := by
  obtain ⟨f1, f2, f3⟩ := right_few hr
  have e : (putB d).drop 4 = textB d.name ++ (numB d.inputs.length 2 ++ ((d.inputs.map textB).flatten ++ (textB d.recipe ++ []))) := by
    unfold putB; rw [insB_all]; simp [headB]
  have e2 : (putB d).take 4 = headB := by unfold putB; simp [headB]
  have hl : 4 ≤ (putB d).length := by unfold putB; simp [headB]
  have hp : partsR ((putB d).drop 4) = (d, ⟨[], false⟩) := by
    unfold partsR
    rw [e]
    simp only [textR_app d.name _ (by omega), numR_app d.inputs.length 2 _ (by omega), readIns_app d.inputs _ (fun s hs => by have := hi s hs; omega), textR_app d.recipe _ (by omega)]
  unfold getR
  rw [if_pos ⟨e2, hl⟩, hp, hr]; rfl
theorem takeR_inv {s : Rd} {n : Nat} (h : (takeR s n).2.bad = false) : s.bad = false ∧ s.c = (takeR s n).1 ++ (takeR s n).2.c ∧ (takeR s n).1.length = n := by
  unfold takeR at h ⊢
  split
  · rename_i h2; rw [if_pos h2] at h; cases h
  · rename_i h2
    simp only [Bool.or_eq_true, decide_eq_true_eq, not_or] at h2
    exact ⟨by simpa using h2.1, (List.take_append_drop n s.c).symm, by rw [List.length_take]; omega⟩
theorem numR_inv {s : Rd} {w : Nat} (h : (numR s w).2.bad = false) : s.bad = false ∧ s.c = numB (numR s w).1 w ++ (numR s w).2.c := by
  obtain ⟨h1, h2, h3⟩ := takeR_inv (s := s) (n := w) h
  refine ⟨h1, ?_⟩
  show s.c = numB (beN (takeR s w).1) w ++ _
  rw [numB_beN _ _ h3]; exact h2
theorem textR_inv {s : Rd} (h : (textR s).2.bad = false) : s.bad = false ∧ s.c = textB (textR s).1 ++ (textR s).2.c := by
  obtain ⟨h1, h2, h3⟩ := takeR_inv (s := (numR s 4).2) (n := (numR s 4).1) h
  obtain ⟨h4, h5⟩ := numR_inv h1
  refine ⟨h4, ?_⟩
  have e : textB (textR s).1 = numB (numR s 4).1 4 ++ (textR s).1 := by
    unfold textB; rw [show (textR s).1.length = (numR s 4).1 from h3]
  rw [e, List.append_assoc, h5, h2]; rfl
theorem readIns_inv : ∀ (n : Nat) (s : Rd), (readIns n s).2.bad = false → s.bad = false ∧ (readIns n s).1.length = n ∧ s.c = ((readIns n s).1.map textB).flatten ++ (readIns n s).2.c
  | 0, s, h => ⟨h, rfl, rfl⟩
  | n + 1, s, h => by
    cases hb : s.bad with
    | true =>
      have e : readIns (n + 1) s = ([], s) := by simp [readIns, hb]
      rw [e] at h; rw [show s.bad = true from hb] at h; cases h
    | false =>
      have e : readIns (n + 1) s = ((textR s).1 :: (readIns n (textR s).2).1, (readIns n (textR s).2).2) := by simp [readIns, hb]
      rw [e] at h ⊢
      obtain ⟨h1, h2, h3⟩ := readIns_inv n (textR s).2 h
      obtain ⟨h4, h5⟩ := textR_inv h1
      refine ⟨rfl, by simp [h2], ?_⟩
      simp only [List.map_cons, List.flatten_cons]
      rw [h5, h3, List.append_assoc]
theorem put_get {b : List UInt8} {d : DrvR} (h : getR b = (d, 0)) : rightR d = true ∧ putB d = b := by
  unfold getR at h
  split at h
  · rename_i h4
    split at h
    · rename_i hc
      simp only [Bool.and_eq_true, Bool.not_eq_true', decide_eq_true_eq] at hc
      obtain ⟨⟨c1, c2⟩, c3⟩ := hc
      have hd : (partsR (b.drop 4)).1 = d := congrArg Prod.fst h
      rw [hd] at c3
      refine ⟨c3, ?_⟩
      obtain ⟨q1, q2⟩ := textR_inv (s := (readIns (numR (textR ⟨b.drop 4, false⟩).2 2).1 (numR (textR ⟨b.drop 4, false⟩).2 2).2).2) c1
      obtain ⟨q3, q4, q5⟩ := readIns_inv _ _ q1
      obtain ⟨q6, q7⟩ := numR_inv q3
      obtain ⟨q8, q9⟩ := textR_inv q6
      have hr : (textR (readIns (numR (textR ⟨b.drop 4, false⟩).2 2).1 (numR (textR ⟨b.drop 4, false⟩).2 2).2).2).2.c = [] := List.length_eq_zero_iff.1 c2
      rw [hr, List.append_nil] at q2
      rw [q5, q2] at q7
      rw [q7] at q9
      have hb : b = headB ++ b.drop 4 := by rw [← h4.1]; exact (List.take_append_drop 4 b).symm
      simp only at q9
      rw [hb, q9, ← hd]
      unfold putB
      rw [insB_all]
      show headB ++ textB (textR ⟨b.drop 4, false⟩).1 ++ numB (readIns _ _).1.length 2 ++ _ ++ textB _ = _
      rw [q4]
      simp only [List.append_assoc]
      rfl
    · cases h
  · cases h
end Go.Proofs.YtgkmlbkocgjmmaaDoor
namespace Go.Proofs.YtgkmlbkocgjmmaaDoor
open Go Go.AM
set_option linter.unusedVariables false
set_option linter.unusedSimpArgs false
set_option maxHeartbeats 2000000
set_option maxRecDepth 100000

theorem in_len : ∀ (l : List (List UInt8)) (s : List UInt8), s ∈ l → s.length ≤ (l.map textB).flatten.length
  | x :: l, s, h => by
    simp only [List.map_cons, List.flatten_cons, List.length_append, textB_len]
    rcases List.mem_cons.1 h with rfl | h
    · omega
    · have := in_len l s h; omega
theorem got_ok {b : List UInt8} {d : DrvR} (h : getR b = (d, 0)) (hl : b.length ≤ 3000) : rightR d = true ∧ putB d = b ∧ d.ok := by
  obtain ⟨h1, h2⟩ := put_get h
  obtain ⟨f1, f2, f3⟩ := right_few h1
  refine ⟨h1, h2, by omega, fun s hs => ?_, by omega, by omega⟩
  have h3 := in_len _ _ hs
  have h4 : (putB d).length ≤ 3000 := by rw [h2]; exact hl
  unfold putB at h4
  rw [insB_all] at h4
  simp only [List.length_append] at h4
  omega
theorem getR_two (b : List UInt8) : (getR b).2 = 0 ∨ (getR b).2 = 150 := by
  unfold getR
  split
  · split
    · exact .inl rfl
    · exact .inr rfl
  · exact .inr rfl
def F5_X : ACode := F5.code.tl.tl.tl.tl
theorem F5_cut : F5.code = .seq F5.code.hd (.seq F5.code.tl.hd (.seq F5.code.tl.tl.hd (.seq F5.code.tl.tl.tl.hd F5_X))) := rfl
theorem lawBack (m : AMem) (hg : S.Glob m) (d : DrvR) (a : Option Addr) (c : Nat) (hd : d.any) (ha : StrR m a d.inputs) (ba : Option Addr) (bc : Nat) (b : List UInt8) (hb : BSl m ba bc b) (hbl : b.length ≤ 9223372036854775807) :
    PureC Tryd.prog 3 5 [.agg (dRow d a c).toArray, .slice ba b.length bc] m (.bool true) := by
  refine pure_of_W (fn := Tryd.f5) rfl rfl F5_ok (by simp [F5]) (.bool _) ?_
  have kf := DetC.known (few_ok (mx m [.cells (dRow d a c) 24 true .exact]) d a c hd (ha.old (Old.here _ _)))
  have kw := kWorks hg [.cells (dRow d a c) 24 true .exact]
  simp only [dRow] at kf kw
  cases hf : fewB d with
  | false =>
    rw [hf] at kf
    repeat first | simp -implicitDefEqProofs (disch := first | omega | with_reducible assumption | (simp only [zU, zC]; omega)) only [zT, zA, reduceCtorEq, zB, zC, zD, zE, zF, zG, zH, zI, zJ, zK, zL, reduceIte, F5, dRow, cellsOf_dRow, cutL3, kf, kw] | refine OrW.go ?_
  | true =>
    rw [hf] at kf
    by_cases h : (3000 : Int) < (b.length : Int)
    · repeat first | simp -implicitDefEqProofs (disch := first | omega | with_reducible assumption | (simp only [zU, zC]; omega)) only [zT, zA, reduceCtorEq, zB, zC, zD, zE, zF, zG, zH, zI, zJ, zK, zL, reduceIte, F5, dRow, cellsOf_dRow, cutL3, kf, kw, h] | refine OrW.go ?_
    have hl : b.length ≤ 3000 := by omega
    have hsm := few_small hf
    have hpl := small_len hsm
    have hp := put_ok (mx m [.cells (dRow d a c) 24 true .exact]) d a c hsm.ok (ha.old (Old.here _ _))
    simp only [dRow] at hp
    -- from the second Get on
    have key : ∀ M : AMem, Old m M → ∀ t : Tmps, t 1 = .slice ba b.length bc → W Tryd.prog 3 F5_X (RetK F5.res fun r m' => r = .ret (.bool true) ∧ Old m m') ⟨t, mx M [], []⟩ := by
      intro M hO t ht
      have hG := get_ok (mx M []) ba bc b (hb.old (hO.mx [])) (by omega)
      have kw2 := kWorks (hg.old hO)
      repeat first | simp -implicitDefEqProofs (disch := first | omega | with_reducible assumption | (simp only [zU, zC]; omega)) only [zT, zA, reduceCtorEq, zB, zC, zD, zE, zF, zG, zH, zI, zJ, zK, zL, reduceIte, F5_X, F5, tl_seq, ht] | refine OrW.go ?_
      refine RelC.call hG ?_
      rintro r M2 ⟨hO2, a2, c2, rfl, hS2⟩
      have hz2 : Old m M2 := hO.trans ((Old.here M []).trans hO2)
      have hgt := getR_two b
      cases hR : getR b with
      | mk d2 e2 =>
        rw [hR] at hS2 hgt
        simp only at hS2 hgt
        rcases hgt with rfl | rfl
        · obtain ⟨g1, g2, g3⟩ := got_ok hR hl
          have hp2 := put_ok (mx M2 [.cells (dRow d2 a2 c2) 24 true .exact]) d2 a2 c2 g3 (hS2.old (Old.here _ _))
          simp only [dRow, g1, if_true] at hp2
          repeat first | simp -implicitDefEqProofs (disch := first | omega | with_reducible assumption | (simp only [zU, zC]; omega)) only [zT, zA, reduceCtorEq, zB, zC, zD, zE, zF, zG, zH, zI, zJ, zK, zL, reduceIte, dRow, cellsOf_dRow, splice3, cutL3] | refine OrW.go ?_
          refine RelC.call hp2 ?_
          rintro r M3 ⟨hO3, a3, c3, rfl, hB3⟩
          have hz3 : Old m M3 := hz2.trans ((Old.here M2 _).trans hO3)
          rw [g2] at hB3
          have s1 := (hB3.old (Old.here M3 [])).str
          have s2 := (hb.old (hz3.mx [])).str
          have kw3 := kWorks (hg.old hz3) []
          rw [g2]
          repeat first | simp -implicitDefEqProofs (disch := first | omega | with_reducible assumption | (simp only [zU, zC]; omega)) only [zT, zA, reduceCtorEq, zB, zC, zD, zE, zF, zG, zH, zI, zJ, zK, zL, reduceIte, stepOp_b2s_v, s1, s2, kw3, ht] | refine OrW.go ?_
          exact hz3.mx []
        · have kw3 := kWorks (hg.old hz2) [.cells (dRow d2 a2 c2) 24 true .exact]
          simp only [dRow] at kw3
          repeat first | simp -implicitDefEqProofs (disch := first | omega | with_reducible assumption | (simp only [zU, zC]; omega)) only [zT, zA, reduceCtorEq, zB, zC, zD, zE, zF, zG, zH, zI, zJ, zK, zL, reduceIte, dRow, cellsOf_dRow, splice3, cutL3, kw3] | refine OrW.go ?_
          exact hz2.mx _
    rw [F5_cut]
    repeat first | simp -implicitDefEqProofs (disch := first | omega | with_reducible assumption | (simp only [zU, zC]; omega)) only [zT, zA, reduceCtorEq, zB, zC, zD, zE, zF, zG, zH, zI, zJ, zK, zL, reduceIte, F5, hd_seq, tl_seq, dRow, cellsOf_dRow, cutL3, kf, h] | refine OrW.go ?_
    refine RelC.call hp ?_
    rintro r M1 ⟨hO1, hr1⟩
    have hz1 : Old m M1 := (Old.here m _).trans hO1
    have hs1 := hO1.1
    rw [mx_size] at hs1
    simp only [List.length_cons, List.length_nil, Nat.zero_add] at hs1
    have b1 : M1.get m.size = .cells [.string ⟨d.name.toArray⟩, .slice a d.inputs.length c, .string ⟨d.recipe.toArray⟩] 24 true .exact := by rw [hO1.2 _ (by rw [mx_size]; simp)]; exact mx_new0 _ _
    by_cases hr : rightR d = true
    · rw [if_pos hr] at hr1
      obtain ⟨a1, c1, rfl, hB1⟩ := hr1
      have hG := get_ok (mx M1 []) a1 c1 (putB d) (hB1.old (Old.here _ [])) (by omega)
      rw [get_put hr hsm.ok.inputs] at hG
      repeat first | simp -implicitDefEqProofs (disch := first | omega | with_reducible assumption | (simp only [zU, zC]; omega)) only [zT, zA, reduceCtorEq, zB, zC, zD, zE, zF, zG, zH, zI, zJ, zK, zL, reduceIte] | refine OrW.go ?_
      refine RelC.call hG ?_
      rintro r M2 ⟨hO2, a2, c2, rfl, hS2⟩
      simp only at hS2
      have hy2 : Old M1 M2 := (Old.here M1 []).trans hO2
      have b2 := b1
      rw [← hy2.2 _ (by omega)] at b2
      have hs2 := hy2.1
      have ks := DetC.known (same_ok (mx M2 [.cells (dRow d a2 c2) 24 true .exact]) d a2 c2 a c (hS2.old (Old.here _ _)) (ha.old ((hz1.trans hy2).mx _)) (by have := hsm.len; omega))
      simp only [dRow] at ks
      repeat first | simp -implicitDefEqProofs (disch := first | omega | with_reducible assumption | (simp only [zU, zC]; omega)) only [zT, zA, reduceCtorEq, zB, zC, zD, zE, zF, zG, zH, zI, zJ, zK, zL, reduceIte, dRow, cellsOf_dRow, splice3, cutL3, b2, ks] | refine OrW.go ?_
      have k := key (mx M2 [.cells [.string ⟨d.name.toArray⟩, .slice a2 d.inputs.length c2, .string ⟨d.recipe.toArray⟩] 24 true .exact]) ((hz1.trans hy2).mx _)
      rw [mx_mx, List.append_nil] at k
      exact k _ (by simp -implicitDefEqProofs (disch := first | omega | with_reducible assumption | (simp only [zU, zC]; omega)) only [zT, zA, reduceCtorEq, zB, zC, zD, zE, zF, zG, zH, zI, zJ, zK, zL, reduceIte])
    · rw [if_neg hr] at hr1
      subst hr1
      repeat first | simp -implicitDefEqProofs (disch := first | omega | with_reducible assumption | (simp only [zU, zC]; omega)) only [zT, zA, reduceCtorEq, zB, zC, zD, zE, zF, zG, zH, zI, zJ, zK, zL, reduceIte] | refine OrW.go ?_
      exact key M1 hz1 _ (by simp -implicitDefEqProofs (disch := first | omega | with_reducible assumption | (simp only [zU, zC]; omega)) only [zT, zA, reduceCtorEq, zB, zC, zD, zE, zF, zG, zH, zI, zJ, zK, zL, reduceIte])
end Go.Proofs.YtgkmlbkocgjmmaaDoor
namespace Go.AM
set_option linter.unusedVariables false
set_option linter.unusedSimpArgs false
theorem BSl.full {m : AMem} {a : Option Addr} {cap : Nat} {c : List UInt8} (h : BSl m a cap c) (hcl : c.length ≤ 9223372036854775807) (h0 : 0 < c.length) :
    ∃ a', slVv 1 (.slice a c.length cap) none (some (.int .i64 (c.length : Int))) (some (.int .i64 (c.length : Int))) m = some (.slice a' c.length c.length, m) ∧ BSl m a' c.length c := by
  have hc : ∀ cap : Nat, c.length ≤ cap → cutV c.length cap none (some (.int .i64 (c.length : Int))) (some (.int .i64 (c.length : Int))) = some (0, c.length, c.length) := fun cap h2 => by
    simp only [cutV]; rw [if_pos (by omega)]; simp
  rcases h with ⟨rfl, rfl, rfl⟩ | ⟨x, o, X, e, w, sp, rfl, h2, h3, h4, h5⟩
  · simp at h0
  · have hle := cutL_le h4
    have hne : ¬ c.length = 0 := by omega
    rcases h5 with ⟨rfl, hs⟩ | ⟨hlt, hle2⟩
    · refine ⟨some ⟨x, o, none⟩, ?_, .inr ⟨x, o, X, e, w, sp, rfl, h2, h3, h4, .inr ⟨openCap_lt hcl, Nat.le_refl _⟩⟩⟩
      simp only [slVv, if_true, h3]
      rw [if_pos ⟨hs, by simp; omega⟩, hc _ (by simp; omega)]
      simp [hcl]
    · refine ⟨some ⟨x, o, none⟩, ?_, .inr ⟨x, o, X, e, w, sp, rfl, h2, h3, h4, .inr ⟨by omega, Nat.le_refl _⟩⟩⟩
      simp only [slVv]
      rw [if_neg (Nat.ne_of_lt hlt), hc _ hle2]
      simp
theorem BSl.grow {M : AMem} {a a2 : Option Addr} {k2 : Nat} {c d : List UInt8} (h : BSl (mx M []) a c.length c) (h0 : 0 < c.length) (h2 : BSl (mx M []) a2 k2 d) (hl : c.length + d.length ≤ 1000000) :
    ∃ a' k' M', appV 5 1 1 [.int .u8 0] (.slice a c.length c.length) (.slice a2 d.length k2) (mx M []) = some (.slice a' (c.length + d.length) k', mx M' []) ∧ BSl (mx M' []) a' k' (c ++ d) ∧ Old M M' := by
  have hs := h2.src (Nat.le_refl _)
  rw [List.take_length] at hs
  have hne : ¬ c.length = openCap := openCap_ne (by omega)
  have happ : appV 5 1 1 [.int .u8 0] (.slice a c.length c.length) (.slice a2 d.length k2) (mx M []) = appendTo 5 1 1 [.int .u8 0] (.slice a c.length c.length) d.length (d.map byteV) (mx M []) := by
    simp only [appV, srcLen_slice, hs]
    rw [if_pos ⟨rfl, by omega, all_bytes _, by simp⟩]
  rw [happ]
  rcases h with ⟨rfl, h1, rfl⟩ | ⟨x, o, X, e, w, sp, rfl, h3, h4, h5, h6⟩
  · simp at h0
  · by_cases hd : d.length = 0
    · have hd' : d = [] := List.eq_nil_of_length_eq_zero hd
      subst hd'
      refine ⟨some ⟨x, o, none⟩, c.length, M, ?_, ?_, Old.refl _⟩
      · simp only [appendTo, if_neg hne, List.length_nil, Nat.add_zero, if_true, if_pos (Nat.le_refl c.length)]
      · rw [List.append_nil]; exact .inr ⟨x, o, X, e, w, sp, rfl, h3, h4, h5, h6⟩
    · have hr : rd (mx M []) x o (c.length * 1) = some (c.map byteV) := by rw [Nat.mul_one, rd_def, h4, rdO_cells]; exact h5
      refine ⟨some ⟨M.size, 0, none⟩, openCap, mx M [.cells ((c ++ d).map byteV) 5 true (.room [.int .u8 0])], ?_, ?_, Old.here _ _⟩
      · simp only [appendTo, if_neg hne, if_neg (show ¬ c.length + d.length ≤ c.length by omega), hr]
        rw [if_pos (by omega), ← List.map_append, mx_push, mx_mx, mx_nil_size]; rfl
      · refine .inr ⟨M.size, 0, (c ++ d).map byteV, 5, true, .room [.int .u8 0], rfl, ?_, ?_, ?_, .inl ⟨rfl, rfl⟩⟩
        · rw [mx_mx, List.append_nil, mx_size]; simp
        · rw [mx_mx, List.append_nil]; exact mx_new0 _ _
        · exact cutL_all (by simp)
end Go.AM
namespace Go.Proofs.YtgkmlbkocgjmmaaDoor
open Go Go.AM
set_option linter.unusedVariables false
set_option linter.unusedSimpArgs false
set_option maxHeartbeats 4000000
set_option maxRecDepth 100000

def F9_X : ACode := F9.code.tl.tl.tl.tl.tl.tl.tl.tl.tl.tl
theorem F9_Xcut : F9_X = .seq F9_X.hd F9_Y := rfl
def six : List Value := [.int .u8 0, .int .u8 1, .int .u8 2, .int .u8 45, .int .u8 101, .int .u8 255]
theorem six_at (k : Nat) (h : k < 6) : ∃ y : UInt8, cutL six k 1 = some [.int .u8 (y.toNat : Int)] := by
  match k, h with
  | 0, _ => exact ⟨0, rfl⟩
  | 1, _ => exact ⟨1, rfl⟩
  | 2, _ => exact ⟨2, rfl⟩
  | 3, _ => exact ⟨45, rfl⟩
  | 4, _ => exact ⟨101, rfl⟩
  | 5, _ => exact ⟨255, rfl⟩
theorem set_byte (b : List UInt8) (i : Nat) (y : UInt8) : (b.map byteV).set i (.int .u8 (y.toNat : Int)) = (b.set i y).map byteV := by
  rw [show Value.int .u8 (y.toNat : Int) = byteV y from rfl, ← List.map_set]
theorem nil_any : (nilD).any := ⟨by simp [nilD], by simp [nilD], by simp [nilD], (fun s h => by cases h)⟩
theorem known_x (m M0 : AMem) (hg : S.Glob m) (hO0 : Old m M0) (ba : Option Addr) (bc : Nat) (b : List UInt8) (hb : BSl M0 ba bc b) (hbl : b.length ≤ 100000) (t : Tmps) (u9 : t 9 = .slice ba b.length bc) :
    W Tryd.prog 3 F9_X (RetK F9.res fun r m' => r = .ret (.bool true) ∧ Old m m') ⟨t, mx M0 [], []⟩ := by
  rw [F9_Xcut]
  simp -implicitDefEqProofs (disch := first | omega | with_reducible assumption | (simp only [zU, zC]; omega)) only [zT, zA, reduceCtorEq, zB, zC, zD, zE, zF, zG, zH, zI, zJ, zK, zL, reduceIte, F9_X, F9, hd_seq, tl_seq]
  refine W_loop (fun N qs => ∃ (i : Nat) (M : AMem), N = b.length - i ∧ qs.ds = [] ∧ qs.m = mx M [] ∧ qs.t 9 = .slice ba b.length bc ∧ qs.t 11 = .int .i64 i ∧ i ≤ b.length ∧ Old M0 M) (b.length - (0)) ⟨0, M0, rfl, rfl, ?qm, ?q9, ?q11, ?_⟩ ?_
  case qm | q9 | q11 => first | rfl | (simp -implicitDefEqProofs (disch := first | omega | with_reducible assumption | (simp only [zU, zC]; omega)) only [zT, zA, reduceCtorEq, zB, zC, zD, zE, zF, zG, zH, zI, zJ, zK, zL, reduceIte, u9]; first | done | rfl | (congr 1; omega))
  · exact ⟨by omega, Old.refl _⟩
  · rintro N t m1 ds ⟨i, M, rfl, hds, hm, t9, t11, hp⟩
    simp only at hds hm t9 t11
    subst hds; replace hm := hm.symm; subst hm
    obtain ⟨hi, hO⟩ := hp
    have hOm := hO0.trans hO
    by_cases g : (i : Int) < (b.length : Int)
    · have hbM := (hb.old hO).old (Old.here M [])
      have hgM := hg.old hOm
      obtain ⟨a1, c1, q1, B1, -⟩ := hbM.head (openCap_lt (by omega)) (j := i) (by omega)
      have k1 := DetC.known (lawGet (mx M []) (hgM.old (Old.here _ _)) a1 c1 (b.take i) B1 (by rw [List.length_take]; omega))
      rw [List.length_take, Nat.min_eq_left (by omega)] at k1
      obtain ⟨a2, q2, B2⟩ := hbM.full (by omega) (by omega)
      obtain ⟨a3, c3, M1, q3, B3, hO1⟩ := BSl.grow B2 (by omega) B1 (by rw [List.length_take]; omega)
      rw [List.length_take, Nat.min_eq_left (by omega)] at q3
      have k3 := DetC.known (lawGet (mx M1 []) (hgM.old (hO1.mx _)) a3 c3 (b ++ b.take i) B3 (by rw [List.length_append, List.length_take]; omega))
      rw [List.length_append, List.length_take, Nat.min_eq_left (by omega)] at k3
      repeat first | simp -implicitDefEqProofs (disch := first | omega | with_reducible assumption | (simp only [zU, zC]; omega)) only [zT, zA, reduceCtorEq, zB, zC, zD, zE, zF, zG, zH, zI, zJ, zK, zL, reduceIte, F9_l3, t9, t11, g, stepOp_slV_v, q1, k1, q2, stepOp_app_v, q3, k3] | refine OrW.go ?_
      refine W_loop (fun N qs => ∃ (k : Nat) (M2 : AMem), N = 6 - k ∧ qs.ds = [] ∧ qs.m = mx M2 [] ∧ qs.t 9 = .slice ba b.length bc ∧ qs.t 11 = .int .i64 i ∧ qs.t 134 = .slice (some ⟨M1.size, 0, none⟩) 6 6 ∧ qs.t 135 = .int .i64 6 ∧ qs.t 136 = .int .i64 k ∧ k ≤ 6 ∧ Old (mx M1 [.cells six 5 true .exact]) M2) (6 - (0)) ⟨0, mx M1 [.cells six 5 true .exact], rfl, rfl, ?qm, ?q9, ?q11, ?q134, ?q135, ?q136, ?_⟩ ?_
      case qm | q9 | q11 | q134 | q135 | q136 => first | rfl | (simp -implicitDefEqProofs (disch := first | omega | with_reducible assumption | (simp only [zU, zC]; omega)) only [zT, zA, reduceCtorEq, zB, zC, zD, zE, zF, zG, zH, zI, zJ, zK, zL, reduceIte, t9, t11, six, mx_mx, List.append_nil]; first | done | rfl | (congr 1; omega))
      · exact ⟨by omega, Old.refl _⟩
      · rintro N t m1 ds ⟨k, M2, rfl, hds, hm, t9, t11, t134, t135, t136, hp⟩
        simp only at hds hm t9 t11 t134 t135 t136
        subst hds; replace hm := hm.symm; subst hm
        obtain ⟨hk, hO2⟩ := hp
        have hO1' : Old M M2 := (hO1.mx _).trans hO2
        by_cases gk : (k : Int) < 6
        · obtain ⟨y, hy⟩ := six_at k (by omega)
          have hz1 : M1.size < M2.size := by have := hO2.1; rw [mx_size] at this; simp at this; omega
          have hg1 : M2.get M1.size = .cells six 5 true .exact := by rw [hO2.2 _ (by rw [mx_size]; simp)]; exact mx_new0 _ _
          have hbM2 := (hb.old hO).old (hO1'.mx [])
          have s0 := hbM2.str
          have hi' : i < (b.map byteV).length := by simp; omega
          have gM2 := hgM.old hO1'
          have hx : BSl (mx M2 [.cells ((b.set i y).map byteV) 5 true (.room [.int .u8 0])]) (some ⟨M2.size, 0, none⟩) openCap (b.set i y) := BSl.room (by rw [mx_size]; simp) (mx_new0 _ _)
          have k4 := DetC.known (lawGet (mx M2 [.cells ((b.set i y).map byteV) 5 true (.room [.int .u8 0])]) (gM2.old (Old.here _ _)) _ _ (b.set i y) hx (by rw [List.length_set]; omega))
          have k5 := DetC.known (lawBack (mx M2 [.cells ((b.set i y).map byteV) 5 true (.room [.int .u8 0])]) (gM2.old (Old.here _ _)) nilD none 0 nil_any (fun i hi => by cases hi) _ _ (b.set i y) hx (by rw [List.length_set]; omega))
          rw [List.length_set, ← set_byte] at k4 k5
          simp only [dRow, nilD, List.length_nil] at k5
          repeat first | simp -implicitDefEqProofs (disch := first | omega | with_reducible assumption | (simp only [zU, zC]; omega)) only [zT, zA, reduceCtorEq, zB, zC, zD, zE, zF, zG, zH, zI, zJ, zK, zL, reduceIte, F9_l4, t9, t11, t134, t135, t136, gk, hg1, hy, stepOp_b2s_v, s0, hi', k4, k5] | refine OrW.go ?_
          rw [LoopK_normal]; refine ⟨_, ?_, k + 1, mx M2 [.cells ((b.map byteV).set i (.int .u8 (y.toNat : Int))) 5 true (.room [.int .u8 0])], rfl, rfl, ?qm, ?q9, ?q11, ?q134, ?q135, ?q136, ?_⟩
          case qm | q9 | q11 | q134 | q135 | q136 => first | rfl | (simp -implicitDefEqProofs (disch := first | omega | with_reducible assumption | (simp only [zU, zC]; omega)) only [zT, zA, reduceCtorEq, zB, zC, zD, zE, zF, zG, zH, zI, zJ, zK, zL, reduceIte, t9, t11, t134, t135, t136, mx_mx, List.append_nil]; first | done | rfl | (congr 1; omega))
          · omega
          · exact ⟨by omega, hO2.mx _⟩
        · obtain rfl : k = 6 := by omega
          repeat first | simp -implicitDefEqProofs (disch := first | omega | with_reducible assumption | (simp only [zU, zC]; omega)) only [zT, zA, reduceCtorEq, zB, zC, zD, zE, zF, zG, zH, zI, zJ, zK, zL, reduceIte, F9_l4, t9, t11, t134, t135, t136, gk] | refine OrW.go ?_
          rw [LoopK_normal]; refine ⟨_, ?_, i + 1, M2, rfl, rfl, ?qm, ?q9, ?q11, ?_⟩
          case qm | q9 | q11 => first | rfl | (simp -implicitDefEqProofs (disch := first | omega | with_reducible assumption | (simp only [zU, zC]; omega)) only [zT, zA, reduceCtorEq, zB, zC, zD, zE, zF, zG, zH, zI, zJ, zK, zL, reduceIte, t9, t11]; first | done | rfl | (congr 1; omega))
          · omega
          · exact ⟨by omega, hO.trans hO1'⟩
    · repeat first | simp -implicitDefEqProofs (disch := first | omega | with_reducible assumption | (simp only [zU, zC]; omega)) only [zT, zA, reduceCtorEq, zB, zC, zD, zE, zF, zG, zH, zI, zJ, zK, zL, reduceIte, F9_l3, t9, t11, g] | refine OrW.go ?_
      exact known_y m M hg hOm _
end Go.Proofs.YtgkmlbkocgjmmaaDoor
namespace Go.Proofs.YtgkmlbkocgjmmaaDoor
open Go Go.AM
set_option linter.unusedVariables false
set_option linter.unusedSimpArgs false
set_option maxHeartbeats 4000000
set_option maxRecDepth 100000

def F9_U : ACode := F9.code.tl.tl.tl.tl.tl.tl.tl.tl
theorem F9_Ucut : F9_U = .seq F9_U.hd (.seq F9_U.tl.hd F9_X) := rfl
def RowsD (M : AMem) (p : Nat) : Prop := ∀ i, i < 11 → ∃ d a c, rdO (M.get p) (i * 3) 3 = some (dRow d a c) ∧ d.any ∧ StrR M a d.inputs
theorem known_u (m M0 : AMem) (hg : S.Glob m) (hO0 : Old m M0) (p : Nat) (hp : p < M0.size) (hrow : RowsD M0 p) (d1 : DrvR) (a1 : Option Addr) (c1 : Nat) (h1 : rdO (M0.get p) 3 3 = some (dRow d1 a1 c1)) (hd1 : d1.ok) (hl1 : (putB d1).length ≤ 100000) (hs1 : StrR M0 a1 d1.inputs)
    (t : Tmps) (u7 : t 7 = .slice (some ⟨p, 0, none⟩) 11 11) :
    W Tryd.prog 3 F9_U (RetK F9.res fun r m' => r = .ret (.bool true) ∧ Old m m') ⟨t, mx M0 [], []⟩ := by
  rw [F9_Ucut]
  have hgM := hg.old hO0
  simp -implicitDefEqProofs (disch := first | omega | with_reducible assumption | (simp only [zU, zC]; omega)) only [zT, zA, reduceCtorEq, zB, zC, zD, zE, zF, zG, zH, zI, zJ, zK, zL, reduceIte, F9_U, F9, hd_seq, tl_seq]
  refine W_loop (fun N qs => ∃ (i : Nat), N = 11 - i ∧ qs.ds = [] ∧ qs.m = mx M0 [] ∧ qs.t 7 = .slice (some ⟨p, 0, none⟩) 11 11 ∧ qs.t 8 = .int .i64 i ∧ i ≤ 11) (11 - (0)) ⟨0, rfl, rfl, ?qm, ?q7, ?q8, ?_⟩ ?_
  case qm | q7 | q8 => first | rfl | (simp -implicitDefEqProofs (disch := first | omega | with_reducible assumption | (simp only [zU, zC]; omega)) only [zT, zA, reduceCtorEq, zB, zC, zD, zE, zF, zG, zH, zI, zJ, zK, zL, reduceIte, u7]; first | done | rfl | (congr 1; omega))
  · omega
  · rintro N t m1 ds ⟨i, rfl, hds, hm, t7, t8, hp⟩
    simp only at hds hm t7 t8
    subst hds; replace hm := hm.symm; subst hm
    by_cases g : (i : Int) < 11
    · obtain ⟨d, a, c, e1, e2, e3⟩ := hrow i (by omega)
      have k3 := DetC.known (lawPut (mx M0 []) (hgM.old (Old.here _ _)) d a c e2 (e3.old (Old.here _ _)))
      have k5 := DetC.known (lawBack (mx M0 []) (hgM.old (Old.here _ _)) d a c e2 (e3.old (Old.here _ _)) none 0 [] (.inl ⟨rfl, rfl, rfl⟩) (by simp))
      simp only [dRow, List.length_nil] at k3 k5 e1
      repeat first | simp -implicitDefEqProofs (disch := first | omega | with_reducible assumption | (simp only [zU, zC]; omega)) only [zT, zA, reduceCtorEq, zB, zC, zD, zE, zF, zG, zH, zI, zJ, zK, zL, reduceIte, F9_l2, t7, t8, g, hp, e1, k3, k5] | refine OrW.go ?_
      rw [LoopK_normal]; refine ⟨_, ?_, i + 1, rfl, rfl, ?qm, ?q7, ?q8, ?_⟩
      case qm | q7 | q8 => first | rfl | (simp -implicitDefEqProofs (disch := first | omega | with_reducible assumption | (simp only [zU, zC]; omega)) only [zT, zA, reduceCtorEq, zB, zC, zD, zE, zF, zG, zH, zI, zJ, zK, zL, reduceIte, t7, t8]; first | done | rfl | (congr 1; omega))
      · omega
      · omega
    · have hP := refPut_ok (mx M0 []) d1 a1 c1 hd1 (hs1.old (Old.here _ _))
      simp only [dRow] at hP h1
      repeat first | simp -implicitDefEqProofs (disch := first | omega | with_reducible assumption | (simp only [zU, zC]; omega)) only [zT, zA, reduceCtorEq, zB, zC, zD, zE, zF, zG, zH, zI, zJ, zK, zL, reduceIte, F9_l2, t7, t8, g, h1] | refine OrW.go ?_
      refine RelC.call hP ?_
      rintro r M1 ⟨hO1, hr1⟩
      obtain ⟨ba, bc, rfl, hB⟩ := put_all hr1
      have hbl : (putA d1).1.length ≤ 100000 := by unfold putA; split <;> simp <;> omega
      repeat first | simp -implicitDefEqProofs (disch := first | omega | with_reducible assumption | (simp only [zU, zC]; omega)) only [zT, zA, reduceCtorEq, zB, zC, zD, zE, zF, zG, zH, zI, zJ, zK, zL, reduceIte] | refine OrW.go ?_
      exact known_x m M1 hg (hO0.trans ((Old.here M0 []).trans hO1)) ba bc _ hB hbl _ (by simp -implicitDefEqProofs (disch := first | omega | with_reducible assumption | (simp only [zU, zC]; omega)) only [zT, zA, reduceCtorEq, zB, zC, zD, zE, zF, zG, zH, zI, zJ, zK, zL, reduceIte])
end Go.Proofs.YtgkmlbkocgjmmaaDoor
namespace Go.Proofs.YtgkmlbkocgjmmaaDoor
open Go Go.AM
set_option linter.unusedVariables false
set_option linter.unusedSimpArgs false
set_option maxHeartbeats 4000000
set_option maxRecDepth 100000

theorem F9_cut : F9.code = .seq F9.code.hd (.seq F9.code.tl.hd (.seq F9.code.tl.tl.hd (.seq F9.code.tl.tl.tl.hd (.seq F9.code.tl.tl.tl.tl.hd (.seq F9.code.tl.tl.tl.tl.tl.hd (.seq F9.code.tl.tl.tl.tl.tl.tl.hd (.seq F9.code.tl.tl.tl.tl.tl.tl.tl.hd F9_U))))))) := rfl
def nineD : List UInt8 := 9 :: List.replicate 31 0
theorem fill9 : fill (N.zeroD.map byteV) [(0, 1, .int .u8 9)] = some (nineD.map byteV) := rfl
theorem fill11 (s0 r0 : ByteArray) (a0 : Option Addr) (l0 c0 : Nat) (s1 r1 : ByteArray) (a1 : Option Addr) (l1 c1 : Nat) (s2 r2 : ByteArray) (a2 : Option Addr) (l2 c2 : Nat) (s3 r3 : ByteArray) (a3 : Option Addr) (l3 c3 : Nat) (s4 r4 : ByteArray) (a4 : Option Addr) (l4 c4 : Nat) (s5 r5 : ByteArray) (a5 : Option Addr) (l5 c5 : Nat) (s6 r6 : ByteArray) (a6 : Option Addr) (l6 c6 : Nat) (s7 r7 : ByteArray) (a7 : Option Addr) (l7 c7 : Nat) (s8 r8 : ByteArray) (a8 : Option Addr) (l8 c8 : Nat) (s9 r9 : ByteArray) (a9 : Option Addr) (l9 c9 : Nat) (s10 r10 : ByteArray) (a10 : Option Addr) (l10 c10 : Nat) :
    fill [.string ⟨#[]⟩, .slice none 0 0, .string ⟨#[]⟩, .string ⟨#[]⟩, .slice none 0 0, .string ⟨#[]⟩, .string ⟨#[]⟩, .slice none 0 0, .string ⟨#[]⟩, .string ⟨#[]⟩, .slice none 0 0, .string ⟨#[]⟩, .string ⟨#[]⟩, .slice none 0 0, .string ⟨#[]⟩, .string ⟨#[]⟩, .slice none 0 0, .string ⟨#[]⟩, .string ⟨#[]⟩, .slice none 0 0, .string ⟨#[]⟩, .string ⟨#[]⟩, .slice none 0 0, .string ⟨#[]⟩, .string ⟨#[]⟩, .slice none 0 0, .string ⟨#[]⟩, .string ⟨#[]⟩, .slice none 0 0, .string ⟨#[]⟩, .string ⟨#[]⟩, .slice none 0 0, .string ⟨#[]⟩] [(0, 3, .agg #[.string s0, .slice a0 l0 c0, .string r0]), (3, 3, .agg #[.string s1, .slice a1 l1 c1, .string r1]), (6, 3, .agg #[.string s2, .slice a2 l2 c2, .string r2]), (9, 3, .agg #[.string s3, .slice a3 l3 c3, .string r3]), (12, 3, .agg #[.string s4, .slice a4 l4 c4, .string r4]), (15, 3, .agg #[.string s5, .slice a5 l5 c5, .string r5]), (18, 3, .agg #[.string s6, .slice a6 l6 c6, .string r6]), (21, 3, .agg #[.string s7, .slice a7 l7 c7, .string r7]), (24, 3, .agg #[.string s8, .slice a8 l8 c8, .string r8]), (27, 3, .agg #[.string s9, .slice a9 l9 c9, .string r9]), (30, 3, .agg #[.string s10, .slice a10 l10 c10, .string r10])] = some [.string s0, .slice a0 l0 c0, .string r0, .string s1, .slice a1 l1 c1, .string r1, .string s2, .slice a2 l2 c2, .string r2, .string s3, .slice a3 l3 c3, .string r3, .string s4, .slice a4 l4 c4, .string r4, .string s5, .slice a5 l5 c5, .string r5, .string s6, .slice a6 l6 c6, .string r6, .string s7, .slice a7 l7 c7, .string r7, .string s8, .slice a8 l8 c8, .string r8, .string s9, .slice a9 l9 c9, .string r9, .string s10, .slice a10 l10 c10, .string r10] := by kernel_rfl
theorem StrB.tail1 {M : AMem} {a : Option Addr} {c : Nat} {l : List (List UInt8)} (h : StrB M (.slice a l.length c) l) (hl : l.length = 65) :
    ∃ a', ∀ l', slVv 1 (.slice a 65 c) (some (.int .i64 1)) none none (mx M l') = some (.slice a' 64 c, mx M l') ∧ StrR (mx M l') a' (l.drop 1) := by
  rcases h with ⟨rfl, h⟩ | ⟨b, h, h1, h2⟩
  · simp at hl
  · cases h
    refine ⟨some ⟨b, 1, none⟩, fun l' => ⟨?_, fun i hi => ⟨b, 1, rfl, Nat.lt_of_lt_of_le h1 (Old.here M l').1, ?_⟩⟩⟩
    · have hc : cutV 65 ((l.length - 0) / 1) (some (.int .i64 1)) none none = some (1, 65, 65) := by
        rw [hl]; rfl
      simp only [slVv, if_true, (mx_old h1).trans h2, List.length_map]
      rw [if_pos ⟨rfl, by omega⟩, hc]
    · rw [(mx_old h1).trans h2, rdO_cells]
      exact cut_one (by simp at hi; simp [sV, Nat.add_comm 1 i, List.getElem?_eq_getElem (show i + 1 < l.length by omega)])
def kCells (M : Nat) (lg : List UInt8) (ma ta : Option Addr) (mc : Nat) : List Value :=
  [.string ⟨#[120]⟩, .slice none 0 0, .string ⟨#[]⟩, .string ⟨#[120]⟩, .slice (some ⟨M, 0, none⟩) 2 2, .string ⟨#[100, 105, 114, 32, 34, 97, 34, 10]⟩, .string ⟨#[120]⟩, .slice (some ⟨M + 1, 0, none⟩) 2 2, .string ⟨#[]⟩,
   .string ⟨#[120]⟩, .slice (some ⟨M + 2, 0, none⟩) 2 2, .string ⟨#[]⟩, .string ⟨#[120]⟩, .slice (some ⟨M + 3, 0, none⟩) 1 1, .string ⟨#[]⟩, .string ⟨#[]⟩, .slice none 0 0, .string ⟨#[]⟩, .string ⟨lg.toArray⟩, .slice none 0 0, .string ⟨#[]⟩,
   .string ⟨(List.take 60 lg).toArray⟩, .slice none 0 0, .string ⟨#[]⟩, .string ⟨#[120]⟩, .slice ma 65 mc, .string ⟨#[]⟩, .string ⟨#[120]⟩, .slice ta 64 mc, .string ⟨#[]⟩, .string ⟨#[46, 120]⟩, .slice none 0 0, .string ⟨#[]⟩]
def kObjs (M : Nat) (Z O lg : List UInt8) (ma ta : Option Addr) (mc : Nat) : List AObj :=
  [.cells ([Z, O].map sV) 9 true .exact, .cells ([O, Z].map sV) 9 true .exact, .cells ([Z, Z].map sV) 9 true .exact, .cells ([[97]].map sV) 9 true .exact, .cells (kCells M lg ma ta mc) 24 true .exact]
theorem any_of {d : DrvR} (h1 : d.name.length ≤ 100) (h2 : d.recipe.length ≤ 100) (h3 : d.inputs.length ≤ 100) (h4 : ∀ s ∈ d.inputs, s.length ≤ 100) : d.any := ⟨by omega, by omega, by omega, fun s hs => by have := h4 s hs; omega⟩
theorem rows_k (M : AMem) (Z O lg : List UInt8) (ma ta : Option Addr) (mc : Nat) (many : List (List UInt8)) (hZ : Z.length = 34) (hO : O.length = 34) (hlg : lg.length = 61) (hml : many.length = 65) (hms : ∀ s ∈ many, s.length ≤ 100)
    (hm : StrR M ma many) (ht : StrR (mx M (kObjs M.size Z O lg ma ta mc)) ta (many.drop 1)) : RowsD (mx M (kObjs M.size Z O lg ma ta mc)) (M.size + 4) := by
  have hget : (mx M (kObjs M.size Z O lg ma ta mc)).get (M.size + 4) = .cells (kCells M.size lg ma ta mc) 24 true .exact := mx_new _ _ 4
  have hnil : StrR (mx M (kObjs M.size Z O lg ma ta mc)) none [] := fun i h => by cases h
  have n0 : ∀ s ∈ ([] : List (List UInt8)), s.length ≤ 100 := fun s h => by cases h
  intro i hi
  rw [hget, rdO_cells]
  match i, hi with
  | 0, _ => exact ⟨⟨[120], [], []⟩, none, 0, rfl, any_of (by simp) (by simp) (by simp) n0, hnil⟩
  | 1, _ => exact ⟨⟨[120], [Z, O], [100, 105, 114, 32, 34, 97, 34, 10]⟩, some ⟨M.size, 0, none⟩, 2, rfl, any_of (by simp) (by simp) (by simp) (fun s h => by simp at h; rcases h with rfl | rfl <;> omega), (src_at M (kObjs M.size Z O lg ma ta mc) 0 rfl).str⟩
  | 2, _ => exact ⟨⟨[120], [O, Z], []⟩, some ⟨M.size + 1, 0, none⟩, 2, rfl, any_of (by simp) (by simp) (by simp) (fun s h => by simp at h; rcases h with rfl | rfl <;> omega), (src_at M (kObjs M.size Z O lg ma ta mc) 1 rfl).str⟩
  | 3, _ => exact ⟨⟨[120], [Z, Z], []⟩, some ⟨M.size + 2, 0, none⟩, 2, rfl, any_of (by simp) (by simp) (by simp) (fun s h => by simp at h; subst h; omega), (src_at M (kObjs M.size Z O lg ma ta mc) 2 rfl).str⟩
  | 4, _ => exact ⟨⟨[120], [[97]], []⟩, some ⟨M.size + 3, 0, none⟩, 1, rfl, any_of (by simp) (by simp) (by simp) (fun s h => by simp at h; subst h; simp), (src_at M (kObjs M.size Z O lg ma ta mc) 3 rfl).str⟩
  | 5, _ => exact ⟨⟨[], [], []⟩, none, 0, rfl, any_of (by simp) (by simp) (by simp) n0, hnil⟩
  | 6, _ => exact ⟨⟨lg, [], []⟩, none, 0, rfl, any_of (by simp only; omega) (by simp) (by simp) n0, hnil⟩
  | 7, _ => exact ⟨⟨lg.take 60, [], []⟩, none, 0, rfl, any_of (by simp only [List.length_take]; omega) (by simp) (by simp) n0, hnil⟩
  | 8, _ => exact ⟨⟨[120], many, []⟩, ma, mc, by rw [show dRow ⟨[120], many, []⟩ ma mc = [.string ⟨#[120]⟩, .slice ma 65 mc, .string ⟨#[]⟩] from by simp [dRow, hml]]; rfl, any_of (by simp) (by simp) (by simp only; omega) hms, hm.old (Old.here _ _)⟩
  | 9, _ => exact ⟨⟨[120], many.drop 1, []⟩, ta, mc, by rw [show dRow ⟨[120], many.drop 1, []⟩ ta mc = [.string ⟨#[120]⟩, .slice ta 64 mc, .string ⟨#[]⟩] from by simp [dRow, hml]]; rfl, any_of (by simp) (by simp) (by simp only [List.length_drop]; omega) (fun s h => hms s (List.drop_subset _ _ h)), ht⟩
  | 10, _ => exact ⟨⟨[46, 120], [], []⟩, none, 0, rfl, any_of (by simp) (by simp) (by simp) n0, hnil⟩
theorem lawKnown (m : AMem) (hg : S.Glob m) : PureC Tryd.prog 3 9 [] m (.bool true) := by
  refine pure_of_W (fn := Tryd.f9) rfl rfl F9_ok (by simp [F9]) (.bool _) ?_
  have kz := @N.kLetters (mx m []) N.zeroD rfl
  have ko := @N.kLetters (mx m []) nineD rfl
  have lz : (N.lettersOf N.zeroD).length = 32 := N.lettersOf_length _
  have lo : (N.lettersOf nineD).length = 32 := N.lettersOf_length _
  rw [F9_cut]
  generalize N.lettersOf N.zeroD = zl at *
  generalize N.lettersOf nineD = ol at *
  repeat first | simp -implicitDefEqProofs (disch := first | omega | with_reducible assumption | (simp only [zU, zC]; omega)) only [zT, zA, reduceCtorEq, zB, zC, zD, zE, zF, zG, zH, zI, zJ, zK, zL, reduceIte, F9, hd_seq, tl_seq, N.z32, fill9, kz, ko] | refine OrW.go ?_
  refine W_loop (fun N qs => ∃ (i : Nat), N = 61 - i ∧ qs.ds = [] ∧ qs.m = mx m [] ∧ qs.t 1 = .string ⟨(zl ++ [45, 97]).toArray⟩ ∧ qs.t 2 = .string ⟨(ol ++ [45, 98]).toArray⟩ ∧ qs.t 3 = .string ⟨(List.replicate i 110).toArray⟩ ∧ qs.t 4 = .int .i64 i ∧ i ≤ 61) (61 - (0)) ⟨0, rfl, rfl, ?qm, ?q1, ?q2, ?q3, ?q4, ?_⟩ ?_
  case qm | q1 | q2 | q3 | q4 => first | rfl | (simp -implicitDefEqProofs (disch := first | omega | with_reducible assumption | (simp only [zU, zC]; omega)) only [zT, zA, reduceCtorEq, zB, zC, zD, zE, zF, zG, zH, zI, zJ, zK, zL, reduceIte, List.replicate]; first | done | rfl | (congr 1; omega))
  · omega
  · rintro N t m1 ds ⟨i, rfl, hds, hm, t1, t2, t3, t4, hp⟩
    simp only at hds hm t1 t2 t3 t4
    subst hds; replace hm := hm.symm; subst hm
    by_cases g : (i : Int) < 61
    · have hr : List.replicate i 110 ++ [110] = List.replicate (i + 1) (110 : UInt8) := List.replicate_succ'.symm
      repeat first | simp -implicitDefEqProofs (disch := first | omega | with_reducible assumption | (simp only [zU, zC]; omega)) only [zT, zA, reduceCtorEq, zB, zC, zD, zE, zF, zG, zH, zI, zJ, zK, zL, reduceIte, F9_l0, t1, t2, t3, t4, g] | refine OrW.go ?_
      rw [LoopK_normal]; refine ⟨_, ?_, i + 1, rfl, rfl, ?qm, ?q1, ?q2, ?q3, ?q4, ?_⟩
      case qm | q1 | q2 | q3 | q4 => first | rfl | (simp -implicitDefEqProofs (disch := first | omega | with_reducible assumption | (simp only [zU, zC]; omega)) only [zT, zA, reduceCtorEq, zB, zC, zD, zE, zF, zG, zH, zI, zJ, zK, zL, reduceIte, t1, t2, t3, t4, hr]; first | done | rfl | (congr 1; omega))
      · omega
      · omega
    · obtain rfl : i = 61 := by omega
      have hlg : (List.replicate 61 (110 : UInt8)).length = 61 := List.length_replicate
      generalize List.replicate 61 (110 : UInt8) = lg at hlg t3
      have zl34 : (zl ++ [45, 97]).length = 34 := by simp [lz]
      have ol34 : (ol ++ [45, 98]).length = 34 := by simp [lo]
      generalize zl ++ [45, 97] = Z at *
      generalize ol ++ [45, 98] = O at *
      repeat first | simp -implicitDefEqProofs (disch := first | omega | with_reducible assumption | (simp only [zU, zC]; omega)) only [zT, zA, reduceCtorEq, zB, zC, zD, zE, zF, zG, zH, zI, zJ, zK, zL, reduceIte, F9_l0, t1, t2, t3, t4, g] | refine OrW.go ?_
      refine W_loop (fun N qs => ∃ (i : Nat) (M : AMem) (ma : Option Addr) (mc : Nat) (many : List (List UInt8)), N = 65 - i ∧ qs.ds = [] ∧ qs.m = mx M [] ∧ qs.t 1 = .string ⟨Z.toArray⟩ ∧ qs.t 2 = .string ⟨O.toArray⟩ ∧ qs.t 3 = .string ⟨lg.toArray⟩ ∧ qs.t 5 = .slice ma many.length mc ∧ qs.t 6 = .int .i64 i ∧ i ≤ 65 ∧ SRow m M ma mc many ∧ many.length = i ∧ ∀ s ∈ many, s.length ≤ 100) (65 - (0)) ⟨0, m, none, 0, [], rfl, rfl, ?qm, ?q1, ?q2, ?q3, ?q5, ?q6, ?_⟩ ?_
      case qm | q1 | q2 | q3 | q5 | q6 => first | rfl | (simp -implicitDefEqProofs (disch := first | omega | with_reducible assumption | (simp only [zU, zC]; omega)) only [zT, zA, reduceCtorEq, zB, zC, zD, zE, zF, zG, zH, zI, zJ, zK, zL, reduceIte, t1, t2, t3, t4]; first | done | rfl | (congr 1; omega))
      · exact ⟨by omega, SRow.nil _, rfl, fun s h => by cases h⟩
      · rintro N t m1 ds ⟨i, M, ma, mc, many, rfl, hds, hm, t1, t2, t3, t5, t6, hp⟩
        simp only at hds hm t1 t2 t3 t5 t6
        subst hds; replace hm := hm.symm; subst hm
        obtain ⟨hi, hS, hml, hms⟩ := hp
        by_cases g : (i : Int) < 65
        · have r1 : (i : Int).tdiv 26 = ((i / 26 : Nat) : Int) := by rw [Int.tdiv_eq_ediv_of_nonneg (by omega)]; omega
          have r2 : (i : Int).tmod 26 = ((i % 26 : Nat) : Int) := by rw [Int.tmod_eq_emod_of_nonneg (by omega)]; omega
          obtain ⟨x, e1⟩ : ∃ x : UInt8, (97 : Int) + ((i / 26 : Nat) : Int) = (x.toNat : Int) := ⟨UInt8.ofNat (97 + i / 26), by rw [UInt8.toNat_ofNat']; omega⟩
          obtain ⟨y, e2⟩ : ∃ y : UInt8, (97 : Int) + ((i % 26 : Nat) : Int) = (y.toNat : Int) := ⟨UInt8.ofNat (97 + i % 26), by rw [UInt8.toNat_ofNat']; omega⟩
          have lx := x.toNat_lt
          have ly := y.toNat_lt
          have hB : BSl (mx M [.cells ([x, y].map byteV) 5 true .exact]) (some ⟨M.size, 0, none⟩) 2 [x, y] := .inr ⟨_, _, _, _, _, _, rfl, by rw [mx_size]; simp, mx_new0 _ _, rfl, .inr ⟨openCap_lt (by omega), by simp⟩⟩
          have s0 := hB.str
          obtain ⟨a', c', M', happ, hS'⟩ := (hS.more (Old.here M [.cells ([x, y].map byteV) 5 true .exact])).one (by omega) (Z ++ [x, y])
          rw [mx_mx, mx_size] at happ
          simp only [List.map_cons, List.map_nil, byteV, List.length_cons, List.length_nil, Nat.zero_add, zC, List.cons_append, List.nil_append] at s0 happ
          repeat first | simp -implicitDefEqProofs (disch := first | omega | with_reducible assumption | (simp only [zU, zC]; omega)) only [zT, zA, reduceCtorEq, zB, zC, zD, zE, zF, zG, zH, zI, zJ, zK, zL, reduceIte, F9_l1, t1, t2, t3, t5, t6, g, binV_quo, binV_rem, r1, r2, e1, e2, stepOp_b2s_v, s0, stepOp_app_v, happ] | refine OrW.go ?_
          rw [LoopK_normal]; refine ⟨_, ?_, i + 1, M', a', c', many ++ [Z ++ [x, y]], rfl, rfl, ?qm, ?q1, ?q2, ?q3, ?q5, ?q6, ?_⟩
          case qm | q1 | q2 | q3 | q5 | q6 => first | rfl | (simp -implicitDefEqProofs (disch := first | omega | with_reducible assumption | (simp only [zU, zC]; omega)) only [zT, zA, reduceCtorEq, zB, zC, zD, zE, zF, zG, zH, zI, zJ, zK, zL, reduceIte, t1, t2, t3, t5, t6]; first | done | rfl | (congr 1; omega))
          · omega
          · refine ⟨by omega, hS', by simp; omega, fun s hs => ?_⟩
            rcases List.mem_append.1 hs with h | h
            · exact hms s h
            · rw [List.mem_singleton] at h; subst h; simp; omega
        · obtain rfl : i = 65 := by omega
          obtain ⟨ta, hta⟩ := hS.strs.tail1 hml
          have q1 := fun l' => (hta l').1
          rw [hml] at t5
          repeat first | simp -implicitDefEqProofs (disch := first | omega | with_reducible assumption | (simp only [zU, zC]; omega)) only [zT, zA, reduceCtorEq, zB, zC, zD, zE, zF, zG, zH, zI, zJ, zK, zL, reduceIte, F9_l1, t1, t2, t3, t5, t6, g, stepOp_slV_v, q1, fill11] | refine OrW.go ?_
          have hZO : ∀ s ∈ [Z, O], s.length ≤ 200 := fun s h => by simp at h; rcases h with rfl | rfl <;> omega
          have hu := fun t => known_u m (mx M (kObjs M.size Z O lg ma ta mc)) hg (hS.old.mx _) (M.size + 4) (by rw [mx_size]; simp [kObjs]) (rows_k M Z O lg ma ta mc many zl34 ol34 hlg hml hms hS.strs.row (hta _).2)
            ⟨[120], [Z, O], [100, 105, 114, 32, 34, 97, 34, 10]⟩ (some ⟨M.size, 0, none⟩) 2 (by rw [show (mx M (kObjs M.size Z O lg ma ta mc)).get (M.size + 4) = .cells (kCells M.size lg ma ta mc) 24 true .exact from mx_new _ _ 4]; rfl)
            ⟨by simp, (fun s h => by have := hZO s h; omega), by simp, by simp⟩ (Nat.le_trans (small_len ⟨⟨by simp, (fun s h => by have := hZO s h; omega), by simp, by simp⟩, by simp, by simp, by simp, hZO⟩) (by omega)) (src_at M (kObjs M.size Z O lg ma ta mc) 0 rfl).str t
          rw [mx_mx, List.append_nil] at hu
          simp only [kObjs, kCells, List.map_cons, List.map_nil, sV] at hu
          exact hu _ (by simp -implicitDefEqProofs (disch := first | omega | with_reducible assumption | (simp only [zU, zC]; omega)) only [zT, zA, reduceCtorEq, zB, zC, zD, zE, zF, zG, zH, zI, zJ, zK, zL, reduceIte])
end Go.Proofs.YtgkmlbkocgjmmaaDoor
namespace Go.AM
set_option linter.unusedVariables false
section
variable {P : Program}
theorem laid_words {w : World} {name : String} {g t e : Nat} {n : Nat} {zs : List UInt32} {cs : Array Value} {fuel : Nat} {p : List MemPlace}
    (hg : P.globalNamed name = some g) (hv : w.var? P name = some cs) (ht : P.underlying t = some (.array n e)) (he : P.underlying e = some (.int .u32)) (hct : P.cellsOf t = n) (hc : P.cellsOf e = 1)
    (hd : DataW.trod (fun _ => ()) P w 0 (fun _ => true) false fuel t cs.toList = some (.agg (zs.map fun z => .lit (.int .u32 (z.toNat : Int))), p)) :
    ∃ ty frz, w.heap[g]? = some (.cells cs ty frz) ∧ cs = (zs.map w32).toArray := by
  obtain ⟨xs, mm, _, ex, hlen, hl, hel⟩ := DataW.trod_array ht hd
  have e1 : zs.map (fun z => DataW.lit (.int .u32 (z.toNat : Int))) = xs.map (·.1) := DataW.agg.inj (Prod.mk.inj ex).1
  rw [hct] at hlen
  have hzl : zs.length = n := by have := congrArg List.length e1; simp at this; omega
  simp only [World.var?, hg, Option.bind_some] at hv
  split at hv <;> simp at hv
  rename_i cs' ty frz hh
  subst hv
  refine ⟨ty, frz, hh, ?_⟩
  apply Array.ext'
  apply List.ext_getElem
  · simp [hzl] at hlen ⊢; omega
  · intro i h1 h2
    have hi : i < n := by simp at hlen h1; omega
    have k := hel i hi
    rw [hc, Nat.mul_one] at k
    have k1 : (cs'.toList.drop i).take 1 = [cs'.toList[i]] := by rw [List.drop_eq_getElem_cons h1]; simp
    rw [k1, List.getElem?_eq_getElem (by omega)] at k
    obtain ⟨z, a0, b0, _⟩ := DataW.trod_int he k
    have a1 : cs'.toList[i] = .int .u32 z := by simpa using a0
    rw [a1]
    have e2 := congrArg (fun l => l[i]?) e1
    simp only [List.getElem?_map, List.getElem?_eq_getElem (show i < zs.length by omega), List.getElem?_eq_getElem (show i < xs.length by omega), Option.map_some, Option.some.injEq, b0] at e2
    simp only [DataW.lit.injEq, Lit.int.injEq, true_and] at e2
    simp [w32, e2]
end
end Go.AM
namespace Go.Proofs.YtgkmlbkocgjmmaaDoor.gl
open Go.ChangeShapes Go.WideShapes Go.ChangeAt Go.RowKit
set_option linter.unusedVariables false
theorem own : ownKnob Tryd.prog.godebug = none := by kernel_rfl
abbrev laid : List (String × DataW Unit) := [("tithebarn/sha.constants", Rows.laid_tithebarn_sha_constants), ("tithebarn/sha.begin", Rows.laid_tithebarn_sha_begin)]

theorem globs {W : World} (h : laidMetH Tryd.prog laid W) : (∃ ty frz, W.heap[0]? = some (.cells (AM.constW.map AM.w32).toArray ty frz)) ∧ ∃ ty frz, W.heap[1]? = some (.cells (AM.beginW.map AM.w32).toArray ty frz) := by
  rw [MakeChecks.laidMetH_plain _ _ _ (by kernel_rfl)] at h
  obtain ⟨ps, ⟨g, t, cs, fuel, p, q, hg, ht, hv, hd, ⟨g2, t2, cs2, fuel2, p2, q2, hg2, ht2, hv2, hd2, _, _⟩, _⟩, _, _⟩ := h
  have k0 : Tryd.prog.globalNamed "tithebarn/sha.constants" = some 0 := by kernel_rfl
  have k1 : Tryd.prog.globalNamed "tithebarn/sha.begin" = some 1 := by kernel_rfl
  obtain rfl := Option.some.inj (k0.symm.trans hg)
  obtain rfl := Option.some.inj (k1.symm.trans hg2)
  obtain rfl := Option.some.inj ((show (Tryd.prog.globals[0]?).map (·.type) = some 127 by kernel_rfl).symm.trans ht)
  obtain rfl := Option.some.inj ((show (Tryd.prog.globals[1]?).map (·.type) = some 92 by kernel_rfl).symm.trans ht2)
  obtain ⟨ty, frz, h1, rfl⟩ := AM.laid_words (zs := AM.constW) k0 hv Tryd.underlying127 Tryd.underlying91 (by kernel_rfl) (by kernel_rfl) hd
  obtain ⟨ty2, frz2, h2, rfl⟩ := AM.laid_words (zs := AM.beginW) k1 hv2 Tryd.underlying92 Tryd.underlying91 (by kernel_rfl) (by kernel_rfl) hd2
  exact ⟨⟨ty, frz, h1⟩, ⟨ty2, frz2, h2⟩⟩

noncomputable def laidWorld (os : Os) : World :=
  let w0 := World.holding Tryd.prog os ⟨#[], #[], []⟩
  { w0 with heap := (w0.heap.modify 0 fun
      | .cells _ t frozen => .cells (AM.constW.map AM.w32).toArray t frozen
      | o => o).modify 1 fun
      | .cells _ t frozen => .cells (AM.beginW.map AM.w32).toArray t frozen
      | o => o }
theorem laidWorld_met (os : Os) (args : Array Value) : laidMetH Tryd.prog laid ((laidWorld os).forCall (fun _ _ => 0) ⟨#[], args, []⟩).memory := by
  rw [MakeChecks.laidMetH_plain _ _ _ (by kernel_rfl)]
  exact laidMet_of_run' 8 (by kernel_rfl) (by kernel_rfl)

def osOf (ty ty2 : TypeId) (l : List (AM.AObj × AM.Loc)) : List (AM.AObj × AM.Loc) :=
  (.cells (AM.constW.map AM.w32) ty false (.full 1), ⟨0, 0, 64, 1⟩) :: (.cells (AM.beginW.map AM.w32) ty2 false (.full 1), ⟨1, 0, 8, 1⟩) :: (.dead, ⟨2, 0, 0, 1⟩) :: l
theorem plain_w (l : List UInt32) : ∀ v ∈ l.map AM.w32, AM.Plain v := fun v hv => by
  simp only [List.mem_map] at hv; obtain ⟨x, _, rfl⟩ := hv; exact AM.plain_w32 _
theorem obj_w {W : World} {ρ : AM.Ren} {g : Nat} {l : List UInt32} {ty : TypeId} {frz : Nat × Nat} (h : W.heap[g]? = some (.cells (l.map AM.w32).toArray ty frz)) {n : Nat} (hn : l.length = n) : AM.ObjRel ρ (.cells (l.map AM.w32) ty false (.full 1)) ⟨g, 0, n, 1⟩ W := by
  have := AM.ObjRel.plain (ρ := ρ) (c := l.map AM.w32) (o := 0) (e := ty) h (by simp) (fun j hj => by simp; simp at hj; simp [hj]) (plain_w l) 1 (by omega)
  rwa [List.length_map, hn] at this
theorem wrtL {ty ty2 : TypeId} {l : List (AM.AObj × AM.Loc)} (hl : ∀ x ∈ l, x.1.wrt = false) : ∀ x ∈ osOf ty ty2 l, x.1.wrt = false := fun x hx => by
  simp only [osOf, List.mem_cons] at hx
  rcases hx with rfl | rfl | rfl | hx
  · rfl
  · rfl
  · rfl
  · exact hl x hx
theorem rep {W : World} {ty ty2 : TypeId} {frz frz2 : Nat × Nat} (h0 : W.heap[0]? = some (.cells (AM.constW.map AM.w32).toArray ty frz)) (h1 : W.heap[1]? = some (.cells (AM.beginW.map AM.w32).toArray ty2 frz2))
    {l : List (AM.AObj × AM.Loc)} (hl : ∀ x ∈ l, AM.ObjRel (AM.renOf (osOf ty ty2 l)) x.1 x.2 W) (hw : ∀ x ∈ l, x.1.wrt = false) : AM.Rep 3 (AM.memOf (osOf ty ty2 l)) (AM.renOf (osOf ty ty2 l)) W := by
  refine AM.Rep.of (osOf ty ty2 l) (fun g hg => ?_) (fun x hx => ?_) (wrtL hw)
  · match g, hg with
    | 0, _ => exact ⟨_, rfl, rfl, rfl⟩
    | 1, _ => exact ⟨_, rfl, rfl, rfl⟩
    | 2, _ => exact ⟨_, rfl, rfl, rfl⟩
  · simp only [osOf, List.mem_cons] at hx
    rcases hx with rfl | rfl | rfl | hx
    · exact obj_w h0 rfl
    · exact obj_w h1 rfl
    · trivial
    · exact hl x hx
theorem glob (ty ty2 : TypeId) (l : List (AM.AObj × AM.Loc)) : S.Glob (AM.memOf (osOf ty ty2 l)) := ⟨⟨ty, _, rfl⟩, ⟨ty2, _, rfl⟩, by show 2 < l.length + 1 + 1 + 1; omega⟩
def Arg (W : World) (k : Nat) (L : List (AM.AObj × AM.Loc)) (F : AM.AMem → AM.Ren → Prop) : Prop :=
  (∀ x ∈ L, x.1.wrt = false) ∧ ∀ (ty ty2 : TypeId) (l : List (AM.AObj × AM.Loc)), (∀ j (h : j < L.length), l[k + j]? = some L[j]) → (∀ x ∈ L, AM.ObjRel (AM.renOf (osOf ty ty2 l)) x.1 x.2 W) ∧ F (AM.memOf (osOf ty ty2 l)) (AM.renOf (osOf ty ty2 l))
theorem Arg.none (W : World) (k : Nat) : Arg W k [] fun _ _ => True := ⟨(fun x h => by cases h), fun ty ty2 l _ => ⟨(fun x h => by cases h), trivial⟩⟩
theorem Arg.and {W : World} {k : Nat} {L1 L2 : List (AM.AObj × AM.Loc)} {F1 F2 : AM.AMem → AM.Ren → Prop} (h1 : Arg W k L1 F1) (h2 : Arg W (k + L1.length) L2 F2) : Arg W k (L1 ++ L2) fun m ρ => F1 m ρ ∧ F2 m ρ := by
  refine ⟨fun x hx => (List.mem_append.1 hx).elim (h1.1 x) (h2.1 x), fun ty ty2 l hl => ?_⟩
  obtain ⟨a1, b1⟩ := h1.2 ty ty2 l fun j h => by rw [hl j (by rw [List.length_append]; omega), List.getElem_append_left h]
  obtain ⟨a2, b2⟩ := h2.2 ty ty2 l fun j h => by
    rw [Nat.add_assoc, hl (L1.length + j) (by rw [List.length_append]; omega), List.getElem_append_right (by omega)]
    simp only [Nat.add_sub_cancel_left]
  exact ⟨fun x hx => (List.mem_append.1 hx).elim (a1 x) (a2 x), b1, b2⟩
theorem Arg.all {W : World} {L : List (AM.AObj × AM.Loc)} {F : AM.AMem → AM.Ren → Prop} (h : Arg W 0 L F) (ty ty2 : TypeId) : (∀ x ∈ L, AM.ObjRel (AM.renOf (osOf ty ty2 L)) x.1 x.2 W) ∧ F (AM.memOf (osOf ty ty2 L)) (AM.renOf (osOf ty ty2 L)) :=
  h.2 ty ty2 L fun j hj => by rw [Nat.zero_add]; exact List.getElem?_eq_getElem hj

abbrev RowT := List (List UInt8) × Value
def RowT.ok (W : World) (z : RowT) : Prop := AM.SlP W (z.1.map fun s => .string ⟨s.toArray⟩) z.2 ∧ (∀ y ∈ z.1, y.length ≤ 9223372036854775807) ∧ z.1.length ≤ 9223372036854775807
instance : Inhabited RowT := ⟨([], .bool false)⟩
end Go.Proofs.YtgkmlbkocgjmmaaDoor.gl
