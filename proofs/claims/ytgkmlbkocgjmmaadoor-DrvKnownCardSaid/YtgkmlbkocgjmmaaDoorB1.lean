/-
  The letters of a digest, as numbers: no program in sight.
-/
import Derived.Test.YtgkmlbkocgjmmaaDoorA3
import Derived.Test.YtgkmlbkocgjmmaaDoorDrvF
import Derived.Laws.Externs
import Derived.Test.YtgkmlbkocgjmmaaDoorA4
set_option linter.unusedVariables false
set_option linter.unusedSimpArgs false
set_option linter.unnecessarySimpa false
open Nat renaming reduceBEq → zA, reduceEqDiff → zB, reduceAdd → zC, reduceMul → zD, reduceSub → zE
open Int renaming reduceToNat → zF, reduceEq → zG, reduceLT → zH, reduceLE → zI, reduceAdd → zJ, reduceSub → zK, reduceMul → zL
namespace Go.Proofs.YtgkmlbkocgjmmaaDoor.N
open Go Go.AM
set_option maxRecDepth 100000
set_option linter.unusedVariables false
set_option linter.unusedSimpArgs false

def alpha : List UInt8 := [48, 49, 50, 51, 52, 53, 54, 55, 56, 57, 97, 98, 99, 100, 102, 103, 104, 105, 106, 107, 108, 109, 110, 112, 113, 114, 115, 118, 119, 120, 121, 122]
theorem alpha_at (i : Nat) (h : i < 32) : (⟨#[48, 49, 50, 51, 52, 53, 54, 55, 56, 57, 97, 98, 99, 100, 102, 103, 104, 105, 106, 107, 108, 109, 110, 112, 113, 114, 115, 118, 119, 120, 121, 122]⟩ : ByteArray)[i]? = some (alpha[i]'h) := by
  have : ∀ i : Fin 32, (⟨#[48, 49, 50, 51, 52, 53, 54, 55, 56, 57, 97, 98, 99, 100, 102, 103, 104, 105, 106, 107, 108, 109, 110, 112, 113, 114, 115, 118, 119, 120, 121, 122]⟩ : ByteArray)[i.val]? = some (alpha[i.val]'i.isLt) := by decide +kernel
  exact this ⟨i, h⟩

def valZ (c : UInt8) : Int := if c ∈ alpha then (alpha.idxOf c : Int) else -1
theorem valZ_at {c : UInt8} {i : Nat} (h : i < 32) (hi : alpha[i]'h = c) : valZ c = i := by
  have : ∀ i : Fin 32, valZ (alpha[i.val]'i.isLt) = i.val := by decide +kernel
  rw [← hi]; exact this ⟨i, h⟩
theorem valZ_none {c : UInt8} (h : ∀ i (h : i < 32), alpha[i]'h ≠ c) : valZ c = -1 := by
  unfold valZ
  rw [if_neg]
  intro hm
  obtain ⟨i, hi, he⟩ := List.getElem_of_mem hm
  exact h i hi he

theorem value_ok (m : AMem) (c : UInt8) : ACall Tryd.prog 3 85 [byteV c] m fun r m' => r = .ret (.int .i64 (valZ c)) ∧ m' = m := by
  refine ACall_of_W (fn := Tryd.f85) rfl rfl F85_ok (by simp [F85]) ?_
  simp -implicitDefEqProofs (disch := omega) only [amS, zA, reduceCtorEq, zB, zC, zD, zE, zF, zG, zH, zI, zJ, zK, zL, reduceIte, zS, F85]
  refine W_loop (fun n s => ∃ i, i ≤ 32 ∧ n = 32 - i ∧ s.m = m ∧ s.ds = [] ∧ s.t 0 = byteV c ∧ s.t 3 = .int .i64 i ∧ ∀ j (h : j < 32), j < i → alpha[j]'h ≠ c) 32 ⟨0, by omega, rfl, rfl, rfl, by simp -implicitDefEqProofs (disch := omega) only [amS, zA, reduceCtorEq, zB, zC, zD, zE, zF, zG, zH, zI, zJ, zK, zL, reduceIte, zS], by simp -implicitDefEqProofs (disch := omega) only [amS, zA, reduceCtorEq, zB, zC, zD, zE, zF, zG, zH, zI, zJ, zK, zL, reduceIte, zS]; rfl, by omega⟩ ?_
  rintro n t m' ds ⟨i, hi, rfl, rfl, rfl, h0, h3, hne⟩
  simp only at h0 h3
  simp -implicitDefEqProofs (disch := omega) only [amS, zA, reduceCtorEq, zB, zC, zD, zE, zF, zG, zH, zI, zJ, zK, zL, reduceIte, zS, F85_l0, h0, h3, byteV]
  refine BoolW_dec (fun h => ?_) (fun h => ?_)
  · have hs := alpha_at i (by omega)
    simp -implicitDefEqProofs (disch := omega) only [amS, zA, reduceCtorEq, zB, zC, zD, zE, zF, zG, zH, zI, zJ, zK, zL, reduceIte, zS, h0, h3, byteV, hs]
    refine BoolW_dec (fun h => ?_) (fun h => ?_)
    · rw [valZ_at (i := i) (by omega) (UInt8.toNat_inj.1 (by exact_mod_cast h))]
    · refine ⟨32 - (i + 1), by omega, i + 1, by omega, by omega, rfl, rfl, by simp -implicitDefEqProofs (disch := omega) only [amS, zA, reduceCtorEq, zB, zC, zD, zE, zF, zG, zH, zI, zJ, zK, zL, reduceIte, zS, h0, byteV], by simp -implicitDefEqProofs (disch := omega) only [amS, zA, reduceCtorEq, zB, zC, zD, zE, zF, zG, zH, zI, zJ, zK, zL, reduceIte, zS]; rfl, ?_⟩
      intro j hj hji
      by_cases he : j = i
      · subst he; intro hc; apply h; rw [hc]
      · exact hne j hj (by omega)
  · rw [valZ_none fun j hj => hne j hj (by omega)]
end Go.Proofs.YtgkmlbkocgjmmaaDoor.N
set_option linter.unusedVariables false
namespace Go.Proofs.YtgkmlbkocgjmmaaDoor.N

def bigN (l : List UInt8) : Nat := l.foldl (fun n c => n * 256 + c.toNat) 0

theorem foldl_big (l : List UInt8) : ∀ a : Nat, l.foldl (fun n c => n * 256 + c.toNat) a = a * 256 ^ l.length + bigN l := by
  induction l with
  | nil => intro a; simp [bigN]
  | cons x r ih =>
    intro a
    simp only [List.foldl_cons, bigN]
    rw [ih, ih (0 * 256 + x.toNat)]
    simp only [List.length_cons, Nat.pow_succ, Nat.zero_mul, Nat.zero_add, Nat.add_mul]
    rw [Nat.mul_assoc, Nat.mul_comm 256]; omega

theorem bigN_append (a b : List UInt8) : bigN (a ++ b) = bigN a * 256 ^ b.length + bigN b := by
  unfold bigN
  rw [List.foldl_append, foldl_big b]; rfl

theorem bigN_lt (l : List UInt8) : bigN l < 256 ^ l.length := by
  induction l with
  | nil => simp [bigN]
  | cons x r ih =>
    have h := bigN_append [x] r
    have hx := x.toNat_lt
    have hb : bigN [x] = x.toNat := by simp [bigN]
    rw [List.singleton_append, hb] at h
    rw [h, List.length_cons, Nat.pow_succ]
    have := Nat.mul_le_mul_right (256 ^ r.length) (show x.toNat + 1 ≤ 256 by omega)
    rw [Nat.add_mul] at this
    rw [Nat.mul_comm (256 ^ r.length)]
    omega

theorem bigN_take_succ {l : List UInt8} {j : Nat} (h : j < l.length) : bigN (l.take (j + 1)) = bigN (l.take j) * 256 + l[j].toNat := by
  rw [List.take_succ_eq_append_getElem h, bigN_append]
  simp [bigN]

theorem bigN_take {l : List UInt8} {j : Nat} (h : j ≤ l.length) : bigN (l.take j) = bigN l / 256 ^ (l.length - j) := by
  have h1 : bigN l = bigN (l.take j) * 256 ^ (l.length - j) + bigN (l.drop j) := by
    conv => lhs; rw [← List.take_append_drop j l]
    rw [bigN_append]; simp
  have h2 := bigN_lt (l.drop j)
  rw [List.length_drop] at h2
  rw [h1, Nat.add_comm, Nat.add_mul_div_right _ _ (Nat.pow_pos (by omega)), Nat.div_eq_of_lt h2, Nat.zero_add]

def letV (l : List UInt8) (e : Nat) : Nat := bigN l / 2 ^ (155 - 5 * e) % 32
theorem letV_lt (l : List UInt8) (e : Nat) : letV l e < 32 := Nat.mod_lt _ (by omega)
def letAt (l : List UInt8) (e : Nat) : UInt8 := alpha[letV l e]'(letV_lt l e)
def lettersTo (l : List UInt8) (n : Nat) : List UInt8 := (List.range n).map (letAt l)
theorem lettersTo_succ (l : List UInt8) (n : Nat) : lettersTo l (n + 1) = lettersTo l n ++ [letAt l n] := by simp [lettersTo, List.range_succ]
theorem lettersTo_length (l : List UInt8) (n : Nat) : (lettersTo l n).length = n := by simp [lettersTo]

theorem word_letter (N h : Nat) (hh : h ≤ 59) : (N % 2 ^ 64) >>> h &&& 31 = N / 2 ^ h % 32 := by
  rw [show (31 : Nat) = 2 ^ 5 - 1 from rfl, Nat.and_two_pow_sub_one_eq_mod, Nat.shiftRight_eq_div_pow]
  rw [show (2 : Nat) ^ 64 = 2 ^ h * 2 ^ (64 - h) by rw [← Nat.pow_add]; congr 1; omega, Nat.mod_mul_right_div_self]
  rw [show (2 : Nat) ^ 5 = 32 from rfl]
  apply Nat.mod_mod_of_dvd
  rw [show (32 : Nat) = 2 ^ 5 from rfl]
  exact Nat.pow_dvd_pow 2 (by omega)

theorem letV_at {l : List UInt8} (hl : l.length = 20) {j e h : Nat} (hj : j < 20) (he : 8 * (j + 1) = 5 * (e + 1) + h) : bigN (l.take (j + 1)) / 2 ^ h % 32 = letV l e := by
  rw [bigN_take (by omega), hl, letV, Nat.div_div_eq_div_mul]
  congr 2
  rw [show (256 : Nat) = 2 ^ 8 from rfl, ← Nat.pow_mul, ← Nat.pow_add]
  congr 1
  omega

theorem word_next (N c : Nat) (hc : c < 256) : ((N % 2 ^ 64) * 2 ^ 8 % 2 ^ 64) ||| c = (N * 256 + c) % 2 ^ 64 := by
  have h1 : (N % 2 ^ 64) * 2 ^ 8 % 2 ^ 64 = 2 ^ 8 * (N % 2 ^ 56) := by omega
  rw [h1, ← Nat.two_pow_add_eq_or_of_lt (by omega)]
  omega
end Go.Proofs.YtgkmlbkocgjmmaaDoor.N
set_option linter.unusedVariables false
namespace Go.Proofs.YtgkmlbkocgjmmaaDoor.N

theorem bit_big {l : List UInt8} (hl : l.length = 20) {n : Nat} (hn : n < 160) : (l[n / 8]'(by omega)).toNat >>> (7 - n % 8) &&& 1 = bigN l / 2 ^ (159 - n) % 2 := by
  have hj : n / 8 < l.length := by omega
  have h1 := bigN_take (l := l) (j := n / 8 + 1) (by omega)
  rw [bigN_take_succ hj] at h1
  have hx := (l[n / 8]'hj).toNat_lt
  have h2 : (l[n / 8]'hj).toNat = bigN l / 256 ^ (l.length - (n / 8 + 1)) % 256 := by omega
  rw [show (1 : Nat) = 2 ^ 1 - 1 from rfl, Nat.and_two_pow_sub_one_eq_mod, Nat.shiftRight_eq_div_pow, h2, hl]
  have h4 : ∀ D q : Nat, q < 8 → D % 256 / 2 ^ (7 - q) % 2 ^ 1 = D / 2 ^ (7 - q) % 2 := by
    intro D q hq
    rw [show (256 : Nat) = 2 ^ (7 - q) * 2 ^ (q + 1) by rw [← Nat.pow_add, show 7 - q + (q + 1) = 8 by omega], Nat.mod_mul_right_div_self, Nat.pow_one,
      Nat.mod_mod_of_dvd _ (by rw [Nat.pow_succ]; exact Nat.dvd_mul_left _ _)]
  rw [h4 _ _ (Nat.mod_lt _ (by omega)), Nat.div_div_eq_div_mul, show (256 : Nat) = 2 ^ 8 from rfl, ← Nat.pow_mul, ← Nat.pow_add]
  congr 3
  omega

def bitsV (l : List UInt8) (n k : Nat) : Nat := bigN l / 2 ^ (160 - n - k) % 2 ^ k
theorem bitsV_zero (l : List UInt8) (n : Nat) : bitsV l n 0 = 0 := by simp [bitsV, Nat.mod_one]
theorem bitsV_succ {l : List UInt8} (hl : l.length = 20) {n k : Nat} (h : n + k < 160) : bitsV l n (k + 1) = 2 * bitsV l n k + ((l[(n + k) / 8]'(by omega)).toNat >>> (7 - (n + k) % 8) &&& 1) := by
  rw [bit_big hl h]
  unfold bitsV
  rw [show 160 - n - k = (159 - (n + k)) + 1 by omega, show 160 - n - (k + 1) = 159 - (n + k) by omega]
  rw [Nat.pow_succ 2 (159 - (n + k)), ← Nat.div_div_eq_div_mul]
  generalize bigN l / 2 ^ (159 - (n + k)) = M
  rw [Nat.pow_succ, Nat.mul_comm (2 ^ k) 2, Nat.mod_mul]
  omega
theorem bitsV_lt (l : List UInt8) (n k : Nat) : bitsV l n k < 2 ^ k := Nat.mod_lt _ (Nat.pow_pos (by omega))
theorem bitsV_five (l : List UInt8) (e : Nat) : bitsV l (5 * e) 5 = letV l e := by
  unfold bitsV letV
  rw [show 160 - 5 * e - 5 = 155 - 5 * e by omega]
theorem alpha_ex (v : Nat) (h : v < 32) : (⟨#[48, 49, 50, 51, 52, 53, 54, 55, 56, 57, 97, 98, 99, 100, 102, 103, 104, 105, 106, 107, 108, 109, 110, 112, 113, 114, 115, 118, 119, 120, 121, 122]⟩ : ByteArray).extract v (v + 1) = ⟨#[alpha[v]'h]⟩ := by
  have : ∀ v : Fin 32, (⟨#[48, 49, 50, 51, 52, 53, 54, 55, 56, 57, 97, 98, 99, 100, 102, 103, 104, 105, 106, 107, 108, 109, 110, 112, 113, 114, 115, 118, 119, 120, 121, 122]⟩ : ByteArray).extract v.val (v.val + 1) = ⟨#[alpha[v.val]'v.isLt]⟩ := by decide +kernel
  exact this ⟨v, h⟩
theorem str_app (a b : List UInt8) : (⟨a.toArray⟩ : ByteArray) ++ ⟨b.toArray⟩ = ⟨(a ++ b).toArray⟩ := by
  apply ByteArray.ext; simp
theorem str_size (a : List UInt8) : (⟨a.toArray⟩ : ByteArray).size = a.length := by simp [ByteArray.size]
end Go.Proofs.YtgkmlbkocgjmmaaDoor.N
set_option linter.unusedVariables false
namespace Go.Proofs.YtgkmlbkocgjmmaaDoor.N

theorem valZ_lt (c : UInt8) : valZ c < 32 := by
  unfold valZ
  split
  · rename_i h
    have := List.idxOf_lt_length_iff.2 h
    have h2 : alpha.length = 32 := rfl
    omega
  · omega
theorem firstIdx_alpha (c : UInt8) : firstIdx (⟨#[48, 49, 50, 51, 52, 53, 54, 55, 56, 57, 97, 98, 99, 100, 102, 103, 104, 105, 106, 107, 108, 109, 110, 112, 113, 114, 115, 118, 119, 120, 121, 122]⟩ : ByteArray) c = valZ c := by
  have : ∀ c : Fin 256, firstIdx (⟨#[48, 49, 50, 51, 52, 53, 54, 55, 56, 57, 97, 98, 99, 100, 102, 103, 104, 105, 106, 107, 108, 109, 110, 112, 113, 114, 115, 118, 119, 120, 121, 122]⟩ : ByteArray) (UInt8.ofNat c.val) = valZ (UInt8.ofNat c.val) := by decide +kernel
  have h := this ⟨c.toNat, c.toNat_lt⟩
  simpa using h

def valL (s : List UInt8) : Nat := s.foldl (fun n c => n * 32 + (valZ c).toNat) 0

theorem foldl_val (l : List UInt8) : ∀ a : Nat, l.foldl (fun n c => n * 32 + (valZ c).toNat) a = a * 32 ^ l.length + valL l := by
  induction l with
  | nil => intro a; simp [valL]
  | cons x r ih =>
    intro a
    simp only [List.foldl_cons, valL]
    rw [ih, ih (0 * 32 + (valZ x).toNat)]
    simp only [List.length_cons, Nat.pow_succ, Nat.zero_mul, Nat.zero_add, Nat.add_mul]
    rw [Nat.mul_assoc, Nat.mul_comm 32]; omega

theorem valL_append (a b : List UInt8) : valL (a ++ b) = valL a * 32 ^ b.length + valL b := by
  unfold valL
  rw [List.foldl_append, foldl_val b]; rfl

theorem valL_one (c : UInt8) : valL [c] = (valZ c).toNat := by simp [valL]

theorem valL_lt (l : List UInt8) : valL l < 32 ^ l.length := by
  induction l with
  | nil => simp [valL]
  | cons x r ih =>
    have h := valL_append [x] r
    have hx := valZ_lt x
    rw [List.singleton_append, valL_one] at h
    rw [h, List.length_cons, Nat.pow_succ]
    have := Nat.mul_le_mul_right (32 ^ r.length) (show (valZ x).toNat + 1 ≤ 32 by omega)
    rw [Nat.add_mul] at this
    rw [Nat.mul_comm (32 ^ r.length)]
    omega

theorem valL_take_succ {l : List UInt8} {j : Nat} (h : j < l.length) : valL (l.take (j + 1)) = valL (l.take j) * 32 + (valZ l[j]).toNat := by
  rw [List.take_succ_eq_append_getElem h, valL_append, valL_one]; simp

theorem valL_take {l : List UInt8} {j : Nat} (h : j ≤ l.length) : valL (l.take j) = valL l / 32 ^ (l.length - j) := by
  have h1 : valL l = valL (l.take j) * 32 ^ (l.length - j) + valL (l.drop j) := by
    conv => lhs; rw [← List.take_append_drop j l]
    rw [valL_append]; simp
  have h2 := valL_lt (l.drop j)
  rw [List.length_drop] at h2
  rw [h1, Nat.add_comm, Nat.add_mul_div_right _ _ (Nat.pow_pos (by omega)), Nat.div_eq_of_lt h2, Nat.zero_add]

def byteAt (s : List UInt8) (j : Nat) : UInt8 := UInt8.ofNat (valL s / 2 ^ (8 * (19 - j)) % 256)
theorem byteAt_toNat (s : List UInt8) (j : Nat) : (byteAt s j).toNat = valL s / 2 ^ (8 * (19 - j)) % 256 := by simp [byteAt]
def outTo (s : List UInt8) (n : Nat) : List UInt8 := (List.range 20).map fun j => if j < n then byteAt s j else 0
theorem outTo_length (s : List UInt8) (n : Nat) : (outTo s n).length = 20 := by simp [outTo]

theorem word5_next (N c : Nat) (hc : c < 32) : ((N % 2 ^ 64) * 2 ^ 5 % 2 ^ 64) ||| c = (N * 32 + c) % 2 ^ 64 := by
  have h1 : (N % 2 ^ 64) * 2 ^ 5 % 2 ^ 64 = 2 ^ 5 * (N % 2 ^ 59) := by omega
  rw [h1, ← Nat.two_pow_add_eq_or_of_lt (by omega)]
  omega

theorem word_byte (N h : Nat) (hh : h ≤ 56) : (N % 2 ^ 64) >>> h % 256 = N / 2 ^ h % 256 := by
  rw [Nat.shiftRight_eq_div_pow]
  rw [show (2 : Nat) ^ 64 = 2 ^ h * 2 ^ (64 - h) by rw [← Nat.pow_add]; congr 1; omega, Nat.mod_mul_right_div_self]
  apply Nat.mod_mod_of_dvd
  rw [show (256 : Nat) = 2 ^ 8 from rfl]
  exact Nat.pow_dvd_pow 2 (by omega)

theorem byteAt_at {s : List UInt8} (hs : s.length = 32) {i n h : Nat} (hi : i < 32) (he : 5 * (i + 1) = 8 * (n + 1) + h) : valL (s.take (i + 1)) / 2 ^ h % 256 = (byteAt s n).toNat := by
  rw [byteAt_toNat, valL_take (by omega), hs, Nat.div_div_eq_div_mul]
  congr 2
  rw [show (32 : Nat) = 2 ^ 5 from rfl, ← Nat.pow_mul, ← Nat.pow_add]
  congr 1
  omega
end Go.Proofs.YtgkmlbkocgjmmaaDoor.N
set_option linter.unusedVariables false
namespace Go.Proofs.YtgkmlbkocgjmmaaDoor.N

def bitAt (s : List UInt8) (p j : Nat) : Nat := valL s / 2 ^ (160 - p) * 2 ^ (160 - p) / 2 ^ (8 * (19 - j)) % 256
theorem bitAt_lt (s : List UInt8) (p j : Nat) : bitAt s p j < 256 := Nat.mod_lt _ (by omega)
theorem bitAt_test (s : List UInt8) (p j t : Nat) : (bitAt s p j).testBit t = (decide (t < 8) && (decide (160 - p ≤ 8 * (19 - j) + t) && (valL s).testBit (8 * (19 - j) + t))) := by
  unfold bitAt
  rw [show (256 : Nat) = 2 ^ 8 from rfl, Nat.testBit_mod_two_pow, Nat.testBit_div_two_pow, Nat.testBit_mul_two_pow, Nat.testBit_div_two_pow]
  by_cases h : 160 - p ≤ 8 * (19 - j) + t
  · rw [show t + 8 * (19 - j) - (160 - p) + (160 - p) = 8 * (19 - j) + t by omega, decide_eq_true h, decide_eq_true (show t + 8 * (19 - j) ≥ 160 - p by omega)]
  · rw [decide_eq_false h, decide_eq_false (show ¬ t + 8 * (19 - j) ≥ 160 - p by omega)]; simp

theorem bitAt_off {s : List UInt8} {p j : Nat} (hp : p < 160) (h : (valL s).testBit (159 - p) = false) : bitAt s (p + 1) j = bitAt s p j := by
  apply Nat.eq_of_testBit_eq
  intro t
  rw [bitAt_test, bitAt_test]
  by_cases he : 8 * (19 - j) + t = 159 - p
  · rw [he, h]; simp
  · have : decide (160 - (p + 1) ≤ 8 * (19 - j) + t) = decide (160 - p ≤ 8 * (19 - j) + t) := decide_eq_decide.2 (by omega)
    rw [this]

theorem bitAt_on {s : List UInt8} {p j : Nat} (hp : p < 160) (hj : j < 20) (h : (valL s).testBit (159 - p) = true) : bitAt s (p + 1) j = if j = p / 8 then bitAt s p j ||| 2 ^ (7 - p % 8) else bitAt s p j := by
  apply Nat.eq_of_testBit_eq
  intro t
  by_cases hjp : j = p / 8
  · rw [if_pos hjp, Nat.testBit_or, bitAt_test, bitAt_test, Nat.testBit_two_pow]
    by_cases he : 8 * (19 - j) + t = 159 - p
    · rw [he, h]
      have h1 : t < 8 := by omega
      have h2 : 7 - p % 8 = t := by omega
      simp [h1, h2]
    · have h1 : decide (160 - (p + 1) ≤ 8 * (19 - j) + t) = decide (160 - p ≤ 8 * (19 - j) + t) := decide_eq_decide.2 (by omega)
      have h2 : ¬ 7 - p % 8 = t := by omega
      rw [h1]; simp [h2]
  · rw [if_neg hjp, bitAt_test, bitAt_test]
    by_cases ht : t < 8
    · have h1 : decide (160 - (p + 1) ≤ 8 * (19 - j) + t) = decide (160 - p ≤ 8 * (19 - j) + t) := decide_eq_decide.2 (by omega)
      rw [h1]
    · simp [ht]

def outP (s : List UInt8) (p : Nat) : List UInt8 := (List.range 20).map fun j => UInt8.ofNat (bitAt s p j)
theorem outP_length (s : List UInt8) (p : Nat) : (outP s p).length = 20 := by simp [outP]
theorem outP_get (s : List UInt8) (p : Nat) {j : Nat} (hj : j < 20) : (outP s p)[j]'(by simp [outP, hj]) = UInt8.ofNat (bitAt s p j) := by simp [outP]
theorem outP_toNat (s : List UInt8) (p : Nat) {j : Nat} (hj : j < 20) : ((outP s p)[j]'(by simp [outP, hj])).toNat = bitAt s p j := by
  rw [outP_get s p hj]
  have := bitAt_lt s p j
  simp; omega
theorem outP_off {s : List UInt8} {p : Nat} (hp : p < 160) (h : (valL s).testBit (159 - p) = false) : outP s (p + 1) = outP s p := by
  unfold outP
  exact List.map_congr_left fun j _ => by rw [bitAt_off hp h]
theorem valL_bound {s : List UInt8} (hs : s.length = 32) : valL s < 2 ^ 160 := by
  have := valL_lt s
  rw [hs] at this
  exact this
theorem outP_zero {s : List UInt8} (hs : s.length = 32) : outP s 0 = outTo s 0 := by
  unfold outP outTo
  refine List.map_congr_left fun j _ => ?_
  have : valL s / 2 ^ (160 - 0) = 0 := Nat.div_eq_of_lt (valL_bound hs)
  simp [bitAt, this]
theorem outP_all (s : List UInt8) : outP s 160 = outTo s 20 := by
  unfold outP outTo
  refine List.map_congr_left fun j hj => ?_
  have : j < 20 := List.mem_range.1 hj
  simp [bitAt, byteAt, this]

theorem valZ_big {s : List UInt8} (hs : s.length = 32) {i v : Nat} (hi : i < 32) (hv : valZ (s[i]'(by omega)) = v) : v = valL s / 2 ^ (5 * (31 - i)) % 32 := by
  have h1 := valL_take (l := s) (j := i + 1) (by omega)
  rw [valL_take_succ (by omega), hv, hs, Int.toNat_natCast] at h1
  have hlt := valZ_lt (s[i]'(by omega))
  rw [hv] at hlt
  rw [show 2 ^ (5 * (31 - i)) = 32 ^ (32 - (i + 1)) by rw [show (32 : Nat) = 2 ^ 5 from rfl, ← Nat.pow_mul, show 2 ^ 5 - (i + 1) = 31 - i by omega]]
  rw [← h1]
  omega

theorem valZ_bit {s : List UInt8} (hs : s.length = 32) {i k v : Nat} (hi : i < 32) (hk : k < 5) (hv : valZ (s[i]'(by omega)) = v) : (v >>> (4 - k) &&& 1) = if (valL s).testBit (159 - (5 * i + k)) then 1 else 0 := by
  have h1 := valZ_big hs hi hv
  have h2 : v.testBit (4 - k) = (valL s).testBit (159 - (5 * i + k)) := by
    rw [h1, show (32 : Nat) = 2 ^ 5 from rfl, Nat.testBit_mod_two_pow, Nat.testBit_div_two_pow]
    rw [show 4 - k + 5 * (31 - i) = 159 - (5 * i + k) by omega]; simp [show 4 - k < 5 by omega]
  rw [← h2, Nat.testBit, Nat.and_comm]
  have : 1 &&& v >>> (4 - k) = v >>> (4 - k) % 2 := by rw [Nat.and_comm, show (1 : Nat) = 2 ^ 1 - 1 from rfl, Nat.and_two_pow_sub_one_eq_mod]
  rw [this]
  rcases Nat.mod_two_eq_zero_or_one (v >>> (4 - k)) with h | h <;> simp [h]
end Go.Proofs.YtgkmlbkocgjmmaaDoor.N
namespace Go.Proofs.YtgkmlbkocgjmmaaDoor.N
open Go Go.AM
set_option maxRecDepth 100000
set_option linter.unusedVariables false
set_option linter.unusedSimpArgs false

def plainZ (c : Int) : Bool := decide (97 ≤ c) && decide (c ≤ 122) || decide (65 ≤ c) && decide (c ≤ 90) || decide (48 ≤ c) && decide (c ≤ 57) || decide (c = 43) || decide (c = 45) || decide (c = 46) || decide (c = 95)

theorem plain_ok (m : AMem) (c : Int) : ACall Tryd.prog 3 67 [.int .i32 c] m fun r m' => r = .ret (.bool (plainZ c)) ∧ m' = m := by
  refine ACall_of_W (fn := Tryd.f67) rfl rfl F67_ok (by simp [F67]) ?_
  simp -implicitDefEqProofs (contextual := true) (maxSteps := 4000000) (disch := omega) only [amS, zA, reduceCtorEq, zB, zC, zD, zE, zF, zG, zH, zI, zJ, zK, zL, reduceIte, zS, F67]
  rfl
end Go.Proofs.YtgkmlbkocgjmmaaDoor.N
namespace Go.Proofs.YtgkmlbkocgjmmaaDoor.N
open Go Go.AM
set_option maxRecDepth 100000
set_option linter.unusedVariables false
set_option linter.unusedSimpArgs false

theorem noEscape_ok (m : AMem) (v : Value) : ACall Tryd.prog 3 87 [v] m fun r m' => r = .ret v ∧ m' = m := by
  refine ACall_ext (fn := Tryd.f87) (e := Extern.AbiNoEscape.same) rfl rfl rfl rfl rfl ?_
  intro ρ w args' hR hA
  obtain ⟨args'⟩ := args'
  match args', hA with
  | [v'], hA => exact ⟨v, v', rfl, hA.2 0 (by simp) (by simp), rfl, rfl⟩
  | [], hA => simp [LRel] at hA
  | _ :: _ :: _, hA => simp [LRel] at hA

theorem indexByteString_ok (m : AMem) (s : ByteArray) (c : UInt8) : ACall Tryd.prog 3 98 [.string s, byteV c] m fun r m' => r = .ret (.int .i64 (firstIdx s c)) ∧ m' = m := by
  refine ACall_ext (fn := Tryd.f98) (e := Extern.BytealgIndexByte.indexByte) rfl rfl rfl rfl rfl ?_
  intro ρ w args' hR hA
  obtain ⟨args'⟩ := args'
  match args', hA with
  | [a, b], hA =>
    have h1 : VRel ρ (.string s) a := hA.2 0 (by simp) (by simp)
    have h2 : VRel ρ (.int .u8 c.toNat) b := hA.2 1 (by simp) (by simp)
    obtain rfl := h1.string_inv
    obtain rfl := h2.int_inv
    refine ⟨.int .i64 (firstIdx s c), _, run_indexByte_string s c.toNat w, ?_, rfl, rfl⟩
    have : ((c.toNat : Int).toNat).toUInt8 = c := by simp
    rw [this]
    exact .int _ _
  | [], hA => simp [LRel] at hA
  | [_], hA => simp [LRel] at hA
  | _ :: _ :: _ :: _, hA => simp [LRel] at hA

theorem indexByte33_ok (m : AMem) (s : ByteArray) (c : UInt8) : ACall Tryd.prog 3 93 [.string s, byteV c] m fun r m' => r = .ret (.int .i64 (firstIdx s c)) ∧ m' = m := by
  refine ACall_of_W (fn := Tryd.f93) rfl rfl F93_ok (by simp [F93]) ?_
  simp -implicitDefEqProofs (disch := omega) only [amS, zA, reduceCtorEq, zB, zC, zD, zE, zF, zG, zH, zI, zJ, zK, zL, reduceIte, zS, F93]
  refine (indexByteString_ok m s c).mono ?_
  rintro r m' ⟨rfl, rfl⟩
  simp -implicitDefEqProofs (disch := omega) only [amS, zA, reduceCtorEq, zB, zC, zD, zE, zF, zG, zH, zI, zJ, zK, zL, reduceIte, zS]

theorem indexByte_ok (m : AMem) (s : ByteArray) (c : UInt8) : ACall Tryd.prog 3 84 [.string s, byteV c] m fun r m' => r = .ret (.int .i64 (firstIdx s c)) ∧ m' = m := by
  refine ACall_of_W (fn := Tryd.f84) rfl rfl F84_ok (by simp [F84]) ?_
  simp -implicitDefEqProofs (disch := omega) only [amS, zA, reduceCtorEq, zB, zC, zD, zE, zF, zG, zH, zI, zJ, zK, zL, reduceIte, zS, F84]
  refine (indexByte33_ok m s c).mono ?_
  rintro r m' ⟨rfl, rfl⟩
  simp -implicitDefEqProofs (disch := omega) only [amS, zA, reduceCtorEq, zB, zC, zD, zE, zF, zG, zH, zI, zJ, zK, zL, reduceIte, zS]

def Bld (m : AMem) (B b : Nat) (l : List UInt8) : Prop :=
  b < m.size ∧ B ≤ m.size ∧ ((m.get b = .cells [.pointer none, .slice none 0 0] 86 true .exact ∧ l = []) ∨
    ∃ b', B ≤ b' ∧ b' < m.size ∧ b' ≠ b ∧ l ≠ [] ∧ m.get b = .cells [.pointer (some ⟨b, 0, none⟩), .slice (some ⟨b', 0, none⟩) l.length openCap] 86 true .exact ∧
      m.get b' = .cells (l.map byteV) 5 true (.room [.int .u8 0]))

theorem copyCheck_fresh (m : AMem) (b : Nat) (v : Value) (h : m.get b = .cells [.pointer none, v] 86 true .exact) :
    ACall Tryd.prog 3 75 [.pointer (some ⟨b, 0, none⟩)] m fun r m' => r = .ret (.tuple #[]) ∧ m' = m.set b (.cells [.pointer (some ⟨b, 0, none⟩), v] 86 true .exact) := by
  refine ACall_of_W (fn := Tryd.f75) rfl rfl F75_ok (by simp [F75]) ?_
  have h1 : rd m b 0 1 = some [.pointer none] := by rw [rd_one' h]; rfl
  have h2 : ∀ x, wr m b 0 [x] = some (m.set b (.cells [x, v] 86 true .exact)) := fun x => by rw [wr_at h (by simp)]; rfl
  simp -implicitDefEqProofs (disch := omega) only [amS, zA, reduceCtorEq, zB, zC, zD, zE, zF, zG, zH, zI, zJ, zK, zL, reduceIte, zS, F75, h1, h, eqV, Option.isNone, List.length_cons, List.length_nil]
  refine (noEscape_ok m _).mono ?_
  rintro r m' ⟨rfl, rfl⟩
  simp -implicitDefEqProofs (disch := omega) only [amS, zA, reduceCtorEq, zB, zC, zD, zE, zF, zG, zH, zI, zJ, zK, zL, reduceIte, zS, h1, h2, h, List.length_cons, List.length_nil]

theorem copyCheck_used (m : AMem) (b : Nat) (v : Value) (h : m.get b = .cells [.pointer (some ⟨b, 0, none⟩), v] 86 true .exact) :
    ACall Tryd.prog 3 75 [.pointer (some ⟨b, 0, none⟩)] m fun r m' => r = .ret (.tuple #[]) ∧ m' = m := by
  refine ACall_of_W (fn := Tryd.f75) rfl rfl F75_ok (by simp [F75]) ?_
  have h1 : rd m b 0 1 = some [.pointer (some ⟨b, 0, none⟩)] := by rw [rd_one' h]; rfl
  simp -implicitDefEqProofs (disch := omega) only [amS, zA, reduceCtorEq, zB, zC, zD, zE, zF, zG, zH, zI, zJ, zK, zL, reduceIte, zS, F75, h1, eqV, Option.isNone]

end Go.Proofs.YtgkmlbkocgjmmaaDoor.N
namespace Go.Proofs.YtgkmlbkocgjmmaaDoor.N
open Go Go.AM
set_option maxRecDepth 100000
set_option linter.unusedVariables false
set_option linter.unusedSimpArgs false

theorem writeByte_ok (m : AMem) (B b : Nat) (l : List UInt8) (c : UInt8) (h : Bld m B b l) (hl : l.length ≤ 100000) :
    ACall Tryd.prog 3 57 [.pointer (some ⟨b, 0, none⟩), byteV c] m fun r m' => r = .ret .nilIface ∧ Bld m' B b (l ++ [c]) ∧ m.size ≤ m'.size ∧ ∀ x, x < B → x ≠ b → m'.get x = m.get x := by
  refine ACall_of_W (fn := Tryd.f57) rfl rfl F57_ok (by simp [F57]) ?_
  obtain ⟨hb, hB, ⟨hm, rfl⟩ | ⟨b', hb1, hb2, hne, hnil, hm, hm'⟩⟩ := h
  · simp -implicitDefEqProofs (disch := omega) only [amS, zA, reduceCtorEq, zB, zC, zD, zE, zF, zG, zH, zI, zJ, zK, zL, reduceIte, zS, F57]
    refine (copyCheck_fresh m b _ hm).mono ?_
    rintro r m' ⟨rfl, rfl⟩
    simp -implicitDefEqProofs (disch := omega) only [amS, zA, reduceCtorEq, zB, zC, zD, zE, zF, zG, zH, zI, zJ, zK, zL, reduceIte, zS, rd, wr, splice, List.length_cons, List.length_nil, List.length_map, List.length_append, List.take_succ_cons, List.take_zero, List.drop_succ_cons, List.drop_zero, List.drop_nil, List.cons_append, List.nil_append, List.append_nil, fill_byte, srcLen_slice, srcLen_string, srcCells_slice, srcCells_string, all_int, all_bytes, stepOp_bldSl, stepOp_app, stepOp_lenV, byteV, appendTo_nil]
    refine ⟨⟨by simp -implicitDefEqProofs (disch := omega) only [amS, zA, reduceCtorEq, zB, zC, zD, zE, zF, zG, zH, zI, zJ, zK, zL, reduceIte, zS]; omega, by simp -implicitDefEqProofs (disch := omega) only [amS, zA, reduceCtorEq, zB, zC, zD, zE, zF, zG, zH, zI, zJ, zK, zL, reduceIte, zS]; omega, .inr ⟨m.size + 1, by omega, by simp -implicitDefEqProofs (disch := omega) only [amS, zA, reduceCtorEq, zB, zC, zD, zE, zF, zG, zH, zI, zJ, zK, zL, reduceIte, zS]; omega, by omega, by simp, by simp -implicitDefEqProofs (disch := omega) only [amS, zA, reduceCtorEq, zB, zC, zD, zE, zF, zG, zH, zI, zJ, zK, zL, reduceIte, zS]; rfl, by simp -implicitDefEqProofs (disch := omega) only [amS, zA, reduceCtorEq, zB, zC, zD, zE, zF, zG, zH, zI, zJ, zK, zL, reduceIte, zS]; rfl⟩⟩, by omega, fun x hx hxb => ?_⟩
    simp -implicitDefEqProofs (disch := omega) only [amS, zA, reduceCtorEq, zB, zC, zD, zE, zF, zG, zH, zI, zJ, zK, zL, reduceIte, zS]
  · simp -implicitDefEqProofs (disch := omega) only [amS, zA, reduceCtorEq, zB, zC, zD, zE, zF, zG, zH, zI, zJ, zK, zL, reduceIte, zS, F57]
    refine (copyCheck_used m b _ hm).mono ?_
    rintro r m' ⟨rfl, rfl⟩
    have ha : ∀ (M : AMem), M.get b' = .cells (l.map byteV) 5 true (.room [.int .u8 0]) → appendTo 5 1 1 [.int .u8 0] (.slice (some ⟨b', 0, none⟩) l.length openCap) 1 [.int .u8 c.toNat] M =
        some (.slice (some ⟨M.size, 0, none⟩) (l.length + 1) openCap, (M.set b' .dead).push (.cells (l.map byteV ++ [.int .u8 c.toNat]) 5 true (.room [.int .u8 0]))) := fun M hM =>
      appendTo_open hM eqPL_refl_int rfl (by omega) (by simp) (by omega) (by omega) (by omega)
    have hg : (m'.push (.cells [.int .u8 c.toNat] 5 true .exact)).get b' = .cells (l.map byteV) 5 true (.room [.int .u8 0]) := by simp -implicitDefEqProofs (disch := omega) only [amS, zA, reduceCtorEq, zB, zC, zD, zE, zF, zG, zH, zI, zJ, zK, zL, reduceIte, zS, hm']
    simp -implicitDefEqProofs (disch := omega) only [amS, zA, reduceCtorEq, zB, zC, zD, zE, zF, zG, zH, zI, zJ, zK, zL, reduceIte, zS, rd, wr, splice, List.length_cons, List.length_nil, List.length_map, List.length_append, List.take_succ_cons, List.take_zero, List.drop_succ_cons, List.drop_zero, List.drop_nil, List.cons_append, List.nil_append, List.append_nil, fill_byte, srcLen_slice, srcLen_string, srcCells_slice, srcCells_string, all_int, all_bytes, stepOp_bldSl, stepOp_app, stepOp_lenV, byteV, hm, ha _ hg]
    refine ⟨⟨by simp -implicitDefEqProofs (disch := omega) only [amS, zA, reduceCtorEq, zB, zC, zD, zE, zF, zG, zH, zI, zJ, zK, zL, reduceIte, zS]; omega, by simp -implicitDefEqProofs (disch := omega) only [amS, zA, reduceCtorEq, zB, zC, zD, zE, zF, zG, zH, zI, zJ, zK, zL, reduceIte, zS]; omega, .inr ⟨m'.size + 1, by omega, by simp -implicitDefEqProofs (disch := omega) only [amS, zA, reduceCtorEq, zB, zC, zD, zE, zF, zG, zH, zI, zJ, zK, zL, reduceIte, zS]; omega, by omega, by simp, by simp -implicitDefEqProofs (disch := omega) only [amS, zA, reduceCtorEq, zB, zC, zD, zE, zF, zG, zH, zI, zJ, zK, zL, reduceIte, zS, List.length_append, List.length_cons, List.length_nil], by simp -implicitDefEqProofs (disch := omega) only [amS, zA, reduceCtorEq, zB, zC, zD, zE, zF, zG, zH, zI, zJ, zK, zL, reduceIte, zS, List.map_append, byteV]⟩⟩, by omega, fun x hx hxb => ?_⟩
    simp -implicitDefEqProofs (disch := omega) only [amS, zA, reduceCtorEq, zB, zC, zD, zE, zF, zG, zH, zI, zJ, zK, zL, reduceIte, zS]

end Go.Proofs.YtgkmlbkocgjmmaaDoor.N
namespace Go.Proofs.YtgkmlbkocgjmmaaDoor.N
open Go Go.AM
set_option maxRecDepth 100000
set_option linter.unusedVariables false
set_option linter.unusedSimpArgs false

theorem bldString_ok (m : AMem) (B b : Nat) (l : List UInt8) (h : Bld m B b l) (hl : l.length ≤ 100000) :
    ACall Tryd.prog 3 58 [.pointer (some ⟨b, 0, none⟩)] m fun r m' => r = .ret (.string ⟨l.toArray⟩) ∧ m.size ≤ m'.size ∧ ∀ x, x < B → x ≠ b → m'.get x = m.get x := by
  refine ACall_of_W (fn := Tryd.f58) rfl rfl F58_ok (by simp [F58]) ?_
  obtain ⟨hb, hB, ⟨hm, rfl⟩ | ⟨b', hb1, hb2, hne, hnil, hm, hm'⟩⟩ := h
  · simp -implicitDefEqProofs (disch := omega) only [amS, zA, reduceCtorEq, zB, zC, zD, zE, zF, zG, zH, zI, zJ, zK, zL, reduceIte, zS, rd, wr, splice, List.length_cons, List.length_nil, List.length_map, List.length_append, List.take_succ_cons, List.take_zero, List.drop_succ_cons, List.drop_zero, List.drop_nil, List.cons_append, List.nil_append, List.append_nil, fill_byte, srcLen_slice, srcLen_string, srcCells_slice, srcCells_string, all_int, all_bytes, stepOp_bldSl, stepOp_app, stepOp_lenV, byteV, F58, hm, stepOp_sdat, stepOp_ustr]
    exact ⟨rfl, Nat.le_refl _, fun _ _ _ => trivial⟩
  · have h0 : 0 < l.length := List.length_pos_iff.2 hnil
    have e1 : ¬ l.length = 0 := by omega
    have e2 : (List.map byteV l).take l.length = l.map byteV := List.take_of_length_le (by simp)
    have e3 := map_ofNat_byteOf l
    simp -implicitDefEqProofs (disch := omega) only [W_skip, W_seq, W_reg, W_block, W_exit, W_ret, W_cond, W_draw, WI_nil, WI_op, WI_opg, WI_call, WI_callg, DW_call, DW_callg, OpI_some, OpG_some, OpG_true, OpG_false, BoolW_true, BoolW_false, GrdW_true, GrdW_false, SeqK_normal, SeqK_exit, SeqK_ret, SeqK_pan, BlockK_normal, BlockK_exit, BlockK_ret, BlockK_pan, LoopK_exit, LoopK_ret, LoopK_pan, CallK_ret, CallK_pan, RetK_ret, RetK_normal, RetK_pan, ResW_some, resVs, resV, packV, DW_nil, DW_f, DW_bop, FltW_some, FltG_some, fstO_some, valF_op, valF_opg, dst_op, dst_call, BarK_nil, OpB_some, gv_true, gv_false, sel2_true, sel2_false, sel2_and, sel2_or, beq_true, beq_false, updO_some, updO_none, upd_apply, sel_true, sel_false, zA, ev_t, ev_c, wanted_some, initT, List.getD_cons_zero, List.getD_cons_succ, stepOp_mov, stepOp_pick', pickV_bool, stepOp_new, stepOp_box, stepOp_ld1, stepOp_ldn, stepOp_st, stepOp_nchk, stepOp_bin, stepOp_eql, stepOp_un, stepOp_cvt, stepOp_idc, stepOp_slA, stepOp_fad, stepOp_iadA, stepOp_iadV, stepOp_ixS, stepOp_ext, stepOp_lenS, stepOp_lenV, stepOp_lenN, stepOp_toU, stepOp_frU, binV_add, binV_sub, binV_mul, binV_and, binV_or, binV_xor, binV_andNot, binV_eql, binV_neq, binV_lss, binV_leq, binV_gtr, binV_geq, binV_quo, binV_rem, binV_shl, binV_shr, binV_seql, binV_sneq, binV_sadd, unV_neg, unV_not, eqV_bool, addr_ptr, addr, cellsOf_int, cellsOf_bool, cellsOf_string, cellsOf_ptr, cellsOf_slice, cellsOf_bytes, AMem.size_push, AMem.size_set, AMem.get_push, AMem.get_set, ifp, ifn, wrap_i64, wrap_u64, wrap_u8, wrap_i32, Option.map_some, Option.some.injEq, reduceCtorEq, if_true, if_false, eq_self, true_and, and_true, Bool.true_and, Bool.and_true, Bool.false_or, Bool.or_false, Bool.not_true, Bool.not_false, beq_self_eq_true, Bool.false_and, Bool.and_false, Bool.true_or, Bool.or_true, zB, zC, zD, zE, Nat.mul_one, Nat.add_zero, Nat.zero_add, Nat.zero_mul, Int.toNat_natCast, zF, zG, zH, zI, zJ, zK, zL, ne_eq, not_false_eq_true, List.map_cons, List.map_nil, decide_true, decide_false, decide_eq_true_eq, rd, wr, splice, List.length_cons, List.length_nil, List.length_map, List.length_append, List.take_succ_cons, List.take_zero, List.drop_succ_cons, List.drop_zero, List.drop_nil, List.cons_append, List.nil_append, List.append_nil, fill_byte, srcLen_slice, srcLen_string, srcCells_slice, srcCells_string, all_int, all_bytes, stepOp_bldSl, stepOp_app, stepOp_lenV, F58, hm, hm', stepOp_sdat, stepOp_ustr, e2, e3]
    refine ⟨Nat.le_refl _, fun x hx hxb => ?_⟩
    simp -implicitDefEqProofs (disch := omega) only [amS, zA, reduceCtorEq, zB, zC, zD, zE, zF, zG, zH, zI, zJ, zK, zL, reduceIte, zS]
end Go.Proofs.YtgkmlbkocgjmmaaDoor.N
namespace Go.Proofs.YtgkmlbkocgjmmaaDoor.N
open Go Go.AM
set_option maxRecDepth 100000
set_option linter.unusedVariables false
set_option linter.unusedSimpArgs false

theorem shl_u64 (w : Nat) : shl .u64 (w : Int) 8 = ((w * 2 ^ 8 % 2 ^ 64 : Nat) : Int) := by
  simp [shl, IntKind.wrap, IntKind.bits, IntKind.signed]

theorem letters_ok (m : AMem) (l : List UInt8) (hl : l.length = 32) :
    ACall Tryd.prog 3 30 [.agg (l.map byteV).toArray] m fun r m' => r = .ret (.string ⟨(lettersTo (l.take 20) 32).toArray⟩) ∧ m' = m := by
  refine ACall.forget (Q := fun r m' => r = .ret (.string ⟨(lettersTo (l.take 20) 32).toArray⟩) ∧ ∀ x, x < m.size → m'.get x = m.get x) ?_ ?_
  · refine ACall_of_W (fn := Tryd.f30) rfl rfl F30_ok (by simp [F30]) ?_
    have hl20 : (l.take 20).length = 20 := by simp [hl]
    generalize hd : l.take 20 = d at *
    simp -implicitDefEqProofs (disch := omega) only [amS, zA, reduceCtorEq, zB, zC, zD, zE, zF, zG, zH, zI, zJ, zK, zL, reduceIte, zS, F30, cut, bnd]
    refine W_loop (fun n s => ∃ j e h, j ≤ 20 ∧ n = 20 - j ∧ 8 * j = 5 * e + h ∧ h < 5 ∧ s.ds = [] ∧ s.t 3 = .pointer (some ⟨m.size + 1, 0, none⟩) ∧ s.t 4 = .int .u64 ((bigN (d.take j) % 2 ^ 64 : Nat) : Int) ∧ s.t 5 = .int .i64 h ∧
      s.t 8 = .slice (some ⟨m.size, 0, none⟩) 20 32 ∧ s.t 9 = .int .i64 20 ∧ s.t 10 = .int .i64 j ∧ s.m.get m.size = .cells (l.map byteV) 52 true .exact ∧
      Bld s.m (m.size + 2) (m.size + 1) (lettersTo d e) ∧ ∀ x, x < m.size → s.m.get x = m.get x) 20 ⟨0, 0, 0, by omega, by omega, by omega, by omega, rfl, ?_, ?_, ?_, ?_, ?_, ?_, ?_, ?_, ?_⟩ ?_
    · simp -implicitDefEqProofs (disch := omega) only [amS, zA, reduceCtorEq, zB, zC, zD, zE, zF, zG, zH, zI, zJ, zK, zL, reduceIte, zS]
    · simp -implicitDefEqProofs (disch := omega) only [amS, zA, reduceCtorEq, zB, zC, zD, zE, zF, zG, zH, zI, zJ, zK, zL, reduceIte, zS]; rfl
    · simp -implicitDefEqProofs (disch := omega) only [amS, zA, reduceCtorEq, zB, zC, zD, zE, zF, zG, zH, zI, zJ, zK, zL, reduceIte, zS]; rfl
    · simp -implicitDefEqProofs (disch := omega) only [amS, zA, reduceCtorEq, zB, zC, zD, zE, zF, zG, zH, zI, zJ, zK, zL, reduceIte, zS]
    · simp -implicitDefEqProofs (disch := omega) only [amS, zA, reduceCtorEq, zB, zC, zD, zE, zF, zG, zH, zI, zJ, zK, zL, reduceIte, zS]; rfl
    · simp -implicitDefEqProofs (disch := omega) only [amS, zA, reduceCtorEq, zB, zC, zD, zE, zF, zG, zH, zI, zJ, zK, zL, reduceIte, zS]; rfl
    · simp -implicitDefEqProofs (disch := omega) only [amS, zA, reduceCtorEq, zB, zC, zD, zE, zF, zG, zH, zI, zJ, zK, zL, reduceIte, zS]
    · exact ⟨by simp -implicitDefEqProofs (disch := omega) only [amS, zA, reduceCtorEq, zB, zC, zD, zE, zF, zG, zH, zI, zJ, zK, zL, reduceIte, zS]; omega, by simp -implicitDefEqProofs (disch := omega) only [amS, zA, reduceCtorEq, zB, zC, zD, zE, zF, zG, zH, zI, zJ, zK, zL, reduceIte, zS]; omega, .inl ⟨by simp -implicitDefEqProofs (disch := omega) only [amS, zA, reduceCtorEq, zB, zC, zD, zE, zF, zG, zH, zI, zJ, zK, zL, reduceIte, zS], rfl⟩⟩
    · intro x hx; simp -implicitDefEqProofs (disch := omega) only [amS, zA, reduceCtorEq, zB, zC, zD, zE, zF, zG, zH, zI, zJ, zK, zL, reduceIte, zS]
    · rintro n t m1 ds ⟨j, e, h, hj, rfl, hje, hh, rfl, t3, t4, t5, t8, t9, t10, hm, hB, hold⟩
      simp only at t3 t4 t5 t8 t9 t10 hm hB hold
      simp -implicitDefEqProofs (disch := omega) only [amS, zA, reduceCtorEq, zB, zC, zD, zE, zF, zG, zH, zI, zJ, zK, zL, reduceIte, zS, F30_l0, t3, t4, t5, t8, t9, t10]
      refine BoolW_dec (fun hlt => ?_) (fun hlt => ?_)
      · have hj20 : j < 20 := by omega
        have hg : rd m1 m.size (0 + j) 1 = some [byteV (d[j]'(by omega))] := by
          rw [rd_one' hm]
          subst hd
          simp [hl, show j < 32 by omega]
        rw [Nat.zero_add] at hg
        have hx := (d[j]'(by omega)).toNat_lt
        have e1 := shl_u64 (bigN (d.take j) % 2 ^ 64)
        have e2 : ibits .or .u64 (((bigN (d.take j) % 2 ^ 64) * 2 ^ 8 % 2 ^ 64 : Nat) : Int) ((d[j]'(by omega)).toNat : Int) = ((bigN (d.take (j + 1)) % 2 ^ 64 : Nat) : Int) := by
          rw [ibits_or_nat (by rw [max_u64]; omega) (by rw [max_u64]; omega), word_next _ _ (by omega), bigN_take_succ (by omega)]
        simp -implicitDefEqProofs (disch := omega) only [amS, zA, reduceCtorEq, zB, zC, zD, zE, zF, zG, zH, zI, zJ, zK, zL, reduceIte, zS, hg, byteV, e1, e2, t3, t4, t5, t8, t9, t10]
        refine W_loop (fun n s => ∃ e h : Nat, n = h ∧ 8 * (j + 1) = 5 * e + h ∧ h ≤ 12 ∧ s.ds = [] ∧ s.t 3 = .pointer (some ⟨m.size + 1, 0, none⟩) ∧ s.t 4 = .int .u64 ((bigN (d.take (j + 1)) % 2 ^ 64 : Nat) : Int) ∧ s.t 5 = .int .i64 h ∧
          s.t 8 = .slice (some ⟨m.size, 0, none⟩) 20 32 ∧ s.t 9 = .int .i64 20 ∧ s.t 10 = .int .i64 j ∧ s.m.get m.size = .cells (l.map byteV) 52 true .exact ∧
          Bld s.m (m.size + 2) (m.size + 1) (lettersTo d e) ∧ ∀ x, x < m.size → s.m.get x = m.get x) (h + 8) ⟨e, h + 8, rfl, by omega, by omega, rfl, ?_, ?_, ?_, ?_, ?_, ?_, hm, hB, hold⟩ ?_
        · simp -implicitDefEqProofs (disch := omega) only [amS, zA, reduceCtorEq, zB, zC, zD, zE, zF, zG, zH, zI, zJ, zK, zL, reduceIte, zS, t3]
        · simp -implicitDefEqProofs (disch := omega) only [amS, zA, reduceCtorEq, zB, zC, zD, zE, zF, zG, zH, zI, zJ, zK, zL, reduceIte, zS]
        · simp -implicitDefEqProofs (disch := omega) only [amS, zA, reduceCtorEq, zB, zC, zD, zE, zF, zG, zH, zI, zJ, zK, zL, reduceIte, zS]; rfl
        · simp -implicitDefEqProofs (disch := omega) only [amS, zA, reduceCtorEq, zB, zC, zD, zE, zF, zG, zH, zI, zJ, zK, zL, reduceIte, zS, t8]
        · simp -implicitDefEqProofs (disch := omega) only [amS, zA, reduceCtorEq, zB, zC, zD, zE, zF, zG, zH, zI, zJ, zK, zL, reduceIte, zS, t9]
        · simp -implicitDefEqProofs (disch := omega) only [amS, zA, reduceCtorEq, zB, zC, zD, zE, zF, zG, zH, zI, zJ, zK, zL, reduceIte, zS, t10]
        · clear hm hB hold t3 t4 t5 t8 t9 t10 hje hh e1 e2 hg
          rintro n t m1 ds ⟨e, h, rfl, hje, hh, rfl, t3, t4, t5, t8, t9, t10, hm, hB, hold⟩
          simp only at t3 t4 t5 t8 t9 t10 hm hB hold
          simp -implicitDefEqProofs (disch := omega) only [amS, zA, reduceCtorEq, zB, zC, zD, zE, zF, zG, zH, zI, zJ, zK, zL, reduceIte, zS, F30_l1, t3, t4, t5, t8, t9, t10]
          refine BoolW_dec (fun h5 => ?_) (fun h5 => ?_)
          · obtain ⟨k, rfl⟩ : ∃ k, n = k + 5 := ⟨n - 5, by omega⟩
            have hk : ((k + 5 : Nat) : Int) - 5 = (k : Int) := by omega
            have hek : e < 32 := by omega
            have hv := letV_at hl20 (e := e) hj20 (h := k) (by omega)
            have hw : (bigN (d.take (j + 1)) % 2 ^ 64) < 2 ^ 64 := Nat.mod_lt _ (by omega)
            have e1 : shr .u64 ((bigN (d.take (j + 1)) % 2 ^ 64 : Nat) : Int) (k : Int) = (((bigN (d.take (j + 1)) % 2 ^ 64) >>> k : Nat) : Int) := shr_nat .u64 _ _ (by simp [IntKind.bits]; omega)
            have hle := Nat.shiftRight_le (bigN (d.take (j + 1)) % 2 ^ 64) k
            have e2 : ibits .and .u64 (((bigN (d.take (j + 1)) % 2 ^ 64) >>> k : Nat) : Int) 31 = ((letV d e : Nat) : Int) := by
              rw [show (31 : Int) = ((31 : Nat) : Int) from rfl, ibits_and_nat (k := .u64) (by rw [max_u64]; generalize (bigN (d.take (j + 1)) % 2 ^ 64) >>> k = y at *; omega) (by decide), word_letter _ _ (by omega), hv]
            have hs := alpha_at (letV d e) (letV_lt d e)
            simp -implicitDefEqProofs (disch := omega) only [amS, zA, reduceCtorEq, zB, zC, zD, zE, zF, zG, zH, zI, zJ, zK, zL, reduceIte, zS, hk, e1, e2, hs, t3]
            refine (writeByte_ok m1 (m.size + 2) (m.size + 1) (lettersTo d e) (letAt d e) hB (by rw [lettersTo_length]; omega)).mono ?_
            rintro r m2 ⟨rfl, hB2, hsz, hold2⟩
            simp -implicitDefEqProofs (disch := omega) only [amS, zA, reduceCtorEq, zB, zC, zD, zE, zF, zG, zH, zI, zJ, zK, zL, reduceIte, zS, t3, t4, t8, t9, t10]
            refine ⟨k, by omega, e + 1, k, rfl, by omega, by omega, rfl, by simp -implicitDefEqProofs (disch := omega) only [amS, zA, reduceCtorEq, zB, zC, zD, zE, zF, zG, zH, zI, zJ, zK, zL, reduceIte, zS, t3], by simp -implicitDefEqProofs (disch := omega) only [amS, zA, reduceCtorEq, zB, zC, zD, zE, zF, zG, zH, zI, zJ, zK, zL, reduceIte, zS, t4], by simp -implicitDefEqProofs (disch := omega) only [amS, zA, reduceCtorEq, zB, zC, zD, zE, zF, zG, zH, zI, zJ, zK, zL, reduceIte, zS], by simp -implicitDefEqProofs (disch := omega) only [amS, zA, reduceCtorEq, zB, zC, zD, zE, zF, zG, zH, zI, zJ, zK, zL, reduceIte, zS, t8], by simp -implicitDefEqProofs (disch := omega) only [amS, zA, reduceCtorEq, zB, zC, zD, zE, zF, zG, zH, zI, zJ, zK, zL, reduceIte, zS, t9], by simp -implicitDefEqProofs (disch := omega) only [amS, zA, reduceCtorEq, zB, zC, zD, zE, zF, zG, zH, zI, zJ, zK, zL, reduceIte, zS, t10], ?_, by rw [lettersTo_succ]; exact hB2, fun x hx => ?_⟩
            · rw [hold2 _ (by omega) (by omega)]; exact hm
            · rw [hold2 x (by omega) (by omega)]; exact hold x hx
          · refine ⟨20 - (j + 1), by omega, j + 1, e, n, by omega, rfl, hje, by omega, rfl, by simp -implicitDefEqProofs (disch := omega) only [amS, zA, reduceCtorEq, zB, zC, zD, zE, zF, zG, zH, zI, zJ, zK, zL, reduceIte, zS, t3], by simp -implicitDefEqProofs (disch := omega) only [amS, zA, reduceCtorEq, zB, zC, zD, zE, zF, zG, zH, zI, zJ, zK, zL, reduceIte, zS, t4], by simp -implicitDefEqProofs (disch := omega) only [amS, zA, reduceCtorEq, zB, zC, zD, zE, zF, zG, zH, zI, zJ, zK, zL, reduceIte, zS, t5], by simp -implicitDefEqProofs (disch := omega) only [amS, zA, reduceCtorEq, zB, zC, zD, zE, zF, zG, zH, zI, zJ, zK, zL, reduceIte, zS, t8], by simp -implicitDefEqProofs (disch := omega) only [amS, zA, reduceCtorEq, zB, zC, zD, zE, zF, zG, zH, zI, zJ, zK, zL, reduceIte, zS, t9], by simp -implicitDefEqProofs (disch := omega) only [amS, zA, reduceCtorEq, zB, zC, zD, zE, zF, zG, zH, zI, zJ, zK, zL, reduceIte, zS, t10]; rfl, hm, hB, hold⟩
      · have he : e = 32 := by omega
        subst he
        refine (bldString_ok m1 (m.size + 2) (m.size + 1) (lettersTo d 32) hB (by rw [lettersTo_length]; omega)).mono ?_
        rintro r m2 ⟨rfl, hsz, hold2⟩
        simp -implicitDefEqProofs (disch := omega) only [amS, zA, reduceCtorEq, zB, zC, zD, zE, zF, zG, zH, zI, zJ, zK, zL, reduceIte, zS]
        exact fun x hx => by rw [hold2 x (by omega) (by omega)]; exact hold x hx
  · rintro r m' ⟨rfl, h⟩
    exact ⟨⟨_, rfl, .string _⟩, h, rfl, rfl⟩
end Go.Proofs.YtgkmlbkocgjmmaaDoor.N
namespace Go.Proofs.YtgkmlbkocgjmmaaDoor.N
open Go Go.AM
set_option maxRecDepth 100000
set_option linter.unusedVariables false
set_option linter.unusedSimpArgs false

theorem bit_ok (m : AMem) (b o c : Nat) (l : List UInt8) (k : Nat) (hb : BytesAt m b o l) (hk : k / 8 < l.length) (hl : l.length ≤ 1000000) :
    ACall Tryd.prog 3 90 [.slice (some ⟨b, o, none⟩) l.length c, .int .i64 k] m fun r m' => r = .ret (.int .i64 ((l[k / 8].toNat >>> (7 - k % 8) &&& 1 : Nat))) ∧ m' = m := by
  refine ACall_of_W (fn := Tryd.f90) rfl rfl F90_ok (by simp [F90]) ?_
  have hg := hb.get hk
  have e1 : (k : Int).tdiv 8 = ((k / 8 : Nat) : Int) := tdiv_nat k 8
  have e2 : (k : Int).tmod 8 = ((k % 8 : Nat) : Int) := tmod_nat k 8
  have e3 : (7 : Int) - ((k % 8 : Nat) : Int) = ((7 - k % 8 : Nat) : Int) := by omega
  have hx := l[k / 8].toNat_lt
  have e4 : shr .u8 (l[k / 8].toNat : Int) ((7 - k % 8 : Nat) : Int) = ((l[k / 8].toNat >>> (7 - k % 8) : Nat) : Int) := shr_nat .u8 _ _ (by simp [IntKind.bits]; omega)
  have h5 : l[k / 8].toNat >>> (7 - k % 8) ≤ 255 := by
    have := Nat.shiftRight_le l[k / 8].toNat (7 - k % 8)
    omega
  generalize hy : l[k / 8].toNat >>> (7 - k % 8) = y at *
  have e6 : ibits .and .i64 (y : Int) 1 = ((y &&& 1 : Nat) : Int) := ibits_and_nat (k := .i64) (b := 1) (by rw [max_i64]; omega) (by decide)
  simp -implicitDefEqProofs (disch := omega) only [amS, zA, reduceCtorEq, zB, zC, zD, zE, zF, zG, zH, zI, zJ, zK, zL, reduceIte, zS, F90, hg, e1, e2, e3, e4, e6, byteV]
end Go.Proofs.YtgkmlbkocgjmmaaDoor.N
namespace Go.Proofs.YtgkmlbkocgjmmaaDoor.N
open Go Go.AM
set_option maxRecDepth 100000
set_option linter.unusedVariables false
set_option linter.unusedSimpArgs false

theorem bit_ok' (m : AMem) (b o c : Nat) {l : List UInt8} {n : Nat} (hn : l.length = n) (k : Nat) (hb : BytesAt m b o l) (hk : k / 8 < l.length) (hl : l.length ≤ 1000000) :
    ACall Tryd.prog 3 90 [.slice (some ⟨b, o, none⟩) n c, .int .i64 k] m fun r m' => r = .ret (.int .i64 ((l[k / 8].toNat >>> (7 - k % 8) &&& 1 : Nat))) ∧ m' = m := by
  subst hn; exact bit_ok m b o c l k hb hk hl
theorem alpha_size : (⟨#[48, 49, 50, 51, 52, 53, 54, 55, 56, 57, 97, 98, 99, 100, 102, 103, 104, 105, 106, 107, 108, 109, 110, 112, 113, 114, 115, 118, 119, 120, 121, 122]⟩ : ByteArray).size = 32 := rfl

theorem of20_ok (m : AMem) (b c : Nat) (d : List UInt8) (hd : d.length = 20) (hb : BytesAt m b 0 d) :
    ACall Tryd.prog 3 78 [.slice (some ⟨b, 0, none⟩) 20 c] m fun r m' => r = .ret (.string ⟨(lettersTo d 32).toArray⟩) ∧ m' = m := by
  refine ACall_of_W (fn := Tryd.f78) rfl rfl F78_ok (by simp [F78]) ?_
  simp -implicitDefEqProofs (disch := omega) only [amS, zA, reduceCtorEq, zB, zC, zD, zE, zF, zG, zH, zI, zJ, zK, zL, reduceIte, zS, F78]
  refine W_loop (fun n s => ∃ i : Nat, i ≤ 32 ∧ n = 32 - i ∧ s.m = m ∧ s.ds = [] ∧ s.t 0 = .slice (some ⟨b, 0, none⟩) 20 c ∧ s.t 3 = .string ⟨(lettersTo d i).toArray⟩ ∧ s.t 4 = .int .i64 i) 32 ⟨0, by omega, rfl, rfl, rfl, by simp -implicitDefEqProofs (disch := omega) only [amS, zA, reduceCtorEq, zB, zC, zD, zE, zF, zG, zH, zI, zJ, zK, zL, reduceIte, zS], by simp -implicitDefEqProofs (disch := omega) only [amS, zA, reduceCtorEq, zB, zC, zD, zE, zF, zG, zH, zI, zJ, zK, zL, reduceIte, zS]; rfl, by simp -implicitDefEqProofs (disch := omega) only [amS, zA, reduceCtorEq, zB, zC, zD, zE, zF, zG, zH, zI, zJ, zK, zL, reduceIte, zS]; rfl⟩ ?_
  rintro n t m1 ds ⟨i, hi, rfl, rfl, rfl, t0, t3, t4⟩
  simp only at t0 t3 t4
  simp -implicitDefEqProofs (disch := omega) only [amS, zA, reduceCtorEq, zB, zC, zD, zE, zF, zG, zH, zI, zJ, zK, zL, reduceIte, zS, F78_l0, t0, t3, t4]
  refine BoolW_dec (fun hlt => ?_) (fun hlt => ?_)
  · refine W_loop (fun n s => ∃ k : Nat, k ≤ 5 ∧ n = 5 - k ∧ s.m = m1 ∧ s.ds = [] ∧ s.t 0 = .slice (some ⟨b, 0, none⟩) 20 c ∧ s.t 3 = .string ⟨(lettersTo d i).toArray⟩ ∧ s.t 4 = .int .i64 i ∧ s.t 5 = .int .i64 (bitsV d (5 * i) k : Nat) ∧ s.t 6 = .int .i64 k) 5
      ⟨0, by omega, rfl, rfl, rfl, by simp -implicitDefEqProofs (disch := omega) only [amS, zA, reduceCtorEq, zB, zC, zD, zE, zF, zG, zH, zI, zJ, zK, zL, reduceIte, zS, t0], by simp -implicitDefEqProofs (disch := omega) only [amS, zA, reduceCtorEq, zB, zC, zD, zE, zF, zG, zH, zI, zJ, zK, zL, reduceIte, zS, t3], by simp -implicitDefEqProofs (disch := omega) only [amS, zA, reduceCtorEq, zB, zC, zD, zE, zF, zG, zH, zI, zJ, zK, zL, reduceIte, zS, t4], by simp -implicitDefEqProofs (disch := omega) only [amS, zA, reduceCtorEq, zB, zC, zD, zE, zF, zG, zH, zI, zJ, zK, zL, reduceIte, zS, bitsV_zero]; rfl, by simp -implicitDefEqProofs (disch := omega) only [amS, zA, reduceCtorEq, zB, zC, zD, zE, zF, zG, zH, zI, zJ, zK, zL, reduceIte, zS]; rfl⟩ ?_
    clear t0 t3 t4
    rintro n t m1 ds ⟨k, hk, rfl, rfl, rfl, t0, t3, t4, t5, t6⟩
    simp only at t0 t3 t4 t5 t6
    have hbl := bitsV_lt d (5 * i) k
    have hbl2 : bitsV d (5 * i) k < 32 := Nat.lt_of_lt_of_le hbl (Nat.pow_le_pow_right (n := 2) (by omega) hk)
    simp -implicitDefEqProofs (disch := omega) only [amS, zA, reduceCtorEq, zB, zC, zD, zE, zF, zG, zH, zI, zJ, zK, zL, reduceIte, zS, F78_l1, t0, t3, t4, t5, t6]
    refine BoolW_dec (fun h5 => ?_) (fun h5 => ?_)
    · have hik : (5 * (i : Int) + (k : Int)) = ((5 * i + k : Nat) : Int) := by omega
      have hn : 5 * i + k < 160 := by omega
      have hbit := bit_ok' m1 b 0 c hd (5 * i + k) hb (by omega) (by omega)
      simp -implicitDefEqProofs (disch := omega) only [amS, zA, reduceCtorEq, zB, zC, zD, zE, zF, zG, zH, zI, zJ, zK, zL, reduceIte, zS, hik]
      refine hbit.mono ?_
      rintro r m' ⟨rfl, rfl⟩
      have hs := bitsV_succ hd hn
      generalize hy : (d[(5 * i + k) / 8]'(by omega)).toNat >>> (7 - (5 * i + k) % 8) &&& 1 = y at *
      have hy2 : y ≤ 1 := by rw [← hy]; exact Nat.and_le_right
      have h2 : (2 * (bitsV d (5 * i) k : Int) + (y : Int)) = ((bitsV d (5 * i) (k + 1) : Nat) : Int) := by omega
      simp -implicitDefEqProofs (disch := omega) only [amS, zA, reduceCtorEq, zB, zC, zD, zE, zF, zG, zH, zI, zJ, zK, zL, reduceIte, zS, t0, t3, t4, t5, t6, h2]
      exact ⟨5 - (k + 1), by omega, k + 1, by omega, rfl, rfl, rfl, by simp -implicitDefEqProofs (disch := omega) only [amS, zA, reduceCtorEq, zB, zC, zD, zE, zF, zG, zH, zI, zJ, zK, zL, reduceIte, zS, t0], by simp -implicitDefEqProofs (disch := omega) only [amS, zA, reduceCtorEq, zB, zC, zD, zE, zF, zG, zH, zI, zJ, zK, zL, reduceIte, zS, t3], by simp -implicitDefEqProofs (disch := omega) only [amS, zA, reduceCtorEq, zB, zC, zD, zE, zF, zG, zH, zI, zJ, zK, zL, reduceIte, zS, t4], by simp -implicitDefEqProofs (disch := omega) only [amS, zA, reduceCtorEq, zB, zC, zD, zE, zF, zG, zH, zI, zJ, zK, zL, reduceIte, zS], by simp -implicitDefEqProofs (disch := omega) only [amS, zA, reduceCtorEq, zB, zC, zD, zE, zF, zG, zH, zI, zJ, zK, zL, reduceIte, zS]; rfl⟩
    · have hk5 : k = 5 := by omega
      subst hk5
      rw [bitsV_five] at t5
      have hv := letV_lt d i
      have hx := alpha_ex (letV d i) hv
      have ht : ((letV d i : Int) + 1).toNat = letV d i + 1 := by omega
      have hsz : (⟨(lettersTo d i).toArray⟩ : ByteArray).size = i := by rw [str_size, lettersTo_length]
      have hsz2 : (⟨#[alpha[letV d i]'hv]⟩ : ByteArray).size = 1 := rfl
      have happ : (⟨(lettersTo d i).toArray⟩ : ByteArray) ++ ⟨#[alpha[letV d i]'hv]⟩ = ⟨(lettersTo d (i + 1)).toArray⟩ := by rw [lettersTo_succ]; exact str_app _ _
      simp -implicitDefEqProofs (disch := omega) only [amS, zA, reduceCtorEq, zB, zC, zD, zE, zF, zG, zH, zI, zJ, zK, zL, reduceIte, zS, bitsV_five, t0, t3, t4, t5, t6, stepOp_slS, cut, bnd, alpha_size, ht, hx, hsz, hsz2, happ, binV, sbin]
      exact ⟨32 - (i + 1), by omega, i + 1, by omega, rfl, rfl, rfl, by simp -implicitDefEqProofs (disch := omega) only [amS, zA, reduceCtorEq, zB, zC, zD, zE, zF, zG, zH, zI, zJ, zK, zL, reduceIte, zS, t0], by simp -implicitDefEqProofs (disch := omega) only [amS, zA, reduceCtorEq, zB, zC, zD, zE, zF, zG, zH, zI, zJ, zK, zL, reduceIte, zS], by simp -implicitDefEqProofs (disch := omega) only [amS, zA, reduceCtorEq, zB, zC, zD, zE, zF, zG, zH, zI, zJ, zK, zL, reduceIte, zS]; rfl⟩
  · have hi : i = 32 := by omega
    subst hi
    simp -implicitDefEqProofs (disch := omega) only [amS, zA, reduceCtorEq, zB, zC, zD, zE, zF, zG, zH, zI, zJ, zK, zL, reduceIte, zS, t3]
end Go.Proofs.YtgkmlbkocgjmmaaDoor.N
namespace Go.Proofs.YtgkmlbkocgjmmaaDoor.N
open Go Go.AM
set_option maxRecDepth 100000
set_option linter.unusedVariables false
set_option linter.unusedSimpArgs false

def Buf (e : TypeId) (M : AMem) (B : Nat) (v : Value) (l : List UInt8) : Prop :=
  B ≤ M.size ∧ ((l = [] ∧ v = .slice none 0 0) ∨ ∃ b', B ≤ b' ∧ b' < M.size ∧ l ≠ [] ∧ v = .slice (some ⟨b', 0, none⟩) l.length openCap ∧ M.get b' = .cells (l.map byteV) e true (.room [.int .u8 0]))

theorem Buf.push {e : TypeId} {M : AMem} {B : Nat} {v : Value} {l : List UInt8} (h : Buf e M B v l) (o : AObj) : Buf e (M.push o) B v l := by
  obtain ⟨h0, h | ⟨b', h1, h2, h3, h4, h5⟩⟩ := h
  · exact ⟨by simp [AMem.push]; omega, .inl h⟩
  · exact ⟨by simp [AMem.push]; omega, .inr ⟨b', h1, by simp [AMem.push]; omega, h3, h4, by rw [AMem.get_push_ne _ _ (by omega)]; exact h5⟩⟩

theorem Buf.app {e : TypeId} {M : AMem} {B : Nat} {v : Value} {l : List UInt8} (h : Buf e M B v l) (hl : l.length ≤ 100000) (c : UInt8) :
    ∃ v' M', appendTo e 1 1 [.int .u8 0] v 1 [.int .u8 c.toNat] M = some (v', M') ∧ Buf e M' B v' (l ++ [c]) ∧ M.size ≤ M'.size ∧ ∀ x, x < B → M'.get x = M.get x := by
  obtain ⟨h0, ⟨rfl, rfl⟩ | ⟨b', h1, h2, h3, rfl, h5⟩⟩ := h
  · refine ⟨_, _, appendTo_nil (by omega) (by omega) (by omega), ⟨by simp [AMem.push]; omega, .inr ⟨M.size, h0, by simp [AMem.push], by simp, rfl, by rw [AMem.get_push_self]; rfl⟩⟩, by simp [AMem.push], fun x hx => AMem.get_push_ne _ _ (by omega)⟩
  · refine ⟨_, _, appendTo_open h5 eqPL_refl_int rfl (by omega) (by simp) (by omega) (by omega) (by omega), ⟨by simp [AMem.push, AMem.set]; omega, .inr ⟨M.size, h0, by simp [AMem.push, AMem.set], by simp, ?_, ?_⟩⟩, by simp [AMem.push, AMem.set], fun x hx => ?_⟩
    · simp
    · rw [show M.size = (M.set b' .dead).size from rfl, AMem.get_push_self]; simp [byteV]
    · rw [AMem.get_push_ne _ _ (by simp [AMem.set]; omega), AMem.get_set_ne _ _ (by omega)]

theorem refLetters_ok (m : AMem) (l : List UInt8) (hl : l.length = 32) :
    ACall Tryd.prog 3 61 [.agg (l.map byteV).toArray] m fun r m' => r = .ret (.string ⟨(lettersTo (l.take 20) 32).toArray⟩) ∧ m' = m := by
  refine ACall.forget (Q := fun r m' => r = .ret (.string ⟨(lettersTo (l.take 20) 32).toArray⟩) ∧ ∀ x, x < m.size → m'.get x = m.get x) ?_ ?_
  · refine ACall_of_W (fn := Tryd.f61) rfl rfl F61_ok (by simp [F61]) ?_
    have hl20 : (l.take 20).length = 20 := by simp [hl]
    simp -implicitDefEqProofs (disch := omega) only [amS, zA, reduceCtorEq, zB, zC, zD, zE, zF, zG, zH, zI, zJ, zK, zL, reduceIte, zS, F61]
    refine W_loop (fun n s => ∃ i : Nat, i ≤ 20 ∧ n = 20 - i ∧ s.ds = [] ∧ s.t 1 = .pointer (some ⟨m.size, 0, none⟩) ∧ s.t 4 = .int .i64 i ∧ Buf 5 s.m (m.size + 1) (s.t 3) (l.take i) ∧ s.m.get m.size = .cells (l.map byteV) 52 true .exact ∧
      ∀ x, x < m.size → s.m.get x = m.get x) 20 ⟨0, by omega, rfl, rfl, ?_, ?_, ?_, ?_, ?_⟩ ?_
    · simp -implicitDefEqProofs (disch := omega) only [amS, zA, reduceCtorEq, zB, zC, zD, zE, zF, zG, zH, zI, zJ, zK, zL, reduceIte, zS]
    · simp -implicitDefEqProofs (disch := omega) only [amS, zA, reduceCtorEq, zB, zC, zD, zE, zF, zG, zH, zI, zJ, zK, zL, reduceIte, zS]; rfl
    · exact ⟨by simp -implicitDefEqProofs (disch := omega) only [amS, zA, reduceCtorEq, zB, zC, zD, zE, zF, zG, zH, zI, zJ, zK, zL, reduceIte, zS]; omega, .inl ⟨rfl, by simp -implicitDefEqProofs (disch := omega) only [amS, zA, reduceCtorEq, zB, zC, zD, zE, zF, zG, zH, zI, zJ, zK, zL, reduceIte, zS]⟩⟩
    · simp -implicitDefEqProofs (disch := omega) only [amS, zA, reduceCtorEq, zB, zC, zD, zE, zF, zG, zH, zI, zJ, zK, zL, reduceIte, zS]
    · intro x hx; simp -implicitDefEqProofs (disch := omega) only [amS, zA, reduceCtorEq, zB, zC, zD, zE, zF, zG, zH, zI, zJ, zK, zL, reduceIte, zS]
    · rintro n t m1 ds ⟨i, hi, rfl, rfl, t1, t4, hB, hm, hold⟩
      simp only at t1 t4 hB hm hold
      simp -implicitDefEqProofs (disch := omega) only [amS, zA, reduceCtorEq, zB, zC, zD, zE, zF, zG, zH, zI, zJ, zK, zL, reduceIte, zS, F61_l0, t1, t4]
      refine BoolW_dec (fun hlt => ?_) (fun hlt => ?_)
      · have hg : rd m1 m.size i 1 = some [byteV (l[i]'(by omega))] := by
          rw [rd_one' hm]; simp [show i < l.length by omega]
        obtain ⟨v', M', ha, hB', hsz, hold'⟩ := (hB.push (.cells [.int .u8 (l[i]'(by omega)).toNat] 5 true .exact)).app (by simp; omega) (l[i]'(by omega))
        have hr : rd (m1.push (.cells [.int .u8 (l[i]'(by omega)).toNat] 5 true .exact)) m1.size 0 1 = some [.int .u8 (l[i]'(by omega)).toNat] := rd_push rfl
        simp -implicitDefEqProofs (disch := omega) only [W_skip, W_seq, W_reg, W_block, W_exit, W_ret, W_cond, W_draw, WI_nil, WI_op, WI_opg, WI_call, WI_callg, DW_call, DW_callg, OpI_some, OpG_some, OpG_true, OpG_false, BoolW_true, BoolW_false, GrdW_true, GrdW_false, SeqK_normal, SeqK_exit, SeqK_ret, SeqK_pan, BlockK_normal, BlockK_exit, BlockK_ret, BlockK_pan, LoopK_exit, LoopK_ret, LoopK_pan, CallK_ret, CallK_pan, RetK_ret, RetK_normal, RetK_pan, ResW_some, resVs, resV, packV, DW_nil, DW_f, DW_bop, FltW_some, FltG_some, fstO_some, valF_op, valF_opg, dst_op, dst_call, BarK_nil, OpB_some, gv_true, gv_false, sel2_true, sel2_false, sel2_and, sel2_or, beq_true, beq_false, updO_some, updO_none, upd_apply, sel_true, sel_false, zA, ev_t, ev_c, wanted_some, initT, List.getD_cons_zero, List.getD_cons_succ, stepOp_mov, stepOp_pick', pickV_bool, stepOp_new, stepOp_box, stepOp_ld1, stepOp_ldn, stepOp_st, stepOp_nchk, stepOp_bin, stepOp_eql, stepOp_un, stepOp_cvt, stepOp_idc, stepOp_slA, stepOp_fad, stepOp_iadA, stepOp_iadV, stepOp_ixS, stepOp_ext, stepOp_lenS, stepOp_lenV, stepOp_lenN, stepOp_toU, stepOp_frU, binV_add, binV_sub, binV_mul, binV_and, binV_or, binV_xor, binV_andNot, binV_eql, binV_neq, binV_lss, binV_leq, binV_gtr, binV_geq, binV_quo, binV_rem, binV_shl, binV_shr, binV_seql, binV_sneq, binV_sadd, unV_neg, unV_not, eqV_bool, addr_ptr, addr, cellsOf_int, cellsOf_bool, cellsOf_string, cellsOf_ptr, cellsOf_slice, cellsOf_bytes, AMem.size_push, AMem.size_set, AMem.get_push, AMem.get_set, ifp, ifn, wrap_i64, wrap_u64, wrap_u8, wrap_i32, Option.map_some, Option.some.injEq, reduceCtorEq, if_true, if_false, eq_self, true_and, and_true, Bool.true_and, Bool.and_true, Bool.false_or, Bool.or_false, Bool.not_true, Bool.not_false, beq_self_eq_true, Bool.false_and, Bool.and_false, Bool.true_or, Bool.or_true, zB, zC, zD, zE, Nat.mul_one, Nat.add_zero, Nat.zero_add, Nat.zero_mul, Int.toNat_natCast, zF, zG, zH, zI, zJ, zK, zL, ne_eq, not_false_eq_true, List.map_cons, List.map_nil, decide_true, decide_false, decide_eq_true_eq, wr, splice, List.length_cons, List.length_nil, List.length_map, List.length_append, List.take_succ_cons, List.take_zero, List.drop_succ_cons, List.drop_zero, List.drop_nil, List.cons_append, List.nil_append, List.append_nil, fill_byte, srcLen_slice, srcLen_string, srcCells_slice, srcCells_string, all_int, all_bytes, stepOp_bldSl, stepOp_app, stepOp_lenV, byteV, hg, t1, t4, ha, hr]
        have hb := hB.1
        refine ⟨20 - (i + 1), by omega, i + 1, by omega, rfl, rfl, by simp -implicitDefEqProofs (disch := omega) only [amS, zA, reduceCtorEq, zB, zC, zD, zE, zF, zG, zH, zI, zJ, zK, zL, reduceIte, zS, t1], by simp -implicitDefEqProofs (disch := omega) only [amS, zA, reduceCtorEq, zB, zC, zD, zE, zF, zG, zH, zI, zJ, zK, zL, reduceIte, zS, t4]; rfl, ?_, ?_, fun x hx => ?_⟩
        · simp -implicitDefEqProofs (disch := omega) only [amS, zA, reduceCtorEq, zB, zC, zD, zE, zF, zG, zH, zI, zJ, zK, zL, reduceIte, zS]
          rw [List.take_succ_eq_append_getElem (by omega)]
          exact hB'
        · rw [hold' _ (by omega), AMem.get_push_ne _ _ (by omega)]; exact hm
        · rw [hold' _ (by omega), AMem.get_push_ne _ _ (by omega)]; exact hold x hx
      · have hi : i = 20 := by omega
        subst hi
        obtain ⟨_, ⟨hnil, _⟩ | ⟨b', h1, h2, h3, h4, h5⟩⟩ := hB
        · rw [hnil] at hl20; simp at hl20
        · rw [hl20] at h4
          simp -implicitDefEqProofs (disch := omega) only [amS, zA, reduceCtorEq, zB, zC, zD, zE, zF, zG, zH, zI, zJ, zK, zL, reduceIte, zS, h4]
          refine (of20_ok m1 b' openCap (l.take 20) hl20 (rd_all h5 (by simp))).mono ?_
          rintro r m2 ⟨rfl, rfl⟩
          simp -implicitDefEqProofs (disch := omega) only [amS, zA, reduceCtorEq, zB, zC, zD, zE, zF, zG, zH, zI, zJ, zK, zL, reduceIte, zS]
          exact hold
  · rintro r m' ⟨rfl, h⟩
    exact ⟨⟨_, rfl, .string _⟩, h, rfl, rfl⟩
end Go.Proofs.YtgkmlbkocgjmmaaDoor.N
namespace Go.Proofs.YtgkmlbkocgjmmaaDoor.N
open Go Go.AM
set_option maxRecDepth 100000
set_option linter.unusedVariables false
set_option linter.unusedSimpArgs false

theorem z20 (l : List UInt8) : [Value.int .u8 0, .int .u8 0, .int .u8 0, .int .u8 0, .int .u8 0, .int .u8 0, .int .u8 0, .int .u8 0, .int .u8 0, .int .u8 0, .int .u8 0, .int .u8 0, .int .u8 0, .int .u8 0, .int .u8 0, .int .u8 0, .int .u8 0, .int .u8 0, .int .u8 0, .int .u8 0] = (outTo l 0).map byteV := by
  rfl

def bytesR (l : List UInt8) : List UInt8 × Bool := if l.length = 32 ∧ ∀ c ∈ l, 0 ≤ valZ c then (outTo l 20, true) else (outTo l 0, false)

theorem splice_all {c v : List Value} (h : v.length = c.length) : splice c 0 v = v := by simp [splice, h]
theorem wr_all {m : AMem} {b : Nat} {v : List Value} {c : List Value} {e : TypeId} {sp : Spare} (h : m.get b = .cells c e true sp) (hl : v.length = c.length) : wr m b 0 v = some (m.set b (.cells v e true sp)) := by
  rw [wr_at h (by omega), splice_all hl]
theorem outTo_set (l : List UInt8) {n : Nat} (hn : n < 20) : splice ((outTo l n).map byteV) n [byteV (byteAt l n)] = (outTo l (n + 1)).map byteV := by
  have hlen : (outTo l n).length = 20 := outTo_length l n
  apply List.ext_getElem
  · rw [splice_length (by simp [hlen]; omega)]; simp [outTo]
  · intro i h1 h2
    have hi : i < 20 := by simpa [outTo] using h2
    by_cases hin : i = n
    · subst hin
      have := splice_in (c := (outTo l i).map byteV) (o := i) (v := [byteV (byteAt l i)]) (by simp [hlen]; omega) 0 (by simp) (by simpa using h1)
      simp only [Nat.add_zero] at this
      rw [this]
      simp [outTo]
    · rw [splice_out (by simp [hlen]; omega) i (by simp; omega) (by simp [hlen]; omega) h1]
      simp only [outTo, List.map_map, List.getElem_map, List.getElem_range, Function.comp]
      by_cases hlt : i < n
      · simp [hlt, show i < n + 1 by omega]
      · simp [hlt, show ¬ i < n + 1 by omega]

theorem str_get (l : List UInt8) {i : Nat} (h : i < l.length) : (⟨l.toArray⟩ : ByteArray)[i]? = some l[i] := by
  have h2 : i < (⟨l.toArray⟩ : ByteArray).size := by rw [str_size]; exact h
  show (if h : i < (⟨l.toArray⟩ : ByteArray).size then some ((⟨l.toArray⟩ : ByteArray)[i]'h) else none) = _
  rw [dif_pos h2]; rfl

theorem shl5_u64 (w : Nat) : shl .u64 (w : Int) 5 = ((w * 2 ^ 5 % 2 ^ 64 : Nat) : Int) := by
  simp [shl, IntKind.wrap, IntKind.bits, IntKind.signed]
theorem wrap_u8_nat (w : Nat) : IntKind.u8.wrap (w : Int) = ((w % 256 : Nat) : Int) := by simp [IntKind.wrap, IntKind.bits, IntKind.signed]

theorem bytes_ok (m : AMem) (l : List UInt8) :
    ACall Tryd.prog 3 69 [.string ⟨l.toArray⟩] m fun r m' => r = .ret (.tuple #[.agg ((bytesR l).1.map byteV).toArray, .bool (bytesR l).2]) ∧ m' = m := by
  refine ACall.forget (Q := fun r m' => r = .ret (.tuple #[.agg ((bytesR l).1.map byteV).toArray, .bool (bytesR l).2]) ∧ ∀ x, x < m.size → m'.get x = m.get x) ?_ ?_
  · refine ACall_of_W (fn := Tryd.f69) rfl rfl F69_ok (by simp [F69]) ?_
    have hlen0 : ((outTo l 0).map byteV).length = 20 := by simp [outTo]
    have hlenN : ∀ n, ((outTo l n).map byteV).length = 20 := fun n => by simp [outTo]
    have ret : ∀ (M : AMem) (n k : Nat), M.get m.size = .cells ((outTo l 0).map byteV) 107 true .exact → M.get (m.size + 1) = .cells ((outTo l n).map byteV) 107 true .exact →
        rd M (m.size + 1) 0 20 = some ((outTo l n).map byteV) ∧ wr M m.size 0 ((outTo l k).map byteV) = some (M.set m.size (.cells ((outTo l k).map byteV) 107 true .exact)) ∧
        rd (M.set m.size (.cells ((outTo l k).map byteV) 107 true .exact)) m.size 0 20 = some ((outTo l k).map byteV) := fun M n k h1 h2 =>
      ⟨rd_all h2 (hlenN n), wr_all h1 (by rw [hlenN, hlenN]), rd_all (AMem.get_set_self _ _ _) (hlenN k)⟩
    simp -implicitDefEqProofs (disch := omega) only [amS, zA, reduceCtorEq, zB, zC, zD, zE, zF, zG, zH, zI, zJ, zK, zL, reduceIte, zS, F69, z20 l]
    have g1 : ((m.push (.cells ((outTo l 0).map byteV) 107 true .exact)).push (.cells ((outTo l 0).map byteV) 107 true .exact)).get m.size = .cells ((outTo l 0).map byteV) 107 true .exact := by simp -implicitDefEqProofs (disch := omega) only [amS, zA, reduceCtorEq, zB, zC, zD, zE, zF, zG, zH, zI, zJ, zK, zL, reduceIte, zS]
    have g2 : ((m.push (.cells ((outTo l 0).map byteV) 107 true .exact)).push (.cells ((outTo l 0).map byteV) 107 true .exact)).get (m.size + 1) = .cells ((outTo l 0).map byteV) 107 true .exact := by simp -implicitDefEqProofs (disch := omega) only [amS, zA, reduceCtorEq, zB, zC, zD, zE, zF, zG, zH, zI, zJ, zK, zL, reduceIte, zS]
    have g3 : ∀ x, x < m.size → ((m.push (.cells ((outTo l 0).map byteV) 107 true .exact)).push (.cells ((outTo l 0).map byteV) 107 true .exact)).get x = m.get x := fun x hx => by simp -implicitDefEqProofs (disch := omega) only [amS, zA, reduceCtorEq, zB, zC, zD, zE, zF, zG, zH, zI, zJ, zK, zL, reduceIte, zS]
    generalize (m.push (.cells ((outTo l 0).map byteV) 107 true .exact)).push (.cells ((outTo l 0).map byteV) 107 true .exact) = M at *
    obtain ⟨r1, w1, r2⟩ := ret M 0 0 g1 g2
    have hfail : ∀ M : AMem, (∀ x, x < m.size → M.get x = m.get x) → (∀ x, x < m.size → (M.set m.size (.cells ((outTo l 0).map byteV) 107 true .exact)).get x = m.get x) := fun M h x hx => by
      rw [AMem.get_set_ne _ _ (by omega)]; exact h x hx
    refine BoolW_of (fun hne => ?_) (fun hne => ?_)
    · have hne' : ¬ l.length = 32 := by rw [str_size] at hne; simp at hne; omega
      simp -implicitDefEqProofs (disch := omega) only [amS, zA, reduceCtorEq, zB, zC, zD, zE, zF, zG, zH, zI, zJ, zK, zL, reduceIte, zS, r1, w1, r2, hlenN]
      exact ⟨by simp [bytesR, hne'], hfail M g3⟩
    · have hl : l.length = 32 := by rw [str_size] at hne; simp at hne; omega
      have hsz : (⟨l.toArray⟩ : ByteArray).size = 32 := by rw [str_size]; exact hl
      refine W_loop (fun N s => ∃ i n h : Nat, i ≤ 32 ∧ N = 32 - i ∧ 5 * i = 8 * n + h ∧ h < 8 ∧ (∀ j (hj : j < 32), j < i → 0 ≤ valZ l[j]) ∧ s.ds = [] ∧ s.t 0 = .string ⟨l.toArray⟩ ∧ s.t 2 = .pointer (some ⟨m.size, 0, none⟩) ∧
        s.t 4 = .pointer (some ⟨m.size + 1, 0, none⟩) ∧ s.t 5 = .int .u64 ((valL (l.take i) % 2 ^ 64 : Nat) : Int) ∧ s.t 6 = .int .i64 h ∧ s.t 7 = .int .i64 n ∧ s.t 15 = .int .i64 32 ∧ s.t 16 = .int .i64 i ∧
        s.m.get m.size = .cells ((outTo l 0).map byteV) 107 true .exact ∧ s.m.get (m.size + 1) = .cells ((outTo l n).map byteV) 107 true .exact ∧ ∀ x, x < m.size → s.m.get x = m.get x) 32
        ⟨0, 0, 0, by omega, by omega, by omega, by omega, fun j hj hji => by omega, rfl, by simp -implicitDefEqProofs (disch := omega) only [amS, zA, reduceCtorEq, zB, zC, zD, zE, zF, zG, zH, zI, zJ, zK, zL, reduceIte, zS], by simp -implicitDefEqProofs (disch := omega) only [amS, zA, reduceCtorEq, zB, zC, zD, zE, zF, zG, zH, zI, zJ, zK, zL, reduceIte, zS], by simp -implicitDefEqProofs (disch := omega) only [amS, zA, reduceCtorEq, zB, zC, zD, zE, zF, zG, zH, zI, zJ, zK, zL, reduceIte, zS], by simp -implicitDefEqProofs (disch := omega) only [amS, zA, reduceCtorEq, zB, zC, zD, zE, zF, zG, zH, zI, zJ, zK, zL, reduceIte, zS]; rfl, by simp -implicitDefEqProofs (disch := omega) only [amS, zA, reduceCtorEq, zB, zC, zD, zE, zF, zG, zH, zI, zJ, zK, zL, reduceIte, zS]; rfl, by simp -implicitDefEqProofs (disch := omega) only [amS, zA, reduceCtorEq, zB, zC, zD, zE, zF, zG, zH, zI, zJ, zK, zL, reduceIte, zS]; rfl, by simp -implicitDefEqProofs (disch := omega) only [amS, zA, reduceCtorEq, zB, zC, zD, zE, zF, zG, zH, zI, zJ, zK, zL, reduceIte, zS, hsz]; rfl, by simp -implicitDefEqProofs (disch := omega) only [amS, zA, reduceCtorEq, zB, zC, zD, zE, zF, zG, zH, zI, zJ, zK, zL, reduceIte, zS]; rfl, g1, g2, g3⟩ ?_
      clear g1 g2 g3 r1 r2 w1
      rintro N t M1 ds ⟨i, n, h, hi, rfl, hin, hh, hval, rfl, t0, t2, t4, t5, t6, t7, t15, t16, g1, g2, g3⟩
      simp only at t0 t2 t4 t5 t6 t7 t15 t16 g1 g2 g3
      simp -implicitDefEqProofs (disch := omega) only [amS, zA, reduceCtorEq, zB, zC, zD, zE, zF, zG, zH, zI, zJ, zK, zL, reduceIte, zS, F69_l0, t0, t2, t4, t5, t6, t7, t15, t16]
      refine BoolW_dec (fun hlt => ?_) (fun hlt => ?_)
      · have hi32 : i < 32 := by omega
        have hs := str_get l (i := i) (by omega)
        simp -implicitDefEqProofs (disch := omega) only [amS, zA, reduceCtorEq, zB, zC, zD, zE, zF, zG, zH, zI, zJ, zK, zL, reduceIte, zS, hs, t0, t2, t4, t5, t6, t7, t15, t16]
        refine (indexByte_ok M1 _ (l[i]'(by omega))).mono ?_
        rintro r m' ⟨rfl, rfl⟩
        rw [firstIdx_alpha]
        have hv1 := valZ_lt (l[i]'(by omega))
        simp -implicitDefEqProofs (disch := omega) only [amS, zA, reduceCtorEq, zB, zC, zD, zE, zF, zG, zH, zI, zJ, zK, zL, reduceIte, zS, t0, t2, t4, t5, t6, t7, t15, t16, z20 l]
        refine BoolW_dec (fun hv => ?_) (fun hv => ?_)
        · obtain ⟨r1, w1, r2⟩ := ret m' n 0 g1 g2
          have hb : bytesR l = (outTo l 0, false) := by
            unfold bytesR
            rw [if_neg]
            rintro ⟨_, hall⟩
            have := hall (l[i]'(by omega)) (List.getElem_mem _)
            omega
          simp -implicitDefEqProofs (disch := omega) only [amS, zA, reduceCtorEq, zB, zC, zD, zE, zF, zG, zH, zI, zJ, zK, zL, reduceIte, zS, stepOp_bld, fill, w1, r2, hlenN, t2, hb, List.map_nil]
          exact hfail m' g3
        · obtain ⟨v, hvv⟩ : ∃ v : Nat, valZ (l[i]'(by omega)) = v := ⟨(valZ (l[i]'(by omega))).toNat, by omega⟩
          have hv32 : v < 32 := by omega
          have hvN : (valZ (l[i]'(by omega))).toNat = v := by omega
          have e1 := shl5_u64 (valL (l.take i) % 2 ^ 64)
          have e2 : ibits .or .u64 (((valL (l.take i) % 2 ^ 64) * 2 ^ 5 % 2 ^ 64 : Nat) : Int) (v : Int) = ((valL (l.take (i + 1)) % 2 ^ 64 : Nat) : Int) := by
            rw [ibits_or_nat (by rw [max_u64]; omega) (by rw [max_u64]; omega), word5_next _ _ hv32, valL_take_succ (by omega), hvN]
          have hval' : ∀ j (hj : j < 32), j < i + 1 → 0 ≤ valZ l[j] := fun j hj hji => by
            by_cases hje : j = i
            · subst hje; omega
            · exact hval j hj (by omega)
          simp -implicitDefEqProofs (disch := omega) only [amS, zA, reduceCtorEq, zB, zC, zD, zE, zF, zG, zH, zI, zJ, zK, zL, reduceIte, zS, hvv, e1, e2, t0, t2, t4, t5, t6, t7, t15, t16]
          refine BoolW_dec (fun h8 => ?_) (fun h8 => ?_)
          · obtain ⟨k, hk⟩ : ∃ k, h + 5 = k + 8 := ⟨h - 3, by omega⟩
            have hk' : (h : Int) + 5 - 8 = (k : Int) := by omega
            have hw : (valL (l.take (i + 1)) % 2 ^ 64) < 2 ^ 64 := Nat.mod_lt _ (by omega)
            have e3 : shr .u64 ((valL (l.take (i + 1)) % 2 ^ 64 : Nat) : Int) (k : Int) = (((valL (l.take (i + 1)) % 2 ^ 64) >>> k : Nat) : Int) := shr_nat .u64 _ _ (by simp [IntKind.bits]; omega)
            have e4 := wrap_u8_nat ((valL (l.take (i + 1)) % 2 ^ 64) >>> k)
            rw [word_byte _ _ (by omega), byteAt_at hl (n := n) hi32 (by omega)] at e4
            have hn20 : n < 20 := by omega
            have hset := outTo_set l hn20
            have w2 : wr m' (m.size + 1) n [.int .u8 (byteAt l n).toNat] = some (m'.set (m.size + 1) (.cells ((outTo l (n + 1)).map byteV) 107 true .exact)) := by
              rw [← hset]; exact wr_at g2 (by rw [hlenN]; simp; omega)
            simp -implicitDefEqProofs (disch := omega) only [amS, zA, reduceCtorEq, zB, zC, zD, zE, zF, zG, zH, zI, zJ, zK, zL, reduceIte, zS, hk', e3, e4, w2, t0, t2, t4, t5, t6, t7, t15, t16, List.length_cons, List.length_nil]
            refine ⟨32 - (i + 1), by omega, i + 1, n + 1, k, by omega, rfl, by omega, by omega, hval', rfl, by simp -implicitDefEqProofs (disch := omega) only [amS, zA, reduceCtorEq, zB, zC, zD, zE, zF, zG, zH, zI, zJ, zK, zL, reduceIte, zS, t0], by simp -implicitDefEqProofs (disch := omega) only [amS, zA, reduceCtorEq, zB, zC, zD, zE, zF, zG, zH, zI, zJ, zK, zL, reduceIte, zS, t2], by simp -implicitDefEqProofs (disch := omega) only [amS, zA, reduceCtorEq, zB, zC, zD, zE, zF, zG, zH, zI, zJ, zK, zL, reduceIte, zS, t4], by simp -implicitDefEqProofs (disch := omega) only [amS, zA, reduceCtorEq, zB, zC, zD, zE, zF, zG, zH, zI, zJ, zK, zL, reduceIte, zS], by simp -implicitDefEqProofs (disch := omega) only [amS, zA, reduceCtorEq, zB, zC, zD, zE, zF, zG, zH, zI, zJ, zK, zL, reduceIte, zS], by simp -implicitDefEqProofs (disch := omega) only [amS, zA, reduceCtorEq, zB, zC, zD, zE, zF, zG, zH, zI, zJ, zK, zL, reduceIte, zS]; rfl, by simp -implicitDefEqProofs (disch := omega) only [amS, zA, reduceCtorEq, zB, zC, zD, zE, zF, zG, zH, zI, zJ, zK, zL, reduceIte, zS, t15], by simp -implicitDefEqProofs (disch := omega) only [amS, zA, reduceCtorEq, zB, zC, zD, zE, zF, zG, zH, zI, zJ, zK, zL, reduceIte, zS]; rfl, ?_, ?_, fun x hx => ?_⟩
            · rw [AMem.get_set_ne _ _ (by omega)]; exact g1
            · exact AMem.get_set_self _ _ _
            · rw [AMem.get_set_ne _ _ (by omega)]; exact g3 x hx
          · refine ⟨32 - (i + 1), by omega, i + 1, n, h + 5, by omega, rfl, by omega, by omega, hval', rfl, by simp -implicitDefEqProofs (disch := omega) only [amS, zA, reduceCtorEq, zB, zC, zD, zE, zF, zG, zH, zI, zJ, zK, zL, reduceIte, zS, t0], by simp -implicitDefEqProofs (disch := omega) only [amS, zA, reduceCtorEq, zB, zC, zD, zE, zF, zG, zH, zI, zJ, zK, zL, reduceIte, zS, t2], by simp -implicitDefEqProofs (disch := omega) only [amS, zA, reduceCtorEq, zB, zC, zD, zE, zF, zG, zH, zI, zJ, zK, zL, reduceIte, zS, t4], by simp -implicitDefEqProofs (disch := omega) only [amS, zA, reduceCtorEq, zB, zC, zD, zE, zF, zG, zH, zI, zJ, zK, zL, reduceIte, zS], by simp -implicitDefEqProofs (disch := omega) only [amS, zA, reduceCtorEq, zB, zC, zD, zE, zF, zG, zH, zI, zJ, zK, zL, reduceIte, zS]; rfl, by simp -implicitDefEqProofs (disch := omega) only [amS, zA, reduceCtorEq, zB, zC, zD, zE, zF, zG, zH, zI, zJ, zK, zL, reduceIte, zS, t7], by simp -implicitDefEqProofs (disch := omega) only [amS, zA, reduceCtorEq, zB, zC, zD, zE, zF, zG, zH, zI, zJ, zK, zL, reduceIte, zS, t15], by simp -implicitDefEqProofs (disch := omega) only [amS, zA, reduceCtorEq, zB, zC, zD, zE, zF, zG, zH, zI, zJ, zK, zL, reduceIte, zS]; rfl, g1, g2, g3⟩
      · have hi : i = 32 := by omega
        subst hi
        obtain ⟨rfl, rfl⟩ : n = 20 ∧ h = 0 := by omega
        obtain ⟨r1, w1, r2⟩ := ret M1 20 20 g1 g2
        have hb : bytesR l = (outTo l 20, true) := by
          unfold bytesR
          rw [if_pos]
          refine ⟨hl, fun c hc => ?_⟩
          obtain ⟨j, hj, rfl⟩ := List.getElem_of_mem hc
          exact hval j (by omega) (by omega)
        simp -implicitDefEqProofs (disch := omega) only [amS, zA, reduceCtorEq, zB, zC, zD, zE, zF, zG, zH, zI, zJ, zK, zL, reduceIte, zS, r1, w1, r2, hlenN, hb, t2, t4]
        intro x hx
        rw [if_neg (by omega)]; exact g3 x hx
  · rintro r m' ⟨rfl, h⟩
    refine ⟨⟨_, rfl, Plain.tuple ?_⟩, h, rfl, rfl⟩
    intro v hv
    simp at hv
    rcases hv with rfl | rfl
    · exact plain_bytes _
    · exact .bool _
end Go.Proofs.YtgkmlbkocgjmmaaDoor.N
namespace Go.Proofs.YtgkmlbkocgjmmaaDoor.N
open Go Go.AM
set_option maxRecDepth 100000
set_option linter.unusedVariables false
set_option linter.unusedSimpArgs false

theorem get_bang (l : List UInt8) {i : Nat} (h : i < l.length) : (⟨l.toArray⟩ : ByteArray).get! i = l[i] := by
  show (l.toArray)[i]! = l[i]
  simp [h]

theorem decode_low (l : List UInt8) {i : Nat} (h : i < l.length) (hb : l[i].toNat < 128) : Utf8.decode ⟨l.toArray⟩ i = (l[i].toNat, 1) := by
  have hg := get_bang l h
  unfold Utf8.decode
  simp only [Nat.add_zero, hg]
  rw [if_pos hb]

theorem decode_high (l : List UInt8) {i : Nat} (h : i < l.length) (hb : ¬ l[i].toNat < 128) : 128 ≤ (Utf8.decode ⟨l.toArray⟩ i).1 := by
  have hg := get_bang l h
  unfold Utf8.decode
  simp only [Nat.add_zero, hg]
  rw [if_neg hb]
  have hr : 128 ≤ Utf8.runeError := by decide
  repeat' split
  all_goals simp only
  all_goals first | exact hr | omega | (rename_i h; simp at h; omega)

theorem plainZ_high {n : Int} (h : 128 ≤ n) : plainZ n = false := by
  unfold plainZ
  simp
  omega

theorem notPlain_ok (m : AMem) (c : Int) : ACall Tryd.prog 3 66 [.int .i32 c] m fun r m' => r = .ret (.bool (!plainZ c)) ∧ m' = m := by
  refine ACall_of_W (fn := Tryd.f66) rfl rfl F66_ok (by simp [F66]) ?_
  simp -implicitDefEqProofs (disch := omega) only [amS, zA, reduceCtorEq, zB, zC, zD, zE, zF, zG, zH, zI, zJ, zK, zL, reduceIte, zS, F66]
  refine (plain_ok m c).mono ?_
  rintro r m' ⟨rfl, rfl⟩
  simp -implicitDefEqProofs (disch := omega) only [amS, zA, reduceCtorEq, zB, zC, zD, zE, zF, zG, zH, zI, zJ, zK, zL, reduceIte, zS]

def allP (l : List UInt8) : Bool := l.all fun c => plainZ c.toNat

theorem WI_callv {P : Program} {G : Nat} {Q : AExit → ASt → Prop} {t : Tmps} {m : AMem} {ds : List Deferred} (d : Option Nat) (x : AOpd) (xs : List AOpd) (r : List AIns) (f : FuncId) (hx : x.ev t = .func (.func f) #[] #[]) :
    WI P G (.callv none d x xs :: r) Q ⟨t, m, ds⟩ = ACall P G f (xs.map (·.ev t)) m (CallK d ⟨t, m, ds⟩ (WI P G r Q) Q) := by
  simp [WI, WI1, AIns.guard, wanted, hx]

theorem indexFunc_ok (m : AMem) (l : List UInt8) (hl : l.length ≤ 100000) : ACall Tryd.prog 3 91 [.string ⟨l.toArray⟩, .func (.func 66) #[] #[], .bool true] m fun r m' => (∃ z, r = .ret (.int .i64 z) ∧ (0 ≤ z ↔ allP l = false)) ∧ m' = m := by
  refine ACall.forget (Q := fun r m' => (∃ z, r = .ret (.int .i64 z) ∧ (0 ≤ z ↔ allP l = false)) ∧ ∀ x, x < m.size → m'.get x = m.get x) ?_ ?_
  · refine ACall_of_W (fn := Tryd.f91) rfl rfl F91_ok (by simp [F91]) ?_
    have hsz : (⟨l.toArray⟩ : ByteArray).size = l.length := str_size l
    simp -implicitDefEqProofs (disch := omega) only [amS, zA, reduceCtorEq, zB, zC, zD, zE, zF, zG, zH, zI, zJ, zK, zL, reduceIte, zS, F91, stepOp_rng]
    refine W_loop (fun n s => ∃ i, i ≤ l.length ∧ n = l.length - i ∧ s.ds = [] ∧ s.t 1 = .func (.func 66) #[] #[] ∧ s.t 2 = .bool true ∧ s.t 10 = .pointer (some ⟨m.size, 0, none⟩) ∧ s.m.get m.size = .iter ⟨l.toArray⟩ i ∧
      (∀ j (h : j < l.length), j < i → plainZ l[j].toNat = true) ∧ ∀ x, x < m.size → s.m.get x = m.get x) l.length ⟨0, by omega, by omega, rfl, by simp -implicitDefEqProofs (disch := omega) only [amS, zA, reduceCtorEq, zB, zC, zD, zE, zF, zG, zH, zI, zJ, zK, zL, reduceIte, zS], by simp -implicitDefEqProofs (disch := omega) only [amS, zA, reduceCtorEq, zB, zC, zD, zE, zF, zG, zH, zI, zJ, zK, zL, reduceIte, zS], by simp -implicitDefEqProofs (disch := omega) only [amS, zA, reduceCtorEq, zB, zC, zD, zE, zF, zG, zH, zI, zJ, zK, zL, reduceIte, zS], by simp -implicitDefEqProofs (disch := omega) only [amS, zA, reduceCtorEq, zB, zC, zD, zE, zF, zG, zH, zI, zJ, zK, zL, reduceIte, zS], fun j hj hji => by omega, fun x hx => by simp -implicitDefEqProofs (disch := omega) only [amS, zA, reduceCtorEq, zB, zC, zD, zE, zF, zG, zH, zI, zJ, zK, zL, reduceIte, zS]⟩ ?_
    rintro n t m1 ds ⟨i, hi, rfl, rfl, t1, t2, t10, hm, hall, hold⟩
    simp only at t1 t2 t10 hm hall hold
    have a0 : ∀ a b c : Value, #[a, b, c][0]? = some a := fun _ _ _ => rfl
    have a1 : ∀ a b c : Value, #[a, b, c][1]? = some b := fun _ _ _ => rfl
    have a2 : ∀ a b c : Value, #[a, b, c][2]? = some c := fun _ _ _ => rfl
    have a3 : ∀ a : Value, #[a][0]? = some a := fun _ => rfl
    by_cases hlt : i < l.length
    · have hx := l[i].toNat_lt
      have hlow : plainZ (Utf8.decode ⟨l.toArray⟩ i).1 = true → (Utf8.decode ⟨l.toArray⟩ i).2 = 1 ∧ plainZ l[i].toNat = true := fun h => by
        by_cases hb : l[i].toNat < 128
        · rw [decode_low l hlt hb] at h ⊢; exact ⟨rfl, h⟩
        · rw [plainZ_high (by have := decode_high l hlt hb; omega)] at h; cases h
      have hhigh : plainZ (Utf8.decode ⟨l.toArray⟩ i).1 = false → plainZ l[i].toNat = false := fun h => by
        by_cases hb : l[i].toNat < 128
        · rw [decode_low l hlt hb] at h; exact h
        · exact plainZ_high (by omega)
      generalize hdec : Utf8.decode ⟨l.toArray⟩ i = rw at *
      obtain ⟨R, Wd⟩ := rw
      simp only at hlow hhigh
      have hcv := fun (t : Tmps) (m : AMem) (ds : List Deferred) (Q : AExit → ASt → Prop) (xs : List AOpd) (r : List AIns) (h : (AOpd.t 15).ev t = .func (.func 66) #[] #[]) => WI_callv (P := Tryd.prog) (G := 3) (Q := Q) (t := t) (m := m) (ds := ds) (some 17) (.t 15) xs r 66 h
      simp -implicitDefEqProofs (disch := omega) only [amS, zA, reduceCtorEq, zB, zC, zD, zE, zF, zG, zH, zI, zJ, zK, zL, reduceIte, zS, F91_l0, t1, t2, t10, stepOp_nxt, hm, hsz, hdec, a0, a1, a2]
      rw [hcv _ _ _ _ _ _ (by simp -implicitDefEqProofs (disch := omega) only [amS, zA, reduceCtorEq, zB, zC, zD, zE, zF, zG, zH, zI, zJ, zK, zL, reduceIte, zS, t1])]
      simp -implicitDefEqProofs (disch := omega) only [amS, zA, reduceCtorEq, zB, zC, zD, zE, zF, zG, zH, zI, zJ, zK, zL, reduceIte, zS]
      refine (notPlain_ok _ R).mono ?_
      rintro r m' ⟨rfl, rfl⟩
      simp -implicitDefEqProofs (disch := omega) only [amS, zA, reduceCtorEq, zB, zC, zD, zE, zF, zG, zH, zI, zJ, zK, zL, reduceIte, zS, t1, t2, t10]
      cases hp : plainZ R with
      | true =>
        obtain ⟨rfl, hp2⟩ := hlow hp
        simp -implicitDefEqProofs (disch := omega) only [amS, zA, reduceCtorEq, zB, zC, zD, zE, zF, zG, zH, zI, zJ, zK, zL, reduceIte, zS, Bool.false_eq_true, beq_true]
        refine ⟨l.length - (i + 1), by omega, i + 1, by omega, by omega, rfl, by simp -implicitDefEqProofs (disch := omega) only [amS, zA, reduceCtorEq, zB, zC, zD, zE, zF, zG, zH, zI, zJ, zK, zL, reduceIte, zS, t1], by simp -implicitDefEqProofs (disch := omega) only [amS, zA, reduceCtorEq, zB, zC, zD, zE, zF, zG, zH, zI, zJ, zK, zL, reduceIte, zS, t2], by simp -implicitDefEqProofs (disch := omega) only [amS, zA, reduceCtorEq, zB, zC, zD, zE, zF, zG, zH, zI, zJ, zK, zL, reduceIte, zS, t10], AMem.get_set_self _ _ _, fun j hj hji => ?_, fun x hx => ?_⟩
        · by_cases hje : j = i
          · subst hje; exact hp2
          · exact hall j hj (by omega)
        · rw [AMem.get_set_ne _ _ (by omega)]; exact hold x hx
      | false =>
        simp -implicitDefEqProofs (disch := omega) only [amS, zA, reduceCtorEq, zB, zC, zD, zE, zF, zG, zH, zI, zJ, zK, zL, reduceIte, zS, beq_true]
        refine ⟨⟨i, rfl, ?_⟩, fun x hx => ?_⟩
        · have : allP l = false := by
            rw [allP, List.all_eq_false]
            exact ⟨l[i], List.getElem_mem _, by simp [hhigh hp]⟩
          simp [this]
        · rw [if_neg (by omega)]; exact hold x hx
    · have : i = l.length := by omega
      subst this
      simp -implicitDefEqProofs (disch := omega) only [amS, zA, reduceCtorEq, zB, zC, zD, zE, zF, zG, zH, zI, zJ, zK, zL, reduceIte, zS, F91_l0, t1, t2, t10, stepOp_nxt, hm, hsz, a3]
      refine ⟨⟨-1, rfl, ?_⟩, hold⟩
      have : allP l = true := by
        rw [allP, List.all_eq_true]
        intro c hc
        obtain ⟨j, hj, rfl⟩ := List.getElem_of_mem hc
        exact hall j hj hj
      simp [this]
  · rintro r m' ⟨⟨z, rfl, h⟩, h2⟩
    exact ⟨⟨_, rfl, .int _ _⟩, h2, ⟨z, rfl, h⟩, rfl⟩
end Go.Proofs.YtgkmlbkocgjmmaaDoor.N
namespace Go.Proofs.YtgkmlbkocgjmmaaDoor.N
open Go Go.AM
set_option maxRecDepth 100000
set_option linter.unusedVariables false
set_option linter.unusedSimpArgs false

theorem indexFunc34_ok (m : AMem) (l : List UInt8) (hl : l.length ≤ 100000) : ACall Tryd.prog 3 82 [.string ⟨l.toArray⟩, .func (.func 66) #[] #[]] m fun r m' => (∃ z, r = .ret (.int .i64 z) ∧ (0 ≤ z ↔ allP l = false)) ∧ m' = m := by
  refine ACall_of_W (fn := Tryd.f82) rfl rfl F82_ok (by simp [F82]) ?_
  simp -implicitDefEqProofs (disch := omega) only [amS, zA, reduceCtorEq, zB, zC, zD, zE, zF, zG, zH, zI, zJ, zK, zL, reduceIte, zS, F82]
  refine (indexFunc_ok m l hl).mono ?_
  rintro r m' ⟨⟨z, rfl, hz⟩, rfl⟩
  simp -implicitDefEqProofs (disch := omega) only [amS, zA, reduceCtorEq, zB, zC, zD, zE, zF, zG, zH, zI, zJ, zK, zL, reduceIte, zS]
  exact ⟨z, rfl, hz⟩

theorem containsFunc_ok (m : AMem) (l : List UInt8) (hl : l.length ≤ 100000) : ACall Tryd.prog 3 65 [.string ⟨l.toArray⟩, .func (.func 66) #[] #[]] m fun r m' => r = .ret (.bool (!allP l)) ∧ m' = m := by
  refine ACall_of_W (fn := Tryd.f65) rfl rfl F65_ok (by simp [F65]) ?_
  simp -implicitDefEqProofs (disch := omega) only [amS, zA, reduceCtorEq, zB, zC, zD, zE, zF, zG, zH, zI, zJ, zK, zL, reduceIte, zS, F65]
  refine (indexFunc34_ok m l hl).mono ?_
  rintro r m' ⟨⟨z, rfl, hz⟩, rfl⟩
  simp -implicitDefEqProofs (disch := omega) only [amS, zA, reduceCtorEq, zB, zC, zD, zE, zF, zG, zH, zI, zJ, zK, zL, reduceIte, zS]
  have : decide (0 ≤ z) = !allP l := by
    cases h : allP l <;> simp [hz, h]
  rw [this]

def rightB (l : List UInt8) : Bool := !decide (l = []) && decide (l.length ≤ 64) && !decide (l.head? = some 46) && allP l

theorem strEq_nil (l : List UInt8) : strEq ⟨l.toArray⟩ ⟨#[]⟩ = decide (l = []) := by
  cases l <;> simp [strEq]

theorem right_ok (m : AMem) (l : List UInt8) : ACall Tryd.prog 3 38 [.string ⟨l.toArray⟩] m fun r m' => r = .ret (.bool (rightB l)) ∧ m' = m := by
  refine ACall_of_W (fn := Tryd.f38) rfl rfl F38_ok (by simp [F38]) ?_
  have hs := strEq_nil l
  have hz := str_size l
  cases l with
  | nil =>
    simp only [decide_true] at hs
    simp -implicitDefEqProofs (disch := omega) only [amS, zA, reduceCtorEq, zB, zC, zD, zE, zF, zG, zH, zI, zJ, zK, zL, reduceIte, zS, F38, hs, hz]
    rfl
  | cons x r =>
    simp only [reduceCtorEq, decide_false] at hs
    have hg := str_get (x :: r) (i := 0) (by simp)
    by_cases hlen : (x :: r).length ≤ 64
    · have h64 : decide ((((x :: r).length : Nat) : Int) ≤ 64) = true := by simp only [decide_eq_true_eq]; omega
      by_cases hdot : x = 46
      · have hd : decide ((x.toNat : Int) = 46) = true := by subst hdot; rfl
        simp -implicitDefEqProofs (contextual := true) (maxSteps := 4000000) (disch := omega) only [amS, zA, reduceCtorEq, zB, zC, zD, zE, zF, zG, zH, zI, zJ, zK, zL, reduceIte, zS, F38, hs, hz, hg, h64, hd, List.getElem_cons_zero, stepOp_lenS]
        subst hdot
        simp [rightB]
      · have hd : decide ((x.toNat : Int) = 46) = false := by
          simp only [decide_eq_false_iff_not]
          intro h
          exact hdot (UInt8.toNat_inj.1 (by simpa using (by exact_mod_cast h : x.toNat = 46)))
        simp -implicitDefEqProofs (contextual := true) (maxSteps := 4000000) (disch := omega) only [amS, zA, reduceCtorEq, zB, zC, zD, zE, zF, zG, zH, zI, zJ, zK, zL, reduceIte, zS, F38, hs, hz, hg, h64, hd, List.getElem_cons_zero, stepOp_lenS]
        refine (containsFunc_ok m (x :: r) (by omega)).mono ?_
        rintro r' m' ⟨rfl, rfl⟩
        simp -implicitDefEqProofs (contextual := true) (maxSteps := 4000000) (disch := omega) only [amS, zA, reduceCtorEq, zB, zC, zD, zE, zF, zG, zH, zI, zJ, zK, zL, reduceIte, zS, Bool.not_not]
        have : decide ((x :: r).length ≤ 64) = true := decide_eq_true hlen
        simp only [rightB, this]
        simp [hdot]
    · have h64 : decide ((((x :: r).length : Nat) : Int) ≤ 64) = false := by simp only [decide_eq_false_iff_not]; omega
      simp -implicitDefEqProofs (contextual := true) (maxSteps := 4000000) (disch := omega) only [amS, zA, reduceCtorEq, zB, zC, zD, zE, zF, zG, zH, zI, zJ, zK, zL, reduceIte, zS, F38, hs, hz, hg, h64, List.getElem_cons_zero, stepOp_lenS]
      have : decide ((x :: r).length ≤ 64) = false := decide_eq_false hlen
      simp only [rightB, this]
      simp
end Go.Proofs.YtgkmlbkocgjmmaaDoor.N
namespace Go.Proofs.YtgkmlbkocgjmmaaDoor.N
open Go Go.AM
set_option maxRecDepth 100000
set_option linter.unusedVariables false
set_option linter.unusedSimpArgs false

theorem refRight_ok (m : AMem) (l : List UInt8) (hl : l.length ≤ 100000) : ACall Tryd.prog 3 40 [.string ⟨l.toArray⟩] m fun r m' => r = .ret (.bool (rightB l)) ∧ m' = m := by
  refine ACall_of_W (fn := Tryd.f40) rfl rfl F40_ok (by simp [F40]) ?_
  have hz := str_size l
  simp -implicitDefEqProofs (disch := omega) only [amS, zA, reduceCtorEq, zB, zC, zD, zE, zF, zG, zH, zI, zJ, zK, zL, reduceIte, zS, F40]
  refine W_loop (fun n s => ∃ i : Nat, i ≤ 65 ∧ n = 65 - i ∧ s.m = m ∧ s.ds = [] ∧ s.t 0 = .string ⟨l.toArray⟩ ∧ s.t 3 = .int .i64 i ∧ ∀ j (h : j < l.length), j < i → plainZ l[j].toNat = true) 65
    ⟨0, by omega, rfl, rfl, rfl, by simp -implicitDefEqProofs (disch := omega) only [amS, zA, reduceCtorEq, zB, zC, zD, zE, zF, zG, zH, zI, zJ, zK, zL, reduceIte, zS], by simp -implicitDefEqProofs (disch := omega) only [amS, zA, reduceCtorEq, zB, zC, zD, zE, zF, zG, zH, zI, zJ, zK, zL, reduceIte, zS]; rfl, fun j h hj => by omega⟩ ?_
  rintro n t m1 ds ⟨i, hi, rfl, rfl, rfl, t0, t3, hall⟩
  simp only at t0 t3 hall
  simp -implicitDefEqProofs (contextual := true) (maxSteps := 4000000) (disch := omega) only [amS, zA, reduceCtorEq, zB, zC, zD, zE, zF, zG, zH, zI, zJ, zK, zL, reduceIte, zS, F40_l0, t0, t3, hz, stepOp_lenS]
  refine BoolW_of (fun h => ?_) (fun h => ?_)
  · have h1 : i < l.length ∧ i < 65 := by simp at h; omega
    have hg := str_get l h1.1
    have hx := l[i].toNat_lt
    simp -implicitDefEqProofs (contextual := true) (maxSteps := 4000000) (disch := omega) only [amS, zA, reduceCtorEq, zB, zC, zD, zE, zF, zG, zH, zI, zJ, zK, zL, reduceIte, zS, t0, t3, hg]
    refine BoolW_of (fun hb => ?_) (fun hb => ?_)
    · have hp : plainZ l[i].toNat = false := by
        simp [plainZ] at hb ⊢
        omega
      have hA : allP l = false := by
        rw [allP, List.all_eq_false]
        exact ⟨l[i], List.getElem_mem _, by simp [hp]⟩
      simp [rightB, hA]
    · have hp : plainZ l[i].toNat = true := by
        simp [plainZ] at hb ⊢
        omega
      refine ⟨65 - (i + 1), by omega, i + 1, by omega, rfl, rfl, rfl, by simp -implicitDefEqProofs (disch := omega) only [amS, zA, reduceCtorEq, zB, zC, zD, zE, zF, zG, zH, zI, zJ, zK, zL, reduceIte, zS, t0], by simp -implicitDefEqProofs (disch := omega) only [amS, zA, reduceCtorEq, zB, zC, zD, zE, zF, zG, zH, zI, zJ, zK, zL, reduceIte, zS]; rfl, fun j h hj => ?_⟩
      by_cases hje : j = i
      · subst hje; exact hp
      · exact hall j h (by omega)
  · have h1 : ¬ (i < l.length ∧ i < 65) := by simp at h; omega
    by_cases hlen : l.length ≤ 64
    · have hA : allP l = true := by
        rw [allP, List.all_eq_true]
        intro c hc
        obtain ⟨j, hj, rfl⟩ := List.getElem_of_mem hc
        exact hall j hj (by omega)
      cases l with
      | nil =>
        have h1 : decide ((1 : Int) ≤ ((([] : List UInt8).length : Nat) : Int)) = false := rfl
        simp -implicitDefEqProofs (contextual := true) (maxSteps := 4000000) (disch := omega) only [amS, zA, reduceCtorEq, zB, zC, zD, zE, zF, zG, zH, zI, zJ, zK, zL, reduceIte, zS, t0, t3, hz, h1, stepOp_lenS]
        rfl
      | cons x r =>
        have hg := str_get (x :: r) (i := 0) (by simp)
        have hlen1 : decide ((1 : Int) ≤ (((x :: r).length : Nat) : Int)) = true := by simp only [decide_eq_true_eq, List.length_cons]; omega
        have h64 : decide ((((x :: r).length : Nat) : Int) ≤ 64) = true := by simp only [decide_eq_true_eq]; omega
        simp -implicitDefEqProofs (contextual := true) (maxSteps := 4000000) (disch := omega) only [amS, zA, reduceCtorEq, zB, zC, zD, zE, zF, zG, zH, zI, zJ, zK, zL, reduceIte, zS, t0, t3, hz, hg, hlen1, h64, stepOp_lenS, List.getElem_cons_zero]
        have h64' : decide ((x :: r).length ≤ 64) = true := decide_eq_true hlen
        simp only [rightB, h64', hA]
        have : decide ((x.toNat : Int) = 46) = decide (x = 46) := decide_eq_decide.2 ⟨fun h => UInt8.toNat_inj.1 (by simpa using (by exact_mod_cast h : x.toNat = 46)), fun h => by subst h; rfl⟩
        simp [this]
    · have h64 : decide (((l.length : Nat) : Int) ≤ 64) = false := by simp only [decide_eq_false_iff_not]; omega
      simp -implicitDefEqProofs (contextual := true) (maxSteps := 4000000) (disch := omega) only [amS, zA, reduceCtorEq, zB, zC, zD, zE, zF, zG, zH, zI, zJ, zK, zL, reduceIte, zS, t0, t3, hz, h64, stepOp_lenS]
      have h64' : decide (l.length ≤ 64) = false := decide_eq_false hlen
      simp only [rightB, h64']
      simp
end Go.Proofs.YtgkmlbkocgjmmaaDoor.N
namespace Go.Proofs.YtgkmlbkocgjmmaaDoor.N
open Go Go.AM
set_option maxRecDepth 100000
set_option linter.unusedVariables false
set_option linter.unusedSimpArgs false

def lettersOf (d : List UInt8) : List UInt8 := lettersTo (d.take 20) 32
theorem lettersOf_length (d : List UInt8) : (lettersOf d).length = 32 := lettersTo_length _ _
def nameR (d l : List UInt8) : List UInt8 × Int := if rightB l then (lettersOf d ++ [45] ++ l, 0) else ([], 2)

theorem name_ok (m : AMem) (d l : List UInt8) (hd : d.length = 32) (hl : l.length ≤ 100000) :
    ACall Tryd.prog 3 34 [.agg (d.map byteV).toArray, .string ⟨l.toArray⟩] m fun r m' => r = .ret (.tuple #[.string ⟨(nameR d l).1.toArray⟩, .int .i64 (nameR d l).2]) ∧ m' = m := by
  refine ACall.forget (Q := fun r m' => r = .ret (.tuple #[.string ⟨(nameR d l).1.toArray⟩, .int .i64 (nameR d l).2]) ∧ ∀ x, x < m.size → m'.get x = m.get x) ?_ ?_
  · refine ACall_of_W (fn := Tryd.f34) rfl rfl F34_ok (by simp [F34]) ?_
    simp -implicitDefEqProofs (disch := omega) only [amS, zA, reduceCtorEq, zB, zC, zD, zE, zF, zG, zH, zI, zJ, zK, zL, reduceIte, zS, F34]
    refine (right_ok _ l).mono ?_
    rintro r m' ⟨rfl, rfl⟩
    have hr : rd (m.push (.cells (d.map byteV) 52 true .exact)) m.size 0 32 = some (d.map byteV) := rd_push (by simp [hd])
    simp -implicitDefEqProofs (disch := omega) only [amS, zA, reduceCtorEq, zB, zC, zD, zE, zF, zG, zH, zI, zJ, zK, zL, reduceIte, zS, hr]
    cases h : rightB l with
    | false =>
      simp -implicitDefEqProofs (disch := omega) only [amS, zA, reduceCtorEq, zB, zC, zD, zE, zF, zG, zH, zI, zJ, zK, zL, reduceIte, zS]
      exact ⟨by simp [nameR, h], fun x hx => by rw [if_neg (by omega)]⟩
    | true =>
      simp -implicitDefEqProofs (disch := omega) only [amS, zA, reduceCtorEq, zB, zC, zD, zE, zF, zG, zH, zI, zJ, zK, zL, reduceIte, zS]
      refine (letters_ok _ d hd).mono ?_
      rintro r m' ⟨rfl, rfl⟩
      have s1 : (⟨(lettersTo (d.take 20) 32).toArray⟩ : ByteArray).size = 32 := by rw [str_size, lettersTo_length]
      have s2 : (⟨#[45]⟩ : ByteArray).size = 1 := rfl
      have a1 : (⟨(lettersTo (d.take 20) 32).toArray⟩ : ByteArray) ++ ⟨#[45]⟩ = ⟨(lettersTo (d.take 20) 32 ++ [45]).toArray⟩ := str_app _ [45]
      have s3 : (⟨(lettersTo (d.take 20) 32 ++ [45]).toArray⟩ : ByteArray).size = 33 := by rw [str_size]; simp [lettersTo_length]
      have s4 := str_size l
      have a2 : (⟨(lettersTo (d.take 20) 32 ++ [45]).toArray⟩ : ByteArray) ++ ⟨l.toArray⟩ = ⟨(lettersTo (d.take 20) 32 ++ [45] ++ l).toArray⟩ := str_app _ _
      simp -implicitDefEqProofs (disch := omega) only [amS, zA, reduceCtorEq, zB, zC, zD, zE, zF, zG, zH, zI, zJ, zK, zL, reduceIte, zS, s1, s2, a1, s3, s4, a2]
      exact ⟨by simp [nameR, h, lettersOf], fun x hx => by rw [if_neg (by omega)]⟩
  · rintro r m' ⟨rfl, h⟩
    refine ⟨⟨_, rfl, Plain.tuple ?_⟩, h, rfl, rfl⟩
    intro v hv
    simp at hv
    rcases hv with rfl | rfl
    · exact .string _
    · exact .int _ _

theorem refName_ok (m : AMem) (d l : List UInt8) (hd : d.length = 32) (hl : l.length ≤ 100000) :
    ACall Tryd.prog 3 36 [.agg (d.map byteV).toArray, .string ⟨l.toArray⟩] m fun r m' => r = .ret (.tuple #[.string ⟨(nameR d l).1.toArray⟩, .int .i64 (nameR d l).2]) ∧ m' = m := by
  refine ACall.forget (Q := fun r m' => r = .ret (.tuple #[.string ⟨(nameR d l).1.toArray⟩, .int .i64 (nameR d l).2]) ∧ ∀ x, x < m.size → m'.get x = m.get x) ?_ ?_
  · refine ACall_of_W (fn := Tryd.f36) rfl rfl F36_ok (by simp [F36]) ?_
    simp -implicitDefEqProofs (disch := omega) only [amS, zA, reduceCtorEq, zB, zC, zD, zE, zF, zG, zH, zI, zJ, zK, zL, reduceIte, zS, F36]
    refine (refRight_ok _ l hl).mono ?_
    rintro r m' ⟨rfl, rfl⟩
    have hr : rd (m.push (.cells (d.map byteV) 52 true .exact)) m.size 0 32 = some (d.map byteV) := rd_push (by simp [hd])
    simp -implicitDefEqProofs (disch := omega) only [amS, zA, reduceCtorEq, zB, zC, zD, zE, zF, zG, zH, zI, zJ, zK, zL, reduceIte, zS, hr]
    cases h : rightB l with
    | false =>
      simp -implicitDefEqProofs (disch := omega) only [amS, zA, reduceCtorEq, zB, zC, zD, zE, zF, zG, zH, zI, zJ, zK, zL, reduceIte, zS]
      exact ⟨by simp [nameR, h], fun x hx => by rw [if_neg (by omega)]⟩
    | true =>
      simp -implicitDefEqProofs (disch := omega) only [amS, zA, reduceCtorEq, zB, zC, zD, zE, zF, zG, zH, zI, zJ, zK, zL, reduceIte, zS]
      refine (refLetters_ok _ d hd).mono ?_
      rintro r m' ⟨rfl, rfl⟩
      have s1 : (⟨(lettersTo (d.take 20) 32).toArray⟩ : ByteArray).size = 32 := by rw [str_size, lettersTo_length]
      have s2 : (⟨#[45]⟩ : ByteArray).size = 1 := rfl
      have a1 : (⟨(lettersTo (d.take 20) 32).toArray⟩ : ByteArray) ++ ⟨#[45]⟩ = ⟨(lettersTo (d.take 20) 32 ++ [45]).toArray⟩ := str_app _ [45]
      have s3 : (⟨(lettersTo (d.take 20) 32 ++ [45]).toArray⟩ : ByteArray).size = 33 := by rw [str_size]; simp [lettersTo_length]
      have s4 := str_size l
      have a2 : (⟨(lettersTo (d.take 20) 32 ++ [45]).toArray⟩ : ByteArray) ++ ⟨l.toArray⟩ = ⟨(lettersTo (d.take 20) 32 ++ [45] ++ l).toArray⟩ := str_app _ _
      simp -implicitDefEqProofs (disch := omega) only [amS, zA, reduceCtorEq, zB, zC, zD, zE, zF, zG, zH, zI, zJ, zK, zL, reduceIte, zS, s1, s2, a1, s3, s4, a2]
      exact ⟨by simp [nameR, h, lettersOf], fun x hx => by rw [if_neg (by omega)]⟩
  · rintro r m' ⟨rfl, h⟩
    refine ⟨⟨_, rfl, Plain.tuple ?_⟩, h, rfl, rfl⟩
    intro v hv
    simp at hv
    rcases hv with rfl | rfl
    · exact .string _
    · exact .int _ _
end Go.Proofs.YtgkmlbkocgjmmaaDoor.N
namespace Go.Proofs.YtgkmlbkocgjmmaaDoor.N
open Go Go.AM
set_option maxRecDepth 100000
set_option linter.unusedVariables false
set_option linter.unusedSimpArgs false

theorem str_extract (l : List UInt8) (a b : Nat) : (⟨l.toArray⟩ : ByteArray).extract a b = ⟨((l.take b).drop a).toArray⟩ := by
  apply ByteArray.ext
  simp [List.extract_eq_take_drop, List.drop_take]

theorem firstIdx_lt {s : ByteArray} {c : UInt8} (h : 0 ≤ firstIdx s c) : (firstIdx s c).toNat < s.size := by
  unfold firstIdx at h ⊢
  split
  · rename_i i hi
    have := List.mem_of_find?_eq_some hi
    simpa using this
  · rename_i hn
    rw [hn] at h; simp at h

theorem firstIdx_ge (s : ByteArray) (c : UInt8) : -1 ≤ firstIdx s c := by
  unfold firstIdx
  split <;> omega

theorem firstIdx_self : firstIdx ⟨#[45]⟩ 45 = 0 := by decide +kernel

theorem index_ok (m : AMem) (l : List UInt8) (hl : l.length ≤ 100000) : ACall Tryd.prog 3 92 [.string ⟨l.toArray⟩, .string ⟨#[45]⟩] m fun r m' => r = .ret (.int .i64 (firstIdx ⟨l.toArray⟩ 45)) ∧ m' = m := by
  refine ACall_of_W (fn := Tryd.f92) rfl rfl F92_ok (by simp [F92]) ?_
  have s1 : (⟨#[45]⟩ : ByteArray).size = 1 := rfl
  have g1 : (⟨#[45]⟩ : ByteArray)[0]? = some 45 := rfl
  have n1 : ((1 : Nat) : Int) = 1 := rfl
  simp -implicitDefEqProofs (contextual := true) (maxSteps := 4000000) (disch := omega) only [amS, zA, reduceCtorEq, zB, zC, zD, zE, zF, zG, zH, zI, zJ, zK, zL, reduceIte, zS, F92, stepOp_lenS, s1, n1]
  refine BoolW_of (fun h => ?_) (fun h => ?_)
  · have : (⟨#[45]⟩ : ByteArray).data.toList = l := by simpa [strEq] using h
    have : l = [45] := this.symm
    subst this
    simp [firstIdx_self]
  · simp -implicitDefEqProofs (contextual := true) (maxSteps := 4000000) (disch := omega) only [amS, zA, reduceCtorEq, zB, zC, zD, zE, zF, zG, zH, zI, zJ, zK, zL, reduceIte, zS, g1]
    refine (indexByte33_ok m _ 45).mono ?_
    rintro r m' ⟨rfl, rfl⟩
    simp -implicitDefEqProofs (disch := omega) only [amS, zA, reduceCtorEq, zB, zC, zD, zE, zF, zG, zH, zI, zJ, zK, zL, reduceIte, zS]

def cutR (l : List UInt8) : List UInt8 × List UInt8 × Bool :=
  if 0 ≤ firstIdx ⟨l.toArray⟩ 45 then (l.take (firstIdx ⟨l.toArray⟩ 45).toNat, l.drop ((firstIdx ⟨l.toArray⟩ 45).toNat + 1), true) else (l, [], false)

theorem cut_ok (m : AMem) (l : List UInt8) (hl : l.length ≤ 100000) : ACall Tryd.prog 3 83 [.string ⟨l.toArray⟩, .string ⟨#[45]⟩] m fun r m' => r = .ret (.tuple #[.string ⟨(cutR l).1.toArray⟩, .string ⟨(cutR l).2.1.toArray⟩, .bool (cutR l).2.2]) ∧ m' = m := by
  refine ACall_of_W (fn := Tryd.f83) rfl rfl F83_ok (by simp [F83]) ?_
  have s1 : (⟨#[45]⟩ : ByteArray).size = 1 := rfl
  have sz := str_size l
  simp -implicitDefEqProofs (disch := omega) only [amS, zA, reduceCtorEq, zB, zC, zD, zE, zF, zG, zH, zI, zJ, zK, zL, reduceIte, zS, F83]
  refine (index_ok m l hl).mono ?_
  rintro r m' ⟨rfl, rfl⟩
  have hge := firstIdx_ge ⟨l.toArray⟩ 45
  by_cases h : 0 ≤ firstIdx ⟨l.toArray⟩ 45
  · have hlt := firstIdx_lt h
    rw [sz] at hlt
    have hc : cutR l = (l.take (firstIdx ⟨l.toArray⟩ 45).toNat, l.drop ((firstIdx ⟨l.toArray⟩ 45).toNat + 1), true) := if_pos h
    obtain ⟨i, hi⟩ := Int.eq_ofNat_of_zero_le h
    rw [hc]
    rw [hi] at hlt ⊢
    simp only [Int.toNat_natCast] at hlt ⊢
    have hd : decide ((0 : Int) ≤ (i : Int)) = true := by simp
    have e1 : ((i : Int) + ((1 : Nat) : Int)) = ((i + 1 : Nat) : Int) := by omega
    have x1 := str_extract l 0 i
    have x2 := str_extract l (i + 1) l.length
    rw [List.take_length] at x2
    rw [List.drop_zero] at x1
    simp -implicitDefEqProofs (disch := omega) only [amS, zA, reduceCtorEq, zB, zC, zD, zE, zF, zG, zH, zI, zJ, zK, zL, reduceIte, zS, hd, stepOp_slS, cut, bnd, sz, s1, stepOp_lenS, e1, x1, x2]
  · have hc : cutR l = (l, [], false) := if_neg h
    have hd : decide ((0 : Int) ≤ firstIdx ⟨l.toArray⟩ 45) = false := decide_eq_false h
    rw [hc]
    simp -implicitDefEqProofs (disch := omega) only [amS, zA, reduceCtorEq, zB, zC, zD, zE, zF, zG, zH, zI, zJ, zK, zL, reduceIte, zS, hd]
theorem cut30_ok (m : AMem) (l : List UInt8) (hl : l.length ≤ 100000) : ACall Tryd.prog 3 68 [.string ⟨l.toArray⟩, .string ⟨#[45]⟩] m fun r m' => r = .ret (.tuple #[.string ⟨(cutR l).1.toArray⟩, .string ⟨(cutR l).2.1.toArray⟩, .bool (cutR l).2.2]) ∧ m' = m := by
  refine ACall_of_W (fn := Tryd.f68) rfl rfl F68_ok (by simp [F68]) ?_
  have a0 : ∀ a b c : Value, #[a, b, c][0]? = some a := fun _ _ _ => rfl
  have a1 : ∀ a b c : Value, #[a, b, c][1]? = some b := fun _ _ _ => rfl
  have a2 : ∀ a b c : Value, #[a, b, c][2]? = some c := fun _ _ _ => rfl
  simp -implicitDefEqProofs (disch := omega) only [amS, zA, reduceCtorEq, zB, zC, zD, zE, zF, zG, zH, zI, zJ, zK, zL, reduceIte, zS, F68]
  refine (cut_ok m l hl).mono ?_
  rintro r m' ⟨rfl, rfl⟩
  simp -implicitDefEqProofs (disch := omega) only [amS, zA, reduceCtorEq, zB, zC, zD, zE, zF, zG, zH, zI, zJ, zK, zL, reduceIte, zS, a0, a1, a2]

def parseR (l : List UInt8) : List UInt8 × List UInt8 × Int :=
  if (cutR l).2.2 && (bytesR (cutR l).1).2 && rightB (cutR l).2.1 then ((cutR l).1, (cutR l).2.1, 0) else ([], [], 90)

theorem parse_ok (m : AMem) (l : List UInt8) (hl : l.length ≤ 100000) : ACall Tryd.prog 3 39 [.string ⟨l.toArray⟩] m fun r m' => r = .ret (.tuple #[.string ⟨(parseR l).1.toArray⟩, .string ⟨(parseR l).2.1.toArray⟩, .int .i64 (parseR l).2.2]) ∧ m' = m := by
  refine ACall.forget (Q := fun r m' => r = .ret (.tuple #[.string ⟨(parseR l).1.toArray⟩, .string ⟨(parseR l).2.1.toArray⟩, .int .i64 (parseR l).2.2]) ∧ ∀ x, x < m.size → m'.get x = m.get x) ?_ ?_
  · refine ACall_of_W (fn := Tryd.f39) rfl rfl F39_ok (by simp [F39]) ?_
    have a0 : ∀ a b c : Value, #[a, b, c][0]? = some a := fun _ _ _ => rfl
    have a1 : ∀ a b c : Value, #[a, b, c][1]? = some b := fun _ _ _ => rfl
    have a2 : ∀ a b c : Value, #[a, b, c][2]? = some c := fun _ _ _ => rfl
    have b0 : ∀ a b : Value, #[a, b][0]? = some a := fun _ _ => rfl
    have b1 : ∀ a b : Value, #[a, b][1]? = some b := fun _ _ => rfl
    have hlen : ∀ k : List UInt8, (bytesR k).1.length = 20 := fun k => by unfold bytesR; split <;> simp [outTo]
    simp -implicitDefEqProofs (disch := omega) only [amS, zA, reduceCtorEq, zB, zC, zD, zE, zF, zG, zH, zI, zJ, zK, zL, reduceIte, zS, F39]
    refine (cut30_ok m l hl).mono ?_
    rintro r m' ⟨rfl, rfl⟩
    simp -implicitDefEqProofs (disch := omega) only [amS, zA, reduceCtorEq, zB, zC, zD, zE, zF, zG, zH, zI, zJ, zK, zL, reduceIte, zS, a0, a1, a2]
    refine (bytes_ok m' (cutR l).1).mono ?_
    rintro r m1 ⟨rfl, rfl⟩
    have hz := z20 l
    have hw : wr (m1.push (.cells ((outTo l 0).map byteV) 107 true .exact)) m1.size 0 ((bytesR (cutR l).1).1.map byteV) = some ((m1.push (.cells ((outTo l 0).map byteV) 107 true .exact)).set m1.size (.cells ((bytesR (cutR l).1).1.map byteV) 107 true .exact)) :=
      wr_all (AMem.get_push_self _ _) (by simp [hlen, outTo])
    have hl20 : ((bytesR (cutR l).1).1.map byteV).length = 20 := by simp [hlen]
    have hfr : ∀ x, x < m1.size → ((m1.push (.cells ((outTo l 0).map byteV) 107 true .exact)).set m1.size (.cells ((bytesR (cutR l).1).1.map byteV) 107 true .exact)).get x = m1.get x := fun x hx => by
      rw [AMem.get_set_ne _ _ (by omega), AMem.get_push_ne _ _ (by omega)]
    cases hc : (cutR l).2.2 with
    | false =>
      simp -implicitDefEqProofs (contextual := true) (maxSteps := 4000000) (disch := omega) only [amS, zA, reduceCtorEq, zB, zC, zD, zE, zF, zG, zH, zI, zJ, zK, zL, reduceIte, zS, b0, b1, hz, hw, hl20, hc]
      exact ⟨by simp [parseR, hc], fun x hx => by first | trivial | (rw [if_neg (by omega), if_neg (by omega)])⟩
    | true =>
      cases hb : (bytesR (cutR l).1).2 with
      | false =>
        simp -implicitDefEqProofs (contextual := true) (maxSteps := 4000000) (disch := omega) only [amS, zA, reduceCtorEq, zB, zC, zD, zE, zF, zG, zH, zI, zJ, zK, zL, reduceIte, zS, b0, b1, hz, hw, hl20, hc, hb]
        exact ⟨by simp [parseR, hc, hb], fun x hx => by first | trivial | (rw [if_neg (by omega), if_neg (by omega)])⟩
      | true =>
        simp -implicitDefEqProofs (contextual := true) (maxSteps := 4000000) (disch := omega) only [amS, zA, reduceCtorEq, zB, zC, zD, zE, zF, zG, zH, zI, zJ, zK, zL, reduceIte, zS, b0, b1, hz, hw, hl20, hc, hb]
        refine (right_ok _ (cutR l).2.1).mono ?_
        rintro r m2 ⟨rfl, rfl⟩
        cases hr : rightB (cutR l).2.1 with
        | false =>
          simp -implicitDefEqProofs (contextual := true) (maxSteps := 4000000) (disch := omega) only [amS, zA, reduceCtorEq, zB, zC, zD, zE, zF, zG, zH, zI, zJ, zK, zL, reduceIte, zS]
          exact ⟨by simp [parseR, hc, hb, hr], fun x hx => by first | trivial | (rw [if_neg (by omega), if_neg (by omega)])⟩
        | true =>
          simp -implicitDefEqProofs (contextual := true) (maxSteps := 4000000) (disch := omega) only [amS, zA, reduceCtorEq, zB, zC, zD, zE, zF, zG, zH, zI, zJ, zK, zL, reduceIte, zS]
          exact ⟨by simp [parseR, hc, hb, hr], fun x hx => by first | trivial | (rw [if_neg (by omega), if_neg (by omega)])⟩
  · rintro r m' ⟨rfl, h⟩
    refine ⟨⟨_, rfl, Plain.tuple ?_⟩, h, rfl, rfl⟩
    intro v hv
    simp at hv
    rcases hv with rfl | rfl | rfl
    · exact .string _
    · exact .string _
    · exact .int _ _
end Go.Proofs.YtgkmlbkocgjmmaaDoor.N
namespace Go.Proofs.YtgkmlbkocgjmmaaDoor.N
open Go Go.AM
set_option maxRecDepth 100000
set_option linter.unusedVariables false
set_option linter.unusedSimpArgs false

def fitsR (l d : List UInt8) : Bool := decide ((parseR l).2.2 = 0) && decide ((bytesR (parseR l).1).1 = d.take 20)

end Go.Proofs.YtgkmlbkocgjmmaaDoor.N
namespace Go.Proofs.YtgkmlbkocgjmmaaDoor.N
open Go Go.AM
set_option maxRecDepth 100000
set_option linter.unusedVariables false
set_option linter.unusedSimpArgs false

def zeroD : List UInt8 := List.replicate 32 0
def oneD : List UInt8 := 248 :: List.replicate 31 0
theorem z32 : [Value.int .u8 0, .int .u8 0, .int .u8 0, .int .u8 0, .int .u8 0, .int .u8 0, .int .u8 0, .int .u8 0, .int .u8 0, .int .u8 0, .int .u8 0, .int .u8 0, .int .u8 0, .int .u8 0, .int .u8 0, .int .u8 0, .int .u8 0, .int .u8 0, .int .u8 0, .int .u8 0, .int .u8 0, .int .u8 0, .int .u8 0, .int .u8 0, .int .u8 0, .int .u8 0, .int .u8 0, .int .u8 0, .int .u8 0, .int .u8 0, .int .u8 0, .int .u8 0] = zeroD.map byteV := by rfl
def gcc : List UInt8 := [103, 99, 99, 45, 49, 46, 50]
def eee : List UInt8 := List.replicate 32 101 ++ [45, 97]

theorem f1 : lettersOf zeroD = List.replicate 32 48 := by decide +kernel
theorem f2 : lettersOf oneD = 122 :: List.replicate 31 48 := by decide +kernel
theorem f3 : nameR zeroD gcc = (List.replicate 32 48 ++ [45] ++ gcc, 0) := by decide +kernel
theorem f4 : parseR (List.replicate 32 48 ++ [45] ++ gcc) = (List.replicate 32 48, gcc, 0) := by decide +kernel
theorem f5 : parseR eee = ([], [], 90) := by decide +kernel
theorem f6 : rightB [46, 97] = false ∧ rightB [97, 32, 98] = false := by decide +kernel
theorem f7 : fitsR (List.replicate 32 48 ++ [45] ++ gcc) zeroD = true := by decide +kernel
end Go.Proofs.YtgkmlbkocgjmmaaDoor.N
namespace Go.Proofs.YtgkmlbkocgjmmaaDoor.N
open Go Go.AM
set_option maxRecDepth 100000
set_option linter.unusedVariables false
set_option linter.unusedSimpArgs false

def zz : List UInt8 := List.replicate 32 48
def nn : List UInt8 := zz ++ [45] ++ gcc
end Go.Proofs.YtgkmlbkocgjmmaaDoor.N
namespace Go.Proofs.YtgkmlbkocgjmmaaDoor.N
open Go Go.AM
set_option maxRecDepth 100000
set_option linter.unusedVariables false
set_option linter.unusedSimpArgs false

theorem strEq_self (s : ByteArray) : strEq s s = true := by simp [strEq]

end Go.Proofs.YtgkmlbkocgjmmaaDoor.N
namespace Go.Proofs.YtgkmlbkocgjmmaaDoor.N
open Go Go.AM
set_option maxRecDepth 100000
set_option linter.unusedVariables false
set_option linter.unusedSimpArgs false

theorem outP_set {l : List UInt8} {p : Nat} (hp : p < 160) (h : (valL l).testBit (159 - p) = true) :
    splice ((outP l p).map byteV) (p / 8) [.int .u8 ((bitAt l p (p / 8) ||| 2 ^ (7 - p % 8) : Nat) : Int)] = (outP l (p + 1)).map byteV := by
  have hlen : (outP l p).length = 20 := outP_length l p
  have hpj : p / 8 < 20 := by omega
  apply List.ext_getElem
  · rw [splice_length (by simp [hlen]; omega)]; simp [outP]
  · intro i h1 h2
    have hi : i < 20 := by simpa [outP] using h2
    have hon := bitAt_on hp hi h
    rw [List.getElem_map]
    simp only [byteV]
    rw [outP_toNat l (p + 1) hi, hon]
    by_cases hin : i = p / 8
    · subst hin
      have := splice_in (c := (outP l p).map byteV) (o := p / 8) (v := [.int .u8 ((bitAt l p (p / 8) ||| 2 ^ (7 - p % 8) : Nat) : Int)]) (by simp [hlen]; omega) 0 (by simp) (by simpa using h1)
      simp only [Nat.add_zero] at this
      rw [this]
      simp
    · rw [splice_out (by simp [hlen]; omega) i (by simp; omega) (by simp [hlen]; omega) h1, if_neg hin, List.getElem_map]
      simp only [byteV]
      rw [outP_toNat l p hi]

theorem shl_one_u8 {q : Nat} (hq : q ≤ 7) : shl .u8 1 (q : Int) = ((2 ^ q : Nat) : Int) := by
  have : ∀ q : Fin 8, shl .u8 1 ((q.val : Nat) : Int) = ((2 ^ q.val : Nat) : Int) := by decide
  exact this ⟨q, by omega⟩

theorem refBytes_ok (m : AMem) (l : List UInt8) :
    ACall Tryd.prog 3 70 [.string ⟨l.toArray⟩] m fun r m' => r = .ret (.tuple #[.agg ((bytesR l).1.map byteV).toArray, .bool (bytesR l).2]) ∧ m' = m := by
  refine ACall.forget (Q := fun r m' => r = .ret (.tuple #[.agg ((bytesR l).1.map byteV).toArray, .bool (bytesR l).2]) ∧ ∀ x, x < m.size → m'.get x = m.get x) ?_ ?_
  · refine ACall_of_W (fn := Tryd.f70) rfl rfl F70_ok (by simp [F70]) ?_
    have hlenN : ∀ n, ((outTo l n).map byteV).length = 20 := fun n => by simp [outTo]
    have hlenP : ∀ n, ((outP l n).map byteV).length = 20 := fun n => by simp [outP]
    have ret : ∀ (M : AMem) (c k : List UInt8), c.length = 20 → k.length = 20 → M.get m.size = .cells ((outTo l 0).map byteV) 107 true .exact → M.get (m.size + 1) = .cells (c.map byteV) 107 true .exact →
        rd M (m.size + 1) 0 20 = some (c.map byteV) ∧ wr M m.size 0 (k.map byteV) = some (M.set m.size (.cells (k.map byteV) 107 true .exact)) ∧
        rd (M.set m.size (.cells (k.map byteV) 107 true .exact)) m.size 0 20 = some (k.map byteV) := fun M c k hc hk h1 h2 =>
      ⟨rd_all h2 (by simp [hc]), wr_all h1 (by rw [hlenN]; simp [hk]), rd_all (AMem.get_set_self _ _ _) (by simp [hk])⟩
    simp -implicitDefEqProofs (disch := omega) only [amS, zA, reduceCtorEq, zB, zC, zD, zE, zF, zG, zH, zI, zJ, zK, zL, reduceIte, zS, F70, z20 l]
    have g1 : ((m.push (.cells ((outTo l 0).map byteV) 107 true .exact)).push (.cells ((outTo l 0).map byteV) 107 true .exact)).get m.size = .cells ((outTo l 0).map byteV) 107 true .exact := by simp -implicitDefEqProofs (disch := omega) only [amS, zA, reduceCtorEq, zB, zC, zD, zE, zF, zG, zH, zI, zJ, zK, zL, reduceIte, zS]
    have g2 : ((m.push (.cells ((outTo l 0).map byteV) 107 true .exact)).push (.cells ((outTo l 0).map byteV) 107 true .exact)).get (m.size + 1) = .cells ((outTo l 0).map byteV) 107 true .exact := by simp -implicitDefEqProofs (disch := omega) only [amS, zA, reduceCtorEq, zB, zC, zD, zE, zF, zG, zH, zI, zJ, zK, zL, reduceIte, zS]
    have g3 : ∀ x, x < m.size → ((m.push (.cells ((outTo l 0).map byteV) 107 true .exact)).push (.cells ((outTo l 0).map byteV) 107 true .exact)).get x = m.get x := fun x hx => by simp -implicitDefEqProofs (disch := omega) only [amS, zA, reduceCtorEq, zB, zC, zD, zE, zF, zG, zH, zI, zJ, zK, zL, reduceIte, zS]
    generalize (m.push (.cells ((outTo l 0).map byteV) 107 true .exact)).push (.cells ((outTo l 0).map byteV) 107 true .exact) = M at *
    obtain ⟨r1, w1, r2⟩ := ret M _ _ (outTo_length l 0) (outTo_length l 0) g1 g2
    have hfail : ∀ (M : AMem) (k : List UInt8), (∀ x, x < m.size → M.get x = m.get x) → (∀ x, x < m.size → (M.set m.size (.cells (k.map byteV) 107 true .exact)).get x = m.get x) := fun M k h x hx => by
      rw [AMem.get_set_ne _ _ (by omega)]; exact h x hx
    refine BoolW_of (fun hne => ?_) (fun hne => ?_)
    · have hne' : ¬ l.length = 32 := by rw [str_size] at hne; simp at hne; omega
      simp -implicitDefEqProofs (disch := omega) only [amS, zA, reduceCtorEq, zB, zC, zD, zE, zF, zG, zH, zI, zJ, zK, zL, reduceIte, zS, r1, w1, r2, hlenN]
      exact ⟨by simp [bytesR, hne'], hfail M _ g3⟩
    · have hl : l.length = 32 := by rw [str_size] at hne; simp at hne; omega
      refine W_loop (fun N s => ∃ i : Nat, i ≤ 32 ∧ N = 32 - i ∧ (∀ j (hj : j < 32), j < i → 0 ≤ valZ l[j]) ∧ s.ds = [] ∧ s.t 0 = .string ⟨l.toArray⟩ ∧ s.t 2 = .pointer (some ⟨m.size, 0, none⟩) ∧
        s.t 4 = .pointer (some ⟨m.size + 1, 0, none⟩) ∧ s.t 5 = .int .i64 i ∧
        s.m.get m.size = .cells ((outTo l 0).map byteV) 107 true .exact ∧ s.m.get (m.size + 1) = .cells ((outP l (5 * i)).map byteV) 107 true .exact ∧ ∀ x, x < m.size → s.m.get x = m.get x) 32
        ⟨0, by omega, by omega, fun j hj hji => by omega, rfl, by simp -implicitDefEqProofs (disch := omega) only [amS, zA, reduceCtorEq, zB, zC, zD, zE, zF, zG, zH, zI, zJ, zK, zL, reduceIte, zS], by simp -implicitDefEqProofs (disch := omega) only [amS, zA, reduceCtorEq, zB, zC, zD, zE, zF, zG, zH, zI, zJ, zK, zL, reduceIte, zS], by simp -implicitDefEqProofs (disch := omega) only [amS, zA, reduceCtorEq, zB, zC, zD, zE, zF, zG, zH, zI, zJ, zK, zL, reduceIte, zS], by simp -implicitDefEqProofs (disch := omega) only [amS, zA, reduceCtorEq, zB, zC, zD, zE, zF, zG, zH, zI, zJ, zK, zL, reduceIte, zS]; rfl, g1, by rw [outP_zero hl]; exact g2, g3⟩ ?_
      clear g1 g2 g3 r1 r2 w1
      rintro N t M1 ds ⟨i, hi, rfl, hval, rfl, t0, t2, t4, t5, g1, g2, g3⟩
      simp only at t0 t2 t4 t5 g1 g2 g3
      simp -implicitDefEqProofs (disch := omega) only [amS, zA, reduceCtorEq, zB, zC, zD, zE, zF, zG, zH, zI, zJ, zK, zL, reduceIte, zS, F70_l0, t0, t2, t4, t5]
      refine BoolW_dec (fun hlt => ?_) (fun hlt => ?_)
      · have hi32 : i < 32 := by omega
        have hs := str_get l (i := i) (by omega)
        simp -implicitDefEqProofs (disch := omega) only [amS, zA, reduceCtorEq, zB, zC, zD, zE, zF, zG, zH, zI, zJ, zK, zL, reduceIte, zS, hs, t0, t2, t4, t5]
        refine (value_ok M1 (l[i]'(by omega))).mono ?_
        rintro r m' ⟨rfl, rfl⟩
        have hv1 := valZ_lt (l[i]'(by omega))
        simp -implicitDefEqProofs (disch := omega) only [amS, zA, reduceCtorEq, zB, zC, zD, zE, zF, zG, zH, zI, zJ, zK, zL, reduceIte, zS, t0, t2, t4, t5, z20 l]
        refine BoolW_dec (fun hv => ?_) (fun hv => ?_)
        · obtain ⟨r1, w1, r2⟩ := ret m' _ _ (outP_length l (5 * i)) (outTo_length l 0) g1 g2
          have hb : bytesR l = (outTo l 0, false) := by
            unfold bytesR
            rw [if_neg]
            rintro ⟨_, hall⟩
            have := hall (l[i]'(by omega)) (List.getElem_mem _)
            omega
          simp -implicitDefEqProofs (disch := omega) only [amS, zA, reduceCtorEq, zB, zC, zD, zE, zF, zG, zH, zI, zJ, zK, zL, reduceIte, zS, stepOp_bld, fill, w1, r2, hlenN, t2, hb, List.map_nil]
          exact hfail m' _ g3
        · obtain ⟨v, hvv⟩ : ∃ v : Nat, valZ (l[i]'(by omega)) = v := ⟨(valZ (l[i]'(by omega))).toNat, by omega⟩
          have hval' : ∀ j (hj : j < 32), j < i + 1 → 0 ≤ valZ l[j] := fun j hj hji => by
            by_cases hje : j = i
            · subst hje; omega
            · exact hval j hj (by omega)
          rw [hvv]
          refine W_loop (fun N s => ∃ k : Nat, k ≤ 5 ∧ N = 5 - k ∧ s.ds = [] ∧ s.t 0 = .string ⟨l.toArray⟩ ∧ s.t 2 = .pointer (some ⟨m.size, 0, none⟩) ∧
            s.t 4 = .pointer (some ⟨m.size + 1, 0, none⟩) ∧ s.t 5 = .int .i64 i ∧ s.t 6 = .int .i64 v ∧ s.t 7 = .int .i64 k ∧
            s.m.get m.size = .cells ((outTo l 0).map byteV) 107 true .exact ∧ s.m.get (m.size + 1) = .cells ((outP l (5 * i + k)).map byteV) 107 true .exact ∧ ∀ x, x < m.size → s.m.get x = m.get x) 5
            ⟨0, by omega, by omega, rfl, by simp -implicitDefEqProofs (disch := omega) only [amS, zA, reduceCtorEq, zB, zC, zD, zE, zF, zG, zH, zI, zJ, zK, zL, reduceIte, zS, t0], by simp -implicitDefEqProofs (disch := omega) only [amS, zA, reduceCtorEq, zB, zC, zD, zE, zF, zG, zH, zI, zJ, zK, zL, reduceIte, zS, t2], by simp -implicitDefEqProofs (disch := omega) only [amS, zA, reduceCtorEq, zB, zC, zD, zE, zF, zG, zH, zI, zJ, zK, zL, reduceIte, zS, t4], by simp -implicitDefEqProofs (disch := omega) only [amS, zA, reduceCtorEq, zB, zC, zD, zE, zF, zG, zH, zI, zJ, zK, zL, reduceIte, zS, t5], by simp -implicitDefEqProofs (disch := omega) only [amS, zA, reduceCtorEq, zB, zC, zD, zE, zF, zG, zH, zI, zJ, zK, zL, reduceIte, zS], by simp -implicitDefEqProofs (disch := omega) only [amS, zA, reduceCtorEq, zB, zC, zD, zE, zF, zG, zH, zI, zJ, zK, zL, reduceIte, zS]; rfl, g1, g2, g3⟩ ?_
          clear g1 g2 g3 t0 t2 t4 t5
          rintro N t M1 ds ⟨k, hk, rfl, rfl, t0, t2, t4, t5, t6, t7, g1, g2, g3⟩
          simp only at t0 t2 t4 t5 t6 t7 g1 g2 g3
          simp -implicitDefEqProofs (disch := omega) only [amS, zA, reduceCtorEq, zB, zC, zD, zE, zF, zG, zH, zI, zJ, zK, zL, reduceIte, zS, F70_l1, t0, t2, t4, t5, t6, t7]
          refine BoolW_dec (fun h5 => ?_) (fun h5 => ?_)
          · have hk5 : k < 5 := by omega
            have hbit := valZ_bit hl hi32 hk5 hvv
            have hv32 : v < 32 := by omega
            have hp : 5 * i + k < 160 := by omega
            have e0 : (5 * (i : Int) + (k : Int)) = ((5 * i + k : Nat) : Int) := by omega
            have e1 : (4 : Int) - (k : Int) = ((4 - k : Nat) : Int) := by omega
            have e2 : shr .i64 (v : Int) ((4 - k : Nat) : Int) = ((v >>> (4 - k) : Nat) : Int) := shr_nat .i64 _ _ (by simp [IntKind.bits]; omega)
            have hle := Nat.shiftRight_le v (4 - k)
            have e3 : ibits .and .i64 ((v >>> (4 - k) : Nat) : Int) 1 = ((v >>> (4 - k) &&& 1 : Nat) : Int) := by
              generalize v >>> (4 - k) = y at *
              exact ibits_and_nat (k := .i64) (b := 1) (by rw [max_i64]; omega) (by decide)
            rw [hbit] at e3
            cases hT : (valL l).testBit (159 - (5 * i + k)) with
            | false =>
              rw [hT, if_neg (by simp)] at e3
              have e3' : ibits .and .i64 ((v >>> (4 - k) : Nat) : Int) 1 = (0 : Int) := e3
              simp -implicitDefEqProofs (disch := omega) only [amS, zA, reduceCtorEq, zB, zC, zD, zE, zF, zG, zH, zI, zJ, zK, zL, reduceIte, zS, e0, e1, e2, e3', t0, t2, t4, t5, t6, t7]
              refine ⟨5 - (k + 1), by omega, k + 1, by omega, rfl, rfl, by simp -implicitDefEqProofs (disch := omega) only [amS, zA, reduceCtorEq, zB, zC, zD, zE, zF, zG, zH, zI, zJ, zK, zL, reduceIte, zS, t0], by simp -implicitDefEqProofs (disch := omega) only [amS, zA, reduceCtorEq, zB, zC, zD, zE, zF, zG, zH, zI, zJ, zK, zL, reduceIte, zS, t2], by simp -implicitDefEqProofs (disch := omega) only [amS, zA, reduceCtorEq, zB, zC, zD, zE, zF, zG, zH, zI, zJ, zK, zL, reduceIte, zS, t4], by simp -implicitDefEqProofs (disch := omega) only [amS, zA, reduceCtorEq, zB, zC, zD, zE, zF, zG, zH, zI, zJ, zK, zL, reduceIte, zS, t5], by simp -implicitDefEqProofs (disch := omega) only [amS, zA, reduceCtorEq, zB, zC, zD, zE, zF, zG, zH, zI, zJ, zK, zL, reduceIte, zS, t6], by simp -implicitDefEqProofs (disch := omega) only [amS, zA, reduceCtorEq, zB, zC, zD, zE, zF, zG, zH, zI, zJ, zK, zL, reduceIte, zS]; rfl, g1, ?_, g3⟩
              rw [← Nat.add_assoc, outP_off hp hT]; exact g2
            | true =>
              rw [hT, if_pos rfl] at e3
              have e3' : ibits .and .i64 ((v >>> (4 - k) : Nat) : Int) 1 = (1 : Int) := e3
              have hset := outP_set hp hT
              generalize hpp : 5 * i + k = p at *
              have hp8 : p / 8 < 20 := by omega
              have e4 : (p : Int).tdiv 8 = ((p / 8 : Nat) : Int) := tdiv_nat p 8
              have e5 : (p : Int).tmod 8 = ((p % 8 : Nat) : Int) := tmod_nat p 8
              have e6 : (7 : Int) - ((p % 8 : Nat) : Int) = ((7 - p % 8 : Nat) : Int) := by omega
              have e7 := shl_one_u8 (q := 7 - p % 8) (by omega)
              have hba := bitAt_lt l p (p / 8)
              have hpw : 2 ^ (7 - p % 8) ≤ 2 ^ 7 := Nat.pow_le_pow_right (by omega) (by omega)
              have e8 : ibits .or .u8 (bitAt l p (p / 8) : Int) ((2 ^ (7 - p % 8) : Nat) : Int) = ((bitAt l p (p / 8) ||| 2 ^ (7 - p % 8) : Nat) : Int) :=
                ibits_or_nat (by rw [max_u8]; omega) (by rw [max_u8]; omega)
              have hg : rd M1 (m.size + 1) (p / 8) 1 = some [.int .u8 (bitAt l p (p / 8) : Nat)] := by
                rw [rd_one' g2]
                have h1 : ((outP l p).map byteV)[p / 8]? = some (byteV ((outP l p)[p / 8]'(by rw [outP_length]; omega))) := by
                  rw [List.getElem?_map, List.getElem?_eq_getElem (by rw [outP_length]; omega)]; rfl
                rw [h1]
                simp only [byteV, Option.map_some]
                rw [outP_toNat l p hp8]
              have w2 : wr M1 (m.size + 1) (p / 8) [.int .u8 ((bitAt l p (p / 8) ||| 2 ^ (7 - p % 8) : Nat) : Int)] = some (M1.set (m.size + 1) (.cells ((outP l (p + 1)).map byteV) 107 true .exact)) := by
                rw [← hset]; exact wr_at g2 (by rw [hlenP]; simp; omega)
              simp -implicitDefEqProofs (disch := omega) only [amS, zA, reduceCtorEq, zB, zC, zD, zE, zF, zG, zH, zI, zJ, zK, zL, reduceIte, zS, e0, e1, e2, e3', e4, e5, e6, e7, e8, hg, w2, t0, t2, t4, t5, t6, t7, List.length_cons, List.length_nil]
              refine ⟨5 - (k + 1), by omega, k + 1, by omega, rfl, rfl, by simp -implicitDefEqProofs (disch := omega) only [amS, zA, reduceCtorEq, zB, zC, zD, zE, zF, zG, zH, zI, zJ, zK, zL, reduceIte, zS, t0], by simp -implicitDefEqProofs (disch := omega) only [amS, zA, reduceCtorEq, zB, zC, zD, zE, zF, zG, zH, zI, zJ, zK, zL, reduceIte, zS, t2], by simp -implicitDefEqProofs (disch := omega) only [amS, zA, reduceCtorEq, zB, zC, zD, zE, zF, zG, zH, zI, zJ, zK, zL, reduceIte, zS, t4], by simp -implicitDefEqProofs (disch := omega) only [amS, zA, reduceCtorEq, zB, zC, zD, zE, zF, zG, zH, zI, zJ, zK, zL, reduceIte, zS, t5], by simp -implicitDefEqProofs (disch := omega) only [amS, zA, reduceCtorEq, zB, zC, zD, zE, zF, zG, zH, zI, zJ, zK, zL, reduceIte, zS, t6], by simp -implicitDefEqProofs (disch := omega) only [amS, zA, reduceCtorEq, zB, zC, zD, zE, zF, zG, zH, zI, zJ, zK, zL, reduceIte, zS]; rfl, ?_, ?_, fun x hx => ?_⟩
              · rw [AMem.get_set_ne _ _ (by omega)]; exact g1
              · rw [show 5 * i + (k + 1) = p + 1 by omega]; exact AMem.get_set_self _ _ _
              · rw [AMem.get_set_ne _ _ (by omega)]; exact g3 x hx
          · have hk5 : k = 5 := by omega
            subst hk5
            refine ⟨32 - (i + 1), by omega, i + 1, by omega, rfl, hval', rfl, by simp -implicitDefEqProofs (disch := omega) only [amS, zA, reduceCtorEq, zB, zC, zD, zE, zF, zG, zH, zI, zJ, zK, zL, reduceIte, zS, t0], by simp -implicitDefEqProofs (disch := omega) only [amS, zA, reduceCtorEq, zB, zC, zD, zE, zF, zG, zH, zI, zJ, zK, zL, reduceIte, zS, t2], by simp -implicitDefEqProofs (disch := omega) only [amS, zA, reduceCtorEq, zB, zC, zD, zE, zF, zG, zH, zI, zJ, zK, zL, reduceIte, zS, t4], by simp -implicitDefEqProofs (disch := omega) only [amS, zA, reduceCtorEq, zB, zC, zD, zE, zF, zG, zH, zI, zJ, zK, zL, reduceIte, zS]; rfl, g1, by rw [show 5 * (i + 1) = 5 * i + 5 by omega]; exact g2, g3⟩
      · have hi : i = 32 := by omega
        subst hi
        obtain ⟨r1, w1, r2⟩ := ret M1 _ _ (outP_length l (5 * 32)) (outTo_length l 20) g1 g2
        have hb : bytesR l = (outTo l 20, true) := by
          unfold bytesR
          rw [if_pos]
          refine ⟨hl, fun c hc => ?_⟩
          obtain ⟨j, hj, rfl⟩ := List.getElem_of_mem hc
          exact hval j (by omega) (by omega)
        rw [show 5 * 32 = 160 from rfl, outP_all] at r1
        simp -implicitDefEqProofs (disch := omega) only [amS, zA, reduceCtorEq, zB, zC, zD, zE, zF, zG, zH, zI, zJ, zK, zL, reduceIte, zS, r1, w1, r2, hlenN, hb, t2, t4]
        intro x hx
        rw [if_neg (by omega)]; exact g3 x hx
  · rintro r m' ⟨rfl, h⟩
    refine ⟨⟨_, rfl, Plain.tuple ?_⟩, h, rfl, rfl⟩
    intro v hv
    simp at hv
    rcases hv with rfl | rfl
    · exact plain_bytes _
    · exact .bool _
end Go.Proofs.YtgkmlbkocgjmmaaDoor.N
namespace Go.Proofs.YtgkmlbkocgjmmaaDoor.N
open Go Go.AM
set_option maxRecDepth 100000
set_option linter.unusedVariables false
set_option linter.unusedSimpArgs false

end Go.Proofs.YtgkmlbkocgjmmaaDoor.N
namespace Go.Proofs.YtgkmlbkocgjmmaaDoor.N
open Go Go.AM
set_option maxRecDepth 100000
set_option linter.unusedVariables false
set_option linter.unusedSimpArgs false

theorem dash_none : valZ 45 = -1 := by decide +kernel

/-! ### Names -/
def parse2R (l : List UInt8) : List UInt8 × List UInt8 × Int :=
  if l.length < 34 ∨ l[32]? ≠ some 45 ∨ rightB (l.drop 33) = false ∨ (bytesR (l.take 32)).2 = false then ([], [], 90) else (l.take 32, l.drop 33, 0)

theorem bytesR_ok {l : List UInt8} (h : (bytesR l).2 = true) : l.length = 32 ∧ ∀ c ∈ l, 0 ≤ valZ c := by
  unfold bytesR at h
  split at h
  · assumption
  · cases h

theorem firstIdx_at {l : List UInt8} {n : Nat} (hn : n < l.length) (h : l[n]? = some 45) (k : ∀ c ∈ l.take n, c ≠ 45) : firstIdx ⟨l.toArray⟩ 45 = n := by
  rw [firstIdx_iff]
  refine ⟨h, fun j hj hc => ?_⟩
  refine k 45 ?_ rfl
  rw [List.mem_iff_getElem?]
  exact ⟨j, by rw [List.getElem?_take_of_lt hj]; exact hc⟩
theorem firstIdx_spec {l : List UInt8} {n : Nat} (h : firstIdx ⟨l.toArray⟩ 45 = n) : n < l.length ∧ l[n]? = some 45 := by
  have := ((firstIdx_iff l 45 n).1 h).1
  exact ⟨(List.getElem?_eq_some_iff.1 this).1, this⟩
theorem rightB_nonempty : rightB [] = false := by decide +kernel

theorem parse_eq (l : List UInt8) : parseR l = parse2R l := by
  unfold parseR parse2R
  by_cases h : l.length < 34 ∨ l[32]? ≠ some 45 ∨ rightB (l.drop 33) = false ∨ (bytesR (l.take 32)).2 = false
  · rw [if_pos h, if_neg]
    intro hc
    simp only [Bool.and_eq_true] at hc
    obtain ⟨⟨h1, h2⟩, h3⟩ := hc
    have hcut : 0 ≤ firstIdx ⟨l.toArray⟩ 45 := by
      apply Classical.byContradiction; intro hn
      unfold cutR at h1; rw [if_neg hn] at h1; cases h1
    obtain ⟨n, hn⟩ := Int.eq_ofNat_of_zero_le hcut
    have hc : cutR l = (l.take n, l.drop (n + 1), true) := by unfold cutR; rw [if_pos hcut, hn]; simp
    rw [hc] at h2 h3
    simp only at h2 h3
    obtain ⟨hlt, hg⟩ := firstIdx_spec hn
    have hlen := (bytesR_ok h2).1
    have hn32 : n = 32 := by simp at hlen; omega
    subst hn32
    rcases h with h | h | h | h
    · have : l.drop (32 + 1) = [] := List.drop_eq_nil_of_le (by omega)
      rw [this, rightB_nonempty] at h3; cases h3
    · exact h hg
    · rw [h3] at h; cases h
    · rw [h2] at h; cases h
  · rw [if_neg h]
    simp only [not_or, Nat.not_lt, ne_eq, Classical.not_not, Bool.not_eq_false] at h
    obtain ⟨h1, h2, h3, h4⟩ := h
    have hf : firstIdx ⟨l.toArray⟩ 45 = (32 : Nat) := firstIdx_at (by omega) h2 fun c hc he => by
      have := (bytesR_ok h4).2 c hc
      rw [he, dash_none] at this; omega
    have hc : cutR l = (l.take 32, l.drop 33, true) := by unfold cutR; rw [hf]; rfl
    rw [hc]
    simp [h3, h4]

end Go.Proofs.YtgkmlbkocgjmmaaDoor.N
namespace Go.Proofs.YtgkmlbkocgjmmaaDoor.N
open Go Go.AM
set_option maxRecDepth 100000
set_option linter.unusedVariables false
set_option linter.unusedSimpArgs false

section
variable {m : AMem} {l e : List UInt8}
theorem letters_ok' (m : AMem) (e : List UInt8) (h : e.length = 32) : PureC Tryd.prog 3 30 [.agg (e.map byteV).toArray] m (.string ⟨(lettersOf e).toArray⟩) := letters_ok m e h
theorem kRight : type_of% (DetC.known (right_ok m l)) := DetC.known (right_ok m l)
theorem kRefRight (h : l.length ≤ 100000) : type_of% (DetC.known (refRight_ok m l h)) := DetC.known (refRight_ok m l h)
theorem kLetters (h : e.length = 32) : type_of% (DetC.known (letters_ok' m e h)) := DetC.known (letters_ok' m e h)
theorem kRefBytes : type_of% (DetC.known (refBytes_ok m l)) := DetC.known (refBytes_ok m l)
theorem kName (h : e.length = 32) (k : l.length ≤ 100000) : type_of% (DetC.known (name_ok m e l h k)) := DetC.known (name_ok m e l h k)
theorem kRefName (h : e.length = 32) (k : l.length ≤ 100000) : type_of% (DetC.known (refName_ok m e l h k)) := DetC.known (refName_ok m e l h k)
theorem kParse (k : l.length ≤ 100000) : type_of% (DetC.known (parse_ok m l k)) := DetC.known (parse_ok m l k)
end

theorem bytesR_len (l : List UInt8) : (bytesR l).1.length = 20 := by unfold bytesR; split <;> simp [outTo]

theorem refParse_ok (m : AMem) (l : List UInt8) (hl : l.length ≤ 100000) : PureC Tryd.prog 3 41 [.string ⟨l.toArray⟩] m (.tuple #[.string ⟨(parse2R l).1.toArray⟩, .string ⟨(parse2R l).2.1.toArray⟩, .int .i64 (parse2R l).2.2]) := by
  refine pure_of_W (fn := Tryd.f41) rfl rfl F41_ok (by simp [F41]) (.tuple3 (.string _) (.string _) (.int _ _)) ?_
  have b20 := bytesR_len (l.take 32)
  have hdl : (l.drop 33).length ≤ 100000 := by simp; omega
  by_cases h1 : (l.length : Int) < 34
  · have p : parse2R l = ([], [], 90) := if_pos (.inl (by omega))
    simp -implicitDefEqProofs (disch := first | omega | with_reducible assumption | (simp only [zU, zC]; omega)) only [zT, zA, reduceCtorEq, zB, zC, zD, zE, zF, zG, zH, zI, zJ, zK, zL, reduceIte, F41, h1, p]
  · have hg : l[32]? = some (l[32]'(by omega)) := List.getElem?_eq_getElem (by omega)
    by_cases h2 : ((l[32]'(by omega)).toNat : Int) = 45
    · cases h3 : rightB (l.drop 33) with
      | false =>
        have p : parse2R l = ([], [], 90) := if_pos (.inr (.inr (.inl h3)))
        simp -implicitDefEqProofs (disch := first | omega | with_reducible assumption | (simp only [zU, zC]; omega)) only [zT, zA, reduceCtorEq, zB, zC, zD, zE, zF, zG, zH, zI, zJ, zK, zL, reduceIte, F41, h1, p, h2, kRefRight, h3]
      | true =>
        cases h4 : (bytesR (l.take 32)).2 with
        | false =>
          have p : parse2R l = ([], [], 90) := if_pos (.inr (.inr (.inr h4)))
          simp -implicitDefEqProofs (disch := first | omega | with_reducible assumption | (simp only [zU, zC]; omega)) only [zT, zA, reduceCtorEq, zB, zC, zD, zE, zF, zG, zH, zI, zJ, zK, zL, reduceIte, F41, h1, p, h2, kRefRight, h3, kRefBytes, h4]
        | true =>
          have p : parse2R l = (l.take 32, l.drop 33, 0) := if_neg (by
            rintro (h | h | h | h)
            · omega
            · apply h; rw [hg]; congr 1; exact UInt8.toNat_inj.1 (by exact_mod_cast h2)
            · rw [h3] at h; cases h
            · rw [h4] at h; cases h)
          simp -implicitDefEqProofs (disch := first | omega | with_reducible assumption | (simp only [zU, zC]; omega)) only [zT, zA, reduceCtorEq, zB, zC, zD, zE, zF, zG, zH, zI, zJ, zK, zL, reduceIte, F41, h1, p, h2, kRefRight, h3, kRefBytes, h4]
    · have p : parse2R l = ([], [], 90) := if_pos (.inr (.inl (by rw [hg]; intro h; apply h2; simp at h; rw [h]; rfl)))
      simp -implicitDefEqProofs (disch := first | omega | with_reducible assumption | (simp only [zU, zC]; omega)) only [zT, zA, reduceCtorEq, zB, zC, zD, zE, zF, zG, zH, zI, zJ, zK, zL, reduceIte, F41, h1, p, h2]
theorem kRefParse {m : AMem} {l : List UInt8} (k : l.length ≤ 100000) : type_of% (DetC.known (refParse_ok m l k)) := DetC.known (refParse_ok m l k)

end Go.Proofs.YtgkmlbkocgjmmaaDoor.N
namespace Go.AM
abbrev ltB (a b : List UInt8) : Bool := Op.bytesLess a b
theorem strLt_mk (a b : List UInt8) : strLt ⟨a.toArray⟩ ⟨b.toArray⟩ = ltB a b := by
  have h : ∀ l : List UInt8, (⟨l.toArray⟩ : ByteArray).toList = l := fun l => by simp
  simp only [strLt, h]
theorem binV_sleq (x y : ByteArray) : binV .leq (.string x) (.string y) = some (.bool (strLt x y || strEq x y)) := by simp [binV, sbin]
end Go.AM
namespace Go.Proofs.YtgkmlbkocgjmmaaDoor
open Go Go.AM
set_option linter.unusedVariables false
set_option linter.unusedSimpArgs false
set_option maxHeartbeats 2000000
set_option maxRecDepth 100000

def StrR (m : AMem) (a : Option Addr) (ls : List (List UInt8)) : Prop := ∀ i (h : i < ls.length), ∃ b o, a = some ⟨b, o, none⟩ ∧ b < m.size ∧ rdO (m.get b) (o + i) 1 = some [.string ⟨ls[i].toArray⟩]
theorem StrR.old {m m' : AMem} {a : Option Addr} {ls : List (List UInt8)} (h : StrR m a ls) (ho : Old m m') : StrR m' a ls := fun i hi => by
  obtain ⟨b, o, h1, h2, h3⟩ := h i hi
  exact ⟨b, o, h1, Nat.lt_of_lt_of_le h2 ho.1, by rw [ho.2 b h2]; exact h3⟩
structure DrvR where
  name : List UInt8
  inputs : List (List UInt8)
  recipe : List UInt8
def dRow (d : DrvR) (a : Option Addr) (c : Nat) : List Value := [.string ⟨d.name.toArray⟩, .slice a d.inputs.length c, .string ⟨d.recipe.toArray⟩]
theorem cellsOf_dRow (s t : ByteArray) (a : Option Addr) (l c : Nat) : cellsOf (.agg [.string s, .slice a l c, .string t].toArray) = some [.string s, .slice a l c, .string t] := rfl
structure DrvR.ok (d : DrvR) : Prop where
  name : d.name.length ≤ 100000
  inputs : ∀ s ∈ d.inputs, s.length ≤ 100000
  few : d.inputs.length ≤ 100000
  recipe : d.recipe.length ≤ 1000000000
def okIn (l : List (List UInt8)) (i : Nat) : Bool := decide ((N.parseR (l.getD i [])).2.2 = 0) && (decide (i = 0) || !(ltB (l.getD i []) (l.getD (i - 1) []) || strEq ⟨(l.getD i []).toArray⟩ ⟨(l.getD (i - 1) []).toArray⟩))
def okIns (l : List (List UInt8)) (n : Nat) : Bool := (List.range n).all (okIn l)
theorem okIns_succ (l : List (List UInt8)) (n : Nat) : okIns l (n + 1) = (okIns l n && okIn l n) := by simp [okIns, List.range_succ, List.all_append]
theorem okIns_bad {l : List (List UInt8)} {i n : Nat} (h : i < n) (hb : okIn l i = false) : okIns l n = false := by
  unfold okIns; rw [List.all_eq_false]; exact ⟨i, List.mem_range.2 h, by simp [hb]⟩
def rightR (d : DrvR) : Bool := N.rightB d.name && !decide (60 < d.name.length) && !decide (64 < d.inputs.length) && !decide (262144 < d.recipe.length) && okIns d.inputs d.inputs.length
theorem right_ok (m : AMem) (d : DrvR) (a : Option Addr) (c : Nat) (hd : d.ok) (ha : StrR m a d.inputs) : PureC Tryd.prog 3 16 [.agg (dRow d a c).toArray] m (.bool (rightR d)) := by
  refine pure_of_W (fn := Tryd.f16) rfl rfl F16_ok (by simp [F16]) (.bool _) ?_
  have hn := hd.name; have hf := hd.few; have hr := hd.recipe
  have kR : N.rightB d.name = N.rightB d.name := rfl
  have kRight := @N.kRight (mx m [.cells (dRow d a c) 24 true .exact]) d.name
  simp only [dRow] at kRight
  by_cases h1 : N.rightB d.name = true
  case neg =>
    have h1' : N.rightB d.name = false := by simpa using h1
    have e : rightR d = false := by simp [rightR, h1']
    repeat first | simp -implicitDefEqProofs (disch := first | omega | with_reducible assumption | (simp only [zU, zC]; omega)) only [zT, zA, reduceCtorEq, zB, zC, zD, zE, zF, zG, zH, zI, zJ, zK, zL, reduceIte, F16, dRow, cellsOf_dRow, kRight, h1'] | refine OrW.go ?_
    rw [e]
  by_cases h2 : (64 : Int) < (d.name.length : Int) + 4
  · have e : rightR d = false := by simp [rightR]; intros; omega
    repeat first | simp -implicitDefEqProofs (disch := first | omega | with_reducible assumption | (simp only [zU, zC]; omega)) only [zT, zA, reduceCtorEq, zB, zC, zD, zE, zF, zG, zH, zI, zJ, zK, zL, reduceIte, F16, dRow, cellsOf_dRow, kRight, h1, h2] | refine OrW.go ?_
    rw [e]
  by_cases h3 : (64 : Int) < (d.inputs.length : Int)
  · have e : rightR d = false := by simp [rightR]; intros; omega
    repeat first | simp -implicitDefEqProofs (disch := first | omega | with_reducible assumption | (simp only [zU, zC]; omega)) only [zT, zA, reduceCtorEq, zB, zC, zD, zE, zF, zG, zH, zI, zJ, zK, zL, reduceIte, F16, dRow, cellsOf_dRow, kRight, h1, h2, h3] | refine OrW.go ?_
    rw [e]
  by_cases h4 : (262144 : Int) < (d.recipe.length : Int)
  · have e : rightR d = false := by simp [rightR]; intros; omega
    repeat first | simp -implicitDefEqProofs (disch := first | omega | with_reducible assumption | (simp only [zU, zC]; omega)) only [zT, zA, reduceCtorEq, zB, zC, zD, zE, zF, zG, zH, zI, zJ, zK, zL, reduceIte, F16, dRow, cellsOf_dRow, kRight, h1, h2, h3, h4] | refine OrW.go ?_
    rw [e]
  have e : rightR d = okIns d.inputs d.inputs.length := by
    have g1 : ¬ 60 < d.name.length := by omega
    have g2 : ¬ 64 < d.inputs.length := by omega
    have g3 : ¬ 262144 < d.recipe.length := by omega
    simp [rightR, h1, g1, g2, g3]
  repeat first | simp -implicitDefEqProofs (disch := first | omega | with_reducible assumption | (simp only [zU, zC]; omega)) only [zT, zA, reduceCtorEq, zB, zC, zD, zE, zF, zG, zH, zI, zJ, zK, zL, reduceIte, F16, dRow, cellsOf_dRow, kRight, h1, h2, h3, h4] | refine OrW.go ?_
  rw [e]
  refine W_loop (fun N qs => ∃ (i : Nat), N = d.inputs.length - i ∧ qs.ds = [] ∧ qs.m = mx m [.cells [.string ⟨d.name.toArray⟩, .slice a d.inputs.length c, .string ⟨d.recipe.toArray⟩] 24 true .exact] ∧ qs.t 1 = .pointer (some ⟨m.size, 0, none⟩) ∧ qs.t 32 = .slice a d.inputs.length c ∧ qs.t 33 = .int .i64 d.inputs.length ∧ qs.t 34 = .int .i64 i ∧ i ≤ d.inputs.length ∧ okIns d.inputs i = true) (d.inputs.length - (0)) ⟨0, rfl, rfl, ?qm, ?q1, ?q32, ?q33, ?q34, ?_⟩ ?_
  case qm | q1 | q32 | q33 | q34 => first | rfl | (simp -implicitDefEqProofs (disch := first | omega | with_reducible assumption | (simp only [zU, zC]; omega)) only [zT, zA, reduceCtorEq, zB, zC, zD, zE, zF, zG, zH, zI, zJ, zK, zL, reduceIte]; first | done | rfl | (congr 1; omega))
  · exact ⟨by omega, rfl⟩
  · rintro N t m1 ds ⟨i, rfl, hds, hm, t1, t32, t33, t34, hp⟩
    simp only at hds hm t1 t32 t33 t34
    subst hds; replace hm := hm.symm; subst hm
    obtain ⟨hi, hp⟩ := hp
    by_cases g : (i : Int) < (d.inputs.length : Int)
    · have hi' : i < d.inputs.length := by omega
      obtain ⟨b, o, rfl, hb, hr1⟩ := ha i hi'
      have hl := hd.inputs _ (List.getElem_mem hi')
      have kP := @N.kParse (mx m [.cells [.string ⟨d.name.toArray⟩, .slice (some ⟨b, o, none⟩) d.inputs.length c, .string ⟨d.recipe.toArray⟩] 24 true .exact]) d.inputs[i] hl
      have hsucc := okIns_succ d.inputs i
      rw [hp, Bool.true_and] at hsucc
      have hok : okIn d.inputs i = (decide ((N.parseR d.inputs[i]).2.2 = 0) && (decide (i = 0) || !(ltB d.inputs[i] (d.inputs.getD (i - 1) []) || strEq ⟨d.inputs[i].toArray⟩ ⟨(d.inputs.getD (i - 1) []).toArray⟩))) := by
        unfold okIn; rw [show d.inputs.getD i [] = d.inputs[i] from by simp [List.getD, hi']]
      by_cases q1 : (N.parseR d.inputs[i]).2.2 = 0
      · cases i with
        | zero =>
          have hok0 : okIn d.inputs 0 = true := by rw [hok]; simp [q1]
          rw [Nat.add_zero] at hr1
          have g0 : (0 : Int) < (d.inputs.length : Int) := by omega
          repeat first | simp -implicitDefEqProofs (disch := first | omega | with_reducible assumption | (simp only [zU, zC]; omega)) only [zT, zA, reduceCtorEq, zB, zC, zD, zE, zF, zG, zH, zI, zJ, zK, zL, reduceIte, F16_l0, t1, t32, t33, t34, g0, hr1, kP, q1, undef] | refine OrW.go ?_
          rw [LoopK_normal]; refine ⟨_, ?_, 1, rfl, rfl, ?qm, ?q1, ?q32, ?q33, ?q34, ?_⟩
          case qm | q1 | q32 | q33 | q34 => first | rfl | (simp -implicitDefEqProofs (disch := first | omega | with_reducible assumption | (simp only [zU, zC]; omega)) only [zT, zA, reduceCtorEq, zB, zC, zD, zE, zF, zG, zH, zI, zJ, zK, zL, reduceIte, t1, t32, t33, t34]; first | done | rfl | (congr 1; omega))
          · omega
          · exact ⟨by omega, by rw [hsucc, hok0]⟩
        | succ k =>
          obtain ⟨b', o', hbe, hb', hr0⟩ := ha k (by omega)
          cases hbe
          have hik : ((k + 1 : Nat) : Int) - 1 = (k : Int) := by omega
          have hk0 : (0 : Int) < ((k + 1 : Nat) : Int) := by omega
          have hkk : d.inputs.getD (k + 1 - 1) [] = d.inputs[k] := by simp [List.getD, show k < d.inputs.length by omega]
          rw [hkk] at hok
          rw [← strLt_mk] at hok
          generalize hlt : (strLt ⟨d.inputs[k + 1].toArray⟩ ⟨d.inputs[k].toArray⟩ || strEq ⟨d.inputs[k + 1].toArray⟩ ⟨d.inputs[k].toArray⟩) = le at hok
          cases le with
          | true =>
            have hbad : okIns d.inputs d.inputs.length = false := okIns_bad hi' (by rw [hok]; simp)
            rw [hbad]
            repeat first | simp -implicitDefEqProofs (disch := first | omega | with_reducible assumption | (simp only [zU, zC]; omega)) only [zT, zA, reduceCtorEq, zB, zC, zD, zE, zF, zG, zH, zI, zJ, zK, zL, reduceIte, F16_l0, t1, t32, t33, t34, g, hr1, kP, q1, hik, hk0, hr0, binV_sleq, hlt] | refine OrW.go ?_
          | false =>
            repeat first | simp -implicitDefEqProofs (disch := first | omega | with_reducible assumption | (simp only [zU, zC]; omega)) only [zT, zA, reduceCtorEq, zB, zC, zD, zE, zF, zG, zH, zI, zJ, zK, zL, reduceIte, F16_l0, t1, t32, t33, t34, g, hr1, kP, q1, hik, hk0, hr0, binV_sleq, hlt] | refine OrW.go ?_
            rw [LoopK_normal]; refine ⟨_, ?_, k + 1 + 1, rfl, rfl, ?qm, ?q1, ?q32, ?q33, ?q34, ?_⟩
            case qm | q1 | q32 | q33 | q34 => first | rfl | (simp -implicitDefEqProofs (disch := first | omega | with_reducible assumption | (simp only [zU, zC]; omega)) only [zT, zA, reduceCtorEq, zB, zC, zD, zE, zF, zG, zH, zI, zJ, zK, zL, reduceIte, t1, t32, t33, t34]; first | done | rfl | (congr 1; omega))
            · omega
            · exact ⟨by omega, by rw [hsucc, hok]; simp [q1]⟩
      · have hbad : okIns d.inputs d.inputs.length = false := okIns_bad hi' (by rw [hok]; simp [q1])
        rw [hbad]
        repeat first | simp -implicitDefEqProofs (disch := first | omega | with_reducible assumption | (simp only [zU, zC]; omega)) only [zT, zA, reduceCtorEq, zB, zC, zD, zE, zF, zG, zH, zI, zJ, zK, zL, reduceIte, F16_l0, t1, t32, t33, t34, g, hr1, kP, q1, undef] | refine OrW.go ?_
    · obtain rfl : i = d.inputs.length := by omega
      rw [hp]
      repeat first | simp -implicitDefEqProofs (disch := first | omega | with_reducible assumption | (simp only [zU, zC]; omega)) only [zT, zA, reduceCtorEq, zB, zC, zD, zE, zF, zG, zH, zI, zJ, zK, zL, reduceIte, F16_l0, t1, t32, t33, t34, g] | refine OrW.go ?_
end Go.Proofs.YtgkmlbkocgjmmaaDoor
namespace Go.Proofs.YtgkmlbkocgjmmaaDoor
open Go Go.AM
set_option linter.unusedVariables false
set_option linter.unusedSimpArgs false
set_option maxHeartbeats 2000000
set_option maxRecDepth 100000

def ownV (v : Value) (x : Nat) : Prop := ∃ o l c, v = .slice (some ⟨x, o, none⟩) l c
def OB (M : AMem) (v : Value) (c : List UInt8) : Prop := c.length ≤ 1000000000 ∧ ∃ b, b < M.size ∧ ((v = .slice (some ⟨b, 0, none⟩) c.length openCap ∧ M.get b = .cells (c.map byteV) 5 true (.room [.int .u8 0])) ∨ (v = .slice (some ⟨b, 0, none⟩) c.length c.length ∧ ∃ wr, M.get b = .cells (c.map byteV) 5 wr .exact))
def VStep (v : Value) (M : AMem) (v' : Value) (M' : AMem) : Prop := Keep (ownV v) M M' ∧ ∀ x, ownV v' x → ownV v x ∨ M.size ≤ x
theorem OB.keep {M M' : AMem} {v : Value} {c : List UInt8} (h : OB M v c) {O : Nat → Prop} (hk : Keep O M M') (hv : ∀ x, ownV v x → ¬ O x) : OB M' v c := by
  obtain ⟨hl, b, hb, h | ⟨rfl, wr, h2⟩⟩ := h
  · obtain ⟨rfl, h2⟩ := h
    exact ⟨hl, b, Nat.lt_of_lt_of_le hb hk.1, .inl ⟨rfl, by rw [hk.2 b hb (hv b ⟨_, _, _, rfl⟩)]; exact h2⟩⟩
  · exact ⟨hl, b, Nat.lt_of_lt_of_le hb hk.1, .inr ⟨rfl, wr, by rw [hk.2 b hb (hv b ⟨_, _, _, rfl⟩)]; exact h2⟩⟩
theorem OB.old {M M' : AMem} {v : Value} {c : List UInt8} (h : OB M v c) (ho : Old M M') : OB M' v c := h.keep (ho.keep fun _ => False) fun _ _ h => h
theorem OB.len {M : AMem} {v : Value} {c : List UInt8} (h : OB M v c) : ∃ a cap, v = .slice a c.length cap := by
  obtain ⟨hl, b, hb, ⟨rfl, _⟩ | ⟨rfl, _⟩⟩ := h
  · exact ⟨_, _, rfl⟩
  · exact ⟨_, _, rfl⟩
theorem OB.lt {M : AMem} {v : Value} {c : List UInt8} (h : OB M v c) : ∀ x, ownV v x → x < M.size := by
  rintro x ⟨o, l, k, rfl⟩
  obtain ⟨hl, b, hb, ⟨h, _⟩ | ⟨h, _⟩⟩ := h <;> cases h <;> exact hb
theorem OB.is5 {M : AMem} {v : Value} {c : List UInt8} (h : OB M v c) {x : Nat} {X : List Value} {e : TypeId} {w : Bool} {sp : Spare} (hx : M.get x = .cells X e w sp) (he : e ≠ 5) : ¬ ownV v x := by
  rintro ⟨o, l, k, rfl⟩
  obtain ⟨hl, b, hb, ⟨h, h2⟩ | ⟨h, wr, h2⟩⟩ := h <;> cases h <;> rw [h2] at hx <;> cases hx <;> exact he rfl
theorem one_bytes (c : List UInt8) : (c.map byteV).all oneCell = true := by
  rw [List.all_eq_true]; intro x hx; simp only [List.mem_map] at hx; obtain ⟨y, _, rfl⟩ := hx; rfl
theorem OB.app {M : AMem} {v w : Value} {c news : List UInt8} (h : OB M v c) (hn : c.length + news.length ≤ 1000000000) (hw : srcLen w = some news.length) (hs : srcCells 1 news.length w (mx M []) = some (news.map byteV)) :
    ∃ v' M', appV 5 1 1 [.int .u8 0] v w (mx M []) = some (v', mx M' []) ∧ OB M' v' (c ++ news) ∧ VStep v M v' M' := by
  have happ : appV 5 1 1 [.int .u8 0] v w (mx M []) = appendTo 5 1 1 [.int .u8 0] v news.length (news.map byteV) (mx M []) := by
    simp only [appV, hw, hs]
    rw [if_pos ⟨rfl, by omega, one_bytes _, by simp⟩]
  rw [happ]
  have hlen : (c ++ news).length = c.length + news.length := List.length_append
  by_cases h0 : news = []
  · subst h0
    refine ⟨v, M, ?_, by rw [List.append_nil]; exact h, .refl _ _, fun x h => .inl h⟩
    obtain ⟨hl, b, hb, ⟨rfl, h2⟩ | ⟨rfl, wr, h2⟩⟩ := h
    · simp only [appendTo, if_true, mx_old hb, h2, List.length_nil, List.length_map]
      rw [if_pos (show (Spare.room [Value.int .u8 0]).size = 1 from rfl), if_pos (by omega)]
    · simp only [appendTo, List.length_nil, if_true]
      rw [if_neg (openCap_ne (by omega)), if_pos (by omega)]
  · have hg : 0 < news.length := List.length_pos_iff.2 h0
    obtain ⟨hl, b, hb, ⟨rfl, h2⟩ | ⟨rfl, wr, h2⟩⟩ := h
    · refine ⟨.slice (some ⟨M.size, 0, none⟩) (c.length + news.length) openCap, mx (M.set b .dead) [.cells ((c ++ news).map byteV) 5 true (.room [.int .u8 0])], ?_, ⟨by omega, M.size, by rw [mx_size, AMem.size_set]; simp, .inl ⟨by rw [hlen], ?_⟩⟩, ((Keep.refl _ M).set (fun _ => ⟨_, _, _, rfl⟩) _).mx _, fun x ⟨o, l, k, hx⟩ => by cases hx; exact .inr (Nat.le_refl _)⟩
      · rw [appendTo_open (sz := 1) (z' := [.int .u8 0]) ((mx_old hb).trans h2) eqPL_refl_int rfl (by omega) (by simp) hg (by omega) (by omega), mx_set_old hb, mx_push, mx_nil_size, mx_mx, ← List.map_append]; rfl
      · have := mx_new0 (M.set b .dead) [.cells ((c ++ news).map byteV) 5 true (.room [.int .u8 0])]
        rw [AMem.size_set] at this; exact this
    · refine ⟨.slice (some ⟨M.size, 0, none⟩) (c.length + news.length) openCap, mx M [.cells ((c ++ news).map byteV) 5 true (.room [.int .u8 0])], ?_, ⟨by omega, M.size, by rw [mx_size]; simp, .inl ⟨by rw [hlen], mx_new0 _ _⟩⟩, (Keep.refl _ M).mx _, fun x ⟨o, l, k, hx⟩ => by cases hx; exact .inr (Nat.le_refl _)⟩
      simp only [appendTo]
      rw [if_neg (openCap_ne (by omega)), if_neg (by omega), rd_def, mx_old hb, h2, rdO_cells, cutL_all (by simp)]
      simp only []
      rw [if_pos ⟨by omega, by omega⟩, mx_push, mx_nil_size, mx_mx, ← List.map_append]; rfl

def numB (n : Nat) : Nat → List UInt8
  | 0 => []
  | w + 1 => UInt8.ofNat (n >>> (8 * w)) :: numB n w
theorem numB_len (n w : Nat) : (numB n w).length = w := by induction w with | zero => rfl | succ w ih => simp [numB, ih]
def textB (s : List UInt8) : List UInt8 := numB s.length 4 ++ s
def OStep (p : Nat) (v : Value) (M : AMem) (v' : Value) (M' : AMem) : Prop := Keep (fun x => x = p ∨ ownV v x) M M' ∧ ∀ x, ownV v' x → ownV v x ∨ M.size ≤ x
theorem OStep.refl (p : Nat) (v : Value) (M : AMem) : OStep p v M v M := ⟨.refl _ _, fun _ h => .inl h⟩
theorem OStep.trans {p : Nat} {v v1 v2 : Value} {m m1 m2 : AMem} (h : OStep p v m v1 m1) (k : OStep p v1 m1 v2 m2) : OStep p v m v2 m2 :=
  ⟨h.1.trans k.1 fun x hx ho => ho.imp id fun ho => (h.2 x ho).resolve_right (by omega), fun x hx => (k.2 x hx).elim (h.2 x) fun hs => .inr (Nat.le_trans h.1.1 hs)⟩
theorem OStep.mx {p : Nat} {v v1 : Value} {m m1 : AMem} (h : OStep p v m v1 m1) (l : List AObj) : OStep p v m v1 (Go.AM.mx m1 l) := ⟨h.1.mx _, h.2⟩
theorem OStep.pre {p : Nat} {v v1 : Value} {m m0 m1 : AMem} (h : OStep p v m v1 m1) (ho : Old m0 m) : OStep p v m0 v1 m1 :=
  ⟨(ho.keep _).trans h.1 (fun _ _ h => h), fun x hx => (h.2 x hx).imp id fun hs => Nat.le_trans ho.1 hs⟩
structure Out (M : AMem) (p : Nat) (v : Value) (c : List UInt8) : Prop where
  lt : p < M.size
  get : M.get p = .cells [v] 27 true .exact
  ob : OB M v c
theorem Out.old {M M' : AMem} {p : Nat} {v : Value} {c : List UInt8} (h : Out M p v c) (ho : Old M M') : Out M' p v c := ⟨Nat.lt_of_lt_of_le h.lt ho.1, by rw [ho.2 p h.lt]; exact h.get, h.ob.old ho⟩
theorem Out.put {M M' : AMem} {p : Nat} {v v' : Value} {c c' : List UInt8} (h : Out M p v c) (hs : VStep v M v' M') (ho : OB M' v' c') : M'.get p = .cells [v] 27 true .exact ∧ p < M'.size ∧ Out (M'.set p (.cells [v'] 27 true .exact)) p v' c' ∧ OStep p v M v' (M'.set p (.cells [v'] 27 true .exact)) := by
  have hp : ¬ ownV v p := h.ob.is5 h.get (by decide)
  have hg : M'.get p = .cells [v] 27 true .exact := by rw [hs.1.2 p h.lt hp]; exact h.get
  have hl : p < M'.size := Nat.lt_of_lt_of_le h.lt hs.1.1
  have hp' : ¬ ownV v' p := ho.is5 hg (by decide)
  refine ⟨hg, hl, ⟨by rw [AMem.size_set]; exact hl, AMem.get_set_self _ _ _, ho.keep ((Keep.refl (fun x => x = p) M').set (fun _ => rfl) _) fun x hx e => by subst e; exact hp' hx⟩, ?_, hs.2⟩
  exact (show Keep (fun x => x = p ∨ ownV v x) M M' from ⟨hs.1.1, fun y hy hn => hs.1.2 y hy (fun h => hn (.inr h))⟩).set (fun _ => .inl rfl) _
theorem byte_shr (n i : Nat) (hi : i ≤ 7) : IntKind.u8.wrap (shr .i64 (n : Int) (8 * (i : Int))) = ((UInt8.ofNat (n >>> (8 * i))).toNat : Int) := by
  rw [show 8 * (i : Int) = ((8 * i : Nat) : Int) by omega, shr_nat .i64 n (8 * i) (by simp [IntKind.bits]; omega)]
  generalize n >>> (8 * i) = k
  simp [IntKind.wrap, IntKind.bits, IntKind.signed]
end Go.Proofs.YtgkmlbkocgjmmaaDoor
namespace Go.Proofs.YtgkmlbkocgjmmaaDoor
open Go Go.AM
set_option linter.unusedVariables false
set_option linter.unusedSimpArgs false
set_option maxHeartbeats 2000000
set_option maxRecDepth 100000

theorem numB_step {n w j : Nat} {P : List UInt8} (h : P ++ numB n (j + 1) = numB n w) : (P ++ [UInt8.ofNat (n >>> (8 * j))]) ++ numB n j = numB n w := by
  rw [← h]; simp [numB]
theorem num_ok (M : AMem) (p : Nat) (v : Value) (c : List UInt8) (n w : Nat) (h : Out M p v c) (hc : c.length ≤ 100000000) (hw : w ≤ 8) (hn : n ≤ 9223372036854775807) :
    RelC Tryd.prog 3 31 [.int .i64 n, .int .i64 w, .pointer (some ⟨p, 0, none⟩)] M fun r m' => r = .tuple #[] ∧ ∃ v', Out m' p v' (c ++ numB n w) ∧ OStep p v M v' m' := by
  refine rel_of_W (fn := Tryd.f31) rfl rfl F31_ok (by simp [F31]) ?_
  simp -implicitDefEqProofs (disch := first | omega | with_reducible assumption | (simp only [zU, zC]; omega)) only [zT, zA, reduceCtorEq, zB, zC, zD, zE, zF, zG, zH, zI, zJ, zK, zL, reduceIte, F31]
  refine W_loop (fun N qs => ∃ (j : Nat) (M1 : AMem) (v1 : Value) (P : List UInt8), N = j + 1 ∧ qs.ds = [] ∧ qs.m = mx M1 [] ∧ qs.t 0 = .int .i64 n ∧ qs.t 2 = .pointer (some ⟨p, 0, none⟩) ∧ qs.t 5 = .int .i64 ((j : Int) - 1) ∧ j ≤ w ∧ P ++ numB n j = numB n w ∧ Out M1 p v1 (c ++ P) ∧ OStep p v M v1 M1) ((w) + 1) ⟨w, M, v, [], rfl, rfl, ?qm, ?q0, ?q2, ?q5, ?_⟩ ?_
  case qm | q0 | q2 | q5 => first | rfl | (simp -implicitDefEqProofs (disch := first | omega | with_reducible assumption | (simp only [zU, zC]; omega)) only [zT, zA, reduceCtorEq, zB, zC, zD, zE, zF, zG, zH, zI, zJ, zK, zL, reduceIte]; first | done | rfl | (congr 1; omega))
  · exact ⟨Nat.le_refl _, rfl, by rw [List.append_nil]; exact h, .refl _ _ _⟩
  · rintro N t m1 ds ⟨j, M1, v1, P, rfl, hds, hm, t0, t2, t5, hp⟩
    simp only at hds hm t0 t2 t5
    subst hds; replace hm := hm.symm; subst hm
    obtain ⟨hj, hP, hO, hS⟩ := hp
    cases j with
    | zero =>
      have h1 : ¬ (0 : Int) ≤ ((0 : Nat) : Int) - 1 := by omega
      simp only [numB, List.append_nil] at hP
      subst hP
      repeat first | simp -implicitDefEqProofs (disch := first | omega | with_reducible assumption | (simp only [zU, zC]; omega)) only [zT, zA, reduceCtorEq, zB, zC, zD, zE, zF, zG, zH, zI, zJ, zK, zL, reduceIte, F31_l0, t0, t2, t5, h1] | refine OrW.go ?_
      exact ⟨_, rfl, fun _ => ⟨rfl, _, hO.old (Old.here _ []), hS.mx []⟩⟩
    | succ j =>
      have h1 : (0 : Int) ≤ (j : Int) := by omega
      have e2 : ((j + 1 : Nat) : Int) - 1 = (j : Int) := by omega
      rw [e2] at t5
      have hPl : P.length ≤ w := by rw [← numB_len n w, ← hP]; simp
      have hO1 := hO.old (Old.here M1 [.cells [byteV (UInt8.ofNat (n >>> (8 * j)))] 5 true .exact])
      obtain ⟨v2, M2, happ, hB, hVS⟩ := hO1.ob.app (w := .slice (some ⟨M1.size, 0, none⟩) 1 1) (news := [UInt8.ofNat (n >>> (8 * j))]) (by rw [List.length_append]; simp; omega) rfl
        (by rw [List.length_singleton, srcCells_slice (Nat.le_refl _), rd_def, mx_mx, List.append_nil, mx_new0]; rfl)
      obtain ⟨av2, cv2, rfl⟩ := hB.len
      obtain ⟨g1, g2, g3, g4⟩ := hO1.put hVS hB
      have hS2 := hS.trans (g4.pre (Old.here _ _))
      have hs := byte_shr n j (by omega)
      have hp1 := hO.lt
      have hg0 := hO.get
      rw [mx_mx, List.append_nil] at happ
      simp only [byteV] at happ
      have hm8 : (8 : Int) * (j : Int) ≤ 64 := by omega
      repeat first | simp -implicitDefEqProofs (disch := first | omega | with_reducible assumption | (simp only [zU, zC]; omega)) only [zT, zA, reduceCtorEq, zB, zC, zD, zE, zF, zG, zH, zI, zJ, zK, zL, reduceIte, F31_l0, t0, t2, t5, h1, hg0, hs, binV_shr, stepOp_app_v, happ, g1] | refine OrW.go ?_
      rw [LoopK_normal]; refine ⟨_, ?_, j, M2.set p (.cells [.slice av2 (c ++ P ++ [UInt8.ofNat (n >>> (8 * j))]).length cv2] 27 true .exact), .slice av2 (c ++ P ++ [UInt8.ofNat (n >>> (8 * j))]).length cv2, P ++ [UInt8.ofNat (n >>> (8 * j))], rfl, rfl, ?qm, ?q0, ?q2, ?q5, ?_⟩
      case qm | q0 | q2 | q5 => first | rfl | (simp -implicitDefEqProofs (disch := first | omega | with_reducible assumption | (simp only [zU, zC]; omega)) only [zT, zA, reduceCtorEq, zB, zC, zD, zE, zF, zG, zH, zI, zJ, zK, zL, reduceIte, t0, t2, t5]; first | done | rfl | (congr 1; omega))
      · omega
      · exact ⟨by omega, numB_step hP, by rw [← List.append_assoc]; exact g3, hS2⟩
theorem text_ok (M : AMem) (p q : Nat) (v : Value) (c : List UInt8) (s : List UInt8) (h : Out M p v c) (hc : c.length + s.length ≤ 10000000) (hq : q < M.size) (hqg : M.get q = .cells [.func (.func 31) #[] #[.pointer (some ⟨p, 0, none⟩)]] 54 true .exact) :
    RelC Tryd.prog 3 32 [.string ⟨s.toArray⟩, .pointer (some ⟨q, 0, none⟩), .pointer (some ⟨p, 0, none⟩)] M fun r m' => r = .tuple #[] ∧ ∃ v', Out m' p v' (c ++ textB s) ∧ OStep p v M v' m' := by
  refine rel_of_W (fn := Tryd.f32) rfl rfl F32_ok (by simp [F32]) ?_
  have hk := num_ok (mx M []) p v c s.length 4 (h.old (Old.here _ _)) (by omega) (by omega) (by omega)
  repeat first | simp -implicitDefEqProofs (disch := first | omega | with_reducible assumption | (simp only [zU, zC]; omega)) only [zT, zA, reduceCtorEq, zB, zC, zD, zE, zF, zG, zH, zI, zJ, zK, zL, reduceIte, F32, hqg] | refine OrW.go ?_
  refine RelC.call hk ?_
  rintro r M1 ⟨rfl, v1, hO1, hS1⟩
  have hO2 := hO1.old (Old.here M1 [])
  obtain ⟨v2, M2, happ, hB, hVS⟩ := hO1.ob.app (w := .string ⟨s.toArray⟩) (news := s) (by rw [List.length_append, numB_len]; omega) (by simp only [srcLen]; rw [mk_size]) (by rw [srcCells_string (by rw [mk_size])])
  obtain ⟨av2, cv2, rfl⟩ := hB.len
  obtain ⟨g1, g2, g3, g4⟩ := hO1.put hVS hB
  have hp1 := hO1.lt
  have hg0 := hO1.get
  simp only [List.length_append] at happ g3 g4
  repeat first | simp -implicitDefEqProofs (disch := first | omega | with_reducible assumption | (simp only [zU, zC]; omega)) only [zT, zA, reduceCtorEq, zB, zC, zD, zE, zF, zG, zH, zI, zJ, zK, zL, reduceIte, hg0, stepOp_app_v, happ, g1] | refine OrW.go ?_
  refine ⟨_, rfl, fun _ => ⟨rfl, _, by rw [textB, ← List.append_assoc]; exact g3.old (Old.here _ []), ((hS1.pre (Old.here _ _)).trans g4).mx []⟩⟩
end Go.Proofs.YtgkmlbkocgjmmaaDoor
