/-
  The bytes of letters, bit by bit: no program in sight.
-/
import Derived.Test.YtidngakhkpodgaaNamL3
set_option linter.unusedVariables false
set_option linter.unusedSimpArgs false
set_option linter.unnecessarySimpa false
set_option linter.unusedVariables false
namespace Go.Proofs.Ytidngakhkpodgaa

/-- The j-th byte, of the first p bits. -/
def bitAt (s : List UInt8) (p j : Nat) : Nat := valL s / 2 ^ (160 - p) * 2 ^ (160 - p) / 2 ^ (8 * (19 - j)) % 256
theorem bitAt_lt (s : List UInt8) (p j : Nat) : bitAt s p j < 256 := Nat.mod_lt _ (by omega)
theorem bitAt_test (s : List UInt8) (p j t : Nat) : (bitAt s p j).testBit t = (decide (t < 8) && (decide (160 - p ≤ 8 * (19 - j) + t) && (valL s).testBit (8 * (19 - j) + t))) := by
  unfold bitAt
  rw [show (256 : Nat) = 2 ^ 8 from rfl, Nat.testBit_mod_two_pow, Nat.testBit_div_two_pow, Nat.testBit_mul_two_pow, Nat.testBit_div_two_pow]
  by_cases h : 160 - p ≤ 8 * (19 - j) + t
  · rw [show t + 8 * (19 - j) - (160 - p) + (160 - p) = 8 * (19 - j) + t by omega, decide_eq_true h, decide_eq_true (show t + 8 * (19 - j) ≥ 160 - p by omega)]
  · rw [decide_eq_false h, decide_eq_false (show ¬ t + 8 * (19 - j) ≥ 160 - p by omega)]; simp

theorem bitAt_off {s : List UInt8} {p j : Nat} (hp : p < 160) (h : (valL s).testBit (159 - p) = false) : bitAt s (p + 1) j = bitAt s p j := by
  apply Nat.eq_of_testBit_eq
  intro t
  rw [bitAt_test, bitAt_test]
  by_cases he : 8 * (19 - j) + t = 159 - p
  · rw [he, h]; simp
  · have : decide (160 - (p + 1) ≤ 8 * (19 - j) + t) = decide (160 - p ≤ 8 * (19 - j) + t) := decide_eq_decide.2 (by omega)
    rw [this]

theorem bitAt_on {s : List UInt8} {p j : Nat} (hp : p < 160) (hj : j < 20) (h : (valL s).testBit (159 - p) = true) : bitAt s (p + 1) j = if j = p / 8 then bitAt s p j ||| 2 ^ (7 - p % 8) else bitAt s p j := by
  apply Nat.eq_of_testBit_eq
  intro t
  by_cases hjp : j = p / 8
  · rw [if_pos hjp, Nat.testBit_or, bitAt_test, bitAt_test, Nat.testBit_two_pow]
    by_cases he : 8 * (19 - j) + t = 159 - p
    · rw [he, h]
      have h1 : t < 8 := by omega
      have h2 : 7 - p % 8 = t := by omega
      simp [h1, h2]
    · have h1 : decide (160 - (p + 1) ≤ 8 * (19 - j) + t) = decide (160 - p ≤ 8 * (19 - j) + t) := decide_eq_decide.2 (by omega)
      have h2 : ¬ 7 - p % 8 = t := by omega
      rw [h1]; simp [h2]
  · rw [if_neg hjp, bitAt_test, bitAt_test]
    by_cases ht : t < 8
    · have h1 : decide (160 - (p + 1) ≤ 8 * (19 - j) + t) = decide (160 - p ≤ 8 * (19 - j) + t) := decide_eq_decide.2 (by omega)
      rw [h1]
    · simp [ht]

def outP (s : List UInt8) (p : Nat) : List UInt8 := (List.range 20).map fun j => UInt8.ofNat (bitAt s p j)
theorem outP_length (s : List UInt8) (p : Nat) : (outP s p).length = 20 := by simp [outP]
theorem outP_get (s : List UInt8) (p : Nat) {j : Nat} (hj : j < 20) : (outP s p)[j]'(by simp [outP, hj]) = UInt8.ofNat (bitAt s p j) := by simp [outP]
theorem outP_toNat (s : List UInt8) (p : Nat) {j : Nat} (hj : j < 20) : ((outP s p)[j]'(by simp [outP, hj])).toNat = bitAt s p j := by
  rw [outP_get s p hj]
  have := bitAt_lt s p j
  simp; omega
theorem outP_off {s : List UInt8} {p : Nat} (hp : p < 160) (h : (valL s).testBit (159 - p) = false) : outP s (p + 1) = outP s p := by
  unfold outP
  exact List.map_congr_left fun j _ => by rw [bitAt_off hp h]
theorem valL_bound {s : List UInt8} (hs : s.length = 32) : valL s < 2 ^ 160 := by
  have := valL_lt s
  rw [hs] at this
  exact this
theorem outP_zero {s : List UInt8} (hs : s.length = 32) : outP s 0 = outTo s 0 := by
  unfold outP outTo
  refine List.map_congr_left fun j _ => ?_
  have : valL s / 2 ^ (160 - 0) = 0 := Nat.div_eq_of_lt (valL_bound hs)
  simp [bitAt, this]
theorem outP_all (s : List UInt8) : outP s 160 = outTo s 20 := by
  unfold outP outTo
  refine List.map_congr_left fun j hj => ?_
  have : j < 20 := List.mem_range.1 hj
  simp [bitAt, byteAt, this]

theorem valZ_big {s : List UInt8} (hs : s.length = 32) {i v : Nat} (hi : i < 32) (hv : valZ (s[i]'(by omega)) = v) : v = valL s / 2 ^ (5 * (31 - i)) % 32 := by
  have h1 := valL_take (l := s) (j := i + 1) (by omega)
  rw [valL_take_succ (by omega), hv, hs, Int.toNat_natCast] at h1
  have hlt := valZ_lt (s[i]'(by omega))
  rw [hv] at hlt
  rw [show 2 ^ (5 * (31 - i)) = 32 ^ (32 - (i + 1)) by rw [show (32 : Nat) = 2 ^ 5 from rfl, ← Nat.pow_mul, show 2 ^ 5 - (i + 1) = 31 - i by omega]]
  rw [← h1]
  omega

theorem valZ_bit {s : List UInt8} (hs : s.length = 32) {i k v : Nat} (hi : i < 32) (hk : k < 5) (hv : valZ (s[i]'(by omega)) = v) : (v >>> (4 - k) &&& 1) = if (valL s).testBit (159 - (5 * i + k)) then 1 else 0 := by
  have h1 := valZ_big hs hi hv
  have h2 : v.testBit (4 - k) = (valL s).testBit (159 - (5 * i + k)) := by
    rw [h1, show (32 : Nat) = 2 ^ 5 from rfl, Nat.testBit_mod_two_pow, Nat.testBit_div_two_pow]
    rw [show 4 - k + 5 * (31 - i) = 159 - (5 * i + k) by omega]; simp [show 4 - k < 5 by omega]
  rw [← h2, Nat.testBit, Nat.and_comm]
  have : 1 &&& v >>> (4 - k) = v >>> (4 - k) % 2 := by rw [Nat.and_comm, show (1 : Nat) = 2 ^ 1 - 1 from rfl, Nat.and_two_pow_sub_one_eq_mod]
  rw [this]
  rcases Nat.mod_two_eq_zero_or_one (v >>> (4 - k)) with h | h <;> simp [h]
end Go.Proofs.Ytidngakhkpodgaa
