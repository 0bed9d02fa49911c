/-
  A digest's letters, bit by bit: no program in sight.
-/
import Derived.Test.YtidngakhkpodgaaNamL
set_option linter.unusedVariables false
set_option linter.unusedSimpArgs false
set_option linter.unnecessarySimpa false
set_option linter.unusedVariables false
namespace Go.Proofs.Ytidngakhkpodgaa

theorem bit_big {l : List UInt8} (hl : l.length = 20) {n : Nat} (hn : n < 160) : (l[n / 8]'(by omega)).toNat >>> (7 - n % 8) &&& 1 = bigN l / 2 ^ (159 - n) % 2 := by
  have hj : n / 8 < l.length := by omega
  have h1 := bigN_take (l := l) (j := n / 8 + 1) (by omega)
  rw [bigN_take_succ hj] at h1
  have hx := (l[n / 8]'hj).toNat_lt
  have h2 : (l[n / 8]'hj).toNat = bigN l / 256 ^ (l.length - (n / 8 + 1)) % 256 := by omega
  rw [show (1 : Nat) = 2 ^ 1 - 1 from rfl, Nat.and_two_pow_sub_one_eq_mod, Nat.shiftRight_eq_div_pow, h2, hl]
  have h4 : ∀ D q : Nat, q < 8 → D % 256 / 2 ^ (7 - q) % 2 ^ 1 = D / 2 ^ (7 - q) % 2 := by
    intro D q hq
    rw [show (256 : Nat) = 2 ^ (7 - q) * 2 ^ (q + 1) by rw [← Nat.pow_add, show 7 - q + (q + 1) = 8 by omega], Nat.mod_mul_right_div_self, Nat.pow_one,
      Nat.mod_mod_of_dvd _ (by rw [Nat.pow_succ]; exact Nat.dvd_mul_left _ _)]
  rw [h4 _ _ (Nat.mod_lt _ (by omega)), Nat.div_div_eq_div_mul, show (256 : Nat) = 2 ^ 8 from rfl, ← Nat.pow_mul, ← Nat.pow_add]
  congr 3
  omega

/-- The k bits behind the first n. -/
def bitsV (l : List UInt8) (n k : Nat) : Nat := bigN l / 2 ^ (160 - n - k) % 2 ^ k
theorem bitsV_zero (l : List UInt8) (n : Nat) : bitsV l n 0 = 0 := by simp [bitsV, Nat.mod_one]
theorem bitsV_succ {l : List UInt8} (hl : l.length = 20) {n k : Nat} (h : n + k < 160) : bitsV l n (k + 1) = 2 * bitsV l n k + ((l[(n + k) / 8]'(by omega)).toNat >>> (7 - (n + k) % 8) &&& 1) := by
  rw [bit_big hl h]
  unfold bitsV
  rw [show 160 - n - k = (159 - (n + k)) + 1 by omega, show 160 - n - (k + 1) = 159 - (n + k) by omega]
  rw [Nat.pow_succ 2 (159 - (n + k)), ← Nat.div_div_eq_div_mul]
  generalize bigN l / 2 ^ (159 - (n + k)) = M
  rw [Nat.pow_succ, Nat.mul_comm (2 ^ k) 2, Nat.mod_mul]
  omega
theorem bitsV_lt (l : List UInt8) (n k : Nat) : bitsV l n k < 2 ^ k := Nat.mod_lt _ (Nat.pow_pos (by omega))
theorem bitsV_five (l : List UInt8) (e : Nat) : bitsV l (5 * e) 5 = letV l e := by
  unfold bitsV letV
  rw [show 160 - 5 * e - 5 = 155 - 5 * e by omega]
theorem alpha_ex (v : Nat) (h : v < 32) : (⟨#[48, 49, 50, 51, 52, 53, 54, 55, 56, 57, 97, 98, 99, 100, 102, 103, 104, 105, 106, 107, 108, 109, 110, 112, 113, 114, 115, 118, 119, 120, 121, 122]⟩ : ByteArray).extract v (v + 1) = ⟨#[alpha[v]'h]⟩ := by
  have : ∀ v : Fin 32, (⟨#[48, 49, 50, 51, 52, 53, 54, 55, 56, 57, 97, 98, 99, 100, 102, 103, 104, 105, 106, 107, 108, 109, 110, 112, 113, 114, 115, 118, 119, 120, 121, 122]⟩ : ByteArray).extract v.val (v.val + 1) = ⟨#[alpha[v.val]'v.isLt]⟩ := by decide +kernel
  exact this ⟨v, h⟩
theorem str_app (a b : List UInt8) : (⟨a.toArray⟩ : ByteArray) ++ ⟨b.toArray⟩ = ⟨(a ++ b).toArray⟩ := by
  apply ByteArray.ext; simp
theorem str_size (a : List UInt8) : (⟨a.toArray⟩ : ByteArray).size = a.length := by simp [ByteArray.size]
end Go.Proofs.Ytidngakhkpodgaa
