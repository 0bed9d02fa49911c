/-
  The letters of a digest, as numbers: no program in sight.
-/
import Derived.Test.YtidngakhkpodgaaT5
set_option linter.unusedVariables false
set_option linter.unusedSimpArgs false
set_option linter.unnecessarySimpa false
set_option linter.unusedVariables false
namespace Go.Proofs.Ytidngakhkpodgaa

def bigN (l : List UInt8) : Nat := l.foldl (fun n c => n * 256 + c.toNat) 0

theorem foldl_big (l : List UInt8) : ∀ a : Nat, l.foldl (fun n c => n * 256 + c.toNat) a = a * 256 ^ l.length + bigN l := by
  induction l with
  | nil => intro a; simp [bigN]
  | cons x r ih =>
    intro a
    simp only [List.foldl_cons, bigN]
    rw [ih, ih (0 * 256 + x.toNat)]
    simp only [List.length_cons, Nat.pow_succ, Nat.zero_mul, Nat.zero_add, Nat.add_mul]
    rw [Nat.mul_assoc, Nat.mul_comm 256]; omega

theorem bigN_append (a b : List UInt8) : bigN (a ++ b) = bigN a * 256 ^ b.length + bigN b := by
  unfold bigN
  rw [List.foldl_append, foldl_big b]; rfl

theorem bigN_lt (l : List UInt8) : bigN l < 256 ^ l.length := by
  induction l with
  | nil => simp [bigN]
  | cons x r ih =>
    have h := bigN_append [x] r
    have hx := x.toNat_lt
    have hb : bigN [x] = x.toNat := by simp [bigN]
    rw [List.singleton_append, hb] at h
    rw [h, List.length_cons, Nat.pow_succ]
    have := Nat.mul_le_mul_right (256 ^ r.length) (show x.toNat + 1 ≤ 256 by omega)
    rw [Nat.add_mul] at this
    rw [Nat.mul_comm (256 ^ r.length)]
    omega

theorem bigN_take_succ {l : List UInt8} {j : Nat} (h : j < l.length) : bigN (l.take (j + 1)) = bigN (l.take j) * 256 + l[j].toNat := by
  rw [List.take_succ_eq_append_getElem h, bigN_append]
  simp [bigN]

theorem bigN_take {l : List UInt8} {j : Nat} (h : j ≤ l.length) : bigN (l.take j) = bigN l / 256 ^ (l.length - j) := by
  have h1 : bigN l = bigN (l.take j) * 256 ^ (l.length - j) + bigN (l.drop j) := by
    conv => lhs; rw [← List.take_append_drop j l]
    rw [bigN_append]; simp
  have h2 := bigN_lt (l.drop j)
  rw [List.length_drop] at h2
  rw [h1, Nat.add_comm, Nat.add_mul_div_right _ _ (Nat.pow_pos (by omega)), Nat.div_eq_of_lt h2, Nat.zero_add]

/-- The e-th letter's value. -/
def letV (l : List UInt8) (e : Nat) : Nat := bigN l / 2 ^ (155 - 5 * e) % 32
theorem letV_lt (l : List UInt8) (e : Nat) : letV l e < 32 := Nat.mod_lt _ (by omega)
def letAt (l : List UInt8) (e : Nat) : UInt8 := alpha[letV l e]'(letV_lt l e)
def lettersTo (l : List UInt8) (n : Nat) : List UInt8 := (List.range n).map (letAt l)
theorem lettersTo_succ (l : List UInt8) (n : Nat) : lettersTo l (n + 1) = lettersTo l n ++ [letAt l n] := by simp [lettersTo, List.range_succ]
theorem lettersTo_length (l : List UInt8) (n : Nat) : (lettersTo l n).length = n := by simp [lettersTo]

theorem word_letter (N h : Nat) (hh : h ≤ 59) : (N % 2 ^ 64) >>> h &&& 31 = N / 2 ^ h % 32 := by
  rw [show (31 : Nat) = 2 ^ 5 - 1 from rfl, Nat.and_two_pow_sub_one_eq_mod, Nat.shiftRight_eq_div_pow]
  rw [show (2 : Nat) ^ 64 = 2 ^ h * 2 ^ (64 - h) by rw [← Nat.pow_add]; congr 1; omega, Nat.mod_mul_right_div_self]
  rw [show (2 : Nat) ^ 5 = 32 from rfl]
  apply Nat.mod_mod_of_dvd
  rw [show (32 : Nat) = 2 ^ 5 from rfl]
  exact Nat.pow_dvd_pow 2 (by omega)

theorem letV_at {l : List UInt8} (hl : l.length = 20) {j e h : Nat} (hj : j < 20) (he : 8 * (j + 1) = 5 * (e + 1) + h) : bigN (l.take (j + 1)) / 2 ^ h % 32 = letV l e := by
  rw [bigN_take (by omega), hl, letV, Nat.div_div_eq_div_mul]
  congr 2
  rw [show (256 : Nat) = 2 ^ 8 from rfl, ← Nat.pow_mul, ← Nat.pow_add]
  congr 1
  omega

theorem word_next (N c : Nat) (hc : c < 256) : ((N % 2 ^ 64) * 2 ^ 8 % 2 ^ 64) ||| c = (N * 256 + c) % 2 ^ 64 := by
  have h1 : (N % 2 ^ 64) * 2 ^ 8 % 2 ^ 64 = 2 ^ 8 * (N % 2 ^ 56) := by omega
  rw [h1, ← Nat.two_pow_add_eq_or_of_lt (by omega)]
  omega
end Go.Proofs.Ytidngakhkpodgaa
