/-
  The bytes of letters, as numbers: no program in sight.
-/
import Derived.Test.YtidngakhkpodgaaNamL2
import Derived.Laws.Externs
set_option linter.unusedVariables false
set_option linter.unusedSimpArgs false
set_option linter.unnecessarySimpa false
set_option linter.unusedVariables false
namespace Go.Proofs.Ytidngakhkpodgaa

theorem valZ_lt (c : UInt8) : valZ c < 32 := by
  unfold valZ
  split
  · rename_i h
    have := List.idxOf_lt_length_iff.2 h
    have h2 : alpha.length = 32 := rfl
    omega
  · omega
theorem valZ_ge (c : UInt8) : -1 ≤ valZ c := by
  unfold valZ; split <;> omega

theorem firstIdx_alpha (c : UInt8) : firstIdx (⟨#[48, 49, 50, 51, 52, 53, 54, 55, 56, 57, 97, 98, 99, 100, 102, 103, 104, 105, 106, 107, 108, 109, 110, 112, 113, 114, 115, 118, 119, 120, 121, 122]⟩ : ByteArray) c = valZ c := by
  have : ∀ c : Fin 256, firstIdx (⟨#[48, 49, 50, 51, 52, 53, 54, 55, 56, 57, 97, 98, 99, 100, 102, 103, 104, 105, 106, 107, 108, 109, 110, 112, 113, 114, 115, 118, 119, 120, 121, 122]⟩ : ByteArray) (UInt8.ofNat c.val) = valZ (UInt8.ofNat c.val) := by decide +kernel
  have h := this ⟨c.toNat, c.toNat_lt⟩
  simpa using h

/-- The number that letters write. -/
def valL (s : List UInt8) : Nat := s.foldl (fun n c => n * 32 + (valZ c).toNat) 0

theorem foldl_val (l : List UInt8) : ∀ a : Nat, l.foldl (fun n c => n * 32 + (valZ c).toNat) a = a * 32 ^ l.length + valL l := by
  induction l with
  | nil => intro a; simp [valL]
  | cons x r ih =>
    intro a
    simp only [List.foldl_cons, valL]
    rw [ih, ih (0 * 32 + (valZ x).toNat)]
    simp only [List.length_cons, Nat.pow_succ, Nat.zero_mul, Nat.zero_add, Nat.add_mul]
    rw [Nat.mul_assoc, Nat.mul_comm 32]; omega

theorem valL_append (a b : List UInt8) : valL (a ++ b) = valL a * 32 ^ b.length + valL b := by
  unfold valL
  rw [List.foldl_append, foldl_val b]; rfl

theorem valL_one (c : UInt8) : valL [c] = (valZ c).toNat := by simp [valL]

theorem valL_lt (l : List UInt8) : valL l < 32 ^ l.length := by
  induction l with
  | nil => simp [valL]
  | cons x r ih =>
    have h := valL_append [x] r
    have hx := valZ_lt x
    rw [List.singleton_append, valL_one] at h
    rw [h, List.length_cons, Nat.pow_succ]
    have := Nat.mul_le_mul_right (32 ^ r.length) (show (valZ x).toNat + 1 ≤ 32 by omega)
    rw [Nat.add_mul] at this
    rw [Nat.mul_comm (32 ^ r.length)]
    omega

theorem valL_take_succ {l : List UInt8} {j : Nat} (h : j < l.length) : valL (l.take (j + 1)) = valL (l.take j) * 32 + (valZ l[j]).toNat := by
  rw [List.take_succ_eq_append_getElem h, valL_append, valL_one]; simp

theorem valL_take {l : List UInt8} {j : Nat} (h : j ≤ l.length) : valL (l.take j) = valL l / 32 ^ (l.length - j) := by
  have h1 : valL l = valL (l.take j) * 32 ^ (l.length - j) + valL (l.drop j) := by
    conv => lhs; rw [← List.take_append_drop j l]
    rw [valL_append]; simp
  have h2 := valL_lt (l.drop j)
  rw [List.length_drop] at h2
  rw [h1, Nat.add_comm, Nat.add_mul_div_right _ _ (Nat.pow_pos (by omega)), Nat.div_eq_of_lt h2, Nat.zero_add]

/-- The j-th byte. -/
def byteAt (s : List UInt8) (j : Nat) : UInt8 := UInt8.ofNat (valL s / 2 ^ (8 * (19 - j)) % 256)
theorem byteAt_toNat (s : List UInt8) (j : Nat) : (byteAt s j).toNat = valL s / 2 ^ (8 * (19 - j)) % 256 := by simp [byteAt]
/-- The first n bytes, the others 0. -/
def outTo (s : List UInt8) (n : Nat) : List UInt8 := (List.range 20).map fun j => if j < n then byteAt s j else 0
theorem outTo_length (s : List UInt8) (n : Nat) : (outTo s n).length = 20 := by simp [outTo]

theorem word5_next (N c : Nat) (hc : c < 32) : ((N % 2 ^ 64) * 2 ^ 5 % 2 ^ 64) ||| c = (N * 32 + c) % 2 ^ 64 := by
  have h1 : (N % 2 ^ 64) * 2 ^ 5 % 2 ^ 64 = 2 ^ 5 * (N % 2 ^ 59) := by omega
  rw [h1, ← Nat.two_pow_add_eq_or_of_lt (by omega)]
  omega

theorem word_byte (N h : Nat) (hh : h ≤ 56) : (N % 2 ^ 64) >>> h % 256 = N / 2 ^ h % 256 := by
  rw [Nat.shiftRight_eq_div_pow]
  rw [show (2 : Nat) ^ 64 = 2 ^ h * 2 ^ (64 - h) by rw [← Nat.pow_add]; congr 1; omega, Nat.mod_mul_right_div_self]
  apply Nat.mod_mod_of_dvd
  rw [show (256 : Nat) = 2 ^ 8 from rfl]
  exact Nat.pow_dvd_pow 2 (by omega)

theorem byteAt_at {s : List UInt8} (hs : s.length = 32) {i n h : Nat} (hi : i < 32) (he : 5 * (i + 1) = 8 * (n + 1) + h) : valL (s.take (i + 1)) / 2 ^ h % 256 = (byteAt s n).toNat := by
  rw [byteAt_toNat, valL_take (by omega), hs, Nat.div_div_eq_div_mul]
  congr 2
  rw [show (32 : Nat) = 2 ^ 5 from rfl, ← Nat.pow_mul, ← Nat.pow_add]
  congr 1
  omega
end Go.Proofs.Ytidngakhkpodgaa
