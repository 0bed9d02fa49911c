/- Runs of 32 letters in a row of bytes: no program in sight. -/
import Derived.Test.YtighienjnhglnaaA4
import Derived.Test.YtighienjnhglnaaScnF
import Derived.Laws.Externs
set_option linter.unusedVariables false
set_option linter.unusedSimpArgs false
set_option linter.unnecessarySimpa false
namespace Go.AM
set_option linter.unusedVariables false
/-- The 32 bytes from place j on. -/
def winAt (b : List UInt8) (j : Nat) : List UInt8 := (b.drop j).take 32
/-- The runs that stand in bytes, of the first n places. -/
def winsTo (p : UInt8 → Bool) (b : List UInt8) (n : Nat) : List (List UInt8) := ((List.range n).map (winAt b)).filter fun w => w.all p
/-- All of them. -/
def wins (p : UInt8 → Bool) (b : List UInt8) : List (List UInt8) := winsTo p b (b.length + 1 - 32)
theorem winsTo_succ (p : UInt8 → Bool) (b : List UInt8) (n : Nat) : winsTo p b (n + 1) = winsTo p b n ++ if (winAt b n).all p then [winAt b n] else [] := by
  simp only [winsTo, List.range_succ, List.map_append, List.filter_append, List.map_cons, List.map_nil]
  congr 1
  by_cases h : (winAt b n).all p = true
  · simp [h]
  · simp [h]
/-- How many letters stand at the end of the first i bytes. -/
def runTo (p : UInt8 → Bool) (b : List UInt8) : Nat → Nat
  | 0 => 0
  | i + 1 => if p (b.getD i 0) then runTo p b i + 1 else 0
theorem runTo_le (p : UInt8 → Bool) (b : List UInt8) : ∀ i, runTo p b i ≤ i
  | 0 => Nat.le_refl _
  | i + 1 => by
    have := runTo_le p b i
    simp only [runTo]; split <;> omega
theorem runTo_iff (p : UInt8 → Bool) (b : List UInt8) : ∀ i n, n ≤ runTo p b i ↔ n ≤ i ∧ ∀ k, i - n ≤ k → k < i → p (b.getD k 0) = true
  | 0, n => by
    simp only [runTo]
    exact ⟨fun h => ⟨h, fun k _ h2 => by omega⟩, fun h => h.1⟩
  | i + 1, n => by
    have ih := runTo_iff p b i
    simp only [runTo]
    by_cases hp : p (b.getD i 0) = true
    · rw [if_pos hp]
      cases n with
      | zero => simp; intro k h1 h2; omega
      | succ n =>
        have := ih n
        constructor
        · intro h
          obtain ⟨h1, h2⟩ := this.1 (by omega)
          refine ⟨by omega, fun k hk1 hk2 => ?_⟩
          by_cases hk : k = i
          · subst hk; exact hp
          · exact h2 k (by omega) (by omega)
        · rintro ⟨h1, h2⟩
          have := this.2 ⟨by omega, fun k hk1 hk2 => h2 k (by omega) (by omega)⟩
          omega
    · rw [if_neg hp]
      constructor
      · intro h
        obtain rfl : n = 0 := by omega
        exact ⟨by omega, fun k h1 h2 => by omega⟩
      · rintro ⟨h1, h2⟩
        by_cases hn : n = 0
        · omega
        · exact absurd (h2 i (by omega) (by omega)) hp
theorem win_all {p : UInt8 → Bool} {b : List UInt8} {j : Nat} (hj : j + 32 ≤ b.length) : (winAt b j).all p = true ↔ ∀ k, j ≤ k → k < j + 32 → p (b.getD k 0) = true := by
  rw [List.all_eq_true]
  constructor
  · intro h k h1 h2
    refine h _ ?_
    unfold winAt
    rw [List.mem_iff_getElem]
    refine ⟨k - j, by rw [List.length_take, List.length_drop]; omega, ?_⟩
    rw [List.getElem_take, List.getElem_drop]
    have : j + (k - j) = k := by omega
    simp [List.getD, this, List.getElem?_eq_getElem (show k < b.length by omega)]
  · intro h x hx
    unfold winAt at hx
    rw [List.mem_iff_getElem] at hx
    obtain ⟨k, hk, rfl⟩ := hx
    rw [List.length_take, List.length_drop] at hk
    rw [List.getElem_take, List.getElem_drop]
    have := h (j + k) (by omega) (by omega)
    simpa [List.getD, List.getElem?_eq_getElem (show j + k < b.length by omega)] using this
/-- The run is long enough: the 32 bytes behind are all letters. -/
theorem run_win {p : UInt8 → Bool} {b : List UInt8} {i : Nat} (hi : i < b.length) : 32 ≤ runTo p b (i + 1) ↔ 32 ≤ i + 1 ∧ (winAt b (i + 1 - 32)).all p = true := by
  rw [runTo_iff]
  constructor
  · rintro ⟨h1, h2⟩
    exact ⟨h1, (win_all (by omega)).2 fun k hk1 hk2 => h2 k hk1 (by omega)⟩
  · rintro ⟨h1, h2⟩
    exact ⟨h1, fun k hk1 hk2 => (win_all (by omega)).1 h2 k hk1 (by omega)⟩
/-- What has been given by the time the first i bytes have been seen. -/
def given (p : UInt8 → Bool) (b : List UInt8) (i : Nat) : List (List UInt8) := winsTo p b (i + 1 - 32)
theorem given_succ {p : UInt8 → Bool} {b : List UInt8} {i : Nat} (hi : i < b.length) : given p b (i + 1) = given p b i ++ if 32 ≤ runTo p b (i + 1) then [winAt b (i + 1 - 32)] else [] := by
  unfold given
  by_cases h : 32 ≤ i + 1
  · rw [show i + 1 + 1 - 32 = (i + 1 - 32) + 1 by omega, winsTo_succ]
    congr 1
    by_cases hw : (winAt b (i + 1 - 32)).all p = true
    · rw [if_pos hw, if_pos ((run_win hi).2 ⟨h, hw⟩)]
    · rw [if_neg hw, if_neg (fun h' => hw ((run_win hi).1 h').2)]
  · rw [show i + 1 + 1 - 32 = 0 by omega, show i + 1 - 32 = 0 by omega, if_neg (fun h' => h ((run_win hi).1 h').1), List.append_nil]
theorem winsTo_pre (p : UInt8 → Bool) (b : List UInt8) {m n : Nat} (h : m ≤ n) : ∃ t, winsTo p b n = winsTo p b m ++ t := by
  induction n with
  | zero =>
    obtain rfl : m = 0 := by omega
    exact ⟨[], by simp⟩
  | succ n ih =>
    by_cases hm : m = n + 1
    · subst hm; exact ⟨[], by simp⟩
    · obtain ⟨t, ht⟩ := ih (by omega)
      exact ⟨t ++ if (winAt b n).all p then [winAt b n] else [], by rw [winsTo_succ, ht, List.append_assoc]⟩
/-- The next one that is given. -/
theorem given_next {p : UInt8 → Bool} {b : List UInt8} {i : Nat} (hi : i < b.length) (h : 32 ≤ runTo p b (i + 1)) : ∃ hlt : (given p b i).length < (wins p b).length, (wins p b)[(given p b i).length] = winAt b (i + 1 - 32) ∧ (given p b (i + 1)).length = (given p b i).length + 1 := by
  have h1 := given_succ (p := p) hi
  rw [if_pos h] at h1
  obtain ⟨t, ht⟩ := winsTo_pre p b (show i + 1 + 1 - 32 ≤ b.length + 1 - 32 by omega)
  have h2 : wins p b = given p b i ++ [winAt b (i + 1 - 32)] ++ t := by rw [← h1]; exact ht
  refine ⟨by rw [h2]; simp, ?_, by rw [h1]; simp⟩
  have : ∀ (l : List (List UInt8)) (e : l = given p b i ++ [winAt b (i + 1 - 32)] ++ t) (hh : (given p b i).length < l.length), l[(given p b i).length] = winAt b (i + 1 - 32) := fun l e hh => by subst e; simp
  exact this _ h2 _
/-- Each text once, as it came first. -/
def onceR (l : List (List UInt8)) : List (List UInt8) := l.foldl (fun a s => if s ∈ a then a else a ++ [s]) []
theorem onceR_snoc (l : List (List UInt8)) (s : List UInt8) : onceR (l ++ [s]) = if s ∈ onceR l then onceR l else onceR l ++ [s] := by
  by_cases h : s ∈ onceR l
  · rw [if_pos h]; unfold onceR at h ⊢; rw [List.foldl_append, List.foldl_cons, List.foldl_nil, if_pos h]
  · rw [if_neg h]; unfold onceR at h ⊢; rw [List.foldl_append, List.foldl_cons, List.foldl_nil, if_neg h]
theorem mem_onceR : ∀ (l : List (List UInt8)) (s : List UInt8), s ∈ onceR l ↔ s ∈ l := by
  intro l s
  suffices h : ∀ (l a : List (List UInt8)), s ∈ l.foldl (fun a s => if s ∈ a then a else a ++ [s]) a ↔ s ∈ a ∨ s ∈ l by simpa [onceR] using h l []
  intro l
  induction l with
  | nil => intro a; simp
  | cons x l ih =>
    intro a
    rw [List.foldl_cons, ih]
    by_cases hx : x ∈ a
    · rw [if_pos hx, List.mem_cons]
      constructor
      · rintro (h | h)
        · exact .inl h
        · exact .inr (.inr h)
      · rintro (h | rfl | h)
        · exact .inl h
        · exact .inl hx
        · exact .inr h
    · rw [if_neg hx, List.mem_append, List.mem_singleton, List.mem_cons]
      constructor
      · rintro ((h | h) | h)
        · exact .inl h
        · exact .inr (.inl h)
        · exact .inr (.inr h)
      · rintro (h | h | h)
        · exact .inl (.inl h)
        · exact .inl (.inr h)
        · exact .inr h
theorem onceR_len (l : List (List UInt8)) : (onceR l).length ≤ l.length := by
  suffices h : ∀ (l a : List (List UInt8)), (l.foldl (fun a s => if s ∈ a then a else a ++ [s]) a).length ≤ a.length + l.length by simpa [onceR] using h l []
  intro l
  induction l with
  | nil => intro a; simp
  | cons x l ih =>
    intro a
    rw [List.foldl_cons]
    refine Nat.le_trans (ih _) ?_
    split <;> simp <;> omega
theorem winsTo_len (p : UInt8 → Bool) (b : List UInt8) (n : Nat) : (winsTo p b n).length ≤ n := by
  unfold winsTo
  exact Nat.le_trans (List.length_filter_le _ _) (by simp)
theorem mem_wins {p : UInt8 → Bool} {b s : List UInt8} : s ∈ wins p b ↔ ∃ j, j + 32 ≤ b.length ∧ s = winAt b j ∧ s.all p = true := by
  unfold wins winsTo
  rw [List.mem_filter, List.mem_map]
  constructor
  · rintro ⟨⟨j, hj, rfl⟩, h⟩
    exact ⟨j, by have := List.mem_range.1 hj; omega, rfl, h⟩
  · rintro ⟨j, hj, rfl, h⟩
    exact ⟨⟨j, List.mem_range.2 (by omega), rfl⟩, h⟩
end Go.AM
namespace Go.Proofs.Ytighienjnhglnaa.N
open Go Go.AM
set_option maxRecDepth 100000
set_option linter.unusedVariables false
set_option linter.unusedSimpArgs false

def alpha : List UInt8 := [48, 49, 50, 51, 52, 53, 54, 55, 56, 57, 97, 98, 99, 100, 102, 103, 104, 105, 106, 107, 108, 109, 110, 112, 113, 114, 115, 118, 119, 120, 121, 122]
theorem alpha_at (i : Nat) (h : i < 32) : (⟨#[48, 49, 50, 51, 52, 53, 54, 55, 56, 57, 97, 98, 99, 100, 102, 103, 104, 105, 106, 107, 108, 109, 110, 112, 113, 114, 115, 118, 119, 120, 121, 122]⟩ : ByteArray)[i]? = some (alpha[i]'h) := by
  have : ∀ i : Fin 32, (⟨#[48, 49, 50, 51, 52, 53, 54, 55, 56, 57, 97, 98, 99, 100, 102, 103, 104, 105, 106, 107, 108, 109, 110, 112, 113, 114, 115, 118, 119, 120, 121, 122]⟩ : ByteArray)[i.val]? = some (alpha[i.val]'i.isLt) := by decide +kernel
  exact this ⟨i, h⟩

/-- A letter's value; -1: it is none. -/
def valZ (c : UInt8) : Int := if c ∈ alpha then (alpha.idxOf c : Int) else -1
theorem valZ_at {c : UInt8} {i : Nat} (h : i < 32) (hi : alpha[i]'h = c) : valZ c = i := by
  have : ∀ i : Fin 32, valZ (alpha[i.val]'i.isLt) = i.val := by decide +kernel
  rw [← hi]; exact this ⟨i, h⟩
end Go.Proofs.Ytighienjnhglnaa.N
set_option linter.unusedVariables false
namespace Go.Proofs.Ytighienjnhglnaa.N

def bigN (l : List UInt8) : Nat := l.foldl (fun n c => n * 256 + c.toNat) 0

theorem foldl_big (l : List UInt8) : ∀ a : Nat, l.foldl (fun n c => n * 256 + c.toNat) a = a * 256 ^ l.length + bigN l := by
  induction l with
  | nil => intro a; simp [bigN]
  | cons x r ih =>
    intro a
    simp only [List.foldl_cons, bigN]
    rw [ih, ih (0 * 256 + x.toNat)]
    simp only [List.length_cons, Nat.pow_succ, Nat.zero_mul, Nat.zero_add, Nat.add_mul]
    rw [Nat.mul_assoc, Nat.mul_comm 256]; omega

theorem bigN_append (a b : List UInt8) : bigN (a ++ b) = bigN a * 256 ^ b.length + bigN b := by
  unfold bigN
  rw [List.foldl_append, foldl_big b]; rfl

theorem bigN_lt (l : List UInt8) : bigN l < 256 ^ l.length := by
  induction l with
  | nil => simp [bigN]
  | cons x r ih =>
    have h := bigN_append [x] r
    have hx := x.toNat_lt
    have hb : bigN [x] = x.toNat := by simp [bigN]
    rw [List.singleton_append, hb] at h
    rw [h, List.length_cons, Nat.pow_succ]
    have := Nat.mul_le_mul_right (256 ^ r.length) (show x.toNat + 1 ≤ 256 by omega)
    rw [Nat.add_mul] at this
    rw [Nat.mul_comm (256 ^ r.length)]
    omega

theorem bigN_take_succ {l : List UInt8} {j : Nat} (h : j < l.length) : bigN (l.take (j + 1)) = bigN (l.take j) * 256 + l[j].toNat := by
  rw [List.take_succ_eq_append_getElem h, bigN_append]
  simp [bigN]

theorem bigN_take {l : List UInt8} {j : Nat} (h : j ≤ l.length) : bigN (l.take j) = bigN l / 256 ^ (l.length - j) := by
  have h1 : bigN l = bigN (l.take j) * 256 ^ (l.length - j) + bigN (l.drop j) := by
    conv => lhs; rw [← List.take_append_drop j l]
    rw [bigN_append]; simp
  have h2 := bigN_lt (l.drop j)
  rw [List.length_drop] at h2
  rw [h1, Nat.add_comm, Nat.add_mul_div_right _ _ (Nat.pow_pos (by omega)), Nat.div_eq_of_lt h2, Nat.zero_add]

/-- The e-th letter's value. -/
def letV (l : List UInt8) (e : Nat) : Nat := bigN l / 2 ^ (155 - 5 * e) % 32
theorem letV_lt (l : List UInt8) (e : Nat) : letV l e < 32 := Nat.mod_lt _ (by omega)
def letAt (l : List UInt8) (e : Nat) : UInt8 := alpha[letV l e]'(letV_lt l e)
def lettersTo (l : List UInt8) (n : Nat) : List UInt8 := (List.range n).map (letAt l)
theorem lettersTo_succ (l : List UInt8) (n : Nat) : lettersTo l (n + 1) = lettersTo l n ++ [letAt l n] := by simp [lettersTo, List.range_succ]
theorem lettersTo_length (l : List UInt8) (n : Nat) : (lettersTo l n).length = n := by simp [lettersTo]

theorem word_letter (N h : Nat) (hh : h ≤ 59) : (N % 2 ^ 64) >>> h &&& 31 = N / 2 ^ h % 32 := by
  rw [show (31 : Nat) = 2 ^ 5 - 1 from rfl, Nat.and_two_pow_sub_one_eq_mod, Nat.shiftRight_eq_div_pow]
  rw [show (2 : Nat) ^ 64 = 2 ^ h * 2 ^ (64 - h) by rw [← Nat.pow_add]; congr 1; omega, Nat.mod_mul_right_div_self]
  rw [show (2 : Nat) ^ 5 = 32 from rfl]
  apply Nat.mod_mod_of_dvd
  rw [show (32 : Nat) = 2 ^ 5 from rfl]
  exact Nat.pow_dvd_pow 2 (by omega)

theorem letV_at {l : List UInt8} (hl : l.length = 20) {j e h : Nat} (hj : j < 20) (he : 8 * (j + 1) = 5 * (e + 1) + h) : bigN (l.take (j + 1)) / 2 ^ h % 32 = letV l e := by
  rw [bigN_take (by omega), hl, letV, Nat.div_div_eq_div_mul]
  congr 2
  rw [show (256 : Nat) = 2 ^ 8 from rfl, ← Nat.pow_mul, ← Nat.pow_add]
  congr 1
  omega

theorem word_next (N c : Nat) (hc : c < 256) : ((N % 2 ^ 64) * 2 ^ 8 % 2 ^ 64) ||| c = (N * 256 + c) % 2 ^ 64 := by
  have h1 : (N % 2 ^ 64) * 2 ^ 8 % 2 ^ 64 = 2 ^ 8 * (N % 2 ^ 56) := by omega
  rw [h1, ← Nat.two_pow_add_eq_or_of_lt (by omega)]
  omega
end Go.Proofs.Ytighienjnhglnaa.N
set_option linter.unusedVariables false
namespace Go.Proofs.Ytighienjnhglnaa.N

theorem str_app (a b : List UInt8) : (⟨a.toArray⟩ : ByteArray) ++ ⟨b.toArray⟩ = ⟨(a ++ b).toArray⟩ := by
  apply ByteArray.ext; simp
theorem str_size (a : List UInt8) : (⟨a.toArray⟩ : ByteArray).size = a.length := by simp [ByteArray.size]
end Go.Proofs.Ytighienjnhglnaa.N
set_option linter.unusedVariables false
namespace Go.Proofs.Ytighienjnhglnaa.N

theorem valZ_lt (c : UInt8) : valZ c < 32 := by
  unfold valZ
  split
  · rename_i h
    have := List.idxOf_lt_length_iff.2 h
    have h2 : alpha.length = 32 := rfl
    omega
  · omega
theorem firstIdx_alpha (c : UInt8) : firstIdx (⟨#[48, 49, 50, 51, 52, 53, 54, 55, 56, 57, 97, 98, 99, 100, 102, 103, 104, 105, 106, 107, 108, 109, 110, 112, 113, 114, 115, 118, 119, 120, 121, 122]⟩ : ByteArray) c = valZ c := by
  have : ∀ c : Fin 256, firstIdx (⟨#[48, 49, 50, 51, 52, 53, 54, 55, 56, 57, 97, 98, 99, 100, 102, 103, 104, 105, 106, 107, 108, 109, 110, 112, 113, 114, 115, 118, 119, 120, 121, 122]⟩ : ByteArray) (UInt8.ofNat c.val) = valZ (UInt8.ofNat c.val) := by decide +kernel
  have h := this ⟨c.toNat, c.toNat_lt⟩
  simpa using h

/-- The number that letters write. -/
def valL (s : List UInt8) : Nat := s.foldl (fun n c => n * 32 + (valZ c).toNat) 0

theorem foldl_val (l : List UInt8) : ∀ a : Nat, l.foldl (fun n c => n * 32 + (valZ c).toNat) a = a * 32 ^ l.length + valL l := by
  induction l with
  | nil => intro a; simp [valL]
  | cons x r ih =>
    intro a
    simp only [List.foldl_cons, valL]
    rw [ih, ih (0 * 32 + (valZ x).toNat)]
    simp only [List.length_cons, Nat.pow_succ, Nat.zero_mul, Nat.zero_add, Nat.add_mul]
    rw [Nat.mul_assoc, Nat.mul_comm 32]; omega

theorem valL_append (a b : List UInt8) : valL (a ++ b) = valL a * 32 ^ b.length + valL b := by
  unfold valL
  rw [List.foldl_append, foldl_val b]; rfl

theorem valL_one (c : UInt8) : valL [c] = (valZ c).toNat := by simp [valL]

theorem valL_lt (l : List UInt8) : valL l < 32 ^ l.length := by
  induction l with
  | nil => simp [valL]
  | cons x r ih =>
    have h := valL_append [x] r
    have hx := valZ_lt x
    rw [List.singleton_append, valL_one] at h
    rw [h, List.length_cons, Nat.pow_succ]
    have := Nat.mul_le_mul_right (32 ^ r.length) (show (valZ x).toNat + 1 ≤ 32 by omega)
    rw [Nat.add_mul] at this
    rw [Nat.mul_comm (32 ^ r.length)]
    omega

theorem valL_take_succ {l : List UInt8} {j : Nat} (h : j < l.length) : valL (l.take (j + 1)) = valL (l.take j) * 32 + (valZ l[j]).toNat := by
  rw [List.take_succ_eq_append_getElem h, valL_append, valL_one]; simp

theorem valL_take {l : List UInt8} {j : Nat} (h : j ≤ l.length) : valL (l.take j) = valL l / 32 ^ (l.length - j) := by
  have h1 : valL l = valL (l.take j) * 32 ^ (l.length - j) + valL (l.drop j) := by
    conv => lhs; rw [← List.take_append_drop j l]
    rw [valL_append]; simp
  have h2 := valL_lt (l.drop j)
  rw [List.length_drop] at h2
  rw [h1, Nat.add_comm, Nat.add_mul_div_right _ _ (Nat.pow_pos (by omega)), Nat.div_eq_of_lt h2, Nat.zero_add]

/-- The j-th byte. -/
def byteAt (s : List UInt8) (j : Nat) : UInt8 := UInt8.ofNat (valL s / 2 ^ (8 * (19 - j)) % 256)
theorem byteAt_toNat (s : List UInt8) (j : Nat) : (byteAt s j).toNat = valL s / 2 ^ (8 * (19 - j)) % 256 := by simp [byteAt]
/-- The first n bytes, the others 0. -/
def outTo (s : List UInt8) (n : Nat) : List UInt8 := (List.range 20).map fun j => if j < n then byteAt s j else 0
theorem outTo_length (s : List UInt8) (n : Nat) : (outTo s n).length = 20 := by simp [outTo]

theorem word5_next (N c : Nat) (hc : c < 32) : ((N % 2 ^ 64) * 2 ^ 5 % 2 ^ 64) ||| c = (N * 32 + c) % 2 ^ 64 := by
  have h1 : (N % 2 ^ 64) * 2 ^ 5 % 2 ^ 64 = 2 ^ 5 * (N % 2 ^ 59) := by omega
  rw [h1, ← Nat.two_pow_add_eq_or_of_lt (by omega)]
  omega

theorem word_byte (N h : Nat) (hh : h ≤ 56) : (N % 2 ^ 64) >>> h % 256 = N / 2 ^ h % 256 := by
  rw [Nat.shiftRight_eq_div_pow]
  rw [show (2 : Nat) ^ 64 = 2 ^ h * 2 ^ (64 - h) by rw [← Nat.pow_add]; congr 1; omega, Nat.mod_mul_right_div_self]
  apply Nat.mod_mod_of_dvd
  rw [show (256 : Nat) = 2 ^ 8 from rfl]
  exact Nat.pow_dvd_pow 2 (by omega)

theorem byteAt_at {s : List UInt8} (hs : s.length = 32) {i n h : Nat} (hi : i < 32) (he : 5 * (i + 1) = 8 * (n + 1) + h) : valL (s.take (i + 1)) / 2 ^ h % 256 = (byteAt s n).toNat := by
  rw [byteAt_toNat, valL_take (by omega), hs, Nat.div_div_eq_div_mul]
  congr 2
  rw [show (32 : Nat) = 2 ^ 5 from rfl, ← Nat.pow_mul, ← Nat.pow_add]
  congr 1
  omega
end Go.Proofs.Ytighienjnhglnaa.N
set_option linter.unusedVariables false
namespace Go.Proofs.Ytighienjnhglnaa.N

end Go.Proofs.Ytighienjnhglnaa.N
namespace Go.Proofs.Ytighienjnhglnaa.N
open Go Go.AM
set_option maxRecDepth 100000
set_option linter.unusedVariables false
set_option linter.unusedSimpArgs false

/-- May it stand in a plain name? -/
def plainZ (c : Int) : Bool := decide (97 ≤ c) && decide (c ≤ 122) || decide (65 ≤ c) && decide (c ≤ 90) || decide (48 ≤ c) && decide (c ≤ 57) || decide (c = 43) || decide (c = 45) || decide (c = 46) || decide (c = 95)

theorem plain_ok (m : AMem) (c : Int) : ACall Try.prog 1 38 [.int .i32 c] m fun r m' => r = .ret (.bool (plainZ c)) ∧ m' = m := by
  refine ACall_of_W (fn := Try.f38) rfl rfl F38_ok (by simp [F38]) ?_
  simp (implicitDefEqProofs := false) (contextual := true) (maxSteps := 4000000) (disch := omega) only [amS, Nat.reduceBEq, reduceCtorEq, Nat.reduceEqDiff, Nat.reduceAdd, Nat.reduceMul, Nat.reduceSub, Int.reduceToNat, Int.reduceEq, Int.reduceLT, Int.reduceLE, Int.reduceAdd, Int.reduceSub, Int.reduceMul, reduceIte, resVs, resV, packV, initT, addr, F38]
  rfl
end Go.Proofs.Ytighienjnhglnaa.N
namespace Go.Proofs.Ytighienjnhglnaa.N
open Go Go.AM
set_option maxRecDepth 100000
set_option linter.unusedVariables false
set_option linter.unusedSimpArgs false

theorem noEscape_ok (m : AMem) (v : Value) : ACall Try.prog 1 48 [v] m fun r m' => r = .ret v ∧ m' = m := by
  refine ACall_ext (fn := Try.f48) (e := Extern.AbiNoEscape.same) rfl rfl rfl rfl rfl ?_
  intro ρ w args' hR hA
  obtain ⟨args'⟩ := args'
  match args', hA with
  | [v'], hA => exact ⟨v, v', rfl, hA.2 0 (by simp) (by simp), rfl, rfl⟩
  | [], hA => simp [LRel] at hA
  | _ :: _ :: _, hA => simp [LRel] at hA

theorem indexByteString_ok (m : AMem) (s : ByteArray) (c : UInt8) : ACall Try.prog 1 59 [.string s, byteV c] m fun r m' => r = .ret (.int .i64 (firstIdx s c)) ∧ m' = m := by
  refine ACall_ext (fn := Try.f59) (e := Extern.BytealgIndexByte.indexByte) rfl rfl rfl rfl rfl ?_
  intro ρ w args' hR hA
  obtain ⟨args'⟩ := args'
  match args', hA with
  | [a, b], hA =>
    have h1 : VRel ρ (.string s) a := hA.2 0 (by simp) (by simp)
    have h2 : VRel ρ (.int .u8 c.toNat) b := hA.2 1 (by simp) (by simp)
    obtain rfl := h1.string_inv
    obtain rfl := h2.int_inv
    refine ⟨.int .i64 (firstIdx s c), _, run_indexByte_string s c.toNat w, ?_, rfl, rfl⟩
    have : ((c.toNat : Int).toNat).toUInt8 = c := by simp
    rw [this]
    exact .int _ _
  | [], hA => simp [LRel] at hA
  | [_], hA => simp [LRel] at hA
  | _ :: _ :: _ :: _, hA => simp [LRel] at hA

theorem indexByte33_ok (m : AMem) (s : ByteArray) (c : UInt8) : ACall Try.prog 1 47 [.string s, byteV c] m fun r m' => r = .ret (.int .i64 (firstIdx s c)) ∧ m' = m := by
  refine ACall_of_W (fn := Try.f47) rfl rfl F47_ok (by simp [F47]) ?_
  simp (implicitDefEqProofs := false) (disch := omega) only [amS, Nat.reduceBEq, reduceCtorEq, Nat.reduceEqDiff, Nat.reduceAdd, Nat.reduceMul, Nat.reduceSub, Int.reduceToNat, Int.reduceEq, Int.reduceLT, Int.reduceLE, Int.reduceAdd, Int.reduceSub, Int.reduceMul, reduceIte, resVs, resV, packV, initT, addr, F47]
  refine (indexByteString_ok m s c).mono ?_
  rintro r m' ⟨rfl, rfl⟩
  simp (implicitDefEqProofs := false) (disch := omega) only [amS, Nat.reduceBEq, reduceCtorEq, Nat.reduceEqDiff, Nat.reduceAdd, Nat.reduceMul, Nat.reduceSub, Int.reduceToNat, Int.reduceEq, Int.reduceLT, Int.reduceLE, Int.reduceAdd, Int.reduceSub, Int.reduceMul, reduceIte, resVs, resV, packV, initT, addr]

theorem indexByte_ok (m : AMem) (s : ByteArray) (c : UInt8) : ACall Try.prog 1 33 [.string s, byteV c] m fun r m' => r = .ret (.int .i64 (firstIdx s c)) ∧ m' = m := by
  refine ACall_of_W (fn := Try.f33) rfl rfl F33_ok (by simp [F33]) ?_
  simp (implicitDefEqProofs := false) (disch := omega) only [amS, Nat.reduceBEq, reduceCtorEq, Nat.reduceEqDiff, Nat.reduceAdd, Nat.reduceMul, Nat.reduceSub, Int.reduceToNat, Int.reduceEq, Int.reduceLT, Int.reduceLE, Int.reduceAdd, Int.reduceSub, Int.reduceMul, reduceIte, resVs, resV, packV, initT, addr, F33]
  refine (indexByte33_ok m s c).mono ?_
  rintro r m' ⟨rfl, rfl⟩
  simp (implicitDefEqProofs := false) (disch := omega) only [amS, Nat.reduceBEq, reduceCtorEq, Nat.reduceEqDiff, Nat.reduceAdd, Nat.reduceMul, Nat.reduceSub, Int.reduceToNat, Int.reduceEq, Int.reduceLT, Int.reduceLE, Int.reduceAdd, Int.reduceSub, Int.reduceMul, reduceIte, resVs, resV, packV, initT, addr]

/-- A strings.Builder in block b that holds the bytes l; its buffer is among the blocks from B on. -/
def Bld (m : AMem) (B b : Nat) (l : List UInt8) : Prop :=
  b < m.size ∧ B ≤ m.size ∧ ((m.get b = .cells [.pointer none, .slice none 0 0] 56 true .exact ∧ l = []) ∨
    ∃ b', B ≤ b' ∧ b' < m.size ∧ b' ≠ b ∧ l ≠ [] ∧ m.get b = .cells [.pointer (some ⟨b, 0, none⟩), .slice (some ⟨b', 0, none⟩) l.length openCap] 56 true .exact ∧
      m.get b' = .cells (l.map byteV) 5 true (.room [.int .u8 0]))

theorem copyCheck_fresh (m : AMem) (b : Nat) (v : Value) (h : m.get b = .cells [.pointer none, v] 56 true .exact) :
    ACall Try.prog 1 35 [.pointer (some ⟨b, 0, none⟩)] m fun r m' => r = .ret (.tuple #[]) ∧ m' = m.set b (.cells [.pointer (some ⟨b, 0, none⟩), v] 56 true .exact) := by
  refine ACall_of_W (fn := Try.f35) rfl rfl F35_ok (by simp [F35]) ?_
  have h1 : rd m b 0 1 = some [.pointer none] := by rw [rd_one' h]; rfl
  have h2 : ∀ x, wr m b 0 [x] = some (m.set b (.cells [x, v] 56 true .exact)) := fun x => by rw [wr_at h (by simp)]; rfl
  simp (implicitDefEqProofs := false) (disch := omega) only [amS, Nat.reduceBEq, reduceCtorEq, Nat.reduceEqDiff, Nat.reduceAdd, Nat.reduceMul, Nat.reduceSub, Int.reduceToNat, Int.reduceEq, Int.reduceLT, Int.reduceLE, Int.reduceAdd, Int.reduceSub, Int.reduceMul, reduceIte, resVs, resV, packV, initT, addr, F35, h1, h, eqV, Option.isNone, List.length_cons, List.length_nil]
  refine (noEscape_ok m _).mono ?_
  rintro r m' ⟨rfl, rfl⟩
  simp (implicitDefEqProofs := false) (disch := omega) only [amS, Nat.reduceBEq, reduceCtorEq, Nat.reduceEqDiff, Nat.reduceAdd, Nat.reduceMul, Nat.reduceSub, Int.reduceToNat, Int.reduceEq, Int.reduceLT, Int.reduceLE, Int.reduceAdd, Int.reduceSub, Int.reduceMul, reduceIte, resVs, resV, packV, initT, addr, h1, h2, h, List.length_cons, List.length_nil]

theorem copyCheck_used (m : AMem) (b : Nat) (v : Value) (h : m.get b = .cells [.pointer (some ⟨b, 0, none⟩), v] 56 true .exact) :
    ACall Try.prog 1 35 [.pointer (some ⟨b, 0, none⟩)] m fun r m' => r = .ret (.tuple #[]) ∧ m' = m := by
  refine ACall_of_W (fn := Try.f35) rfl rfl F35_ok (by simp [F35]) ?_
  have h1 : rd m b 0 1 = some [.pointer (some ⟨b, 0, none⟩)] := by rw [rd_one' h]; rfl
  simp (implicitDefEqProofs := false) (disch := omega) only [amS, Nat.reduceBEq, reduceCtorEq, Nat.reduceEqDiff, Nat.reduceAdd, Nat.reduceMul, Nat.reduceSub, Int.reduceToNat, Int.reduceEq, Int.reduceLT, Int.reduceLE, Int.reduceAdd, Int.reduceSub, Int.reduceMul, reduceIte, resVs, resV, packV, initT, addr, F35, h1, eqV, Option.isNone]

end Go.Proofs.Ytighienjnhglnaa.N
namespace Go.Proofs.Ytighienjnhglnaa.N
open Go Go.AM
set_option maxRecDepth 100000
set_option linter.unusedVariables false
set_option linter.unusedSimpArgs false

theorem writeByte_ok (m : AMem) (B b : Nat) (l : List UInt8) (c : UInt8) (h : Bld m B b l) (hl : l.length ≤ 100000) :
    ACall Try.prog 1 21 [.pointer (some ⟨b, 0, none⟩), byteV c] m fun r m' => r = .ret .nilIface ∧ Bld m' B b (l ++ [c]) ∧ m.size ≤ m'.size ∧ ∀ x, x < B → x ≠ b → m'.get x = m.get x := by
  refine ACall_of_W (fn := Try.f21) rfl rfl F21_ok (by simp [F21]) ?_
  obtain ⟨hb, hB, ⟨hm, rfl⟩ | ⟨b', hb1, hb2, hne, hnil, hm, hm'⟩⟩ := h
  · simp (implicitDefEqProofs := false) (disch := omega) only [amS, Nat.reduceBEq, reduceCtorEq, Nat.reduceEqDiff, Nat.reduceAdd, Nat.reduceMul, Nat.reduceSub, Int.reduceToNat, Int.reduceEq, Int.reduceLT, Int.reduceLE, Int.reduceAdd, Int.reduceSub, Int.reduceMul, reduceIte, resVs, resV, packV, initT, addr, F21]
    refine (copyCheck_fresh m b _ hm).mono ?_
    rintro r m' ⟨rfl, rfl⟩
    simp (implicitDefEqProofs := false) (disch := omega) only [amS, Nat.reduceBEq, reduceCtorEq, Nat.reduceEqDiff, Nat.reduceAdd, Nat.reduceMul, Nat.reduceSub, Int.reduceToNat, Int.reduceEq, Int.reduceLT, Int.reduceLE, Int.reduceAdd, Int.reduceSub, Int.reduceMul, reduceIte, resVs, resV, packV, initT, addr, rd, wr, splice, List.length_cons, List.length_nil, List.length_map, List.length_append, List.take_succ_cons, List.take_zero, List.drop_succ_cons, List.drop_zero, List.drop_nil, List.cons_append, List.nil_append, List.append_nil, fill_byte, srcLen_slice, srcLen_string, srcCells_slice, srcCells_string, all_int, all_bytes, stepOp_bldSl, stepOp_app, stepOp_lenV, byteV, appendTo_nil]
    refine ⟨⟨by simp (implicitDefEqProofs := false) (disch := omega) only [amS, Nat.reduceBEq, reduceCtorEq, Nat.reduceEqDiff, Nat.reduceAdd, Nat.reduceMul, Nat.reduceSub, Int.reduceToNat, Int.reduceEq, Int.reduceLT, Int.reduceLE, Int.reduceAdd, Int.reduceSub, Int.reduceMul, reduceIte, resVs, resV, packV, initT, addr]; omega, by simp (implicitDefEqProofs := false) (disch := omega) only [amS, Nat.reduceBEq, reduceCtorEq, Nat.reduceEqDiff, Nat.reduceAdd, Nat.reduceMul, Nat.reduceSub, Int.reduceToNat, Int.reduceEq, Int.reduceLT, Int.reduceLE, Int.reduceAdd, Int.reduceSub, Int.reduceMul, reduceIte, resVs, resV, packV, initT, addr]; omega, .inr ⟨m.size + 1, by omega, by simp (implicitDefEqProofs := false) (disch := omega) only [amS, Nat.reduceBEq, reduceCtorEq, Nat.reduceEqDiff, Nat.reduceAdd, Nat.reduceMul, Nat.reduceSub, Int.reduceToNat, Int.reduceEq, Int.reduceLT, Int.reduceLE, Int.reduceAdd, Int.reduceSub, Int.reduceMul, reduceIte, resVs, resV, packV, initT, addr]; omega, by omega, by simp, by simp (implicitDefEqProofs := false) (disch := omega) only [amS, Nat.reduceBEq, reduceCtorEq, Nat.reduceEqDiff, Nat.reduceAdd, Nat.reduceMul, Nat.reduceSub, Int.reduceToNat, Int.reduceEq, Int.reduceLT, Int.reduceLE, Int.reduceAdd, Int.reduceSub, Int.reduceMul, reduceIte, resVs, resV, packV, initT, addr]; rfl, by simp (implicitDefEqProofs := false) (disch := omega) only [amS, Nat.reduceBEq, reduceCtorEq, Nat.reduceEqDiff, Nat.reduceAdd, Nat.reduceMul, Nat.reduceSub, Int.reduceToNat, Int.reduceEq, Int.reduceLT, Int.reduceLE, Int.reduceAdd, Int.reduceSub, Int.reduceMul, reduceIte, resVs, resV, packV, initT, addr]; rfl⟩⟩, by omega, fun x hx hxb => ?_⟩
    simp (implicitDefEqProofs := false) (disch := omega) only [amS, Nat.reduceBEq, reduceCtorEq, Nat.reduceEqDiff, Nat.reduceAdd, Nat.reduceMul, Nat.reduceSub, Int.reduceToNat, Int.reduceEq, Int.reduceLT, Int.reduceLE, Int.reduceAdd, Int.reduceSub, Int.reduceMul, reduceIte, resVs, resV, packV, initT, addr]
  · simp (implicitDefEqProofs := false) (disch := omega) only [amS, Nat.reduceBEq, reduceCtorEq, Nat.reduceEqDiff, Nat.reduceAdd, Nat.reduceMul, Nat.reduceSub, Int.reduceToNat, Int.reduceEq, Int.reduceLT, Int.reduceLE, Int.reduceAdd, Int.reduceSub, Int.reduceMul, reduceIte, resVs, resV, packV, initT, addr, F21]
    refine (copyCheck_used m b _ hm).mono ?_
    rintro r m' ⟨rfl, rfl⟩
    have ha : ∀ (M : AMem), M.get b' = .cells (l.map byteV) 5 true (.room [.int .u8 0]) → appendTo 5 1 1 [.int .u8 0] (.slice (some ⟨b', 0, none⟩) l.length openCap) 1 [.int .u8 c.toNat] M =
        some (.slice (some ⟨M.size, 0, none⟩) (l.length + 1) openCap, (M.set b' .dead).push (.cells (l.map byteV ++ [.int .u8 c.toNat]) 5 true (.room [.int .u8 0]))) := fun M hM =>
      appendTo_open hM eqPL_refl_int rfl (by omega) (by simp) (by omega) (by omega) (by omega)
    have hg : (m'.push (.cells [.int .u8 c.toNat] 5 true .exact)).get b' = .cells (l.map byteV) 5 true (.room [.int .u8 0]) := by simp (implicitDefEqProofs := false) (disch := omega) only [amS, Nat.reduceBEq, reduceCtorEq, Nat.reduceEqDiff, Nat.reduceAdd, Nat.reduceMul, Nat.reduceSub, Int.reduceToNat, Int.reduceEq, Int.reduceLT, Int.reduceLE, Int.reduceAdd, Int.reduceSub, Int.reduceMul, reduceIte, resVs, resV, packV, initT, addr, hm']
    simp (implicitDefEqProofs := false) (disch := omega) only [amS, Nat.reduceBEq, reduceCtorEq, Nat.reduceEqDiff, Nat.reduceAdd, Nat.reduceMul, Nat.reduceSub, Int.reduceToNat, Int.reduceEq, Int.reduceLT, Int.reduceLE, Int.reduceAdd, Int.reduceSub, Int.reduceMul, reduceIte, resVs, resV, packV, initT, addr, rd, wr, splice, List.length_cons, List.length_nil, List.length_map, List.length_append, List.take_succ_cons, List.take_zero, List.drop_succ_cons, List.drop_zero, List.drop_nil, List.cons_append, List.nil_append, List.append_nil, fill_byte, srcLen_slice, srcLen_string, srcCells_slice, srcCells_string, all_int, all_bytes, stepOp_bldSl, stepOp_app, stepOp_lenV, byteV, hm, ha _ hg]
    refine ⟨⟨by simp (implicitDefEqProofs := false) (disch := omega) only [amS, Nat.reduceBEq, reduceCtorEq, Nat.reduceEqDiff, Nat.reduceAdd, Nat.reduceMul, Nat.reduceSub, Int.reduceToNat, Int.reduceEq, Int.reduceLT, Int.reduceLE, Int.reduceAdd, Int.reduceSub, Int.reduceMul, reduceIte, resVs, resV, packV, initT, addr]; omega, by simp (implicitDefEqProofs := false) (disch := omega) only [amS, Nat.reduceBEq, reduceCtorEq, Nat.reduceEqDiff, Nat.reduceAdd, Nat.reduceMul, Nat.reduceSub, Int.reduceToNat, Int.reduceEq, Int.reduceLT, Int.reduceLE, Int.reduceAdd, Int.reduceSub, Int.reduceMul, reduceIte, resVs, resV, packV, initT, addr]; omega, .inr ⟨m'.size + 1, by omega, by simp (implicitDefEqProofs := false) (disch := omega) only [amS, Nat.reduceBEq, reduceCtorEq, Nat.reduceEqDiff, Nat.reduceAdd, Nat.reduceMul, Nat.reduceSub, Int.reduceToNat, Int.reduceEq, Int.reduceLT, Int.reduceLE, Int.reduceAdd, Int.reduceSub, Int.reduceMul, reduceIte, resVs, resV, packV, initT, addr]; omega, by omega, by simp, by simp (implicitDefEqProofs := false) (disch := omega) only [amS, Nat.reduceBEq, reduceCtorEq, Nat.reduceEqDiff, Nat.reduceAdd, Nat.reduceMul, Nat.reduceSub, Int.reduceToNat, Int.reduceEq, Int.reduceLT, Int.reduceLE, Int.reduceAdd, Int.reduceSub, Int.reduceMul, reduceIte, resVs, resV, packV, initT, addr, List.length_append, List.length_cons, List.length_nil], by simp (implicitDefEqProofs := false) (disch := omega) only [amS, Nat.reduceBEq, reduceCtorEq, Nat.reduceEqDiff, Nat.reduceAdd, Nat.reduceMul, Nat.reduceSub, Int.reduceToNat, Int.reduceEq, Int.reduceLT, Int.reduceLE, Int.reduceAdd, Int.reduceSub, Int.reduceMul, reduceIte, resVs, resV, packV, initT, addr, List.map_append, byteV]⟩⟩, by omega, fun x hx hxb => ?_⟩
    simp (implicitDefEqProofs := false) (disch := omega) only [amS, Nat.reduceBEq, reduceCtorEq, Nat.reduceEqDiff, Nat.reduceAdd, Nat.reduceMul, Nat.reduceSub, Int.reduceToNat, Int.reduceEq, Int.reduceLT, Int.reduceLE, Int.reduceAdd, Int.reduceSub, Int.reduceMul, reduceIte, resVs, resV, packV, initT, addr]

end Go.Proofs.Ytighienjnhglnaa.N
namespace Go.Proofs.Ytighienjnhglnaa.N
open Go Go.AM
set_option maxRecDepth 100000
set_option linter.unusedVariables false
set_option linter.unusedSimpArgs false

theorem bldString_ok (m : AMem) (B b : Nat) (l : List UInt8) (h : Bld m B b l) (hl : l.length ≤ 100000) :
    ACall Try.prog 1 22 [.pointer (some ⟨b, 0, none⟩)] m fun r m' => r = .ret (.string ⟨l.toArray⟩) ∧ m.size ≤ m'.size ∧ ∀ x, x < B → x ≠ b → m'.get x = m.get x := by
  refine ACall_of_W (fn := Try.f22) rfl rfl F22_ok (by simp [F22]) ?_
  obtain ⟨hb, hB, ⟨hm, rfl⟩ | ⟨b', hb1, hb2, hne, hnil, hm, hm'⟩⟩ := h
  · simp (implicitDefEqProofs := false) (disch := omega) only [amS, Nat.reduceBEq, reduceCtorEq, Nat.reduceEqDiff, Nat.reduceAdd, Nat.reduceMul, Nat.reduceSub, Int.reduceToNat, Int.reduceEq, Int.reduceLT, Int.reduceLE, Int.reduceAdd, Int.reduceSub, Int.reduceMul, reduceIte, resVs, resV, packV, initT, addr, rd, wr, splice, List.length_cons, List.length_nil, List.length_map, List.length_append, List.take_succ_cons, List.take_zero, List.drop_succ_cons, List.drop_zero, List.drop_nil, List.cons_append, List.nil_append, List.append_nil, fill_byte, srcLen_slice, srcLen_string, srcCells_slice, srcCells_string, all_int, all_bytes, stepOp_bldSl, stepOp_app, stepOp_lenV, byteV, F22, hm, stepOp_sdat, stepOp_ustr]
    exact ⟨rfl, Nat.le_refl _, fun _ _ _ => trivial⟩
  · have h0 : 0 < l.length := List.length_pos_iff.2 hnil
    have e1 : ¬ l.length = 0 := by omega
    have e2 : (List.map byteV l).take l.length = l.map byteV := List.take_of_length_le (by simp)
    have e3 := map_ofNat_byteOf l
    simp (implicitDefEqProofs := false) (disch := omega) only [W_skip, W_seq, W_reg, W_block, W_exit, W_ret, W_cond, W_draw, WI_nil, WI_op, WI_opg, WI_call, WI_callg, DW_call, DW_callg, OpI_some, OpG_some, OpG_true, OpG_false, BoolW_true, BoolW_false, GrdW_true, GrdW_false, SeqK_normal, SeqK_exit, SeqK_ret, SeqK_pan, BlockK_normal, BlockK_exit, BlockK_ret, BlockK_pan, LoopK_exit, LoopK_ret, LoopK_pan, CallK_ret, CallK_pan, RetK_ret, RetK_normal, RetK_pan, ResW_some, resVs, resV, packV, DW_nil, DW_f, DW_bop, FltW_some, FltG_some, fstO_some, valF_op, valF_opg, dst_op, dst_call, BarK_nil, OpB_some, gv_true, gv_false, sel2_true, sel2_false, sel2_and, sel2_or, beq_true, beq_false, updO_some, updO_none, upd_apply, sel_true, sel_false, Nat.reduceBEq, ev_t, ev_c, wanted_some, initT, List.getD_cons_zero, List.getD_cons_succ, stepOp_mov, stepOp_pick', pickV_bool, stepOp_new, stepOp_box, stepOp_ld1, stepOp_ldn, stepOp_st, stepOp_nchk, stepOp_bin, stepOp_eql, stepOp_un, stepOp_cvt, stepOp_idc, stepOp_slA, stepOp_fad, stepOp_iadA, stepOp_iadV, stepOp_ixS, stepOp_ext, stepOp_lenS, stepOp_lenV, stepOp_lenN, stepOp_toU, stepOp_frU, binV_add, binV_sub, binV_mul, binV_and, binV_or, binV_xor, binV_andNot, binV_eql, binV_neq, binV_lss, binV_leq, binV_gtr, binV_geq, binV_quo, binV_rem, binV_shl, binV_shr, binV_seql, binV_sneq, binV_sadd, unV_neg, unV_not, eqV_bool, addr_ptr, addr, cellsOf_int, cellsOf_bool, cellsOf_string, cellsOf_ptr, cellsOf_slice, cellsOf_bytes, AMem.size_push, AMem.size_set, AMem.get_push, AMem.get_set, ifp, ifn, wrap_i64, wrap_u64, wrap_u8, wrap_i32, Option.map_some, Option.some.injEq, reduceCtorEq, if_true, if_false, eq_self, true_and, and_true, Bool.true_and, Bool.and_true, Bool.false_or, Bool.or_false, Bool.not_true, Bool.not_false, beq_self_eq_true, Bool.false_and, Bool.and_false, Bool.true_or, Bool.or_true, Nat.reduceEqDiff, Nat.reduceAdd, Nat.reduceMul, Nat.reduceSub, Nat.mul_one, Nat.add_zero, Nat.zero_add, Nat.zero_mul, Int.toNat_natCast, Int.reduceToNat, Int.reduceEq, Int.reduceLT, Int.reduceLE, Int.reduceAdd, Int.reduceSub, Int.reduceMul, ne_eq, not_false_eq_true, List.map_cons, List.map_nil, decide_true, decide_false, decide_eq_true_eq, rd, wr, splice, List.length_cons, List.length_nil, List.length_map, List.length_append, List.take_succ_cons, List.take_zero, List.drop_succ_cons, List.drop_zero, List.drop_nil, List.cons_append, List.nil_append, List.append_nil, fill_byte, srcLen_slice, srcLen_string, srcCells_slice, srcCells_string, all_int, all_bytes, stepOp_bldSl, stepOp_app, stepOp_lenV, F22, hm, hm', stepOp_sdat, stepOp_ustr, e2, e3]
    refine ⟨Nat.le_refl _, fun x hx hxb => ?_⟩
    simp (implicitDefEqProofs := false) (disch := omega) only [amS, Nat.reduceBEq, reduceCtorEq, Nat.reduceEqDiff, Nat.reduceAdd, Nat.reduceMul, Nat.reduceSub, Int.reduceToNat, Int.reduceEq, Int.reduceLT, Int.reduceLE, Int.reduceAdd, Int.reduceSub, Int.reduceMul, reduceIte, resVs, resV, packV, initT, addr]
end Go.Proofs.Ytighienjnhglnaa.N
namespace Go.Proofs.Ytighienjnhglnaa.N
open Go Go.AM
set_option maxRecDepth 100000
set_option linter.unusedVariables false
set_option linter.unusedSimpArgs false

theorem shl_u64 (w : Nat) : shl .u64 (w : Int) 8 = ((w * 2 ^ 8 % 2 ^ 64 : Nat) : Int) := by
  simp [shl, IntKind.wrap, IntKind.bits, IntKind.signed]

theorem letters_ok (m : AMem) (l : List UInt8) (hl : l.length = 32) :
    ACall Try.prog 1 10 [.agg (l.map byteV).toArray] m fun r m' => r = .ret (.string ⟨(lettersTo (l.take 20) 32).toArray⟩) ∧ m' = m := by
  refine ACall.forget (Q := fun r m' => r = .ret (.string ⟨(lettersTo (l.take 20) 32).toArray⟩) ∧ ∀ x, x < m.size → m'.get x = m.get x) ?_ ?_
  · refine ACall_of_W (fn := Try.f10) rfl rfl F10_ok (by simp [F10]) ?_
    have hl20 : (l.take 20).length = 20 := by simp [hl]
    generalize hd : l.take 20 = d at *
    simp (implicitDefEqProofs := false) (disch := omega) only [amS, Nat.reduceBEq, reduceCtorEq, Nat.reduceEqDiff, Nat.reduceAdd, Nat.reduceMul, Nat.reduceSub, Int.reduceToNat, Int.reduceEq, Int.reduceLT, Int.reduceLE, Int.reduceAdd, Int.reduceSub, Int.reduceMul, reduceIte, resVs, resV, packV, initT, addr, F10, cut, bnd]
    refine W_loop (fun n s => ∃ j e h, j ≤ 20 ∧ n = 20 - j ∧ 8 * j = 5 * e + h ∧ h < 5 ∧ s.ds = [] ∧ s.t 3 = .pointer (some ⟨m.size + 1, 0, none⟩) ∧ s.t 4 = .int .u64 ((bigN (d.take j) % 2 ^ 64 : Nat) : Int) ∧ s.t 5 = .int .i64 h ∧
      s.t 8 = .slice (some ⟨m.size, 0, none⟩) 20 32 ∧ s.t 9 = .int .i64 20 ∧ s.t 10 = .int .i64 j ∧ s.m.get m.size = .cells (l.map byteV) 29 true .exact ∧
      Bld s.m (m.size + 2) (m.size + 1) (lettersTo d e) ∧ ∀ x, x < m.size → s.m.get x = m.get x) 20 ⟨0, 0, 0, by omega, by omega, by omega, by omega, rfl, ?_, ?_, ?_, ?_, ?_, ?_, ?_, ?_, ?_⟩ ?_
    · simp (implicitDefEqProofs := false) (disch := omega) only [amS, Nat.reduceBEq, reduceCtorEq, Nat.reduceEqDiff, Nat.reduceAdd, Nat.reduceMul, Nat.reduceSub, Int.reduceToNat, Int.reduceEq, Int.reduceLT, Int.reduceLE, Int.reduceAdd, Int.reduceSub, Int.reduceMul, reduceIte, resVs, resV, packV, initT, addr]
    · simp (implicitDefEqProofs := false) (disch := omega) only [amS, Nat.reduceBEq, reduceCtorEq, Nat.reduceEqDiff, Nat.reduceAdd, Nat.reduceMul, Nat.reduceSub, Int.reduceToNat, Int.reduceEq, Int.reduceLT, Int.reduceLE, Int.reduceAdd, Int.reduceSub, Int.reduceMul, reduceIte, resVs, resV, packV, initT, addr]; rfl
    · simp (implicitDefEqProofs := false) (disch := omega) only [amS, Nat.reduceBEq, reduceCtorEq, Nat.reduceEqDiff, Nat.reduceAdd, Nat.reduceMul, Nat.reduceSub, Int.reduceToNat, Int.reduceEq, Int.reduceLT, Int.reduceLE, Int.reduceAdd, Int.reduceSub, Int.reduceMul, reduceIte, resVs, resV, packV, initT, addr]; rfl
    · simp (implicitDefEqProofs := false) (disch := omega) only [amS, Nat.reduceBEq, reduceCtorEq, Nat.reduceEqDiff, Nat.reduceAdd, Nat.reduceMul, Nat.reduceSub, Int.reduceToNat, Int.reduceEq, Int.reduceLT, Int.reduceLE, Int.reduceAdd, Int.reduceSub, Int.reduceMul, reduceIte, resVs, resV, packV, initT, addr]
    · simp (implicitDefEqProofs := false) (disch := omega) only [amS, Nat.reduceBEq, reduceCtorEq, Nat.reduceEqDiff, Nat.reduceAdd, Nat.reduceMul, Nat.reduceSub, Int.reduceToNat, Int.reduceEq, Int.reduceLT, Int.reduceLE, Int.reduceAdd, Int.reduceSub, Int.reduceMul, reduceIte, resVs, resV, packV, initT, addr]; rfl
    · simp (implicitDefEqProofs := false) (disch := omega) only [amS, Nat.reduceBEq, reduceCtorEq, Nat.reduceEqDiff, Nat.reduceAdd, Nat.reduceMul, Nat.reduceSub, Int.reduceToNat, Int.reduceEq, Int.reduceLT, Int.reduceLE, Int.reduceAdd, Int.reduceSub, Int.reduceMul, reduceIte, resVs, resV, packV, initT, addr]; rfl
    · simp (implicitDefEqProofs := false) (disch := omega) only [amS, Nat.reduceBEq, reduceCtorEq, Nat.reduceEqDiff, Nat.reduceAdd, Nat.reduceMul, Nat.reduceSub, Int.reduceToNat, Int.reduceEq, Int.reduceLT, Int.reduceLE, Int.reduceAdd, Int.reduceSub, Int.reduceMul, reduceIte, resVs, resV, packV, initT, addr]
    · exact ⟨by simp (implicitDefEqProofs := false) (disch := omega) only [amS, Nat.reduceBEq, reduceCtorEq, Nat.reduceEqDiff, Nat.reduceAdd, Nat.reduceMul, Nat.reduceSub, Int.reduceToNat, Int.reduceEq, Int.reduceLT, Int.reduceLE, Int.reduceAdd, Int.reduceSub, Int.reduceMul, reduceIte, resVs, resV, packV, initT, addr]; omega, by simp (implicitDefEqProofs := false) (disch := omega) only [amS, Nat.reduceBEq, reduceCtorEq, Nat.reduceEqDiff, Nat.reduceAdd, Nat.reduceMul, Nat.reduceSub, Int.reduceToNat, Int.reduceEq, Int.reduceLT, Int.reduceLE, Int.reduceAdd, Int.reduceSub, Int.reduceMul, reduceIte, resVs, resV, packV, initT, addr]; omega, .inl ⟨by simp (implicitDefEqProofs := false) (disch := omega) only [amS, Nat.reduceBEq, reduceCtorEq, Nat.reduceEqDiff, Nat.reduceAdd, Nat.reduceMul, Nat.reduceSub, Int.reduceToNat, Int.reduceEq, Int.reduceLT, Int.reduceLE, Int.reduceAdd, Int.reduceSub, Int.reduceMul, reduceIte, resVs, resV, packV, initT, addr], rfl⟩⟩
    · intro x hx; simp (implicitDefEqProofs := false) (disch := omega) only [amS, Nat.reduceBEq, reduceCtorEq, Nat.reduceEqDiff, Nat.reduceAdd, Nat.reduceMul, Nat.reduceSub, Int.reduceToNat, Int.reduceEq, Int.reduceLT, Int.reduceLE, Int.reduceAdd, Int.reduceSub, Int.reduceMul, reduceIte, resVs, resV, packV, initT, addr]
    · rintro n t m1 ds ⟨j, e, h, hj, rfl, hje, hh, rfl, t3, t4, t5, t8, t9, t10, hm, hB, hold⟩
      simp only at t3 t4 t5 t8 t9 t10 hm hB hold
      simp (implicitDefEqProofs := false) (disch := omega) only [amS, Nat.reduceBEq, reduceCtorEq, Nat.reduceEqDiff, Nat.reduceAdd, Nat.reduceMul, Nat.reduceSub, Int.reduceToNat, Int.reduceEq, Int.reduceLT, Int.reduceLE, Int.reduceAdd, Int.reduceSub, Int.reduceMul, reduceIte, resVs, resV, packV, initT, addr, F10_l0, t3, t4, t5, t8, t9, t10]
      refine BoolW_dec (fun hlt => ?_) (fun hlt => ?_)
      · have hj20 : j < 20 := by omega
        have hg : rd m1 m.size (0 + j) 1 = some [byteV (d[j]'(by omega))] := by
          rw [rd_one' hm]
          subst hd
          simp [hl, show j < 32 by omega]
        rw [Nat.zero_add] at hg
        have hx := (d[j]'(by omega)).toNat_lt
        have e1 := shl_u64 (bigN (d.take j) % 2 ^ 64)
        have e2 : ibits .or .u64 (((bigN (d.take j) % 2 ^ 64) * 2 ^ 8 % 2 ^ 64 : Nat) : Int) ((d[j]'(by omega)).toNat : Int) = ((bigN (d.take (j + 1)) % 2 ^ 64 : Nat) : Int) := by
          rw [ibits_or_nat (by rw [max_u64]; omega) (by rw [max_u64]; omega), word_next _ _ (by omega), bigN_take_succ (by omega)]
        simp (implicitDefEqProofs := false) (disch := omega) only [amS, Nat.reduceBEq, reduceCtorEq, Nat.reduceEqDiff, Nat.reduceAdd, Nat.reduceMul, Nat.reduceSub, Int.reduceToNat, Int.reduceEq, Int.reduceLT, Int.reduceLE, Int.reduceAdd, Int.reduceSub, Int.reduceMul, reduceIte, resVs, resV, packV, initT, addr, hg, byteV, e1, e2, t3, t4, t5, t8, t9, t10]
        refine W_loop (fun n s => ∃ e h : Nat, n = h ∧ 8 * (j + 1) = 5 * e + h ∧ h ≤ 12 ∧ s.ds = [] ∧ s.t 3 = .pointer (some ⟨m.size + 1, 0, none⟩) ∧ s.t 4 = .int .u64 ((bigN (d.take (j + 1)) % 2 ^ 64 : Nat) : Int) ∧ s.t 5 = .int .i64 h ∧
          s.t 8 = .slice (some ⟨m.size, 0, none⟩) 20 32 ∧ s.t 9 = .int .i64 20 ∧ s.t 10 = .int .i64 j ∧ s.m.get m.size = .cells (l.map byteV) 29 true .exact ∧
          Bld s.m (m.size + 2) (m.size + 1) (lettersTo d e) ∧ ∀ x, x < m.size → s.m.get x = m.get x) (h + 8) ⟨e, h + 8, rfl, by omega, by omega, rfl, ?_, ?_, ?_, ?_, ?_, ?_, hm, hB, hold⟩ ?_
        · simp (implicitDefEqProofs := false) (disch := omega) only [amS, Nat.reduceBEq, reduceCtorEq, Nat.reduceEqDiff, Nat.reduceAdd, Nat.reduceMul, Nat.reduceSub, Int.reduceToNat, Int.reduceEq, Int.reduceLT, Int.reduceLE, Int.reduceAdd, Int.reduceSub, Int.reduceMul, reduceIte, resVs, resV, packV, initT, addr, t3]
        · simp (implicitDefEqProofs := false) (disch := omega) only [amS, Nat.reduceBEq, reduceCtorEq, Nat.reduceEqDiff, Nat.reduceAdd, Nat.reduceMul, Nat.reduceSub, Int.reduceToNat, Int.reduceEq, Int.reduceLT, Int.reduceLE, Int.reduceAdd, Int.reduceSub, Int.reduceMul, reduceIte, resVs, resV, packV, initT, addr]
        · simp (implicitDefEqProofs := false) (disch := omega) only [amS, Nat.reduceBEq, reduceCtorEq, Nat.reduceEqDiff, Nat.reduceAdd, Nat.reduceMul, Nat.reduceSub, Int.reduceToNat, Int.reduceEq, Int.reduceLT, Int.reduceLE, Int.reduceAdd, Int.reduceSub, Int.reduceMul, reduceIte, resVs, resV, packV, initT, addr]; rfl
        · simp (implicitDefEqProofs := false) (disch := omega) only [amS, Nat.reduceBEq, reduceCtorEq, Nat.reduceEqDiff, Nat.reduceAdd, Nat.reduceMul, Nat.reduceSub, Int.reduceToNat, Int.reduceEq, Int.reduceLT, Int.reduceLE, Int.reduceAdd, Int.reduceSub, Int.reduceMul, reduceIte, resVs, resV, packV, initT, addr, t8]
        · simp (implicitDefEqProofs := false) (disch := omega) only [amS, Nat.reduceBEq, reduceCtorEq, Nat.reduceEqDiff, Nat.reduceAdd, Nat.reduceMul, Nat.reduceSub, Int.reduceToNat, Int.reduceEq, Int.reduceLT, Int.reduceLE, Int.reduceAdd, Int.reduceSub, Int.reduceMul, reduceIte, resVs, resV, packV, initT, addr, t9]
        · simp (implicitDefEqProofs := false) (disch := omega) only [amS, Nat.reduceBEq, reduceCtorEq, Nat.reduceEqDiff, Nat.reduceAdd, Nat.reduceMul, Nat.reduceSub, Int.reduceToNat, Int.reduceEq, Int.reduceLT, Int.reduceLE, Int.reduceAdd, Int.reduceSub, Int.reduceMul, reduceIte, resVs, resV, packV, initT, addr, t10]
        · clear hm hB hold t3 t4 t5 t8 t9 t10 hje hh e1 e2 hg
          rintro n t m1 ds ⟨e, h, rfl, hje, hh, rfl, t3, t4, t5, t8, t9, t10, hm, hB, hold⟩
          simp only at t3 t4 t5 t8 t9 t10 hm hB hold
          simp (implicitDefEqProofs := false) (disch := omega) only [amS, Nat.reduceBEq, reduceCtorEq, Nat.reduceEqDiff, Nat.reduceAdd, Nat.reduceMul, Nat.reduceSub, Int.reduceToNat, Int.reduceEq, Int.reduceLT, Int.reduceLE, Int.reduceAdd, Int.reduceSub, Int.reduceMul, reduceIte, resVs, resV, packV, initT, addr, F10_l1, t3, t4, t5, t8, t9, t10]
          refine BoolW_dec (fun h5 => ?_) (fun h5 => ?_)
          · obtain ⟨k, rfl⟩ : ∃ k, n = k + 5 := ⟨n - 5, by omega⟩
            have hk : ((k + 5 : Nat) : Int) - 5 = (k : Int) := by omega
            have hek : e < 32 := by omega
            have hv := letV_at hl20 (e := e) hj20 (h := k) (by omega)
            have hw : (bigN (d.take (j + 1)) % 2 ^ 64) < 2 ^ 64 := Nat.mod_lt _ (by omega)
            have e1 : shr .u64 ((bigN (d.take (j + 1)) % 2 ^ 64 : Nat) : Int) (k : Int) = (((bigN (d.take (j + 1)) % 2 ^ 64) >>> k : Nat) : Int) := shr_nat .u64 _ _ (by simp [IntKind.bits]; omega)
            have hle := Nat.shiftRight_le (bigN (d.take (j + 1)) % 2 ^ 64) k
            have e2 : ibits .and .u64 (((bigN (d.take (j + 1)) % 2 ^ 64) >>> k : Nat) : Int) 31 = ((letV d e : Nat) : Int) := by
              rw [show (31 : Int) = ((31 : Nat) : Int) from rfl, ibits_and_nat (k := .u64) (by rw [max_u64]; generalize (bigN (d.take (j + 1)) % 2 ^ 64) >>> k = y at *; omega) (by decide), word_letter _ _ (by omega), hv]
            have hs := alpha_at (letV d e) (letV_lt d e)
            simp (implicitDefEqProofs := false) (disch := omega) only [amS, Nat.reduceBEq, reduceCtorEq, Nat.reduceEqDiff, Nat.reduceAdd, Nat.reduceMul, Nat.reduceSub, Int.reduceToNat, Int.reduceEq, Int.reduceLT, Int.reduceLE, Int.reduceAdd, Int.reduceSub, Int.reduceMul, reduceIte, resVs, resV, packV, initT, addr, hk, e1, e2, hs, t3]
            refine (writeByte_ok m1 (m.size + 2) (m.size + 1) (lettersTo d e) (letAt d e) hB (by rw [lettersTo_length]; omega)).mono ?_
            rintro r m2 ⟨rfl, hB2, hsz, hold2⟩
            simp (implicitDefEqProofs := false) (disch := omega) only [amS, Nat.reduceBEq, reduceCtorEq, Nat.reduceEqDiff, Nat.reduceAdd, Nat.reduceMul, Nat.reduceSub, Int.reduceToNat, Int.reduceEq, Int.reduceLT, Int.reduceLE, Int.reduceAdd, Int.reduceSub, Int.reduceMul, reduceIte, resVs, resV, packV, initT, addr, t3, t4, t8, t9, t10]
            refine ⟨k, by omega, e + 1, k, rfl, by omega, by omega, rfl, by simp (implicitDefEqProofs := false) (disch := omega) only [amS, Nat.reduceBEq, reduceCtorEq, Nat.reduceEqDiff, Nat.reduceAdd, Nat.reduceMul, Nat.reduceSub, Int.reduceToNat, Int.reduceEq, Int.reduceLT, Int.reduceLE, Int.reduceAdd, Int.reduceSub, Int.reduceMul, reduceIte, resVs, resV, packV, initT, addr, t3], by simp (implicitDefEqProofs := false) (disch := omega) only [amS, Nat.reduceBEq, reduceCtorEq, Nat.reduceEqDiff, Nat.reduceAdd, Nat.reduceMul, Nat.reduceSub, Int.reduceToNat, Int.reduceEq, Int.reduceLT, Int.reduceLE, Int.reduceAdd, Int.reduceSub, Int.reduceMul, reduceIte, resVs, resV, packV, initT, addr, t4], by simp (implicitDefEqProofs := false) (disch := omega) only [amS, Nat.reduceBEq, reduceCtorEq, Nat.reduceEqDiff, Nat.reduceAdd, Nat.reduceMul, Nat.reduceSub, Int.reduceToNat, Int.reduceEq, Int.reduceLT, Int.reduceLE, Int.reduceAdd, Int.reduceSub, Int.reduceMul, reduceIte, resVs, resV, packV, initT, addr], by simp (implicitDefEqProofs := false) (disch := omega) only [amS, Nat.reduceBEq, reduceCtorEq, Nat.reduceEqDiff, Nat.reduceAdd, Nat.reduceMul, Nat.reduceSub, Int.reduceToNat, Int.reduceEq, Int.reduceLT, Int.reduceLE, Int.reduceAdd, Int.reduceSub, Int.reduceMul, reduceIte, resVs, resV, packV, initT, addr, t8], by simp (implicitDefEqProofs := false) (disch := omega) only [amS, Nat.reduceBEq, reduceCtorEq, Nat.reduceEqDiff, Nat.reduceAdd, Nat.reduceMul, Nat.reduceSub, Int.reduceToNat, Int.reduceEq, Int.reduceLT, Int.reduceLE, Int.reduceAdd, Int.reduceSub, Int.reduceMul, reduceIte, resVs, resV, packV, initT, addr, t9], by simp (implicitDefEqProofs := false) (disch := omega) only [amS, Nat.reduceBEq, reduceCtorEq, Nat.reduceEqDiff, Nat.reduceAdd, Nat.reduceMul, Nat.reduceSub, Int.reduceToNat, Int.reduceEq, Int.reduceLT, Int.reduceLE, Int.reduceAdd, Int.reduceSub, Int.reduceMul, reduceIte, resVs, resV, packV, initT, addr, t10], ?_, by rw [lettersTo_succ]; exact hB2, fun x hx => ?_⟩
            · rw [hold2 _ (by omega) (by omega)]; exact hm
            · rw [hold2 x (by omega) (by omega)]; exact hold x hx
          · refine ⟨20 - (j + 1), by omega, j + 1, e, n, by omega, rfl, hje, by omega, rfl, by simp (implicitDefEqProofs := false) (disch := omega) only [amS, Nat.reduceBEq, reduceCtorEq, Nat.reduceEqDiff, Nat.reduceAdd, Nat.reduceMul, Nat.reduceSub, Int.reduceToNat, Int.reduceEq, Int.reduceLT, Int.reduceLE, Int.reduceAdd, Int.reduceSub, Int.reduceMul, reduceIte, resVs, resV, packV, initT, addr, t3], by simp (implicitDefEqProofs := false) (disch := omega) only [amS, Nat.reduceBEq, reduceCtorEq, Nat.reduceEqDiff, Nat.reduceAdd, Nat.reduceMul, Nat.reduceSub, Int.reduceToNat, Int.reduceEq, Int.reduceLT, Int.reduceLE, Int.reduceAdd, Int.reduceSub, Int.reduceMul, reduceIte, resVs, resV, packV, initT, addr, t4], by simp (implicitDefEqProofs := false) (disch := omega) only [amS, Nat.reduceBEq, reduceCtorEq, Nat.reduceEqDiff, Nat.reduceAdd, Nat.reduceMul, Nat.reduceSub, Int.reduceToNat, Int.reduceEq, Int.reduceLT, Int.reduceLE, Int.reduceAdd, Int.reduceSub, Int.reduceMul, reduceIte, resVs, resV, packV, initT, addr, t5], by simp (implicitDefEqProofs := false) (disch := omega) only [amS, Nat.reduceBEq, reduceCtorEq, Nat.reduceEqDiff, Nat.reduceAdd, Nat.reduceMul, Nat.reduceSub, Int.reduceToNat, Int.reduceEq, Int.reduceLT, Int.reduceLE, Int.reduceAdd, Int.reduceSub, Int.reduceMul, reduceIte, resVs, resV, packV, initT, addr, t8], by simp (implicitDefEqProofs := false) (disch := omega) only [amS, Nat.reduceBEq, reduceCtorEq, Nat.reduceEqDiff, Nat.reduceAdd, Nat.reduceMul, Nat.reduceSub, Int.reduceToNat, Int.reduceEq, Int.reduceLT, Int.reduceLE, Int.reduceAdd, Int.reduceSub, Int.reduceMul, reduceIte, resVs, resV, packV, initT, addr, t9], by simp (implicitDefEqProofs := false) (disch := omega) only [amS, Nat.reduceBEq, reduceCtorEq, Nat.reduceEqDiff, Nat.reduceAdd, Nat.reduceMul, Nat.reduceSub, Int.reduceToNat, Int.reduceEq, Int.reduceLT, Int.reduceLE, Int.reduceAdd, Int.reduceSub, Int.reduceMul, reduceIte, resVs, resV, packV, initT, addr, t10]; rfl, hm, hB, hold⟩
      · have he : e = 32 := by omega
        subst he
        refine (bldString_ok m1 (m.size + 2) (m.size + 1) (lettersTo d 32) hB (by rw [lettersTo_length]; omega)).mono ?_
        rintro r m2 ⟨rfl, hsz, hold2⟩
        simp (implicitDefEqProofs := false) (disch := omega) only [amS, Nat.reduceBEq, reduceCtorEq, Nat.reduceEqDiff, Nat.reduceAdd, Nat.reduceMul, Nat.reduceSub, Int.reduceToNat, Int.reduceEq, Int.reduceLT, Int.reduceLE, Int.reduceAdd, Int.reduceSub, Int.reduceMul, reduceIte, resVs, resV, packV, initT, addr]
        exact fun x hx => by rw [hold2 x (by omega) (by omega)]; exact hold x hx
  · rintro r m' ⟨rfl, h⟩
    exact ⟨⟨_, rfl, .string _⟩, h, rfl, rfl⟩
end Go.Proofs.Ytighienjnhglnaa.N
namespace Go.Proofs.Ytighienjnhglnaa.N
open Go Go.AM
set_option maxRecDepth 100000
set_option linter.unusedVariables false
set_option linter.unusedSimpArgs false

end Go.Proofs.Ytighienjnhglnaa.N
namespace Go.Proofs.Ytighienjnhglnaa.N
open Go Go.AM
set_option maxRecDepth 100000
set_option linter.unusedVariables false
set_option linter.unusedSimpArgs false

end Go.Proofs.Ytighienjnhglnaa.N
namespace Go.Proofs.Ytighienjnhglnaa.N
open Go Go.AM
set_option maxRecDepth 100000
set_option linter.unusedVariables false
set_option linter.unusedSimpArgs false

/-- A row of bytes that grows. -/
def Buf (e : TypeId) (M : AMem) (B : Nat) (v : Value) (l : List UInt8) : Prop :=
  B ≤ M.size ∧ ((l = [] ∧ v = .slice none 0 0) ∨ ∃ b', B ≤ b' ∧ b' < M.size ∧ l ≠ [] ∧ v = .slice (some ⟨b', 0, none⟩) l.length openCap ∧ M.get b' = .cells (l.map byteV) e true (.room [.int .u8 0]))

theorem Buf.push {e : TypeId} {M : AMem} {B : Nat} {v : Value} {l : List UInt8} (h : Buf e M B v l) (o : AObj) : Buf e (M.push o) B v l := by
  obtain ⟨h0, h | ⟨b', h1, h2, h3, h4, h5⟩⟩ := h
  · exact ⟨by simp [AMem.push]; omega, .inl h⟩
  · exact ⟨by simp [AMem.push]; omega, .inr ⟨b', h1, by simp [AMem.push]; omega, h3, h4, by rw [AMem.get_push_ne _ _ (by omega)]; exact h5⟩⟩

theorem Buf.app {e : TypeId} {M : AMem} {B : Nat} {v : Value} {l : List UInt8} (h : Buf e M B v l) (hl : l.length ≤ 100000) (c : UInt8) :
    ∃ v' M', appendTo e 1 1 [.int .u8 0] v 1 [.int .u8 c.toNat] M = some (v', M') ∧ Buf e M' B v' (l ++ [c]) ∧ M.size ≤ M'.size ∧ ∀ x, x < B → M'.get x = M.get x := by
  obtain ⟨h0, ⟨rfl, rfl⟩ | ⟨b', h1, h2, h3, rfl, h5⟩⟩ := h
  · refine ⟨_, _, appendTo_nil (by omega) (by omega) (by omega), ⟨by simp [AMem.push]; omega, .inr ⟨M.size, h0, by simp [AMem.push], by simp, rfl, by rw [AMem.get_push_self]; rfl⟩⟩, by simp [AMem.push], fun x hx => AMem.get_push_ne _ _ (by omega)⟩
  · refine ⟨_, _, appendTo_open h5 eqPL_refl_int rfl (by omega) (by simp) (by omega) (by omega) (by omega), ⟨by simp [AMem.push, AMem.set]; omega, .inr ⟨M.size, h0, by simp [AMem.push, AMem.set], by simp, ?_, ?_⟩⟩, by simp [AMem.push, AMem.set], fun x hx => ?_⟩
    · simp
    · rw [show M.size = (M.set b' .dead).size from rfl, AMem.get_push_self]; simp [byteV]
    · rw [AMem.get_push_ne _ _ (by simp [AMem.set]; omega), AMem.get_set_ne _ _ (by omega)]

end Go.Proofs.Ytighienjnhglnaa.N
namespace Go.Proofs.Ytighienjnhglnaa.N
open Go Go.AM
set_option maxRecDepth 100000
set_option linter.unusedVariables false
set_option linter.unusedSimpArgs false

theorem z20 (l : List UInt8) : [Value.int .u8 0, .int .u8 0, .int .u8 0, .int .u8 0, .int .u8 0, .int .u8 0, .int .u8 0, .int .u8 0, .int .u8 0, .int .u8 0, .int .u8 0, .int .u8 0, .int .u8 0, .int .u8 0, .int .u8 0, .int .u8 0, .int .u8 0, .int .u8 0, .int .u8 0, .int .u8 0] = (outTo l 0).map byteV := by
  rfl

/-- What naming.Bytes gives. -/
def bytesR (l : List UInt8) : List UInt8 × Bool := if l.length = 32 ∧ ∀ c ∈ l, 0 ≤ valZ c then (outTo l 20, true) else (outTo l 0, false)

theorem splice_all {c v : List Value} (h : v.length = c.length) : splice c 0 v = v := by simp [splice, h]
theorem wr_all {m : AMem} {b : Nat} {v : List Value} {c : List Value} {e : TypeId} {sp : Spare} (h : m.get b = .cells c e true sp) (hl : v.length = c.length) : wr m b 0 v = some (m.set b (.cells v e true sp)) := by
  rw [wr_at h (by omega), splice_all hl]
theorem outTo_set (l : List UInt8) {n : Nat} (hn : n < 20) : splice ((outTo l n).map byteV) n [byteV (byteAt l n)] = (outTo l (n + 1)).map byteV := by
  have hlen : (outTo l n).length = 20 := outTo_length l n
  apply List.ext_getElem
  · rw [splice_length (by simp [hlen]; omega)]; simp [outTo]
  · intro i h1 h2
    have hi : i < 20 := by simpa [outTo] using h2
    by_cases hin : i = n
    · subst hin
      have := splice_in (c := (outTo l i).map byteV) (o := i) (v := [byteV (byteAt l i)]) (by simp [hlen]; omega) 0 (by simp) (by simpa using h1)
      simp only [Nat.add_zero] at this
      rw [this]
      simp [outTo]
    · rw [splice_out (by simp [hlen]; omega) i (by simp; omega) (by simp [hlen]; omega) h1]
      simp only [outTo, List.map_map, List.getElem_map, List.getElem_range, Function.comp]
      by_cases hlt : i < n
      · simp [hlt, show i < n + 1 by omega]
      · simp [hlt, show ¬ i < n + 1 by omega]

theorem str_get (l : List UInt8) {i : Nat} (h : i < l.length) : (⟨l.toArray⟩ : ByteArray)[i]? = some l[i] := by
  have h2 : i < (⟨l.toArray⟩ : ByteArray).size := by rw [str_size]; exact h
  show (if h : i < (⟨l.toArray⟩ : ByteArray).size then some ((⟨l.toArray⟩ : ByteArray)[i]'h) else none) = _
  rw [dif_pos h2]; rfl

theorem shl5_u64 (w : Nat) : shl .u64 (w : Int) 5 = ((w * 2 ^ 5 % 2 ^ 64 : Nat) : Int) := by
  simp [shl, IntKind.wrap, IntKind.bits, IntKind.signed]
theorem wrap_u8_nat (w : Nat) : IntKind.u8.wrap (w : Int) = ((w % 256 : Nat) : Int) := by simp [IntKind.wrap, IntKind.bits, IntKind.signed]

theorem bytes_ok (m : AMem) (l : List UInt8) :
    ACall Try.prog 1 51 [.string ⟨l.toArray⟩] m fun r m' => r = .ret (.tuple #[.agg ((bytesR l).1.map byteV).toArray, .bool (bytesR l).2]) ∧ m' = m := by
  refine ACall.forget (Q := fun r m' => r = .ret (.tuple #[.agg ((bytesR l).1.map byteV).toArray, .bool (bytesR l).2]) ∧ ∀ x, x < m.size → m'.get x = m.get x) ?_ ?_
  · refine ACall_of_W (fn := Try.f51) rfl rfl F51_ok (by simp [F51]) ?_
    have hlen0 : ((outTo l 0).map byteV).length = 20 := by simp [outTo]
    have hlenN : ∀ n, ((outTo l n).map byteV).length = 20 := fun n => by simp [outTo]
    have ret : ∀ (M : AMem) (n k : Nat), M.get m.size = .cells ((outTo l 0).map byteV) 51 true .exact → M.get (m.size + 1) = .cells ((outTo l n).map byteV) 51 true .exact →
        rd M (m.size + 1) 0 20 = some ((outTo l n).map byteV) ∧ wr M m.size 0 ((outTo l k).map byteV) = some (M.set m.size (.cells ((outTo l k).map byteV) 51 true .exact)) ∧
        rd (M.set m.size (.cells ((outTo l k).map byteV) 51 true .exact)) m.size 0 20 = some ((outTo l k).map byteV) := fun M n k h1 h2 =>
      ⟨rd_all h2 (hlenN n), wr_all h1 (by rw [hlenN, hlenN]), rd_all (AMem.get_set_self _ _ _) (hlenN k)⟩
    simp (implicitDefEqProofs := false) (disch := omega) only [amS, Nat.reduceBEq, reduceCtorEq, Nat.reduceEqDiff, Nat.reduceAdd, Nat.reduceMul, Nat.reduceSub, Int.reduceToNat, Int.reduceEq, Int.reduceLT, Int.reduceLE, Int.reduceAdd, Int.reduceSub, Int.reduceMul, reduceIte, resVs, resV, packV, initT, addr, F51, z20 l]
    have g1 : ((m.push (.cells ((outTo l 0).map byteV) 51 true .exact)).push (.cells ((outTo l 0).map byteV) 51 true .exact)).get m.size = .cells ((outTo l 0).map byteV) 51 true .exact := by simp (implicitDefEqProofs := false) (disch := omega) only [amS, Nat.reduceBEq, reduceCtorEq, Nat.reduceEqDiff, Nat.reduceAdd, Nat.reduceMul, Nat.reduceSub, Int.reduceToNat, Int.reduceEq, Int.reduceLT, Int.reduceLE, Int.reduceAdd, Int.reduceSub, Int.reduceMul, reduceIte, resVs, resV, packV, initT, addr]
    have g2 : ((m.push (.cells ((outTo l 0).map byteV) 51 true .exact)).push (.cells ((outTo l 0).map byteV) 51 true .exact)).get (m.size + 1) = .cells ((outTo l 0).map byteV) 51 true .exact := by simp (implicitDefEqProofs := false) (disch := omega) only [amS, Nat.reduceBEq, reduceCtorEq, Nat.reduceEqDiff, Nat.reduceAdd, Nat.reduceMul, Nat.reduceSub, Int.reduceToNat, Int.reduceEq, Int.reduceLT, Int.reduceLE, Int.reduceAdd, Int.reduceSub, Int.reduceMul, reduceIte, resVs, resV, packV, initT, addr]
    have g3 : ∀ x, x < m.size → ((m.push (.cells ((outTo l 0).map byteV) 51 true .exact)).push (.cells ((outTo l 0).map byteV) 51 true .exact)).get x = m.get x := fun x hx => by simp (implicitDefEqProofs := false) (disch := omega) only [amS, Nat.reduceBEq, reduceCtorEq, Nat.reduceEqDiff, Nat.reduceAdd, Nat.reduceMul, Nat.reduceSub, Int.reduceToNat, Int.reduceEq, Int.reduceLT, Int.reduceLE, Int.reduceAdd, Int.reduceSub, Int.reduceMul, reduceIte, resVs, resV, packV, initT, addr]
    generalize (m.push (.cells ((outTo l 0).map byteV) 51 true .exact)).push (.cells ((outTo l 0).map byteV) 51 true .exact) = M at *
    obtain ⟨r1, w1, r2⟩ := ret M 0 0 g1 g2
    have hfail : ∀ M : AMem, (∀ x, x < m.size → M.get x = m.get x) → (∀ x, x < m.size → (M.set m.size (.cells ((outTo l 0).map byteV) 51 true .exact)).get x = m.get x) := fun M h x hx => by
      rw [AMem.get_set_ne _ _ (by omega)]; exact h x hx
    refine BoolW_of (fun hne => ?_) (fun hne => ?_)
    · have hne' : ¬ l.length = 32 := by rw [str_size] at hne; simp at hne; omega
      simp (implicitDefEqProofs := false) (disch := omega) only [amS, Nat.reduceBEq, reduceCtorEq, Nat.reduceEqDiff, Nat.reduceAdd, Nat.reduceMul, Nat.reduceSub, Int.reduceToNat, Int.reduceEq, Int.reduceLT, Int.reduceLE, Int.reduceAdd, Int.reduceSub, Int.reduceMul, reduceIte, resVs, resV, packV, initT, addr, r1, w1, r2, hlenN]
      exact ⟨by simp [bytesR, hne'], hfail M g3⟩
    · have hl : l.length = 32 := by rw [str_size] at hne; simp at hne; omega
      have hsz : (⟨l.toArray⟩ : ByteArray).size = 32 := by rw [str_size]; exact hl
      refine W_loop (fun N s => ∃ i n h : Nat, i ≤ 32 ∧ N = 32 - i ∧ 5 * i = 8 * n + h ∧ h < 8 ∧ (∀ j (hj : j < 32), j < i → 0 ≤ valZ l[j]) ∧ s.ds = [] ∧ s.t 0 = .string ⟨l.toArray⟩ ∧ s.t 2 = .pointer (some ⟨m.size, 0, none⟩) ∧
        s.t 4 = .pointer (some ⟨m.size + 1, 0, none⟩) ∧ s.t 5 = .int .u64 ((valL (l.take i) % 2 ^ 64 : Nat) : Int) ∧ s.t 6 = .int .i64 h ∧ s.t 7 = .int .i64 n ∧ s.t 15 = .int .i64 32 ∧ s.t 16 = .int .i64 i ∧
        s.m.get m.size = .cells ((outTo l 0).map byteV) 51 true .exact ∧ s.m.get (m.size + 1) = .cells ((outTo l n).map byteV) 51 true .exact ∧ ∀ x, x < m.size → s.m.get x = m.get x) 32
        ⟨0, 0, 0, by omega, by omega, by omega, by omega, fun j hj hji => by omega, rfl, by simp (implicitDefEqProofs := false) (disch := omega) only [amS, Nat.reduceBEq, reduceCtorEq, Nat.reduceEqDiff, Nat.reduceAdd, Nat.reduceMul, Nat.reduceSub, Int.reduceToNat, Int.reduceEq, Int.reduceLT, Int.reduceLE, Int.reduceAdd, Int.reduceSub, Int.reduceMul, reduceIte, resVs, resV, packV, initT, addr], by simp (implicitDefEqProofs := false) (disch := omega) only [amS, Nat.reduceBEq, reduceCtorEq, Nat.reduceEqDiff, Nat.reduceAdd, Nat.reduceMul, Nat.reduceSub, Int.reduceToNat, Int.reduceEq, Int.reduceLT, Int.reduceLE, Int.reduceAdd, Int.reduceSub, Int.reduceMul, reduceIte, resVs, resV, packV, initT, addr], by simp (implicitDefEqProofs := false) (disch := omega) only [amS, Nat.reduceBEq, reduceCtorEq, Nat.reduceEqDiff, Nat.reduceAdd, Nat.reduceMul, Nat.reduceSub, Int.reduceToNat, Int.reduceEq, Int.reduceLT, Int.reduceLE, Int.reduceAdd, Int.reduceSub, Int.reduceMul, reduceIte, resVs, resV, packV, initT, addr], by simp (implicitDefEqProofs := false) (disch := omega) only [amS, Nat.reduceBEq, reduceCtorEq, Nat.reduceEqDiff, Nat.reduceAdd, Nat.reduceMul, Nat.reduceSub, Int.reduceToNat, Int.reduceEq, Int.reduceLT, Int.reduceLE, Int.reduceAdd, Int.reduceSub, Int.reduceMul, reduceIte, resVs, resV, packV, initT, addr]; rfl, by simp (implicitDefEqProofs := false) (disch := omega) only [amS, Nat.reduceBEq, reduceCtorEq, Nat.reduceEqDiff, Nat.reduceAdd, Nat.reduceMul, Nat.reduceSub, Int.reduceToNat, Int.reduceEq, Int.reduceLT, Int.reduceLE, Int.reduceAdd, Int.reduceSub, Int.reduceMul, reduceIte, resVs, resV, packV, initT, addr]; rfl, by simp (implicitDefEqProofs := false) (disch := omega) only [amS, Nat.reduceBEq, reduceCtorEq, Nat.reduceEqDiff, Nat.reduceAdd, Nat.reduceMul, Nat.reduceSub, Int.reduceToNat, Int.reduceEq, Int.reduceLT, Int.reduceLE, Int.reduceAdd, Int.reduceSub, Int.reduceMul, reduceIte, resVs, resV, packV, initT, addr]; rfl, by simp (implicitDefEqProofs := false) (disch := omega) only [amS, Nat.reduceBEq, reduceCtorEq, Nat.reduceEqDiff, Nat.reduceAdd, Nat.reduceMul, Nat.reduceSub, Int.reduceToNat, Int.reduceEq, Int.reduceLT, Int.reduceLE, Int.reduceAdd, Int.reduceSub, Int.reduceMul, reduceIte, resVs, resV, packV, initT, addr, hsz]; rfl, by simp (implicitDefEqProofs := false) (disch := omega) only [amS, Nat.reduceBEq, reduceCtorEq, Nat.reduceEqDiff, Nat.reduceAdd, Nat.reduceMul, Nat.reduceSub, Int.reduceToNat, Int.reduceEq, Int.reduceLT, Int.reduceLE, Int.reduceAdd, Int.reduceSub, Int.reduceMul, reduceIte, resVs, resV, packV, initT, addr]; rfl, g1, g2, g3⟩ ?_
      clear g1 g2 g3 r1 r2 w1
      rintro N t M1 ds ⟨i, n, h, hi, rfl, hin, hh, hval, rfl, t0, t2, t4, t5, t6, t7, t15, t16, g1, g2, g3⟩
      simp only at t0 t2 t4 t5 t6 t7 t15 t16 g1 g2 g3
      simp (implicitDefEqProofs := false) (disch := omega) only [amS, Nat.reduceBEq, reduceCtorEq, Nat.reduceEqDiff, Nat.reduceAdd, Nat.reduceMul, Nat.reduceSub, Int.reduceToNat, Int.reduceEq, Int.reduceLT, Int.reduceLE, Int.reduceAdd, Int.reduceSub, Int.reduceMul, reduceIte, resVs, resV, packV, initT, addr, F51_l0, t0, t2, t4, t5, t6, t7, t15, t16]
      refine BoolW_dec (fun hlt => ?_) (fun hlt => ?_)
      · have hi32 : i < 32 := by omega
        have hs := str_get l (i := i) (by omega)
        simp (implicitDefEqProofs := false) (disch := omega) only [amS, Nat.reduceBEq, reduceCtorEq, Nat.reduceEqDiff, Nat.reduceAdd, Nat.reduceMul, Nat.reduceSub, Int.reduceToNat, Int.reduceEq, Int.reduceLT, Int.reduceLE, Int.reduceAdd, Int.reduceSub, Int.reduceMul, reduceIte, resVs, resV, packV, initT, addr, hs, t0, t2, t4, t5, t6, t7, t15, t16]
        refine (indexByte_ok M1 _ (l[i]'(by omega))).mono ?_
        rintro r m' ⟨rfl, rfl⟩
        rw [firstIdx_alpha]
        have hv1 := valZ_lt (l[i]'(by omega))
        simp (implicitDefEqProofs := false) (disch := omega) only [amS, Nat.reduceBEq, reduceCtorEq, Nat.reduceEqDiff, Nat.reduceAdd, Nat.reduceMul, Nat.reduceSub, Int.reduceToNat, Int.reduceEq, Int.reduceLT, Int.reduceLE, Int.reduceAdd, Int.reduceSub, Int.reduceMul, reduceIte, resVs, resV, packV, initT, addr, t0, t2, t4, t5, t6, t7, t15, t16, z20 l]
        refine BoolW_dec (fun hv => ?_) (fun hv => ?_)
        · obtain ⟨r1, w1, r2⟩ := ret m' n 0 g1 g2
          have hb : bytesR l = (outTo l 0, false) := by
            unfold bytesR
            rw [if_neg]
            rintro ⟨_, hall⟩
            have := hall (l[i]'(by omega)) (List.getElem_mem _)
            omega
          simp (implicitDefEqProofs := false) (disch := omega) only [amS, Nat.reduceBEq, reduceCtorEq, Nat.reduceEqDiff, Nat.reduceAdd, Nat.reduceMul, Nat.reduceSub, Int.reduceToNat, Int.reduceEq, Int.reduceLT, Int.reduceLE, Int.reduceAdd, Int.reduceSub, Int.reduceMul, reduceIte, resVs, resV, packV, initT, addr, stepOp_bld, fill, w1, r2, hlenN, t2, hb, List.map_nil]
          exact hfail m' g3
        · obtain ⟨v, hvv⟩ : ∃ v : Nat, valZ (l[i]'(by omega)) = v := ⟨(valZ (l[i]'(by omega))).toNat, by omega⟩
          have hv32 : v < 32 := by omega
          have hvN : (valZ (l[i]'(by omega))).toNat = v := by omega
          have e1 := shl5_u64 (valL (l.take i) % 2 ^ 64)
          have e2 : ibits .or .u64 (((valL (l.take i) % 2 ^ 64) * 2 ^ 5 % 2 ^ 64 : Nat) : Int) (v : Int) = ((valL (l.take (i + 1)) % 2 ^ 64 : Nat) : Int) := by
            rw [ibits_or_nat (by rw [max_u64]; omega) (by rw [max_u64]; omega), word5_next _ _ hv32, valL_take_succ (by omega), hvN]
          have hval' : ∀ j (hj : j < 32), j < i + 1 → 0 ≤ valZ l[j] := fun j hj hji => by
            by_cases hje : j = i
            · subst hje; omega
            · exact hval j hj (by omega)
          simp (implicitDefEqProofs := false) (disch := omega) only [amS, Nat.reduceBEq, reduceCtorEq, Nat.reduceEqDiff, Nat.reduceAdd, Nat.reduceMul, Nat.reduceSub, Int.reduceToNat, Int.reduceEq, Int.reduceLT, Int.reduceLE, Int.reduceAdd, Int.reduceSub, Int.reduceMul, reduceIte, resVs, resV, packV, initT, addr, hvv, e1, e2, t0, t2, t4, t5, t6, t7, t15, t16]
          refine BoolW_dec (fun h8 => ?_) (fun h8 => ?_)
          · obtain ⟨k, hk⟩ : ∃ k, h + 5 = k + 8 := ⟨h - 3, by omega⟩
            have hk' : (h : Int) + 5 - 8 = (k : Int) := by omega
            have hw : (valL (l.take (i + 1)) % 2 ^ 64) < 2 ^ 64 := Nat.mod_lt _ (by omega)
            have e3 : shr .u64 ((valL (l.take (i + 1)) % 2 ^ 64 : Nat) : Int) (k : Int) = (((valL (l.take (i + 1)) % 2 ^ 64) >>> k : Nat) : Int) := shr_nat .u64 _ _ (by simp [IntKind.bits]; omega)
            have e4 := wrap_u8_nat ((valL (l.take (i + 1)) % 2 ^ 64) >>> k)
            rw [word_byte _ _ (by omega), byteAt_at hl (n := n) hi32 (by omega)] at e4
            have hn20 : n < 20 := by omega
            have hset := outTo_set l hn20
            have w2 : wr m' (m.size + 1) n [.int .u8 (byteAt l n).toNat] = some (m'.set (m.size + 1) (.cells ((outTo l (n + 1)).map byteV) 51 true .exact)) := by
              rw [← hset]; exact wr_at g2 (by rw [hlenN]; simp; omega)
            simp (implicitDefEqProofs := false) (disch := omega) only [amS, Nat.reduceBEq, reduceCtorEq, Nat.reduceEqDiff, Nat.reduceAdd, Nat.reduceMul, Nat.reduceSub, Int.reduceToNat, Int.reduceEq, Int.reduceLT, Int.reduceLE, Int.reduceAdd, Int.reduceSub, Int.reduceMul, reduceIte, resVs, resV, packV, initT, addr, hk', e3, e4, w2, t0, t2, t4, t5, t6, t7, t15, t16, List.length_cons, List.length_nil]
            refine ⟨32 - (i + 1), by omega, i + 1, n + 1, k, by omega, rfl, by omega, by omega, hval', rfl, by simp (implicitDefEqProofs := false) (disch := omega) only [amS, Nat.reduceBEq, reduceCtorEq, Nat.reduceEqDiff, Nat.reduceAdd, Nat.reduceMul, Nat.reduceSub, Int.reduceToNat, Int.reduceEq, Int.reduceLT, Int.reduceLE, Int.reduceAdd, Int.reduceSub, Int.reduceMul, reduceIte, resVs, resV, packV, initT, addr, t0], by simp (implicitDefEqProofs := false) (disch := omega) only [amS, Nat.reduceBEq, reduceCtorEq, Nat.reduceEqDiff, Nat.reduceAdd, Nat.reduceMul, Nat.reduceSub, Int.reduceToNat, Int.reduceEq, Int.reduceLT, Int.reduceLE, Int.reduceAdd, Int.reduceSub, Int.reduceMul, reduceIte, resVs, resV, packV, initT, addr, t2], by simp (implicitDefEqProofs := false) (disch := omega) only [amS, Nat.reduceBEq, reduceCtorEq, Nat.reduceEqDiff, Nat.reduceAdd, Nat.reduceMul, Nat.reduceSub, Int.reduceToNat, Int.reduceEq, Int.reduceLT, Int.reduceLE, Int.reduceAdd, Int.reduceSub, Int.reduceMul, reduceIte, resVs, resV, packV, initT, addr, t4], by simp (implicitDefEqProofs := false) (disch := omega) only [amS, Nat.reduceBEq, reduceCtorEq, Nat.reduceEqDiff, Nat.reduceAdd, Nat.reduceMul, Nat.reduceSub, Int.reduceToNat, Int.reduceEq, Int.reduceLT, Int.reduceLE, Int.reduceAdd, Int.reduceSub, Int.reduceMul, reduceIte, resVs, resV, packV, initT, addr], by simp (implicitDefEqProofs := false) (disch := omega) only [amS, Nat.reduceBEq, reduceCtorEq, Nat.reduceEqDiff, Nat.reduceAdd, Nat.reduceMul, Nat.reduceSub, Int.reduceToNat, Int.reduceEq, Int.reduceLT, Int.reduceLE, Int.reduceAdd, Int.reduceSub, Int.reduceMul, reduceIte, resVs, resV, packV, initT, addr], by simp (implicitDefEqProofs := false) (disch := omega) only [amS, Nat.reduceBEq, reduceCtorEq, Nat.reduceEqDiff, Nat.reduceAdd, Nat.reduceMul, Nat.reduceSub, Int.reduceToNat, Int.reduceEq, Int.reduceLT, Int.reduceLE, Int.reduceAdd, Int.reduceSub, Int.reduceMul, reduceIte, resVs, resV, packV, initT, addr]; rfl, by simp (implicitDefEqProofs := false) (disch := omega) only [amS, Nat.reduceBEq, reduceCtorEq, Nat.reduceEqDiff, Nat.reduceAdd, Nat.reduceMul, Nat.reduceSub, Int.reduceToNat, Int.reduceEq, Int.reduceLT, Int.reduceLE, Int.reduceAdd, Int.reduceSub, Int.reduceMul, reduceIte, resVs, resV, packV, initT, addr, t15], by simp (implicitDefEqProofs := false) (disch := omega) only [amS, Nat.reduceBEq, reduceCtorEq, Nat.reduceEqDiff, Nat.reduceAdd, Nat.reduceMul, Nat.reduceSub, Int.reduceToNat, Int.reduceEq, Int.reduceLT, Int.reduceLE, Int.reduceAdd, Int.reduceSub, Int.reduceMul, reduceIte, resVs, resV, packV, initT, addr]; rfl, ?_, ?_, fun x hx => ?_⟩
            · rw [AMem.get_set_ne _ _ (by omega)]; exact g1
            · exact AMem.get_set_self _ _ _
            · rw [AMem.get_set_ne _ _ (by omega)]; exact g3 x hx
          · refine ⟨32 - (i + 1), by omega, i + 1, n, h + 5, by omega, rfl, by omega, by omega, hval', rfl, by simp (implicitDefEqProofs := false) (disch := omega) only [amS, Nat.reduceBEq, reduceCtorEq, Nat.reduceEqDiff, Nat.reduceAdd, Nat.reduceMul, Nat.reduceSub, Int.reduceToNat, Int.reduceEq, Int.reduceLT, Int.reduceLE, Int.reduceAdd, Int.reduceSub, Int.reduceMul, reduceIte, resVs, resV, packV, initT, addr, t0], by simp (implicitDefEqProofs := false) (disch := omega) only [amS, Nat.reduceBEq, reduceCtorEq, Nat.reduceEqDiff, Nat.reduceAdd, Nat.reduceMul, Nat.reduceSub, Int.reduceToNat, Int.reduceEq, Int.reduceLT, Int.reduceLE, Int.reduceAdd, Int.reduceSub, Int.reduceMul, reduceIte, resVs, resV, packV, initT, addr, t2], by simp (implicitDefEqProofs := false) (disch := omega) only [amS, Nat.reduceBEq, reduceCtorEq, Nat.reduceEqDiff, Nat.reduceAdd, Nat.reduceMul, Nat.reduceSub, Int.reduceToNat, Int.reduceEq, Int.reduceLT, Int.reduceLE, Int.reduceAdd, Int.reduceSub, Int.reduceMul, reduceIte, resVs, resV, packV, initT, addr, t4], by simp (implicitDefEqProofs := false) (disch := omega) only [amS, Nat.reduceBEq, reduceCtorEq, Nat.reduceEqDiff, Nat.reduceAdd, Nat.reduceMul, Nat.reduceSub, Int.reduceToNat, Int.reduceEq, Int.reduceLT, Int.reduceLE, Int.reduceAdd, Int.reduceSub, Int.reduceMul, reduceIte, resVs, resV, packV, initT, addr], by simp (implicitDefEqProofs := false) (disch := omega) only [amS, Nat.reduceBEq, reduceCtorEq, Nat.reduceEqDiff, Nat.reduceAdd, Nat.reduceMul, Nat.reduceSub, Int.reduceToNat, Int.reduceEq, Int.reduceLT, Int.reduceLE, Int.reduceAdd, Int.reduceSub, Int.reduceMul, reduceIte, resVs, resV, packV, initT, addr]; rfl, by simp (implicitDefEqProofs := false) (disch := omega) only [amS, Nat.reduceBEq, reduceCtorEq, Nat.reduceEqDiff, Nat.reduceAdd, Nat.reduceMul, Nat.reduceSub, Int.reduceToNat, Int.reduceEq, Int.reduceLT, Int.reduceLE, Int.reduceAdd, Int.reduceSub, Int.reduceMul, reduceIte, resVs, resV, packV, initT, addr, t7], by simp (implicitDefEqProofs := false) (disch := omega) only [amS, Nat.reduceBEq, reduceCtorEq, Nat.reduceEqDiff, Nat.reduceAdd, Nat.reduceMul, Nat.reduceSub, Int.reduceToNat, Int.reduceEq, Int.reduceLT, Int.reduceLE, Int.reduceAdd, Int.reduceSub, Int.reduceMul, reduceIte, resVs, resV, packV, initT, addr, t15], by simp (implicitDefEqProofs := false) (disch := omega) only [amS, Nat.reduceBEq, reduceCtorEq, Nat.reduceEqDiff, Nat.reduceAdd, Nat.reduceMul, Nat.reduceSub, Int.reduceToNat, Int.reduceEq, Int.reduceLT, Int.reduceLE, Int.reduceAdd, Int.reduceSub, Int.reduceMul, reduceIte, resVs, resV, packV, initT, addr]; rfl, g1, g2, g3⟩
      · have hi : i = 32 := by omega
        subst hi
        obtain ⟨rfl, rfl⟩ : n = 20 ∧ h = 0 := by omega
        obtain ⟨r1, w1, r2⟩ := ret M1 20 20 g1 g2
        have hb : bytesR l = (outTo l 20, true) := by
          unfold bytesR
          rw [if_pos]
          refine ⟨hl, fun c hc => ?_⟩
          obtain ⟨j, hj, rfl⟩ := List.getElem_of_mem hc
          exact hval j (by omega) (by omega)
        simp (implicitDefEqProofs := false) (disch := omega) only [amS, Nat.reduceBEq, reduceCtorEq, Nat.reduceEqDiff, Nat.reduceAdd, Nat.reduceMul, Nat.reduceSub, Int.reduceToNat, Int.reduceEq, Int.reduceLT, Int.reduceLE, Int.reduceAdd, Int.reduceSub, Int.reduceMul, reduceIte, resVs, resV, packV, initT, addr, r1, w1, r2, hlenN, hb, t2, t4]
        intro x hx
        rw [if_neg (by omega)]; exact g3 x hx
  · rintro r m' ⟨rfl, h⟩
    refine ⟨⟨_, rfl, Plain.tuple ?_⟩, h, rfl, rfl⟩
    intro v hv
    simp at hv
    rcases hv with rfl | rfl
    · exact plain_bytes _
    · exact .bool _
end Go.Proofs.Ytighienjnhglnaa.N
namespace Go.Proofs.Ytighienjnhglnaa.N
open Go Go.AM
set_option maxRecDepth 100000
set_option linter.unusedVariables false
set_option linter.unusedSimpArgs false

theorem get_bang (l : List UInt8) {i : Nat} (h : i < l.length) : (⟨l.toArray⟩ : ByteArray).get! i = l[i] := by
  show (l.toArray)[i]! = l[i]
  simp [h]

theorem decode_low (l : List UInt8) {i : Nat} (h : i < l.length) (hb : l[i].toNat < 128) : Utf8.decode ⟨l.toArray⟩ i = (l[i].toNat, 1) := by
  have hg := get_bang l h
  unfold Utf8.decode
  simp only [Nat.add_zero, hg]
  rw [if_pos hb]

theorem decode_high (l : List UInt8) {i : Nat} (h : i < l.length) (hb : ¬ l[i].toNat < 128) : 128 ≤ (Utf8.decode ⟨l.toArray⟩ i).1 := by
  have hg := get_bang l h
  unfold Utf8.decode
  simp only [Nat.add_zero, hg]
  rw [if_neg hb]
  have hr : 128 ≤ Utf8.runeError := by decide
  repeat' split
  all_goals simp only
  all_goals first | exact hr | omega | (rename_i h; simp at h; omega)

theorem plainZ_high {n : Int} (h : 128 ≤ n) : plainZ n = false := by
  unfold plainZ
  simp
  omega

theorem notPlain_ok (m : AMem) (c : Int) : ACall Try.prog 1 37 [.int .i32 c] m fun r m' => r = .ret (.bool (!plainZ c)) ∧ m' = m := by
  refine ACall_of_W (fn := Try.f37) rfl rfl F37_ok (by simp [F37]) ?_
  simp (implicitDefEqProofs := false) (disch := omega) only [amS, Nat.reduceBEq, reduceCtorEq, Nat.reduceEqDiff, Nat.reduceAdd, Nat.reduceMul, Nat.reduceSub, Int.reduceToNat, Int.reduceEq, Int.reduceLT, Int.reduceLE, Int.reduceAdd, Int.reduceSub, Int.reduceMul, reduceIte, resVs, resV, packV, initT, addr, F37]
  refine (plain_ok m c).mono ?_
  rintro r m' ⟨rfl, rfl⟩
  simp (implicitDefEqProofs := false) (disch := omega) only [amS, Nat.reduceBEq, reduceCtorEq, Nat.reduceEqDiff, Nat.reduceAdd, Nat.reduceMul, Nat.reduceSub, Int.reduceToNat, Int.reduceEq, Int.reduceLT, Int.reduceLE, Int.reduceAdd, Int.reduceSub, Int.reduceMul, reduceIte, resVs, resV, packV, initT, addr]

/-- Are all of them plain? -/
def allP (l : List UInt8) : Bool := l.all fun c => plainZ c.toNat

theorem WI_callv {P : Program} {G : Nat} {Q : AExit → ASt → Prop} {t : Tmps} {m : AMem} {ds : List Deferred} (d : Option Nat) (x : AOpd) (xs : List AOpd) (r : List AIns) (f : FuncId) (hx : x.ev t = .func (.func f) #[] #[]) :
    WI P G (.callv none d x xs :: r) Q ⟨t, m, ds⟩ = ACall P G f (xs.map (·.ev t)) m (CallK d ⟨t, m, ds⟩ (WI P G r Q) Q) := by
  simp [WI, WI1, AIns.guard, wanted, hx]

theorem indexFunc_ok (m : AMem) (l : List UInt8) (hl : l.length ≤ 100000) : ACall Try.prog 1 60 [.string ⟨l.toArray⟩, .func (.func 37) #[] #[], .bool true] m fun r m' => (∃ z, r = .ret (.int .i64 z) ∧ (0 ≤ z ↔ allP l = false)) ∧ m' = m := by
  refine ACall.forget (Q := fun r m' => (∃ z, r = .ret (.int .i64 z) ∧ (0 ≤ z ↔ allP l = false)) ∧ ∀ x, x < m.size → m'.get x = m.get x) ?_ ?_
  · refine ACall_of_W (fn := Try.f60) rfl rfl F60_ok (by simp [F60]) ?_
    have hsz : (⟨l.toArray⟩ : ByteArray).size = l.length := str_size l
    simp (implicitDefEqProofs := false) (disch := omega) only [amS, Nat.reduceBEq, reduceCtorEq, Nat.reduceEqDiff, Nat.reduceAdd, Nat.reduceMul, Nat.reduceSub, Int.reduceToNat, Int.reduceEq, Int.reduceLT, Int.reduceLE, Int.reduceAdd, Int.reduceSub, Int.reduceMul, reduceIte, resVs, resV, packV, initT, addr, F60, stepOp_rng]
    refine W_loop (fun n s => ∃ i, i ≤ l.length ∧ n = l.length - i ∧ s.ds = [] ∧ s.t 1 = .func (.func 37) #[] #[] ∧ s.t 2 = .bool true ∧ s.t 10 = .pointer (some ⟨m.size, 0, none⟩) ∧ s.m.get m.size = .iter ⟨l.toArray⟩ i ∧
      (∀ j (h : j < l.length), j < i → plainZ l[j].toNat = true) ∧ ∀ x, x < m.size → s.m.get x = m.get x) l.length ⟨0, by omega, by omega, rfl, by simp (implicitDefEqProofs := false) (disch := omega) only [amS, Nat.reduceBEq, reduceCtorEq, Nat.reduceEqDiff, Nat.reduceAdd, Nat.reduceMul, Nat.reduceSub, Int.reduceToNat, Int.reduceEq, Int.reduceLT, Int.reduceLE, Int.reduceAdd, Int.reduceSub, Int.reduceMul, reduceIte, resVs, resV, packV, initT, addr], by simp (implicitDefEqProofs := false) (disch := omega) only [amS, Nat.reduceBEq, reduceCtorEq, Nat.reduceEqDiff, Nat.reduceAdd, Nat.reduceMul, Nat.reduceSub, Int.reduceToNat, Int.reduceEq, Int.reduceLT, Int.reduceLE, Int.reduceAdd, Int.reduceSub, Int.reduceMul, reduceIte, resVs, resV, packV, initT, addr], by simp (implicitDefEqProofs := false) (disch := omega) only [amS, Nat.reduceBEq, reduceCtorEq, Nat.reduceEqDiff, Nat.reduceAdd, Nat.reduceMul, Nat.reduceSub, Int.reduceToNat, Int.reduceEq, Int.reduceLT, Int.reduceLE, Int.reduceAdd, Int.reduceSub, Int.reduceMul, reduceIte, resVs, resV, packV, initT, addr], by simp (implicitDefEqProofs := false) (disch := omega) only [amS, Nat.reduceBEq, reduceCtorEq, Nat.reduceEqDiff, Nat.reduceAdd, Nat.reduceMul, Nat.reduceSub, Int.reduceToNat, Int.reduceEq, Int.reduceLT, Int.reduceLE, Int.reduceAdd, Int.reduceSub, Int.reduceMul, reduceIte, resVs, resV, packV, initT, addr], fun j hj hji => by omega, fun x hx => by simp (implicitDefEqProofs := false) (disch := omega) only [amS, Nat.reduceBEq, reduceCtorEq, Nat.reduceEqDiff, Nat.reduceAdd, Nat.reduceMul, Nat.reduceSub, Int.reduceToNat, Int.reduceEq, Int.reduceLT, Int.reduceLE, Int.reduceAdd, Int.reduceSub, Int.reduceMul, reduceIte, resVs, resV, packV, initT, addr]⟩ ?_
    rintro n t m1 ds ⟨i, hi, rfl, rfl, t1, t2, t10, hm, hall, hold⟩
    simp only at t1 t2 t10 hm hall hold
    have a0 : ∀ a b c : Value, #[a, b, c][0]? = some a := fun _ _ _ => rfl
    have a1 : ∀ a b c : Value, #[a, b, c][1]? = some b := fun _ _ _ => rfl
    have a2 : ∀ a b c : Value, #[a, b, c][2]? = some c := fun _ _ _ => rfl
    have a3 : ∀ a : Value, #[a][0]? = some a := fun _ => rfl
    by_cases hlt : i < l.length
    · have hx := l[i].toNat_lt
      have hlow : plainZ (Utf8.decode ⟨l.toArray⟩ i).1 = true → (Utf8.decode ⟨l.toArray⟩ i).2 = 1 ∧ plainZ l[i].toNat = true := fun h => by
        by_cases hb : l[i].toNat < 128
        · rw [decode_low l hlt hb] at h ⊢; exact ⟨rfl, h⟩
        · rw [plainZ_high (by have := decode_high l hlt hb; omega)] at h; cases h
      have hhigh : plainZ (Utf8.decode ⟨l.toArray⟩ i).1 = false → plainZ l[i].toNat = false := fun h => by
        by_cases hb : l[i].toNat < 128
        · rw [decode_low l hlt hb] at h; exact h
        · exact plainZ_high (by omega)
      generalize hdec : Utf8.decode ⟨l.toArray⟩ i = rw at *
      obtain ⟨R, Wd⟩ := rw
      simp only at hlow hhigh
      have hcv := fun (t : Tmps) (m : AMem) (ds : List Deferred) (Q : AExit → ASt → Prop) (xs : List AOpd) (r : List AIns) (h : (AOpd.t 15).ev t = .func (.func 37) #[] #[]) => WI_callv (P := Try.prog) (G := 1) (Q := Q) (t := t) (m := m) (ds := ds) (some 17) (.t 15) xs r 37 h
      simp (implicitDefEqProofs := false) (disch := omega) only [amS, Nat.reduceBEq, reduceCtorEq, Nat.reduceEqDiff, Nat.reduceAdd, Nat.reduceMul, Nat.reduceSub, Int.reduceToNat, Int.reduceEq, Int.reduceLT, Int.reduceLE, Int.reduceAdd, Int.reduceSub, Int.reduceMul, reduceIte, resVs, resV, packV, initT, addr, F60_l0, t1, t2, t10, stepOp_nxt, hm, hsz, hdec, a0, a1, a2]
      rw [hcv _ _ _ _ _ _ (by simp (implicitDefEqProofs := false) (disch := omega) only [amS, Nat.reduceBEq, reduceCtorEq, Nat.reduceEqDiff, Nat.reduceAdd, Nat.reduceMul, Nat.reduceSub, Int.reduceToNat, Int.reduceEq, Int.reduceLT, Int.reduceLE, Int.reduceAdd, Int.reduceSub, Int.reduceMul, reduceIte, resVs, resV, packV, initT, addr, t1])]
      simp (implicitDefEqProofs := false) (disch := omega) only [amS, Nat.reduceBEq, reduceCtorEq, Nat.reduceEqDiff, Nat.reduceAdd, Nat.reduceMul, Nat.reduceSub, Int.reduceToNat, Int.reduceEq, Int.reduceLT, Int.reduceLE, Int.reduceAdd, Int.reduceSub, Int.reduceMul, reduceIte, resVs, resV, packV, initT, addr]
      refine (notPlain_ok _ R).mono ?_
      rintro r m' ⟨rfl, rfl⟩
      simp (implicitDefEqProofs := false) (disch := omega) only [amS, Nat.reduceBEq, reduceCtorEq, Nat.reduceEqDiff, Nat.reduceAdd, Nat.reduceMul, Nat.reduceSub, Int.reduceToNat, Int.reduceEq, Int.reduceLT, Int.reduceLE, Int.reduceAdd, Int.reduceSub, Int.reduceMul, reduceIte, resVs, resV, packV, initT, addr, t1, t2, t10]
      cases hp : plainZ R with
      | true =>
        obtain ⟨rfl, hp2⟩ := hlow hp
        simp (implicitDefEqProofs := false) (disch := omega) only [amS, Nat.reduceBEq, reduceCtorEq, Nat.reduceEqDiff, Nat.reduceAdd, Nat.reduceMul, Nat.reduceSub, Int.reduceToNat, Int.reduceEq, Int.reduceLT, Int.reduceLE, Int.reduceAdd, Int.reduceSub, Int.reduceMul, reduceIte, resVs, resV, packV, initT, addr, Bool.false_eq_true, beq_true]
        refine ⟨l.length - (i + 1), by omega, i + 1, by omega, by omega, rfl, by simp (implicitDefEqProofs := false) (disch := omega) only [amS, Nat.reduceBEq, reduceCtorEq, Nat.reduceEqDiff, Nat.reduceAdd, Nat.reduceMul, Nat.reduceSub, Int.reduceToNat, Int.reduceEq, Int.reduceLT, Int.reduceLE, Int.reduceAdd, Int.reduceSub, Int.reduceMul, reduceIte, resVs, resV, packV, initT, addr, t1], by simp (implicitDefEqProofs := false) (disch := omega) only [amS, Nat.reduceBEq, reduceCtorEq, Nat.reduceEqDiff, Nat.reduceAdd, Nat.reduceMul, Nat.reduceSub, Int.reduceToNat, Int.reduceEq, Int.reduceLT, Int.reduceLE, Int.reduceAdd, Int.reduceSub, Int.reduceMul, reduceIte, resVs, resV, packV, initT, addr, t2], by simp (implicitDefEqProofs := false) (disch := omega) only [amS, Nat.reduceBEq, reduceCtorEq, Nat.reduceEqDiff, Nat.reduceAdd, Nat.reduceMul, Nat.reduceSub, Int.reduceToNat, Int.reduceEq, Int.reduceLT, Int.reduceLE, Int.reduceAdd, Int.reduceSub, Int.reduceMul, reduceIte, resVs, resV, packV, initT, addr, t10], AMem.get_set_self _ _ _, fun j hj hji => ?_, fun x hx => ?_⟩
        · by_cases hje : j = i
          · subst hje; exact hp2
          · exact hall j hj (by omega)
        · rw [AMem.get_set_ne _ _ (by omega)]; exact hold x hx
      | false =>
        simp (implicitDefEqProofs := false) (disch := omega) only [amS, Nat.reduceBEq, reduceCtorEq, Nat.reduceEqDiff, Nat.reduceAdd, Nat.reduceMul, Nat.reduceSub, Int.reduceToNat, Int.reduceEq, Int.reduceLT, Int.reduceLE, Int.reduceAdd, Int.reduceSub, Int.reduceMul, reduceIte, resVs, resV, packV, initT, addr, beq_true]
        refine ⟨⟨i, rfl, ?_⟩, fun x hx => ?_⟩
        · have : allP l = false := by
            rw [allP, List.all_eq_false]
            exact ⟨l[i], List.getElem_mem _, by simp [hhigh hp]⟩
          simp [this]
        · rw [if_neg (by omega)]; exact hold x hx
    · have : i = l.length := by omega
      subst this
      simp (implicitDefEqProofs := false) (disch := omega) only [amS, Nat.reduceBEq, reduceCtorEq, Nat.reduceEqDiff, Nat.reduceAdd, Nat.reduceMul, Nat.reduceSub, Int.reduceToNat, Int.reduceEq, Int.reduceLT, Int.reduceLE, Int.reduceAdd, Int.reduceSub, Int.reduceMul, reduceIte, resVs, resV, packV, initT, addr, F60_l0, t1, t2, t10, stepOp_nxt, hm, hsz, a3]
      refine ⟨⟨-1, rfl, ?_⟩, hold⟩
      have : allP l = true := by
        rw [allP, List.all_eq_true]
        intro c hc
        obtain ⟨j, hj, rfl⟩ := List.getElem_of_mem hc
        exact hall j hj hj
      simp [this]
  · rintro r m' ⟨⟨z, rfl, h⟩, h2⟩
    exact ⟨⟨_, rfl, .int _ _⟩, h2, ⟨z, rfl, h⟩, rfl⟩
end Go.Proofs.Ytighienjnhglnaa.N
namespace Go.Proofs.Ytighienjnhglnaa.N
open Go Go.AM
set_option maxRecDepth 100000
set_option linter.unusedVariables false
set_option linter.unusedSimpArgs false

theorem indexFunc34_ok (m : AMem) (l : List UInt8) (hl : l.length ≤ 100000) : ACall Try.prog 1 49 [.string ⟨l.toArray⟩, .func (.func 37) #[] #[]] m fun r m' => (∃ z, r = .ret (.int .i64 z) ∧ (0 ≤ z ↔ allP l = false)) ∧ m' = m := by
  refine ACall_of_W (fn := Try.f49) rfl rfl F49_ok (by simp [F49]) ?_
  simp (implicitDefEqProofs := false) (disch := omega) only [amS, Nat.reduceBEq, reduceCtorEq, Nat.reduceEqDiff, Nat.reduceAdd, Nat.reduceMul, Nat.reduceSub, Int.reduceToNat, Int.reduceEq, Int.reduceLT, Int.reduceLE, Int.reduceAdd, Int.reduceSub, Int.reduceMul, reduceIte, resVs, resV, packV, initT, addr, F49]
  refine (indexFunc_ok m l hl).mono ?_
  rintro r m' ⟨⟨z, rfl, hz⟩, rfl⟩
  simp (implicitDefEqProofs := false) (disch := omega) only [amS, Nat.reduceBEq, reduceCtorEq, Nat.reduceEqDiff, Nat.reduceAdd, Nat.reduceMul, Nat.reduceSub, Int.reduceToNat, Int.reduceEq, Int.reduceLT, Int.reduceLE, Int.reduceAdd, Int.reduceSub, Int.reduceMul, reduceIte, resVs, resV, packV, initT, addr]
  exact ⟨z, rfl, hz⟩

theorem containsFunc_ok (m : AMem) (l : List UInt8) (hl : l.length ≤ 100000) : ACall Try.prog 1 36 [.string ⟨l.toArray⟩, .func (.func 37) #[] #[]] m fun r m' => r = .ret (.bool (!allP l)) ∧ m' = m := by
  refine ACall_of_W (fn := Try.f36) rfl rfl F36_ok (by simp [F36]) ?_
  simp (implicitDefEqProofs := false) (disch := omega) only [amS, Nat.reduceBEq, reduceCtorEq, Nat.reduceEqDiff, Nat.reduceAdd, Nat.reduceMul, Nat.reduceSub, Int.reduceToNat, Int.reduceEq, Int.reduceLT, Int.reduceLE, Int.reduceAdd, Int.reduceSub, Int.reduceMul, reduceIte, resVs, resV, packV, initT, addr, F36]
  refine (indexFunc34_ok m l hl).mono ?_
  rintro r m' ⟨⟨z, rfl, hz⟩, rfl⟩
  simp (implicitDefEqProofs := false) (disch := omega) only [amS, Nat.reduceBEq, reduceCtorEq, Nat.reduceEqDiff, Nat.reduceAdd, Nat.reduceMul, Nat.reduceSub, Int.reduceToNat, Int.reduceEq, Int.reduceLT, Int.reduceLE, Int.reduceAdd, Int.reduceSub, Int.reduceMul, reduceIte, resVs, resV, packV, initT, addr]
  have : decide (0 ≤ z) = !allP l := by
    cases h : allP l <;> simp [hz, h]
  rw [this]

/-- Is it a plain name? -/
def rightB (l : List UInt8) : Bool := !decide (l = []) && decide (l.length ≤ 64) && !decide (l.head? = some 46) && allP l

theorem strEq_nil (l : List UInt8) : strEq ⟨l.toArray⟩ ⟨#[]⟩ = decide (l = []) := by
  cases l <;> simp [strEq]

theorem right_ok (m : AMem) (l : List UInt8) : ACall Try.prog 1 23 [.string ⟨l.toArray⟩] m fun r m' => r = .ret (.bool (rightB l)) ∧ m' = m := by
  refine ACall_of_W (fn := Try.f23) rfl rfl F23_ok (by simp [F23]) ?_
  have hs := strEq_nil l
  have hz := str_size l
  cases l with
  | nil =>
    simp only [decide_true] at hs
    simp (implicitDefEqProofs := false) (disch := omega) only [amS, Nat.reduceBEq, reduceCtorEq, Nat.reduceEqDiff, Nat.reduceAdd, Nat.reduceMul, Nat.reduceSub, Int.reduceToNat, Int.reduceEq, Int.reduceLT, Int.reduceLE, Int.reduceAdd, Int.reduceSub, Int.reduceMul, reduceIte, resVs, resV, packV, initT, addr, F23, hs, hz]
    rfl
  | cons x r =>
    simp only [reduceCtorEq, decide_false] at hs
    have hg := str_get (x :: r) (i := 0) (by simp)
    by_cases hlen : (x :: r).length ≤ 64
    · have h64 : decide ((((x :: r).length : Nat) : Int) ≤ 64) = true := by simp only [decide_eq_true_eq]; omega
      by_cases hdot : x = 46
      · have hd : decide ((x.toNat : Int) = 46) = true := by subst hdot; rfl
        simp (implicitDefEqProofs := false) (contextual := true) (maxSteps := 4000000) (disch := omega) only [amS, Nat.reduceBEq, reduceCtorEq, Nat.reduceEqDiff, Nat.reduceAdd, Nat.reduceMul, Nat.reduceSub, Int.reduceToNat, Int.reduceEq, Int.reduceLT, Int.reduceLE, Int.reduceAdd, Int.reduceSub, Int.reduceMul, reduceIte, resVs, resV, packV, initT, addr, F23, hs, hz, hg, h64, hd, List.getElem_cons_zero, stepOp_lenS]
        subst hdot
        simp [rightB]
      · have hd : decide ((x.toNat : Int) = 46) = false := by
          simp only [decide_eq_false_iff_not]
          intro h
          exact hdot (UInt8.toNat_inj.1 (by simpa using (by exact_mod_cast h : x.toNat = 46)))
        simp (implicitDefEqProofs := false) (contextual := true) (maxSteps := 4000000) (disch := omega) only [amS, Nat.reduceBEq, reduceCtorEq, Nat.reduceEqDiff, Nat.reduceAdd, Nat.reduceMul, Nat.reduceSub, Int.reduceToNat, Int.reduceEq, Int.reduceLT, Int.reduceLE, Int.reduceAdd, Int.reduceSub, Int.reduceMul, reduceIte, resVs, resV, packV, initT, addr, F23, hs, hz, hg, h64, hd, List.getElem_cons_zero, stepOp_lenS]
        refine (containsFunc_ok m (x :: r) (by omega)).mono ?_
        rintro r' m' ⟨rfl, rfl⟩
        simp (implicitDefEqProofs := false) (contextual := true) (maxSteps := 4000000) (disch := omega) only [amS, Nat.reduceBEq, reduceCtorEq, Nat.reduceEqDiff, Nat.reduceAdd, Nat.reduceMul, Nat.reduceSub, Int.reduceToNat, Int.reduceEq, Int.reduceLT, Int.reduceLE, Int.reduceAdd, Int.reduceSub, Int.reduceMul, reduceIte, resVs, resV, packV, initT, addr, Bool.not_not]
        have : decide ((x :: r).length ≤ 64) = true := decide_eq_true hlen
        simp only [rightB, this]
        simp [hdot]
    · have h64 : decide ((((x :: r).length : Nat) : Int) ≤ 64) = false := by simp only [decide_eq_false_iff_not]; omega
      simp (implicitDefEqProofs := false) (contextual := true) (maxSteps := 4000000) (disch := omega) only [amS, Nat.reduceBEq, reduceCtorEq, Nat.reduceEqDiff, Nat.reduceAdd, Nat.reduceMul, Nat.reduceSub, Int.reduceToNat, Int.reduceEq, Int.reduceLT, Int.reduceLE, Int.reduceAdd, Int.reduceSub, Int.reduceMul, reduceIte, resVs, resV, packV, initT, addr, F23, hs, hz, hg, h64, List.getElem_cons_zero, stepOp_lenS]
      have : decide ((x :: r).length ≤ 64) = false := decide_eq_false hlen
      simp only [rightB, this]
      simp
end Go.Proofs.Ytighienjnhglnaa.N
namespace Go.Proofs.Ytighienjnhglnaa.N
open Go Go.AM
set_option maxRecDepth 100000
set_option linter.unusedVariables false
set_option linter.unusedSimpArgs false

end Go.Proofs.Ytighienjnhglnaa.N
namespace Go.Proofs.Ytighienjnhglnaa.N
open Go Go.AM
set_option maxRecDepth 100000
set_option linter.unusedVariables false
set_option linter.unusedSimpArgs false

def lettersOf (d : List UInt8) : List UInt8 := lettersTo (d.take 20) 32
theorem lettersOf_length (d : List UInt8) : (lettersOf d).length = 32 := lettersTo_length _ _
/-- An object's name, and what is told of it. -/
def nameR (d l : List UInt8) : List UInt8 × Int := if rightB l then (lettersOf d ++ [45] ++ l, 0) else ([], 2)

theorem name_ok (m : AMem) (d l : List UInt8) (hd : d.length = 32) (hl : l.length ≤ 100000) :
    ACall Try.prog 1 11 [.agg (d.map byteV).toArray, .string ⟨l.toArray⟩] m fun r m' => r = .ret (.tuple #[.string ⟨(nameR d l).1.toArray⟩, .int .i64 (nameR d l).2]) ∧ m' = m := by
  refine ACall.forget (Q := fun r m' => r = .ret (.tuple #[.string ⟨(nameR d l).1.toArray⟩, .int .i64 (nameR d l).2]) ∧ ∀ x, x < m.size → m'.get x = m.get x) ?_ ?_
  · refine ACall_of_W (fn := Try.f11) rfl rfl F11_ok (by simp [F11]) ?_
    simp (implicitDefEqProofs := false) (disch := omega) only [amS, Nat.reduceBEq, reduceCtorEq, Nat.reduceEqDiff, Nat.reduceAdd, Nat.reduceMul, Nat.reduceSub, Int.reduceToNat, Int.reduceEq, Int.reduceLT, Int.reduceLE, Int.reduceAdd, Int.reduceSub, Int.reduceMul, reduceIte, resVs, resV, packV, initT, addr, F11]
    refine (right_ok _ l).mono ?_
    rintro r m' ⟨rfl, rfl⟩
    have hr : rd (m.push (.cells (d.map byteV) 29 true .exact)) m.size 0 32 = some (d.map byteV) := rd_push (by simp [hd])
    simp (implicitDefEqProofs := false) (disch := omega) only [amS, Nat.reduceBEq, reduceCtorEq, Nat.reduceEqDiff, Nat.reduceAdd, Nat.reduceMul, Nat.reduceSub, Int.reduceToNat, Int.reduceEq, Int.reduceLT, Int.reduceLE, Int.reduceAdd, Int.reduceSub, Int.reduceMul, reduceIte, resVs, resV, packV, initT, addr, hr]
    cases h : rightB l with
    | false =>
      simp (implicitDefEqProofs := false) (disch := omega) only [amS, Nat.reduceBEq, reduceCtorEq, Nat.reduceEqDiff, Nat.reduceAdd, Nat.reduceMul, Nat.reduceSub, Int.reduceToNat, Int.reduceEq, Int.reduceLT, Int.reduceLE, Int.reduceAdd, Int.reduceSub, Int.reduceMul, reduceIte, resVs, resV, packV, initT, addr]
      exact ⟨by simp [nameR, h], fun x hx => by rw [if_neg (by omega)]⟩
    | true =>
      simp (implicitDefEqProofs := false) (disch := omega) only [amS, Nat.reduceBEq, reduceCtorEq, Nat.reduceEqDiff, Nat.reduceAdd, Nat.reduceMul, Nat.reduceSub, Int.reduceToNat, Int.reduceEq, Int.reduceLT, Int.reduceLE, Int.reduceAdd, Int.reduceSub, Int.reduceMul, reduceIte, resVs, resV, packV, initT, addr]
      refine (letters_ok _ d hd).mono ?_
      rintro r m' ⟨rfl, rfl⟩
      have s1 : (⟨(lettersTo (d.take 20) 32).toArray⟩ : ByteArray).size = 32 := by rw [str_size, lettersTo_length]
      have s2 : (⟨#[45]⟩ : ByteArray).size = 1 := rfl
      have a1 : (⟨(lettersTo (d.take 20) 32).toArray⟩ : ByteArray) ++ ⟨#[45]⟩ = ⟨(lettersTo (d.take 20) 32 ++ [45]).toArray⟩ := str_app _ [45]
      have s3 : (⟨(lettersTo (d.take 20) 32 ++ [45]).toArray⟩ : ByteArray).size = 33 := by rw [str_size]; simp [lettersTo_length]
      have s4 := str_size l
      have a2 : (⟨(lettersTo (d.take 20) 32 ++ [45]).toArray⟩ : ByteArray) ++ ⟨l.toArray⟩ = ⟨(lettersTo (d.take 20) 32 ++ [45] ++ l).toArray⟩ := str_app _ _
      simp (implicitDefEqProofs := false) (disch := omega) only [amS, Nat.reduceBEq, reduceCtorEq, Nat.reduceEqDiff, Nat.reduceAdd, Nat.reduceMul, Nat.reduceSub, Int.reduceToNat, Int.reduceEq, Int.reduceLT, Int.reduceLE, Int.reduceAdd, Int.reduceSub, Int.reduceMul, reduceIte, resVs, resV, packV, initT, addr, s1, s2, a1, s3, s4, a2]
      exact ⟨by simp [nameR, h, lettersOf], fun x hx => by rw [if_neg (by omega)]⟩
  · rintro r m' ⟨rfl, h⟩
    refine ⟨⟨_, rfl, Plain.tuple ?_⟩, h, rfl, rfl⟩
    intro v hv
    simp at hv
    rcases hv with rfl | rfl
    · exact .string _
    · exact .int _ _

end Go.Proofs.Ytighienjnhglnaa.N
namespace Go.Proofs.Ytighienjnhglnaa.N
open Go Go.AM
set_option maxRecDepth 100000
set_option linter.unusedVariables false
set_option linter.unusedSimpArgs false

theorem str_extract (l : List UInt8) (a b : Nat) : (⟨l.toArray⟩ : ByteArray).extract a b = ⟨((l.take b).drop a).toArray⟩ := by
  apply ByteArray.ext
  simp [List.extract_eq_take_drop, List.drop_take]

theorem firstIdx_lt {s : ByteArray} {c : UInt8} (h : 0 ≤ firstIdx s c) : (firstIdx s c).toNat < s.size := by
  unfold firstIdx at h ⊢
  split
  · rename_i i hi
    have := List.mem_of_find?_eq_some hi
    simpa using this
  · rename_i hn
    rw [hn] at h; simp at h

theorem firstIdx_ge (s : ByteArray) (c : UInt8) : -1 ≤ firstIdx s c := by
  unfold firstIdx
  split <;> omega

theorem firstIdx_self : firstIdx ⟨#[45]⟩ 45 = 0 := by decide +kernel

theorem index_ok (m : AMem) (l : List UInt8) (hl : l.length ≤ 100000) : ACall Try.prog 1 67 [.string ⟨l.toArray⟩, .string ⟨#[45]⟩] m fun r m' => r = .ret (.int .i64 (firstIdx ⟨l.toArray⟩ 45)) ∧ m' = m := by
  refine ACall_of_W (fn := Try.f67) rfl rfl F67_ok (by simp [F67]) ?_
  have s1 : (⟨#[45]⟩ : ByteArray).size = 1 := rfl
  have g1 : (⟨#[45]⟩ : ByteArray)[0]? = some 45 := rfl
  have n1 : ((1 : Nat) : Int) = 1 := rfl
  simp (implicitDefEqProofs := false) (contextual := true) (maxSteps := 4000000) (disch := omega) only [amS, Nat.reduceBEq, reduceCtorEq, Nat.reduceEqDiff, Nat.reduceAdd, Nat.reduceMul, Nat.reduceSub, Int.reduceToNat, Int.reduceEq, Int.reduceLT, Int.reduceLE, Int.reduceAdd, Int.reduceSub, Int.reduceMul, reduceIte, resVs, resV, packV, initT, addr, F67, stepOp_lenS, s1, n1]
  refine BoolW_of (fun h => ?_) (fun h => ?_)
  · have : (⟨#[45]⟩ : ByteArray).data.toList = l := by simpa [strEq] using h
    have : l = [45] := this.symm
    subst this
    simp [firstIdx_self]
  · simp (implicitDefEqProofs := false) (contextual := true) (maxSteps := 4000000) (disch := omega) only [amS, Nat.reduceBEq, reduceCtorEq, Nat.reduceEqDiff, Nat.reduceAdd, Nat.reduceMul, Nat.reduceSub, Int.reduceToNat, Int.reduceEq, Int.reduceLT, Int.reduceLE, Int.reduceAdd, Int.reduceSub, Int.reduceMul, reduceIte, resVs, resV, packV, initT, addr, g1]
    refine (indexByte33_ok m _ 45).mono ?_
    rintro r m' ⟨rfl, rfl⟩
    simp (implicitDefEqProofs := false) (disch := omega) only [amS, Nat.reduceBEq, reduceCtorEq, Nat.reduceEqDiff, Nat.reduceAdd, Nat.reduceMul, Nat.reduceSub, Int.reduceToNat, Int.reduceEq, Int.reduceLT, Int.reduceLE, Int.reduceAdd, Int.reduceSub, Int.reduceMul, reduceIte, resVs, resV, packV, initT, addr]

/-- What is ahead of the first '-', what behind; is there one? -/
def cutR (l : List UInt8) : List UInt8 × List UInt8 × Bool :=
  if 0 ≤ firstIdx ⟨l.toArray⟩ 45 then (l.take (firstIdx ⟨l.toArray⟩ 45).toNat, l.drop ((firstIdx ⟨l.toArray⟩ 45).toNat + 1), true) else (l, [], false)

theorem cut_ok (m : AMem) (l : List UInt8) (hl : l.length ≤ 100000) : ACall Try.prog 1 61 [.string ⟨l.toArray⟩, .string ⟨#[45]⟩] m fun r m' => r = .ret (.tuple #[.string ⟨(cutR l).1.toArray⟩, .string ⟨(cutR l).2.1.toArray⟩, .bool (cutR l).2.2]) ∧ m' = m := by
  refine ACall_of_W (fn := Try.f61) rfl rfl F61_ok (by simp [F61]) ?_
  have s1 : (⟨#[45]⟩ : ByteArray).size = 1 := rfl
  have sz := str_size l
  simp (implicitDefEqProofs := false) (disch := omega) only [amS, Nat.reduceBEq, reduceCtorEq, Nat.reduceEqDiff, Nat.reduceAdd, Nat.reduceMul, Nat.reduceSub, Int.reduceToNat, Int.reduceEq, Int.reduceLT, Int.reduceLE, Int.reduceAdd, Int.reduceSub, Int.reduceMul, reduceIte, resVs, resV, packV, initT, addr, F61]
  refine (index_ok m l hl).mono ?_
  rintro r m' ⟨rfl, rfl⟩
  have hge := firstIdx_ge ⟨l.toArray⟩ 45
  by_cases h : 0 ≤ firstIdx ⟨l.toArray⟩ 45
  · have hlt := firstIdx_lt h
    rw [sz] at hlt
    have hc : cutR l = (l.take (firstIdx ⟨l.toArray⟩ 45).toNat, l.drop ((firstIdx ⟨l.toArray⟩ 45).toNat + 1), true) := if_pos h
    obtain ⟨i, hi⟩ := Int.eq_ofNat_of_zero_le h
    rw [hc]
    rw [hi] at hlt ⊢
    simp only [Int.toNat_natCast] at hlt ⊢
    have hd : decide ((0 : Int) ≤ (i : Int)) = true := by simp
    have e1 : ((i : Int) + ((1 : Nat) : Int)) = ((i + 1 : Nat) : Int) := by omega
    have x1 := str_extract l 0 i
    have x2 := str_extract l (i + 1) l.length
    rw [List.take_length] at x2
    rw [List.drop_zero] at x1
    simp (implicitDefEqProofs := false) (disch := omega) only [amS, Nat.reduceBEq, reduceCtorEq, Nat.reduceEqDiff, Nat.reduceAdd, Nat.reduceMul, Nat.reduceSub, Int.reduceToNat, Int.reduceEq, Int.reduceLT, Int.reduceLE, Int.reduceAdd, Int.reduceSub, Int.reduceMul, reduceIte, resVs, resV, packV, initT, addr, hd, stepOp_slS, cut, bnd, sz, s1, stepOp_lenS, e1, x1, x2]
  · have hc : cutR l = (l, [], false) := if_neg h
    have hd : decide ((0 : Int) ≤ firstIdx ⟨l.toArray⟩ 45) = false := decide_eq_false h
    rw [hc]
    simp (implicitDefEqProofs := false) (disch := omega) only [amS, Nat.reduceBEq, reduceCtorEq, Nat.reduceEqDiff, Nat.reduceAdd, Nat.reduceMul, Nat.reduceSub, Int.reduceToNat, Int.reduceEq, Int.reduceLT, Int.reduceLE, Int.reduceAdd, Int.reduceSub, Int.reduceMul, reduceIte, resVs, resV, packV, initT, addr, hd]
theorem cut30_ok (m : AMem) (l : List UInt8) (hl : l.length ≤ 100000) : ACall Try.prog 1 50 [.string ⟨l.toArray⟩, .string ⟨#[45]⟩] m fun r m' => r = .ret (.tuple #[.string ⟨(cutR l).1.toArray⟩, .string ⟨(cutR l).2.1.toArray⟩, .bool (cutR l).2.2]) ∧ m' = m := by
  refine ACall_of_W (fn := Try.f50) rfl rfl F50_ok (by simp [F50]) ?_
  have a0 : ∀ a b c : Value, #[a, b, c][0]? = some a := fun _ _ _ => rfl
  have a1 : ∀ a b c : Value, #[a, b, c][1]? = some b := fun _ _ _ => rfl
  have a2 : ∀ a b c : Value, #[a, b, c][2]? = some c := fun _ _ _ => rfl
  simp (implicitDefEqProofs := false) (disch := omega) only [amS, Nat.reduceBEq, reduceCtorEq, Nat.reduceEqDiff, Nat.reduceAdd, Nat.reduceMul, Nat.reduceSub, Int.reduceToNat, Int.reduceEq, Int.reduceLT, Int.reduceLE, Int.reduceAdd, Int.reduceSub, Int.reduceMul, reduceIte, resVs, resV, packV, initT, addr, F50]
  refine (cut_ok m l hl).mono ?_
  rintro r m' ⟨rfl, rfl⟩
  simp (implicitDefEqProofs := false) (disch := omega) only [amS, Nat.reduceBEq, reduceCtorEq, Nat.reduceEqDiff, Nat.reduceAdd, Nat.reduceMul, Nat.reduceSub, Int.reduceToNat, Int.reduceEq, Int.reduceLT, Int.reduceLE, Int.reduceAdd, Int.reduceSub, Int.reduceMul, reduceIte, resVs, resV, packV, initT, addr, a0, a1, a2]

/-- An object's name, read. -/
def parseR (l : List UInt8) : List UInt8 × List UInt8 × Int :=
  if (cutR l).2.2 && (bytesR (cutR l).1).2 && rightB (cutR l).2.1 then ((cutR l).1, (cutR l).2.1, 0) else ([], [], 90)

theorem parse_ok (m : AMem) (l : List UInt8) (hl : l.length ≤ 100000) : ACall Try.prog 1 39 [.string ⟨l.toArray⟩] m fun r m' => r = .ret (.tuple #[.string ⟨(parseR l).1.toArray⟩, .string ⟨(parseR l).2.1.toArray⟩, .int .i64 (parseR l).2.2]) ∧ m' = m := by
  refine ACall.forget (Q := fun r m' => r = .ret (.tuple #[.string ⟨(parseR l).1.toArray⟩, .string ⟨(parseR l).2.1.toArray⟩, .int .i64 (parseR l).2.2]) ∧ ∀ x, x < m.size → m'.get x = m.get x) ?_ ?_
  · refine ACall_of_W (fn := Try.f39) rfl rfl F39_ok (by simp [F39]) ?_
    have a0 : ∀ a b c : Value, #[a, b, c][0]? = some a := fun _ _ _ => rfl
    have a1 : ∀ a b c : Value, #[a, b, c][1]? = some b := fun _ _ _ => rfl
    have a2 : ∀ a b c : Value, #[a, b, c][2]? = some c := fun _ _ _ => rfl
    have b0 : ∀ a b : Value, #[a, b][0]? = some a := fun _ _ => rfl
    have b1 : ∀ a b : Value, #[a, b][1]? = some b := fun _ _ => rfl
    have hlen : ∀ k : List UInt8, (bytesR k).1.length = 20 := fun k => by unfold bytesR; split <;> simp [outTo]
    simp (implicitDefEqProofs := false) (disch := omega) only [amS, Nat.reduceBEq, reduceCtorEq, Nat.reduceEqDiff, Nat.reduceAdd, Nat.reduceMul, Nat.reduceSub, Int.reduceToNat, Int.reduceEq, Int.reduceLT, Int.reduceLE, Int.reduceAdd, Int.reduceSub, Int.reduceMul, reduceIte, resVs, resV, packV, initT, addr, F39]
    refine (cut30_ok m l hl).mono ?_
    rintro r m' ⟨rfl, rfl⟩
    simp (implicitDefEqProofs := false) (disch := omega) only [amS, Nat.reduceBEq, reduceCtorEq, Nat.reduceEqDiff, Nat.reduceAdd, Nat.reduceMul, Nat.reduceSub, Int.reduceToNat, Int.reduceEq, Int.reduceLT, Int.reduceLE, Int.reduceAdd, Int.reduceSub, Int.reduceMul, reduceIte, resVs, resV, packV, initT, addr, a0, a1, a2]
    refine (bytes_ok m' (cutR l).1).mono ?_
    rintro r m1 ⟨rfl, rfl⟩
    have hz := z20 l
    have hw : wr (m1.push (.cells ((outTo l 0).map byteV) 51 true .exact)) m1.size 0 ((bytesR (cutR l).1).1.map byteV) = some ((m1.push (.cells ((outTo l 0).map byteV) 51 true .exact)).set m1.size (.cells ((bytesR (cutR l).1).1.map byteV) 51 true .exact)) :=
      wr_all (AMem.get_push_self _ _) (by simp [hlen, outTo])
    have hl20 : ((bytesR (cutR l).1).1.map byteV).length = 20 := by simp [hlen]
    have hfr : ∀ x, x < m1.size → ((m1.push (.cells ((outTo l 0).map byteV) 51 true .exact)).set m1.size (.cells ((bytesR (cutR l).1).1.map byteV) 51 true .exact)).get x = m1.get x := fun x hx => by
      rw [AMem.get_set_ne _ _ (by omega), AMem.get_push_ne _ _ (by omega)]
    cases hc : (cutR l).2.2 with
    | false =>
      simp (implicitDefEqProofs := false) (contextual := true) (maxSteps := 4000000) (disch := omega) only [amS, Nat.reduceBEq, reduceCtorEq, Nat.reduceEqDiff, Nat.reduceAdd, Nat.reduceMul, Nat.reduceSub, Int.reduceToNat, Int.reduceEq, Int.reduceLT, Int.reduceLE, Int.reduceAdd, Int.reduceSub, Int.reduceMul, reduceIte, resVs, resV, packV, initT, addr, b0, b1, hz, hw, hl20, hc]
      exact ⟨by simp [parseR, hc], fun x hx => by first | trivial | (rw [if_neg (by omega), if_neg (by omega)])⟩
    | true =>
      cases hb : (bytesR (cutR l).1).2 with
      | false =>
        simp (implicitDefEqProofs := false) (contextual := true) (maxSteps := 4000000) (disch := omega) only [amS, Nat.reduceBEq, reduceCtorEq, Nat.reduceEqDiff, Nat.reduceAdd, Nat.reduceMul, Nat.reduceSub, Int.reduceToNat, Int.reduceEq, Int.reduceLT, Int.reduceLE, Int.reduceAdd, Int.reduceSub, Int.reduceMul, reduceIte, resVs, resV, packV, initT, addr, b0, b1, hz, hw, hl20, hc, hb]
        exact ⟨by simp [parseR, hc, hb], fun x hx => by first | trivial | (rw [if_neg (by omega), if_neg (by omega)])⟩
      | true =>
        simp (implicitDefEqProofs := false) (contextual := true) (maxSteps := 4000000) (disch := omega) only [amS, Nat.reduceBEq, reduceCtorEq, Nat.reduceEqDiff, Nat.reduceAdd, Nat.reduceMul, Nat.reduceSub, Int.reduceToNat, Int.reduceEq, Int.reduceLT, Int.reduceLE, Int.reduceAdd, Int.reduceSub, Int.reduceMul, reduceIte, resVs, resV, packV, initT, addr, b0, b1, hz, hw, hl20, hc, hb]
        refine (right_ok _ (cutR l).2.1).mono ?_
        rintro r m2 ⟨rfl, rfl⟩
        cases hr : rightB (cutR l).2.1 with
        | false =>
          simp (implicitDefEqProofs := false) (contextual := true) (maxSteps := 4000000) (disch := omega) only [amS, Nat.reduceBEq, reduceCtorEq, Nat.reduceEqDiff, Nat.reduceAdd, Nat.reduceMul, Nat.reduceSub, Int.reduceToNat, Int.reduceEq, Int.reduceLT, Int.reduceLE, Int.reduceAdd, Int.reduceSub, Int.reduceMul, reduceIte, resVs, resV, packV, initT, addr]
          exact ⟨by simp [parseR, hc, hb, hr], fun x hx => by first | trivial | (rw [if_neg (by omega), if_neg (by omega)])⟩
        | true =>
          simp (implicitDefEqProofs := false) (contextual := true) (maxSteps := 4000000) (disch := omega) only [amS, Nat.reduceBEq, reduceCtorEq, Nat.reduceEqDiff, Nat.reduceAdd, Nat.reduceMul, Nat.reduceSub, Int.reduceToNat, Int.reduceEq, Int.reduceLT, Int.reduceLE, Int.reduceAdd, Int.reduceSub, Int.reduceMul, reduceIte, resVs, resV, packV, initT, addr]
          exact ⟨by simp [parseR, hc, hb, hr], fun x hx => by first | trivial | (rw [if_neg (by omega), if_neg (by omega)])⟩
  · rintro r m' ⟨rfl, h⟩
    refine ⟨⟨_, rfl, Plain.tuple ?_⟩, h, rfl, rfl⟩
    intro v hv
    simp at hv
    rcases hv with rfl | rfl | rfl
    · exact .string _
    · exact .string _
    · exact .int _ _
end Go.Proofs.Ytighienjnhglnaa.N
namespace Go.Proofs.Ytighienjnhglnaa.N
open Go Go.AM
set_option maxRecDepth 100000
set_option linter.unusedVariables false
set_option linter.unusedSimpArgs false

theorem valZ_alpha (v : Nat) (h : v < 32) : valZ (alpha[v]'h) = v := valZ_at h rfl
theorem dash_none : valZ 45 = -1 := by decide +kernel

theorem lettersOf_valid (d : List UInt8) : ∀ c ∈ lettersOf d, 0 ≤ valZ c := by
  intro c hc
  simp only [lettersOf, lettersTo, List.mem_map] at hc
  obtain ⟨e, _, rfl⟩ := hc
  rw [letAt, valZ_alpha]; omega

/-! ### Names -/
def parse2R (l : List UInt8) : List UInt8 × List UInt8 × Int :=
  if l.length < 34 ∨ l[32]? ≠ some 45 ∨ rightB (l.drop 33) = false ∨ (bytesR (l.take 32)).2 = false then ([], [], 90) else (l.take 32, l.drop 33, 0)

theorem bytesR_ok {l : List UInt8} (h : (bytesR l).2 = true) : l.length = 32 ∧ ∀ c ∈ l, 0 ≤ valZ c := by
  unfold bytesR at h
  split at h
  · assumption
  · cases h

theorem bytesR_of {l : List UInt8} (h : l.length = 32) (k : ∀ c ∈ l, 0 ≤ valZ c) : (bytesR l).2 = true := by
  unfold bytesR; rw [if_pos ⟨h, k⟩]

theorem firstIdx_at {l : List UInt8} {n : Nat} (hn : n < l.length) (h : l[n]? = some 45) (k : ∀ c ∈ l.take n, c ≠ 45) : firstIdx ⟨l.toArray⟩ 45 = n := by
  rw [firstIdx_iff]
  refine ⟨h, fun j hj hc => ?_⟩
  refine k 45 ?_ rfl
  rw [List.mem_iff_getElem?]
  exact ⟨j, by rw [List.getElem?_take_of_lt hj]; exact hc⟩
theorem firstIdx_spec {l : List UInt8} {n : Nat} (h : firstIdx ⟨l.toArray⟩ 45 = n) : n < l.length ∧ l[n]? = some 45 := by
  have := ((firstIdx_iff l 45 n).1 h).1
  exact ⟨(List.getElem?_eq_some_iff.1 this).1, this⟩
theorem rightB_nonempty : rightB [] = false := by decide +kernel

theorem parse_eq (l : List UInt8) : parseR l = parse2R l := by
  unfold parseR parse2R
  by_cases h : l.length < 34 ∨ l[32]? ≠ some 45 ∨ rightB (l.drop 33) = false ∨ (bytesR (l.take 32)).2 = false
  · rw [if_pos h, if_neg]
    intro hc
    simp only [Bool.and_eq_true] at hc
    obtain ⟨⟨h1, h2⟩, h3⟩ := hc
    have hcut : 0 ≤ firstIdx ⟨l.toArray⟩ 45 := by
      apply Classical.byContradiction; intro hn
      unfold cutR at h1; rw [if_neg hn] at h1; cases h1
    obtain ⟨n, hn⟩ := Int.eq_ofNat_of_zero_le hcut
    have hc : cutR l = (l.take n, l.drop (n + 1), true) := by unfold cutR; rw [if_pos hcut, hn]; simp
    rw [hc] at h2 h3
    simp only at h2 h3
    obtain ⟨hlt, hg⟩ := firstIdx_spec hn
    have hlen := (bytesR_ok h2).1
    have hn32 : n = 32 := by simp at hlen; omega
    subst hn32
    rcases h with h | h | h | h
    · have : l.drop (32 + 1) = [] := List.drop_eq_nil_of_le (by omega)
      rw [this, rightB_nonempty] at h3; cases h3
    · exact h hg
    · rw [h3] at h; cases h
    · rw [h2] at h; cases h
  · rw [if_neg h]
    simp only [not_or, Nat.not_lt, ne_eq, Classical.not_not, Bool.not_eq_false] at h
    obtain ⟨h1, h2, h3, h4⟩ := h
    have hf : firstIdx ⟨l.toArray⟩ 45 = (32 : Nat) := firstIdx_at (by omega) h2 fun c hc he => by
      have := (bytesR_ok h4).2 c hc
      rw [he, dash_none] at this; omega
    have hc : cutR l = (l.take 32, l.drop 33, true) := by unfold cutR; rw [hf]; rfl
    rw [hc]
    simp [h3, h4]

end Go.Proofs.Ytighienjnhglnaa.N
namespace Go.Proofs.Ytighienjnhglnaa
open Go Go.AM
set_option linter.unusedVariables false
set_option linter.unusedSimpArgs false
set_option maxHeartbeats 2000000
set_option maxRecDepth 100000

def okL (c : UInt8) : Bool := decide (c ∈ N.alpha)
theorem idx_all : ∀ n, n < 256 → (decide (firstIdx ⟨#[48, 49, 50, 51, 52, 53, 54, 55, 56, 57, 97, 98, 99, 100, 102, 103, 104, 105, 106, 107, 108, 109, 110, 112, 113, 114, 115, 118, 119, 120, 121, 122]⟩ (UInt8.ofNat n) < 0) = !okL (UInt8.ofNat n)) := by decide +kernel
theorem idx_ok (c : UInt8) : (firstIdx ⟨#[48, 49, 50, 51, 52, 53, 54, 55, 56, 57, 97, 98, 99, 100, 102, 103, 104, 105, 106, 107, 108, 109, 110, 112, 113, 114, 115, 118, 119, 120, 121, 122]⟩ c < 0) ↔ okL c = false := by
  have := idx_all c.toNat c.toNat_lt
  rw [UInt8.ofNat_toNat] at this
  have h2 := (decide_eq_true_iff (p := firstIdx ⟨#[48, 49, 50, 51, 52, 53, 54, 55, 56, 57, 97, 98, 99, 100, 102, 103, 104, 105, 106, 107, 108, 109, 110, 112, 113, 114, 115, 118, 119, 120, 121, 122]⟩ c < 0)).symm
  rw [h2, this]; simp
theorem lettersF_ok (m : AMem) (b : List UInt8) : DetC Try.prog 1 18 [.string ⟨b.toArray⟩] m (.func (.func 32) #[] #[.pointer (some ⟨m.size, 0, none⟩)]) (mx m [.cells [.string ⟨b.toArray⟩] 9 true .exact]) := by
  refine det_exact (fn := Try.f18) rfl rfl F18_ok (by simp [F18]) ?_
  simp (implicitDefEqProofs := false) (maxSteps := 1000000) (disch := first | omega | with_reducible assumption | (simp only [lenT, Nat.reduceAdd]; omega)) only [amT, cut, bnd, Nat.reduceBEq, reduceCtorEq, Nat.reduceEqDiff, Nat.reduceAdd, Nat.reduceMul, Nat.reduceSub, Int.reduceToNat, Int.reduceEq, Int.reduceLT, Int.reduceLE, Int.reduceAdd, Int.reduceSub, Int.reduceMul, reduceIte, resVs, resV, packV, initT, addr, F18]
  done
theorem letters1_ok (bx : Nat) (b : List UInt8) (hb : b.length ≤ 1000000) :
    IterC Try.prog 1 32 [] [.pointer (some ⟨bx, 0, none⟩)] (fun M => bx < M.size ∧ M.get bx = .cells [.string ⟨b.toArray⟩] 9 true .exact) ((wins okL b).map fun w => [.string ⟨w.toArray⟩]) := by
  intro l J X M hI hY h0
  refine ACall_of_W (fn := Try.f32) rfl rfl F32_ok (by simp [F32]) ?_
  obtain ⟨i1, i2⟩ := hI 0 M h0
  simp (implicitDefEqProofs := false) (maxSteps := 1000000) (disch := first | omega | with_reducible assumption | (simp only [lenT, Nat.reduceAdd]; omega)) only [amT, cut, bnd, Nat.reduceBEq, reduceCtorEq, Nat.reduceEqDiff, Nat.reduceAdd, Nat.reduceMul, Nat.reduceSub, Int.reduceToNat, Int.reduceEq, Int.reduceLT, Int.reduceLE, Int.reduceAdd, Int.reduceSub, Int.reduceMul, reduceIte, resVs, resV, packV, initT, addr, F32, i1, i2]
  refine W_loop (fun N qs => ∃ (i : Nat) (M : AMem), N = b.length - i ∧ qs.ds = [] ∧ qs.m = mx M [] ∧ qs.t 0 = .func (.yield l) #[] #[] ∧ qs.t 1 = .pointer (some ⟨bx, 0, none⟩) ∧ qs.t 3 = .int .i64 (runTo okL b i : Nat) ∧ qs.t 6 = .int .i64 b.length ∧ qs.t 7 = .int .i64 i ∧ i ≤ b.length ∧ J (given okL b i).length M) (b.length - (0)) ⟨0, M, rfl, rfl, ?qm, ?q0, ?q1, ?q3, ?q6, ?q7, ?_⟩ ?_
  case qm | q0 | q1 | q3 | q6 | q7 => first | rfl | (simp (implicitDefEqProofs := false) (maxSteps := 1000000) (disch := first | omega | with_reducible assumption | (simp only [lenT, Nat.reduceAdd]; omega)) only [amT, cut, bnd, Nat.reduceBEq, reduceCtorEq, Nat.reduceEqDiff, Nat.reduceAdd, Nat.reduceMul, Nat.reduceSub, Int.reduceToNat, Int.reduceEq, Int.reduceLT, Int.reduceLE, Int.reduceAdd, Int.reduceSub, Int.reduceMul, reduceIte, resVs, resV, packV, initT, addr]; first | done | rfl | (congr 1; omega))
  · exact ⟨by omega, h0⟩
  · rintro N t m1 ds ⟨i, M, rfl, hds, hm, t0, t1, t3, t6, t7, hp⟩
    simp only at hds hm t0 t1 t3 t6 t7
    subst hds; replace hm := hm.symm; subst hm
    obtain ⟨hi, hJ⟩ := hp
    obtain ⟨i1, i2⟩ := hI _ M hJ
    by_cases g : (i : Int) < (b.length : Int)
    · have hi' : i < b.length := by omega
      have hrun := runTo_le okL b i
      have kI := DetC.known (N.indexByte_ok (mx M []) ⟨#[48, 49, 50, 51, 52, 53, 54, 55, 56, 57, 97, 98, 99, 100, 102, 103, 104, 105, 106, 107, 108, 109, 110, 112, 113, 114, 115, 118, 119, 120, 121, 122]⟩ b[i])
      simp only [byteV] at kI
      have hix := idx_ok b[i]
      have hgd : b.getD i 0 = b[i] := by simp [List.getD, hi']
      have hgs := given_succ (p := okL) hi'
      generalize firstIdx ⟨#[48, 49, 50, 51, 52, 53, 54, 55, 56, 57, 97, 98, 99, 100, 102, 103, 104, 105, 106, 107, 108, 109, 110, 112, 113, 114, 115, 118, 119, 120, 121, 122]⟩ b[i] = ix at kI hix
      cases hv : okL b[i] with
      | false =>
        have hx : ix < 0 := hix.2 hv
        have er : runTo okL b (i + 1) = 0 := by simp only [runTo, hgd, hv]; rfl
        rw [er, if_neg (by omega), List.append_nil] at hgs
        repeat first | simp (implicitDefEqProofs := false) (maxSteps := 1000000) (disch := first | omega | with_reducible assumption | (simp only [lenT, Nat.reduceAdd]; omega)) only [amT, cut, bnd, Nat.reduceBEq, reduceCtorEq, Nat.reduceEqDiff, Nat.reduceAdd, Nat.reduceMul, Nat.reduceSub, Int.reduceToNat, Int.reduceEq, Int.reduceLT, Int.reduceLE, Int.reduceAdd, Int.reduceSub, Int.reduceMul, reduceIte, resVs, resV, packV, initT, addr, F32_l0, t0, t1, t3, t6, t7, g, i1, i2, kI, hx, undef] | refine OrW.go ?_
        rw [LoopK_normal]; refine ⟨_, ?_, i + 1, M, rfl, rfl, ?qm, ?q0, ?q1, ?q3, ?q6, ?q7, ?_⟩
        case qm | q0 | q1 | q3 | q6 | q7 => first | rfl | (simp (implicitDefEqProofs := false) (maxSteps := 1000000) (disch := first | omega | with_reducible assumption | (simp only [lenT, Nat.reduceAdd]; omega)) only [amT, cut, bnd, Nat.reduceBEq, reduceCtorEq, Nat.reduceEqDiff, Nat.reduceAdd, Nat.reduceMul, Nat.reduceSub, Int.reduceToNat, Int.reduceEq, Int.reduceLT, Int.reduceLE, Int.reduceAdd, Int.reduceSub, Int.reduceMul, reduceIte, resVs, resV, packV, initT, addr, t0, t1, t3, t6, t7, er]; first | done | rfl | (congr 1; omega))
        · omega
        · rw [hgs]; exact ⟨by omega, hJ⟩
      | true =>
        have hx : ¬ ix < 0 := fun h => by rw [hix.1 h] at hv; cases hv
        have er : runTo okL b (i + 1) = runTo okL b i + 1 := by simp only [runTo, hgd, hv]; rfl
        by_cases h32 : (32 : Int) ≤ (runTo okL b i : Int) + 1
        · have h32' : 32 ≤ runTo okL b (i + 1) := by omega
          have e0 : (i : Int) + 1 - 32 = ((i + 1 - 32 : Nat) : Int) := by omega
          obtain ⟨n1, n2, n3⟩ := given_next (p := okL) hi' h32'
          have hy := hY _ M (by rw [List.length_map]; exact n1) hJ
          rw [List.getElem_map, n2] at hy
          have et : ((i : Int) + 1).toNat = i + 1 := by omega
          have ew : List.drop (i + 1 - 32) (List.take (i + 1) b) = winAt b (i + 1 - 32) := by
            unfold winAt; rw [List.drop_take]; congr 1; omega
          repeat first | simp (implicitDefEqProofs := false) (maxSteps := 1000000) (disch := first | omega | with_reducible assumption | (simp only [lenT, Nat.reduceAdd]; omega)) only [amT, cut, bnd, Nat.reduceBEq, reduceCtorEq, Nat.reduceEqDiff, Nat.reduceAdd, Nat.reduceMul, Nat.reduceSub, Int.reduceToNat, Int.reduceEq, Int.reduceLT, Int.reduceLE, Int.reduceAdd, Int.reduceSub, Int.reduceMul, reduceIte, resVs, resV, packV, initT, addr, F32_l0, t0, t1, t3, t6, t7, g, i1, i2, kI, hx, h32, e0, et, ew, CallvW_yield] | refine OrW.go ?_
          refine AYield.call hy ?_
          rintro r M' (⟨rfl, hJ'⟩ | ⟨rfl, hX⟩)
          · simp (implicitDefEqProofs := false) (maxSteps := 1000000) (disch := first | omega | with_reducible assumption | (simp only [lenT, Nat.reduceAdd]; omega)) only [amT, cut, bnd, Nat.reduceBEq, reduceCtorEq, Nat.reduceEqDiff, Nat.reduceAdd, Nat.reduceMul, Nat.reduceSub, Int.reduceToNat, Int.reduceEq, Int.reduceLT, Int.reduceLE, Int.reduceAdd, Int.reduceSub, Int.reduceMul, reduceIte, resVs, resV, packV, initT, addr, t0, t1, t3, t6, t7]
            rw [LoopK_normal]; refine ⟨_, ?_, i + 1, M', rfl, rfl, ?qm, ?q0, ?q1, ?q3, ?q6, ?q7, ?_⟩
            case qm | q0 | q1 | q3 | q6 | q7 => first | rfl | (simp (implicitDefEqProofs := false) (maxSteps := 1000000) (disch := first | omega | with_reducible assumption | (simp only [lenT, Nat.reduceAdd]; omega)) only [amT, cut, bnd, Nat.reduceBEq, reduceCtorEq, Nat.reduceEqDiff, Nat.reduceAdd, Nat.reduceMul, Nat.reduceSub, Int.reduceToNat, Int.reduceEq, Int.reduceLT, Int.reduceLE, Int.reduceAdd, Int.reduceSub, Int.reduceMul, reduceIte, resVs, resV, packV, initT, addr, t0, t1, t3, t6, t7, er]; first | done | rfl | (congr 1; omega))
            · omega
            · rw [n3]; exact ⟨by omega, hJ'⟩
          · simp (implicitDefEqProofs := false) (maxSteps := 1000000) (disch := first | omega | with_reducible assumption | (simp only [lenT, Nat.reduceAdd]; omega)) only [amT, cut, bnd, Nat.reduceBEq, reduceCtorEq, Nat.reduceEqDiff, Nat.reduceAdd, Nat.reduceMul, Nat.reduceSub, Int.reduceToNat, Int.reduceEq, Int.reduceLT, Int.reduceLE, Int.reduceAdd, Int.reduceSub, Int.reduceMul, reduceIte, resVs, resV, packV, initT, addr, t0, t1, t3, t6, t7]
            exact ⟨_, M', rfl, rfl, .inr hX⟩
        · rw [if_neg (by omega), List.append_nil] at hgs
          repeat first | simp (implicitDefEqProofs := false) (maxSteps := 1000000) (disch := first | omega | with_reducible assumption | (simp only [lenT, Nat.reduceAdd]; omega)) only [amT, cut, bnd, Nat.reduceBEq, reduceCtorEq, Nat.reduceEqDiff, Nat.reduceAdd, Nat.reduceMul, Nat.reduceSub, Int.reduceToNat, Int.reduceEq, Int.reduceLT, Int.reduceLE, Int.reduceAdd, Int.reduceSub, Int.reduceMul, reduceIte, resVs, resV, packV, initT, addr, F32_l0, t0, t1, t3, t6, t7, g, i1, i2, kI, hx, h32, undef] | refine OrW.go ?_
          rw [LoopK_normal]; refine ⟨_, ?_, i + 1, M, rfl, rfl, ?qm, ?q0, ?q1, ?q3, ?q6, ?q7, ?_⟩
          case qm | q0 | q1 | q3 | q6 | q7 => first | rfl | (simp (implicitDefEqProofs := false) (maxSteps := 1000000) (disch := first | omega | with_reducible assumption | (simp only [lenT, Nat.reduceAdd]; omega)) only [amT, cut, bnd, Nat.reduceBEq, reduceCtorEq, Nat.reduceEqDiff, Nat.reduceAdd, Nat.reduceMul, Nat.reduceSub, Int.reduceToNat, Int.reduceEq, Int.reduceLT, Int.reduceLE, Int.reduceAdd, Int.reduceSub, Int.reduceMul, reduceIte, resVs, resV, packV, initT, addr, t0, t1, t3, t6, t7, er]; first | done | rfl | (congr 1; omega))
          · omega
          · rw [hgs]; exact ⟨by omega, hJ⟩
    · obtain rfl : i = b.length := by omega
      repeat first | simp (implicitDefEqProofs := false) (maxSteps := 1000000) (disch := first | omega | with_reducible assumption | (simp only [lenT, Nat.reduceAdd]; omega)) only [amT, cut, bnd, Nat.reduceBEq, reduceCtorEq, Nat.reduceEqDiff, Nat.reduceAdd, Nat.reduceMul, Nat.reduceSub, Int.reduceToNat, Int.reduceEq, Int.reduceLT, Int.reduceLE, Int.reduceAdd, Int.reduceSub, Int.reduceMul, reduceIte, resVs, resV, packV, initT, addr, F32_l0, t0, t1, t3, t6, t7, g] | refine OrW.go ?_
      exact ⟨_, M, rfl, rfl, .inl (by first | exact hJ | (rw [List.length_map]; exact hJ))⟩
end Go.Proofs.Ytighienjnhglnaa
namespace Go.Proofs.Ytighienjnhglnaa
open Go Go.AM
set_option linter.unusedVariables false
set_option linter.unusedSimpArgs false
set_option maxHeartbeats 2000000
set_option maxRecDepth 100000

def ownV (v : Value) (x : Nat) : Prop := ∃ o l c, v = .slice (some ⟨x, o, none⟩) l c
def StrR (m : AMem) (a : Option Addr) (ls : List (List UInt8)) : Prop := ∀ i (h : i < ls.length), ∃ b o, a = some ⟨b, o, none⟩ ∧ b < m.size ∧ rdO (m.get b) (o + i) 1 = some [.string ⟨ls[i].toArray⟩]
theorem StrR.old {m m' : AMem} {a : Option Addr} {ls : List (List UInt8)} (h : StrR m a ls) (ho : Old m m') : StrR m' a ls := fun i hi => by
  obtain ⟨b, o, h1, h2, h3⟩ := h i hi
  exact ⟨b, o, h1, Nat.lt_of_lt_of_le h2 ho.1, by rw [ho.2 b h2]; exact h3⟩
def sV (s : List UInt8) : Value := .string ⟨s.toArray⟩
def StrB (M : AMem) (v : Value) (ls : List (List UInt8)) : Prop := (ls = [] ∧ v = .slice none 0 0) ∨ ∃ b, v = .slice (some ⟨b, 0, none⟩) ls.length openCap ∧ b < M.size ∧ M.get b = .cells (ls.map sV) 9 true (.room [.string ⟨#[]⟩])
theorem StrB.len {M : AMem} {v : Value} {ls : List (List UInt8)} (h : StrB M v ls) : ∃ a cap, v = .slice a ls.length cap := by
  rcases h with ⟨rfl, rfl⟩ | ⟨b, rfl, _⟩
  · exact ⟨_, _, rfl⟩
  · exact ⟨_, _, rfl⟩
theorem StrB.keep {M M' : AMem} {v : Value} {ls : List (List UInt8)} (h : StrB M v ls) {O : Nat → Prop} (hk : Keep O M M') (hv : ∀ x, ownV v x → ¬ O x) : StrB M' v ls := by
  rcases h with h | ⟨b, rfl, h1, h2⟩
  · exact .inl h
  · exact .inr ⟨b, rfl, Nat.lt_of_lt_of_le h1 hk.1, by rw [hk.2 b h1 (hv b ⟨_, _, _, rfl⟩)]; exact h2⟩
theorem StrB.old {M M' : AMem} {v : Value} {ls : List (List UInt8)} (h : StrB M v ls) (ho : Old M M') : StrB M' v ls := h.keep (ho.keep fun _ => False) fun _ _ h => h
theorem StrB.row {M : AMem} {a : Option Addr} {n cap : Nat} {ls : List (List UInt8)} (h : StrB M (.slice a n cap) ls) : StrR M a ls := fun i hi => by
  rcases h with ⟨rfl, _⟩ | ⟨b, h, h1, h2⟩
  · simp at hi
  · cases h
    refine ⟨b, 0, rfl, h1, ?_⟩
    rw [h2, rdO_cells, Nat.zero_add]
    unfold cutL
    rw [if_pos (by rw [List.length_map]; omega), List.drop_eq_getElem_cons (by rw [List.length_map]; exact hi), List.getElem_map]; rfl
theorem one_strs (ls : List (List UInt8)) : (ls.map sV).all oneCell = true := by
  rw [List.all_eq_true]; intro x hx; simp only [List.mem_map] at hx; obtain ⟨y, _, rfl⟩ := hx; rfl
theorem eqPL_str : eqPL [Value.string ⟨#[]⟩] [Value.string ⟨#[]⟩] = true := by decide
theorem StrB.app {M : AMem} {v w : Value} {ls news : List (List UInt8)} (h : StrB M v ls) (hn : ls.length + news.length ≤ 1000000000) (hw : srcLen w = some news.length) (hs : srcCells 1 news.length w (mx M []) = some (news.map sV)) :
    ∃ v' M', appV 9 1 16 [.string ⟨#[]⟩] v w (mx M []) = some (v', mx M' []) ∧ StrB M' v' (ls ++ news) ∧ Keep (ownV v) M M' ∧ ∀ x, ownV v' x → ownV v x ∨ M.size ≤ x := by
  have happ : appV 9 1 16 [.string ⟨#[]⟩] v w (mx M []) = appendTo 9 1 16 [.string ⟨#[]⟩] v news.length (news.map sV) (mx M []) := by
    simp only [appV, hw, hs]
    rw [if_pos ⟨rfl, by omega, one_strs _, by simp⟩]
  rw [happ]
  have hlen : (ls ++ news).length = ls.length + news.length := List.length_append
  by_cases h0 : news = []
  · subst h0
    refine ⟨v, M, ?_, by rw [List.append_nil]; exact h, .refl _ _, fun x h => .inl h⟩
    rcases h with ⟨rfl, rfl⟩ | ⟨b, rfl, hb, h2⟩
    · rfl
    · simp only [appendTo, if_true, mx_old hb, h2, List.length_nil, List.length_map]
      rw [if_pos (show (Spare.room [Value.string ⟨#[]⟩]).size = 1 from rfl), if_pos (by omega)]
  · have hg : 0 < news.length := List.length_pos_iff.2 h0
    rcases h with ⟨rfl, rfl⟩ | ⟨b, rfl, hb, h2⟩
    · refine ⟨.slice (some ⟨M.size, 0, none⟩) news.length openCap, mx M [.cells (news.map sV) 9 true (.room [.string ⟨#[]⟩])], ?_, .inr ⟨M.size, rfl, by rw [mx_size]; simp, mx_new0 _ _⟩, (Keep.refl _ _).mx _, fun x ⟨o, l, c, h⟩ => by cases h; exact .inr (Nat.le_refl _)⟩
      rw [appendTo_nil hg (by simp only [List.length_nil] at hn; omega) (by simp only [List.length_nil] at hn; omega), mx_push, mx_nil_size, mx_mx]; rfl
    · refine ⟨.slice (some ⟨M.size, 0, none⟩) (ls.length + news.length) openCap, mx (M.set b .dead) [.cells ((ls ++ news).map sV) 9 true (.room [.string ⟨#[]⟩])], ?_, .inr ⟨M.size, by rw [hlen], by rw [mx_size, AMem.size_set]; simp, ?_⟩, ((Keep.refl _ M).set (fun _ => ⟨_, _, _, rfl⟩) _).mx _, fun x ⟨o, l, k, hx⟩ => by cases hx; exact .inr (Nat.le_refl _)⟩
      · rw [appendTo_open (sz := 1) (z' := [.string ⟨#[]⟩]) ((mx_old hb).trans h2) eqPL_str rfl (by omega) (by simp) hg (by omega) (by omega), mx_set_old hb, mx_push, mx_nil_size, mx_mx, ← List.map_append]; rfl
      · have := mx_new0 (M.set b .dead) [.cells ((ls ++ news).map sV) 9 true (.room [.string ⟨#[]⟩])]
        rw [AMem.size_set] at this; exact this
def Src (m : AMem) (a : Option Addr) (ls : List (List UInt8)) : Prop := (a = none ∧ ls = []) ∨ ∃ b o, a = some ⟨b, o, none⟩ ∧ b < m.size ∧ rdO (m.get b) o ls.length = some (ls.map sV)
theorem Src.old {m m' : AMem} {a : Option Addr} {ls : List (List UInt8)} (h : Src m a ls) (ho : Old m m') : Src m' a ls := by
  rcases h with h | ⟨b, o, h1, h2, h3⟩
  · exact .inl h
  · exact .inr ⟨b, o, h1, Nat.lt_of_lt_of_le h2 ho.1, by rw [ho.2 b h2]; exact h3⟩
theorem rdO_part {x : AObj} {o : Nat} {ls : List (List UInt8)} (h : rdO x o ls.length = some (ls.map sV)) {i : Nat} (hi : i < ls.length) : rdO x (o + i) 1 = some [.string ⟨ls[i].toArray⟩] := by
  cases x with
  | cells X e w sp =>
    rw [rdO_cells] at h ⊢
    have hl := cutL_le h
    unfold cutL at h ⊢
    rw [if_pos hl] at h
    cases h2 : X.drop o with
    | nil => have := congrArg List.length h2; rw [List.length_drop, List.length_nil] at this; omega
    | cons y Y =>
      rw [if_pos (by omega), ← List.drop_drop, h2]
      have h3 : ((y :: Y).take ls.length) = ls.map sV := by rw [← h2]; exact Option.some.inj h
      have h4 : ((y :: Y).drop i).take 1 = [(ls.map sV)[i]'(by rw [List.length_map]; exact hi)] := by
        have hlen : i < (y :: Y).length := by have := congrArg List.length h3; rw [List.length_take, List.length_map] at this; omega
        rw [List.drop_eq_getElem_cons hlen, List.take_succ_cons, List.take_zero]
        congr 1
        have : (ls.map sV)[i]'(by rw [List.length_map]; exact hi) = ((y :: Y).take ls.length)[i]'(by rw [List.length_take]; omega) := by simp only [h3]
        rw [this, List.getElem_take]
      rw [h4, List.getElem_map]; rfl
  | _ => cases h
theorem Src.str {m : AMem} {a : Option Addr} {ls : List (List UInt8)} (h : Src m a ls) : StrR m a ls := fun i hi => by
  rcases h with ⟨_, rfl⟩ | ⟨b, o, h1, h2, h3⟩
  · simp at hi
  · exact ⟨b, o, h1, h2, rdO_part h3 hi⟩
theorem Src.src {m : AMem} {a : Option Addr} {ls : List (List UInt8)} (h : Src m a ls) (c : Nat) : srcCells 1 ls.length (.slice a ls.length c) m = some (ls.map sV) := by
  rcases h with ⟨rfl, rfl⟩ | ⟨b, o, rfl, h2, h3⟩
  · rfl
  · rw [srcCells_slice (Nat.le_refl _), rd_def, Nat.mul_one]; exact h3
theorem StrB.src {M : AMem} {a : Option Addr} {n cap : Nat} {ls : List (List UInt8)} (h : StrB M (.slice a n cap) ls) : Src M a ls := by
  rcases h with ⟨rfl, h⟩ | ⟨b, h, h1, h2⟩
  · cases h; exact .inl ⟨rfl, rfl⟩
  · cases h
    refine .inr ⟨b, 0, rfl, h1, ?_⟩
    rw [h2, rdO_cells]; exact cutL_all (by simp)
structure SRow (m M : AMem) (a : Option Addr) (c : Nat) (l : List (List UInt8)) : Prop where
  old : Old m M
  strs : StrB M (.slice a l.length c) l
  own : ∀ x, ownV (.slice a l.length c) x → m.size ≤ x
theorem SRow.nil (m : AMem) : SRow m m none 0 [] := ⟨Old.refl _, .inl ⟨rfl, rfl⟩, fun x ⟨o, l, c, h⟩ => by cases h⟩
theorem SRow.more {m M M' : AMem} {a : Option Addr} {c : Nat} {l : List (List UInt8)} (h : SRow m M a c l) (ho : Old M M') : SRow m M' a c l := ⟨h.old.trans ho, h.strs.old ho, h.own⟩
theorem SRow.app {m M : AMem} {a : Option Addr} {c : Nat} {l news : List (List UInt8)} {w : Value} (h : SRow m M a c l) (hl : l.length + news.length ≤ 1000000) (hw : srcLen w = some news.length) (hs : srcCells 1 news.length w (mx M []) = some (news.map sV)) :
    ∃ a' c' M', appV 9 1 16 [.string ⟨#[]⟩] (.slice a l.length c) w (mx M []) = some (.slice a' (l ++ news).length c', mx M' []) ∧ SRow m M' a' c' (l ++ news) := by
  obtain ⟨v', M', happ, hB, hk, ho⟩ := h.strs.app (w := w) (news := news) (by omega) hw hs
  obtain ⟨a', c', rfl⟩ := hB.len
  have hO := h.old
  refine ⟨a', c', M', happ, ⟨⟨Nat.le_trans hO.1 hk.1, fun y hy => ?_⟩, hB, fun x hx => ?_⟩⟩
  · rw [hk.2 y (Nat.lt_of_lt_of_le hy hO.1) (fun e => by have := h.own y e; omega)]; exact hO.2 y hy
  · rcases ho x hx with e | e
    · exact h.own x e
    · have := hO.1; omega
theorem SRow.one {m M : AMem} {a : Option Addr} {c : Nat} {l : List (List UInt8)} (h : SRow m M a c l) (hl : l.length ≤ 999999) (s : List UInt8) :
    ∃ a' c' M', appV 9 1 16 [.string ⟨#[]⟩] (.slice a l.length c) (.slice (some ⟨M.size, 0, none⟩) 1 1) (mx M [.cells [.string ⟨s.toArray⟩] 9 true .exact]) = some (.slice a' (l ++ [s]).length c', mx M' []) ∧ SRow m M' a' c' (l ++ [s]) := by
  obtain ⟨a', c', M', happ, hS⟩ := (h.more (Old.here M [.cells [.string ⟨s.toArray⟩] 9 true .exact])).app (w := .slice (some ⟨M.size, 0, none⟩) 1 1) (news := [s]) (by simp; omega) rfl (by rw [List.length_singleton, srcCells_slice (Nat.le_refl _), rd_def, mx_mx, List.append_nil, mx_new0]; rfl)
  rw [mx_mx, List.append_nil] at happ
  exact ⟨a', c', M', happ, hS⟩
theorem src_at (M : AMem) (l : List AObj) (k : Nat) {ls : List (List UInt8)} {e : TypeId} {w : Bool} {sp : Spare} (h : l[k]? = some (.cells (ls.map sV) e w sp)) : Src (mx M l) (some ⟨M.size + k, 0, none⟩) ls := by
  have hk : k < l.length := (List.getElem?_eq_some_iff.1 h).1
  have hg : (mx M l).get (M.size + k) = .cells (ls.map sV) e w sp := by rw [mx_new]; simp [List.getD, h]
  exact .inr ⟨_, _, rfl, by rw [mx_size]; omega, by rw [hg, rdO_cells]; exact cutL_all (by simp)⟩
theorem sameTexts_ok (m : AMem) (a1 : Option Addr) (c1 : Nat) (a2 : Option Addr) (c2 : Nat) (l : List (List UInt8)) (h1 : StrR m a1 l) (h2 : StrR m a2 l) (hl : l.length ≤ 9223372036854775807) :
    PureC Try.prog 1 9 [.slice a1 l.length c1, .slice a2 l.length c2] m (.bool true) := by
  refine pure_of_W (fn := Try.f9) rfl rfl F9_ok (by simp [F9]) (.bool _) ?_
  repeat first | simp (implicitDefEqProofs := false) (maxSteps := 1000000) (disch := first | omega | with_reducible assumption | (simp only [lenT, Nat.reduceAdd]; omega)) only [amT, cut, bnd, Nat.reduceBEq, reduceCtorEq, Nat.reduceEqDiff, Nat.reduceAdd, Nat.reduceMul, Nat.reduceSub, Int.reduceToNat, Int.reduceEq, Int.reduceLT, Int.reduceLE, Int.reduceAdd, Int.reduceSub, Int.reduceMul, reduceIte, resVs, resV, packV, initT, addr, F9] | refine OrW.go ?_
  refine W_loop (fun N qs => ∃ (i : Nat), N = l.length - i ∧ qs.ds = [] ∧ qs.m = mx m [] ∧ qs.t 0 = .slice a1 l.length c1 ∧ qs.t 1 = .slice a2 l.length c2 ∧ qs.t 5 = .int .i64 i ∧ i ≤ l.length) (l.length - (0)) ⟨0, rfl, rfl, ?qm, ?q0, ?q1, ?q5, ?_⟩ ?_
  case qm | q0 | q1 | q5 => first | rfl | (simp (implicitDefEqProofs := false) (maxSteps := 1000000) (disch := first | omega | with_reducible assumption | (simp only [lenT, Nat.reduceAdd]; omega)) only [amT, cut, bnd, Nat.reduceBEq, reduceCtorEq, Nat.reduceEqDiff, Nat.reduceAdd, Nat.reduceMul, Nat.reduceSub, Int.reduceToNat, Int.reduceEq, Int.reduceLT, Int.reduceLE, Int.reduceAdd, Int.reduceSub, Int.reduceMul, reduceIte, resVs, resV, packV, initT, addr]; first | done | rfl | (congr 1; omega))
  · omega
  · rintro N t m1 ds ⟨i, rfl, hds, hm, t0, t1, t5, hp⟩
    simp only at hds hm t0 t1 t5
    subst hds; replace hm := hm.symm; subst hm
    by_cases g : (i : Int) < (l.length : Int)
    · have hi : i < l.length := by omega
      obtain ⟨b1, o1, rfl, hb1, r1⟩ := h1 i hi
      obtain ⟨b2, o2, rfl, hb2, r2⟩ := h2 i hi
      repeat first | simp (implicitDefEqProofs := false) (maxSteps := 1000000) (disch := first | omega | with_reducible assumption | (simp only [lenT, Nat.reduceAdd]; omega)) only [amT, cut, bnd, Nat.reduceBEq, reduceCtorEq, Nat.reduceEqDiff, Nat.reduceAdd, Nat.reduceMul, Nat.reduceSub, Int.reduceToNat, Int.reduceEq, Int.reduceLT, Int.reduceLE, Int.reduceAdd, Int.reduceSub, Int.reduceMul, reduceIte, resVs, resV, packV, initT, addr, F9_l0, t0, t1, t5, g, r1, r2] | refine OrW.go ?_
      rw [LoopK_normal]; refine ⟨_, ?_, i + 1, rfl, rfl, ?qm, ?q0, ?q1, ?q5, ?_⟩
      case qm | q0 | q1 | q5 => first | rfl | (simp (implicitDefEqProofs := false) (maxSteps := 1000000) (disch := first | omega | with_reducible assumption | (simp only [lenT, Nat.reduceAdd]; omega)) only [amT, cut, bnd, Nat.reduceBEq, reduceCtorEq, Nat.reduceEqDiff, Nat.reduceAdd, Nat.reduceMul, Nat.reduceSub, Int.reduceToNat, Int.reduceEq, Int.reduceLT, Int.reduceLE, Int.reduceAdd, Int.reduceSub, Int.reduceMul, reduceIte, resVs, resV, packV, initT, addr, t0, t1, t5]; first | done | rfl | (congr 1; omega))
      · omega
      · omega
    · repeat first | simp (implicitDefEqProofs := false) (maxSteps := 1000000) (disch := first | omega | with_reducible assumption | (simp only [lenT, Nat.reduceAdd]; omega)) only [amT, cut, bnd, Nat.reduceBEq, reduceCtorEq, Nat.reduceEqDiff, Nat.reduceAdd, Nat.reduceMul, Nat.reduceSub, Int.reduceToNat, Int.reduceEq, Int.reduceLT, Int.reduceLE, Int.reduceAdd, Int.reduceSub, Int.reduceMul, reduceIte, resVs, resV, packV, initT, addr, F9_l0, t0, t1, t5, g] | refine OrW.go ?_
end Go.Proofs.Ytighienjnhglnaa
namespace Go.Proofs.Ytighienjnhglnaa
open Go Go.AM
set_option linter.unusedVariables false
set_option linter.unusedSimpArgs false
set_option maxHeartbeats 2000000
set_option maxRecDepth 100000

/-- Bytes that are handed in: a slice of none of them may lead anywhere. -/
structure BArg (m : AMem) (a : Option Addr) (cap : Nat) (c : List UInt8) : Prop where
  str : ∀ M, Old m M → b2sV (.slice a c.length cap) M = some (.string ⟨c.toArray⟩, M)
  sl : 0 < c.length → BSl m a cap c
theorem BArg.of {m : AMem} {a : Option Addr} {cap : Nat} {c : List UInt8} (h : BSl m a cap c) : BArg m a cap c := ⟨fun M ho => (h.old ho).str, fun _ => h⟩
theorem BArg.old {m M : AMem} {a : Option Addr} {cap : Nat} {c : List UInt8} (h : BArg m a cap c) (ho : Old m M) : BArg M a cap c := ⟨fun N hn => h.str N (ho.trans hn), fun h0 => (h.sl h0).old ho⟩
theorem BArg.zero (m : AMem) (x o : Nat) : BArg m (some ⟨x, o, none⟩) 0 [] := ⟨fun M _ => rfl, fun h => by simp at h⟩
def allR (b : List UInt8) : List (List UInt8) := onceR (wins okL b)
/-- Between two rounds. -/
structure AllJ (m : AMem) (b : List UInt8) (t : Tmps) (rec : Loop) (k : Nat) (M : AMem) : Prop where
  size : m.size + 6 ≤ M.size
  old : ∀ y, y < m.size → M.get y = m.get y
  strs : ∃ sa sc, M.get m.size = .cells [.slice sa (onceR ((wins okL b).take k)).length sc] 24 true .exact ∧ StrB M (.slice sa (onceR ((wins okL b).take k)).length sc) (onceR ((wins okL b).take k)) ∧ (∀ x, ownV (.slice sa (onceR ((wins okL b).take k)).length sc) x → m.size + 6 ≤ x) ∧ (onceR ((wins okL b).take k) = [] → sa = none ∧ sc = 0)
  seen : M.get (m.size + 2) = .cells [.map (some (m.size + 1))] 47 true .exact
  text : M.get (m.size + 3) = .cells [.string ⟨b.toArray⟩] 9 true .exact
  map : MapAt M (m.size + 1) fun s => if s ∈ onceR ((wins okL b).take k) then some (.int .i64 1) else none
  defd : M.get (m.size + 4) = .defd
  loop : M.get (m.size + 5) = .loop .ready none t rec
theorem AllJ.nil {m : AMem} {b : List UInt8} {t : Tmps} {rec : Loop} {k : Nat} {M : AMem} (h : AllJ m b t rec k M) : AllJ m b t rec k (mx M []) := by
  have hz := h.size
  obtain ⟨sa, sc, g1, g2, g3, g4⟩ := h.strs
  exact ⟨by rw [mx_nil_size]; exact hz, fun y hy => by rw [mx_old (by omega)]; exact h.old y hy, ⟨sa, sc, by rw [mx_old (by omega)]; exact g1, g2.old (Old.here _ _), g3, g4⟩, by rw [mx_old (by omega)]; exact h.seen, by rw [mx_old (by omega)]; exact h.text, h.map.old (Old.here _ _), by rw [mx_old (by omega)]; exact h.defd, by rw [mx_old (by omega)]; exact h.loop⟩
theorem AllJ.next {m : AMem} {b : List UInt8} {t : Tmps} {rec : Loop} {i : Nat} {M : AMem} (h : AllJ m b t rec i M) {N : AMem} (hs : M.size ≤ N.size) (hk : ∀ y, y < m.size + 6 → y ≠ m.size → y ≠ m.size + 1 → y ≠ m.size + 5 → N.get y = M.get y)
    (hl : N.get (m.size + 5) = .loop .ready none t rec) (hst : ∃ sa sc, N.get m.size = .cells [.slice sa (onceR ((wins okL b).take (i + 1))).length sc] 24 true .exact ∧ StrB N (.slice sa (onceR ((wins okL b).take (i + 1))).length sc) (onceR ((wins okL b).take (i + 1))) ∧ (∀ x, ownV (.slice sa (onceR ((wins okL b).take (i + 1))).length sc) x → m.size + 6 ≤ x) ∧ (onceR ((wins okL b).take (i + 1)) = [] → sa = none ∧ sc = 0))
    (hm : MapAt N (m.size + 1) fun s => if s ∈ onceR ((wins okL b).take (i + 1)) then some (.int .i64 1) else none) : AllJ m b t rec (i + 1) N := by
  have hz := h.size
  exact ⟨by omega, fun y hy => by rw [hk y (by omega) (by omega) (by omega) (by omega)]; exact h.old y hy, hst, by rw [hk _ (by omega) (by omega) (by omega) (by omega)]; exact h.seen, by rw [hk _ (by omega) (by omega) (by omega) (by omega)]; exact h.text, hm, by rw [hk _ (by omega) (by omega) (by omega) (by omega)]; exact h.defd, hl⟩
theorem all_round (m : AMem) (b : List UInt8) (hl : b.length ≤ 1000000) (t : Tmps) (h3 : t 3 = .pointer (some ⟨m.size, 0, none⟩)) (h4 : t 4 = .pointer (some ⟨m.size + 2, 0, none⟩)) (rec : Loop) (i : Nat) (M : AMem) (hi : i < (wins okL b).length) (hJ : AllJ m b t rec i M) :
    W Try.prog 1 F7_g0 (AssignK (m.size + 5) t rec fun s' => W Try.prog 1 F7_b0 (RoundK (m.size + 5) t rec fun r M' => r = .ret (.bool true) ∧ AllJ m b t rec (i + 1) M') s') ⟨roundT t [10] [.string ⟨(wins okL b)[i].toArray⟩], mx M [], []⟩ := by
  have hz := hJ.size
  have l5 : m.size + 5 < M.size := by omega
  have hloop := hJ.loop
  simp (implicitDefEqProofs := false) (maxSteps := 1000000) (disch := first | omega | with_reducible assumption | (simp only [lenT, Nat.reduceAdd]; omega)) only [amT, cut, bnd, Nat.reduceBEq, reduceCtorEq, Nat.reduceEqDiff, Nat.reduceAdd, Nat.reduceMul, Nat.reduceSub, Int.reduceToNat, Int.reduceEq, Int.reduceLT, Int.reduceLE, Int.reduceAdd, Int.reduceSub, Int.reduceMul, reduceIte, resVs, resV, packV, initT, addr, F7_g0, roundT, List.zip_cons_cons, List.zip_nil_right, List.foldl_cons, List.foldl_nil]
  refine ⟨by rw [mx_old l5]; exact hloop, ?_⟩
  simp only
  rw [mx_set_old l5]
  obtain ⟨sa, sc, g1, g2, g3, g4⟩ := hJ.strs
  have hsn : (wins okL b).take (i + 1) = (wins okL b).take i ++ [(wins okL b)[i]] := List.take_succ_eq_append_getElem hi
  have hwl : (wins okL b).length ≤ b.length + 1 := by have := winsTo_len okL b (b.length + 1 - 32); unfold wins; omega
  have hLl : (onceR ((wins okL b).take i)).length ≤ b.length + 1 := by have := onceR_len ((wins okL b).take i); rw [List.length_take] at this; omega
  have hon := onceR_snoc ((wins okL b).take i) (wins okL b)[i]
  rw [← hsn] at hon
  have hmap := hJ.map
  have hold := hJ.old
  have hseen := hJ.seen
  have htext := hJ.text
  have hdefd := hJ.defd
  generalize (wins okL b)[i] = w at *
  generalize hL : onceR ((wins okL b).take i) = L at *
  -- the memory in which the body runs
  have e1 : ∀ y, y ≠ m.size + 5 → (M.set (m.size + 5) (.loop .busy none t rec)).get y = M.get y := fun y hy => AMem.get_set_ne _ _ hy
  have e2 : (M.set (m.size + 5) (.loop .busy none t rec)).get (m.size + 5) = .loop .busy none t rec := AMem.get_set_self _ _ _
  have e3 : (M.set (m.size + 5) (.loop .busy none t rec)).size = M.size := rfl
  generalize M.set (m.size + 5) (.loop .busy none t rec) = M1 at *
  have q0 : m.size < M1.size := by omega
  have q2 : m.size + 2 < M1.size := by omega
  have r0 : M1.get m.size = .cells [.slice sa L.length sc] 24 true .exact := by rw [e1 _ (by omega)]; exact g1
  have r2 : M1.get (m.size + 2) = .cells [.map (some (m.size + 1))] 47 true .exact := by rw [e1 _ (by omega)]; exact hseen
  have hmap1 : MapAt M1 (m.size + 1) fun s => if s ∈ L then some (.int .i64 1) else none := hmap.keep (by omega) (e1 _ (by omega))
  have k1 := (hmap1.old (Old.here M1 [])).look (.int .i64 0) false w
  by_cases hw : w ∈ L
  · rw [if_pos hw] at k1 hon
    rw [lkRes_one] at k1
    simp only [Option.getD_some] at k1
    repeat first | simp (implicitDefEqProofs := false) (maxSteps := 1000000) (disch := first | omega | with_reducible assumption | (simp only [lenT, Nat.reduceAdd]; omega)) only [amT, cut, bnd, Nat.reduceBEq, reduceCtorEq, Nat.reduceEqDiff, Nat.reduceAdd, Nat.reduceMul, Nat.reduceSub, Int.reduceToNat, Int.reduceEq, Int.reduceLT, Int.reduceLE, Int.reduceAdd, Int.reduceSub, Int.reduceMul, reduceIte, resVs, resV, packV, initT, addr, F7_b0, h3, h4, r2, q2, stepOp_lkp_v, k1] | refine OrW.go ?_
    refine ⟨by rw [mx_old (by omega)]; exact e2, rfl, ?_⟩
    simp only
    rw [mx_set_old (by omega)]
    have hk : Keep (fun x => x = m.size + 5) M (M1.set (m.size + 5) (.loop .ready none t rec)) := ⟨by rw [AMem.size_set]; omega, fun x hx hn => by rw [AMem.get_set_ne _ _ hn]; exact e1 x hn⟩
    refine (hJ.next hk.1 (fun y _ _ _ hy => hk.2 y (by omega) hy) (AMem.get_set_self _ _ _) ?_ ?_).nil
    · rw [hon]; exact ⟨sa, sc, by rw [hk.2 _ (by omega) (by omega)]; exact g1, g2.keep hk (fun x hx e => by have := g3 x hx; omega), g3, g4⟩
    · rw [hon]; exact hmap.keep hk.1 (hk.2 _ (by omega) (by omega))
  · rw [if_neg hw] at k1 hon
    rw [lkRes_one] at k1
    simp only [Option.getD_none] at k1
    obtain ⟨o, p1, p2⟩ := (hmap1.old (Old.here M1 [])).put w (v := .int .i64 1) rfl
    have q1 : m.size + 1 < M1.size := by omega
    rw [mx_set_old q1] at p1 p2
    have f1 : ∀ y, y ≠ m.size + 1 → (M1.set (m.size + 1) o).get y = M1.get y := fun y hy => AMem.get_set_ne _ _ hy
    have f2 : (M1.set (m.size + 1) o).size = M1.size := rfl
    have p3 : MapAt (M1.set (m.size + 1) o) (m.size + 1) fun s => if s = w then some (.int .i64 1) else if s ∈ L then some (.int .i64 1) else none := p2.keep (by rw [mx_nil_size]; exact Nat.le_refl _) (by rw [mx_old (by rw [f2]; exact q1)])
    have hkM : Keep (fun x => x = m.size + 5 ∨ x = m.size + 1) M (M1.set (m.size + 1) o) := ⟨by omega, fun x hx hn => by rw [f1 x (fun e => hn (.inr e))]; exact e1 x (fun e => hn (.inl e))⟩
    have hst2 : StrB (M1.set (m.size + 1) o) (.slice sa L.length sc) L := g2.keep hkM (fun x hx e => by have := g3 x hx; omega)
    generalize M1.set (m.size + 1) o = M2 at *
    have r0' : M2.get m.size = .cells [.slice sa L.length sc] 24 true .exact := by rw [f1 _ (by omega)]; exact r0
    have r2' : M2.get (m.size + 2) = .cells [.map (some (m.size + 1))] 47 true .exact := by rw [f1 _ (by omega)]; exact r2
    have q0' : m.size < M2.size := by omega
    obtain ⟨v', M3, happ, hB3, hk3, ho3⟩ := (hst2.old (Old.here M2 [.cells [.string ⟨w.toArray⟩] 9 true .exact])).app (w := .slice (some ⟨M2.size, 0, none⟩) 1 1) (news := [w]) (by simp; omega) rfl (by rw [List.length_singleton, srcCells_slice (Nat.le_refl _), rd_def, mx_mx, List.append_nil, mx_new0]; rfl)
    obtain ⟨sa', sc', rfl⟩ := hB3.len
    rw [mx_mx, List.append_nil] at happ
    have hs3 : M2.size + 1 ≤ M3.size := by have := hk3.1; rw [mx_size] at this; simpa using this
    have hg3 : ∀ y, y < m.size + 6 → M3.get y = M2.get y := fun y hy => by rw [hk3.2 y (by rw [mx_size]; omega) (fun e => by have := g3 y e; omega), mx_old (by omega)]
    have r0'' : M3.get m.size = .cells [.slice sa L.length sc] 24 true .exact := by rw [hg3 _ (by omega)]; exact r0'
    have q0'' : m.size < M3.size := by omega
    repeat first | simp (implicitDefEqProofs := false) (maxSteps := 1000000) (disch := first | omega | with_reducible assumption | (simp only [lenT, Nat.reduceAdd]; omega)) only [amT, cut, bnd, Nat.reduceBEq, reduceCtorEq, Nat.reduceEqDiff, Nat.reduceAdd, Nat.reduceMul, Nat.reduceSub, Int.reduceToNat, Int.reduceEq, Int.reduceLT, Int.reduceLE, Int.reduceAdd, Int.reduceSub, Int.reduceMul, reduceIte, resVs, resV, packV, initT, addr, F7_b0, h3, h4, r2, q2, stepOp_lkp_v, k1, stepOp_mup_v, p1, r0', r2', q0', stepOp_app_v, happ, r0'', q0''] | refine OrW.go ?_
    refine ⟨by rw [mx_old (by rw [AMem.size_set]; omega), AMem.get_set_ne _ _ (by omega), hg3 _ (by omega), f1 _ (by omega)]; exact e2, rfl, ?_⟩
    simp only
    rw [mx_set_old (by rw [AMem.size_set]; omega)]
    have ho : ∀ x, ownV (.slice sa' (L ++ [w]).length sc') x → m.size + 6 ≤ x := fun x hx => by
      rcases ho3 x hx with h | h
      · exact g3 x h
      · rw [mx_size] at h; simp at h; omega
    refine (hJ.next ?_ ?_ (AMem.get_set_self _ _ _) ?_ ?_).nil
    · rw [AMem.size_set, AMem.size_set]; omega
    · intro y a b c d
      rw [AMem.get_set_ne _ _ d, AMem.get_set_ne _ _ b, hg3 y a, f1 y c, e1 y d]
    · rw [hon]
      refine ⟨sa', sc', ?_, ?_, ho, fun h => by simp at h⟩
      · rw [AMem.get_set_ne _ _ (by omega), AMem.get_set_self]
        first | rfl | simp
      · refine hB3.keep (O := fun x => x = m.size ∨ x = m.size + 5) ⟨by rw [AMem.size_set, AMem.size_set]; omega, fun x hx hn => ?_⟩ (fun x hx e => by have := ho x hx; omega)
        rw [AMem.get_set_ne _ _ (fun e => hn (.inr e)), AMem.get_set_ne _ _ (fun e => hn (.inl e))]
    · rw [hon]
      have hfe : (fun s => if s ∈ L ++ [w] then some (Value.int .i64 1) else none) = fun s => if s = w then some (Value.int .i64 1) else if s ∈ L then some (Value.int .i64 1) else none := by
        funext s
        by_cases h1 : s = w
        · simp [h1]
        · simp [h1]
      rw [hfe]
      exact p3.keep (by rw [AMem.size_set, AMem.size_set]; omega) (by rw [AMem.get_set_ne _ _ (by omega), AMem.get_set_ne _ _ (by omega), hg3 _ (by omega)])
theorem all_loop (m : AMem) (b : List UInt8) (hl : b.length ≤ 1000000) (t : Tmps) (h3 : t 3 = .pointer (some ⟨m.size, 0, none⟩)) (h4 : t 4 = .pointer (some ⟨m.size + 2, 0, none⟩)) (h9 : t 9 = .func (.func 32) #[] #[.pointer (some ⟨m.size + 3, 0, none⟩)]) (Q : AExit → ASt → Prop)
    (hdone : ∀ rec M, AllJ m b t rec (wins okL b).length M → Q .normal ⟨t, mx (M.set (m.size + 5) .dead) [], [⟨.collected (m.size + 4), #[]⟩]⟩) :
    W Try.prog 1 (.rangeF (.t 9) [10] F7_g0 F7_b0) Q ⟨t, mx m [.cells [.slice none 0 0] 24 true .exact, .map #[] 0, .cells [.map (some (m.size + 1))] 47 true .exact, .cells [.string ⟨b.toArray⟩] 9 true .exact], []⟩ := by
  refine W_rangeT (gf := 32) (first := #[]) (captured := #[.pointer (some ⟨m.size + 3, 0, none⟩)]) (vs := (wins okL b).map fun w => [.string ⟨w.toArray⟩]) h9 ⟨_, _, rfl, rfl, rfl⟩ (letters1_ok (m.size + 3) b hl) (fun x hx => ?_) (fun rec k M => AllJ m b t rec k M) (m.size + 4) (m.size + 5) (by rw [mx_size]; rfl) rfl (fun rec => ?_) (fun rec i M h => ?_) (fun rec i M hi h => ?_) (fun rec M h => ?_)
  · simp only [List.mem_map] at hx; obtain ⟨w, _, rfl⟩ := hx; rfl
  · refine ⟨by rw [mx_size]; simp, fun y hy => mx_old hy, ⟨none, 0, ?_, .inl ⟨rfl, rfl⟩, fun x ⟨o, l, c, h⟩ => (by cases h), fun _ => ⟨rfl, rfl⟩⟩, ?_, ?_, MapAt.new (by rw [mx_size]; simp) ?_, ?_, ?_⟩
    · exact mx_new0 _ _
    · exact mx_new _ _ 2
    · exact mx_new _ _ 3
    · exact mx_new _ _ 1
    · exact mx_new _ _ 4
    · exact mx_new _ _ 5
  · exact ⟨by have := h.size; omega, h.loop, by have := h.size; omega, h.text⟩
  · rw [List.length_map] at hi
    rw [List.getElem_map]
    exact all_round m b hl t h3 h4 rec i M hi h
  · rw [List.length_map] at h
    exact hdone rec M h
theorem all_ok (m : AMem) (a : Option Addr) (c : Nat) (b : List UInt8) (hb : BArg m a c b) (hl : b.length ≤ 1000000) :
    RelC Try.prog 1 7 [.slice a b.length c] m fun v M => Old m M ∧ ∃ a' c', v = .slice a' (allR b).length c' ∧ StrB M (.slice a' (allR b).length c') (allR b) ∧ (∀ x, ownV (.slice a' (allR b).length c') x → m.size ≤ x) ∧ (allR b = [] → a' = none ∧ c' = 0) := by
  refine rel_of_WD (fn := Try.f7) rfl rfl F7_ok (by simp [F7]) ?_
  let o3 : List AObj := [.cells [.slice none 0 0] 24 true .exact, .map #[] 0, .cells [.map (some (m.size + 1))] 47 true .exact]
  have s0 := hb.str _ (Old.here m o3)
  have kL := DetC.known (lettersF_ok (mx m o3) b)
  simp only [o3] at s0 kL
  rw [mx_mx, mx_size] at kL
  simp only [List.length_cons, List.length_nil, Nat.zero_add, Nat.reduceAdd, List.cons_append, List.nil_append] at kL
  have cm : ∀ x, cellsOf (.map x) = some [.map x] := fun _ => rfl
  repeat first | simp (implicitDefEqProofs := false) (maxSteps := 1000000) (disch := first | omega | with_reducible assumption | (simp only [lenT, Nat.reduceAdd]; omega)) only [amT, cut, bnd, Nat.reduceBEq, reduceCtorEq, Nat.reduceEqDiff, Nat.reduceAdd, Nat.reduceMul, Nat.reduceSub, Int.reduceToNat, Int.reduceEq, Int.reduceLT, Int.reduceLE, Int.reduceAdd, Int.reduceSub, Int.reduceMul, reduceIte, resVs, resV, packV, initT, addr, F7, stepOp_mkM, stepOp_b2s_v, s0, kL, cm] | refine OrW.go ?_
  refine all_loop m b hl _ (by simp (implicitDefEqProofs := false) (maxSteps := 1000000) (disch := first | omega | with_reducible assumption | (simp only [lenT, Nat.reduceAdd]; omega)) only [amT, cut, bnd, Nat.reduceBEq, reduceCtorEq, Nat.reduceEqDiff, Nat.reduceAdd, Nat.reduceMul, Nat.reduceSub, Int.reduceToNat, Int.reduceEq, Int.reduceLT, Int.reduceLE, Int.reduceAdd, Int.reduceSub, Int.reduceMul, reduceIte, resVs, resV, packV, initT, addr]) (by simp (implicitDefEqProofs := false) (maxSteps := 1000000) (disch := first | omega | with_reducible assumption | (simp only [lenT, Nat.reduceAdd]; omega)) only [amT, cut, bnd, Nat.reduceBEq, reduceCtorEq, Nat.reduceEqDiff, Nat.reduceAdd, Nat.reduceMul, Nat.reduceSub, Int.reduceToNat, Int.reduceEq, Int.reduceLT, Int.reduceLE, Int.reduceAdd, Int.reduceSub, Int.reduceMul, reduceIte, resVs, resV, packV, initT, addr]) (by simp (implicitDefEqProofs := false) (maxSteps := 1000000) (disch := first | omega | with_reducible assumption | (simp only [lenT, Nat.reduceAdd]; omega)) only [amT, cut, bnd, Nat.reduceBEq, reduceCtorEq, Nat.reduceEqDiff, Nat.reduceAdd, Nat.reduceMul, Nat.reduceSub, Int.reduceToNat, Int.reduceEq, Int.reduceLT, Int.reduceLE, Int.reduceAdd, Int.reduceSub, Int.reduceMul, reduceIte, resVs, resV, packV, initT, addr]) _ fun rec M hJ => ?_
  have hz := hJ.size
  obtain ⟨sa, sc, g1, g2, g3, g4⟩ := hJ.strs
  rw [List.take_length] at g1 g2 g3 g4
  have r0 : (M.set (m.size + 5) .dead).get m.size = .cells [.slice sa (onceR (wins okL b)).length sc] 24 true .exact := by rw [AMem.get_set_ne _ _ (by omega)]; exact g1
  have q0 : m.size < (M.set (m.size + 5) .dead).size := by rw [AMem.size_set]; omega
  have hd : (M.set (m.size + 5) .dead).get (m.size + 4) = .defd := by rw [AMem.get_set_ne _ _ (by omega)]; exact hJ.defd
  have hO : Old m (M.set (m.size + 5) .dead) := ⟨by rw [AMem.size_set]; omega, fun y hy => by rw [AMem.get_set_ne _ _ (by omega)]; exact hJ.old y hy⟩
  have hB : StrB (M.set (m.size + 5) .dead) (.slice sa (onceR (wins okL b)).length sc) (onceR (wins okL b)) := g2.keep (O := fun x => x = m.size + 5) ⟨by rw [AMem.size_set]; exact Nat.le_refl _, fun x hx hn => AMem.get_set_ne _ _ hn⟩ (fun x hx e => by have := g3 x hx; omega)
  have q4 : m.size + 4 < (M.set (m.size + 5) .dead).size := by rw [AMem.size_set]; omega
  generalize M.set (m.size + 5) .dead = N at *
  simp (implicitDefEqProofs := false) (maxSteps := 1000000) (disch := first | omega | with_reducible assumption | (simp only [lenT, Nat.reduceAdd]; omega)) only [amT, cut, bnd, Nat.reduceBEq, reduceCtorEq, Nat.reduceEqDiff, Nat.reduceAdd, Nat.reduceMul, Nat.reduceSub, Int.reduceToNat, Int.reduceEq, Int.reduceLT, Int.reduceLE, Int.reduceAdd, Int.reduceSub, Int.reduceMul, reduceIte, resVs, resV, packV, initT, addr, r0, q0]
  have hO2 : Old m (N.set (m.size + 4) .dead) := ⟨by rw [AMem.size_set]; exact hO.1, fun y hy => by rw [AMem.get_set_ne _ _ (by omega)]; exact hO.2 y hy⟩
  have hB2 : StrB (N.set (m.size + 4) .dead) (.slice sa (onceR (wins okL b)).length sc) (onceR (wins okL b)) := hB.keep (O := fun x => x = m.size + 4) ⟨by rw [AMem.size_set]; exact Nat.le_refl _, fun x hx hn => AMem.get_set_ne _ _ hn⟩ (fun x hx e => by have := g3 x hx; omega)
  refine ⟨mx (N.set (m.size + 4) .dead) [], ?_, ?_⟩
  · simp only [takeD]
    rw [mx_old q4, hd]
    simp only
    rw [mx_set_old q4]
  · simp (implicitDefEqProofs := false) (maxSteps := 1000000) (disch := first | omega | with_reducible assumption | (simp only [lenT, Nat.reduceAdd]; omega)) only [amT, cut, bnd, Nat.reduceBEq, reduceCtorEq, Nat.reduceEqDiff, Nat.reduceAdd, Nat.reduceMul, Nat.reduceSub, Int.reduceToNat, Int.reduceEq, Int.reduceLT, Int.reduceLE, Int.reduceAdd, Int.reduceSub, Int.reduceMul, reduceIte, resVs, resV, packV, initT, addr]
    exact ⟨_, rfl, fun _ => ⟨hO2.mx [], sa, sc, rfl, hB2.old (Old.here _ _), fun x hx => by have := g3 x hx; omega, g4⟩⟩
  done
def strA (m : AMem) (l : List (List UInt8)) : Option Addr := if l = [] then none else some ⟨m.size, 0, none⟩
def strC (l : List (List UInt8)) : Nat := if l = [] then 0 else openCap
def strO (l : List (List UInt8)) : List AObj := if l = [] then [] else [.cells (l.map sV) 9 true (.room [.string ⟨#[]⟩])]
/-- The texts alone are what a call leaves. -/
theorem det_strs {f : FuncId} {args : List Value} {m : AMem} {l : List (List UInt8)} (h : RelC Try.prog 1 f args m fun v M => Old m M ∧ ∃ a c, v = .slice a l.length c ∧ StrB M (.slice a l.length c) l ∧ (∀ x, ownV (.slice a l.length c) x → m.size ≤ x) ∧ (l = [] → a = none ∧ c = 0)) :
    DetC Try.prog 1 f args m (.slice (strA m l) l.length (strC l)) (mx m (strO l)) := by
  refine ACall.gather h ?_
  rintro r m' ⟨v, rfl, hO, a, c, rfl, hB, ho, hn⟩ hg
  by_cases hl : l = []
  · subst hl
    obtain ⟨rfl, rfl⟩ := hn rfl
    refine ⟨_, _, mx m [], keepS m [], rfl, Kept.gather ⟨rfl, rfl, fun b hb => .inl ⟨rfl, hO.2 b hb⟩, by simp, by simp, by simp⟩, ?_, rfl, rfl⟩
    exact .plain (Plain.nilSlice 0 0)
  · rcases hB with ⟨h0, _⟩ | ⟨b, he, h1, h2⟩
    · exact absurd h0 hl
    · cases he
      have hb : m.size ≤ b := ho b ⟨_, _, _, rfl⟩
      simp only [strA, strC, strO, if_neg hl]
      refine ⟨_, .slice (some ⟨m.size, 0, none⟩) l.length openCap, mx m [.cells (l.map sV) 9 true (.room [.string ⟨#[]⟩])], keepS m [b], rfl, Kept.gather ⟨rfl, rfl, fun y hy => .inl ⟨rfl, hO.2 y hy⟩, fun x hx => by rw [List.mem_singleton] at hx; subst hx; exact hb, by simp, fun i h h' => ?_⟩, ?_, rfl, rfl⟩
      · obtain rfl : i = 0 := by simpa using h
        simp only [List.getElem_cons_zero, h2]
        exact RenObj.plain fun v hv => by simp only [List.mem_map] at hv; obtain ⟨y, _, rfl⟩ := hv; exact Plain.string _
      · exact .slice keepS_new0
theorem all_det (m : AMem) (a : Option Addr) (c : Nat) (b : List UInt8) (hb : BArg m a c b) (hl : b.length ≤ 1000000) : DetC Try.prog 1 7 [.slice a b.length c] m (.slice (strA m (allR b)) (allR b).length (strC (allR b))) (mx m (strO (allR b))) := det_strs (all_ok m a c b hb hl)
end Go.Proofs.Ytighienjnhglnaa
namespace Go.Proofs.Ytighienjnhglnaa.N
open Go Go.AM
set_option maxRecDepth 100000
set_option linter.unusedVariables false
set_option linter.unusedSimpArgs false

def zeroD : List UInt8 := List.replicate 32 0
def oneD : List UInt8 := 248 :: List.replicate 31 0
theorem z32 : [Value.int .u8 0, .int .u8 0, .int .u8 0, .int .u8 0, .int .u8 0, .int .u8 0, .int .u8 0, .int .u8 0, .int .u8 0, .int .u8 0, .int .u8 0, .int .u8 0, .int .u8 0, .int .u8 0, .int .u8 0, .int .u8 0, .int .u8 0, .int .u8 0, .int .u8 0, .int .u8 0, .int .u8 0, .int .u8 0, .int .u8 0, .int .u8 0, .int .u8 0, .int .u8 0, .int .u8 0, .int .u8 0, .int .u8 0, .int .u8 0, .int .u8 0, .int .u8 0] = zeroD.map byteV := by rfl
def gcc : List UInt8 := [103, 99, 99, 45, 49, 46, 50]
theorem f1 : lettersOf zeroD = List.replicate 32 48 := by decide +kernel
theorem f2 : lettersOf oneD = 122 :: List.replicate 31 48 := by decide +kernel
theorem f3 : nameR zeroD gcc = (List.replicate 32 48 ++ [45] ++ gcc, 0) := by decide +kernel
theorem f4 : parseR (List.replicate 32 48 ++ [45] ++ gcc) = (List.replicate 32 48, gcc, 0) := by decide +kernel
theorem f6 : rightB [46, 97] = false ∧ rightB [97, 32, 98] = false := by decide +kernel
end Go.Proofs.Ytighienjnhglnaa.N
namespace Go.Proofs.Ytighienjnhglnaa.N
open Go Go.AM
set_option maxRecDepth 100000
set_option linter.unusedVariables false
set_option linter.unusedSimpArgs false

end Go.Proofs.Ytighienjnhglnaa.N
