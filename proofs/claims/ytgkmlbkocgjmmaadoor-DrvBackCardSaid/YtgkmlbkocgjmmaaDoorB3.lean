/- Derivations: names. -/
import Derived.Test.YtgkmlbkocgjmmaaDoorA4
import Derived.Test.YtgkmlbkocgjmmaaDoorDrvF
import Derived.Test.YtgkmlbkocgjmmaaDoorB2
import Derived.Test.YtgkmlbkocgjmmaaDoorB1
import Derived.Test.YtgkmlbkocgjmmaaDoorDrvF3
import Derived.Test.YtgkmlbkocgjmmaaDoorDrvF5
import Derived.Test.YtgkmlbkocgjmmaaDoorRows
import Derived.WalkKit
import Derived.ProofKit
import Derived.OpenShut
import Derived.ShutString
import Derived.ChangeOld
import Derived.Below
import Derived.SizedLaws
import Derived.Handed
import Derived.JoinedOf
import Derived.Deep.Slices
set_option linter.unusedVariables false
set_option linter.unusedSimpArgs false
set_option linter.unnecessarySimpa false
namespace Go.AM
set_option linter.unusedVariables false

/-- A word as a cell. -/
def w32 (x : UInt32) : Value := .int .u32 (x.toNat : Int)
theorem w32_def (x : UInt32) : w32 x = .int .u32 (x.toNat : Int) := rfl
theorem plain_w32 (x : UInt32) : Plain (w32 x) := .int _ _
def shrW (x : UInt32) (b : Nat) : UInt32 := UInt32.ofNat (x.toNat >>> b)
def shlW (x : UInt32) (b : Nat) : UInt32 := UInt32.ofNat (x.toNat <<< b)
def rotr (b : Nat) (x : UInt32) : UInt32 := shrW x b ||| shlW x (32 - b)

theorem wrap_u32n (n : Nat) : IntKind.u32.wrap (n : Int) = ((n % 2 ^ 32 : Nat) : Int) := by simp [IntKind.wrap, IntKind.bits, IntKind.signed]
theorem u32_le (x : UInt32) : (x.toNat : Int) ≤ IntKind.u32.max := by
  have := x.toNat_lt; rw [max_u32]; omega
theorem binV_addw (x y : UInt32) : binV .add (w32 x) (w32 y) = some (w32 (x + y)) := by
  rw [w32_def, w32_def, binV_add, w32_def, show (x.toNat : Int) + y.toNat = ((x.toNat + y.toNat : Nat) : Int) by push_cast; rfl, wrap_u32n, UInt32.toNat_add]
theorem binV_andw (x y : UInt32) : binV .and (w32 x) (w32 y) = some (w32 (x &&& y)) := by
  rw [w32_def, w32_def, binV_and, w32_def, ibits_and_nat (u32_le x) (u32_le y), UInt32.toNat_and]
theorem binV_orw (x y : UInt32) : binV .or (w32 x) (w32 y) = some (w32 (x ||| y)) := by
  rw [w32_def, w32_def, binV_or, w32_def, ibits_or_nat (u32_le x) (u32_le y), UInt32.toNat_or]
theorem binV_xorw (x y : UInt32) : binV .xor (w32 x) (w32 y) = some (w32 (x ^^^ y)) := by
  rw [w32_def, w32_def, binV_xor, w32_def, ibits_xor_nat (u32_le x) (u32_le y), UInt32.toNat_xor]
theorem ofInt_w (x : UInt32) : BitVec.ofInt IntKind.u32.bits (x.toNat : Int) = x.toBitVec := by
  apply BitVec.eq_of_toNat_eq
  rw [ofInt_nat (u32_le x)]; rfl
theorem ibits_andNotw (x y : UInt32) : ibits .andNot .u32 (x.toNat : Int) (y.toNat : Int) = ((x &&& ~~~y).toNat : Int) := by
  simp only [ibits, ofInt_w]
  have h : ((x.toBitVec &&& ~~~y.toBitVec).toNat : Int) ≤ IntKind.u32.max := by
    have := (x.toBitVec &&& ~~~y.toBitVec).isLt
    rw [max_u32]; omega
  exact (wrap_small h).trans rfl
theorem binV_andNotw (x y : UInt32) : binV .andNot (w32 x) (w32 y) = some (w32 (x &&& ~~~y)) := by
  rw [w32_def, w32_def, binV_andNot, w32_def, ibits_andNotw]
theorem binV_shrw {k : IntKind} {x : UInt32} {b : Nat} (h : b ≤ 32) : binV .shr (w32 x) (.int k (b : Int)) = some (w32 (shrW x b)) := by
  rw [w32_def, binV_shr _ _ (by omega), w32_def, shr_nat _ _ _ (by simpa [IntKind.bits] using h)]
  have h2 : x.toNat >>> b < 2 ^ 32 := Nat.lt_of_le_of_lt (Nat.shiftRight_le _ _) x.toNat_lt
  simp [shrW, Nat.mod_eq_of_lt h2]
theorem binV_shlw {k : IntKind} {x : UInt32} {b : Nat} (h : b ≤ 32) : binV .shl (w32 x) (.int k (b : Int)) = some (w32 (shlW x b)) := by
  rw [w32_def, binV_shl _ _ (by omega), w32_def]
  simp only [shl, Int.toNat_natCast, show min b IntKind.u32.bits = b by simp [IntKind.bits]; omega]
  rw [show (x.toNat : Int) * 2 ^ b = ((x.toNat * 2 ^ b : Nat) : Int) by push_cast; rfl, wrap_u32n]
  simp [shlW, Nat.shiftLeft_eq]
theorem not_w (x : UInt32) : unV .xor (w32 x) = some (w32 (~~~x)) := by
  have h := ibits_xor_nat (u32_le (0xFFFFFFFF : UInt32)) (u32_le x)
  have h1 : (((0xFFFFFFFF : UInt32).toNat : Nat) : Int) = 4294967295 := rfl
  rw [h1] at h
  have h2 : (~~~x).toNat = (0xFFFFFFFF : UInt32).toNat ^^^ x.toNat := by
    rw [← UInt32.toNat_xor]; congr 1
  rw [w32_def, w32_def, h2, ← h]; rfl
theorem ws_get {l : List UInt32} {i : Nat} (h : i < l.length) : (l.map w32)[i]? = some (w32 l[i]) := by simp [h]
theorem ws_set (l : List UInt32) (i : Nat) (x : UInt32) : (l.map w32).set i (w32 x) = (l.set i x).map w32 := by simp [List.map_set]
theorem cellsOf_w (x : UInt32) : cellsOf (w32 x) = some [w32 x] := rfl
theorem cellsOf_ws (l : List UInt32) : cellsOf (.agg (l.map w32).toArray) = some (l.map w32) := by
  simp [cellsOf, oneCell, w32]

theorem amW : type_of% @binV_addw ∧ type_of% @binV_andw ∧ type_of% @binV_orw ∧ type_of% @binV_xorw ∧ type_of% @binV_andNotw ∧ type_of% @not_w ∧ type_of% @ws_get ∧ type_of% @ws_set ∧ type_of% @cellsOf_w ∧ type_of% @cellsOf_ws :=
  ⟨@binV_addw, @binV_andw, @binV_orw, @binV_xorw, @binV_andNotw, @not_w, @ws_get, @ws_set, @cellsOf_w, @cellsOf_ws⟩
/-! Sums of bits. -/
theorem or_comm_w (a b : UInt32) : a ||| b = b ||| a := by
  apply UInt32.toNat_inj.1; rw [UInt32.toNat_or, UInt32.toNat_or, Nat.or_comm]

/-! ### The function, in plain words -/
def spl {α : Type} (R : List α) (o : Nat) (c : List α) : List α := R.take o ++ c ++ R.drop (o + c.length)
theorem splice_spl (R v : List Value) (o : Nat) : splice R o v = spl R o v := rfl
theorem spl_length {α : Type} {R c : List α} {o : Nat} (h : o + c.length ≤ R.length) : (spl R o c).length = R.length := by simp [spl]; omega
theorem spl_nil {α : Type} (R : List α) (o : Nat) : spl R o [] = R := by simp [spl]
theorem spl_map {α β : Type} (f : α → β) (R c : List α) (o : Nat) : (spl R o c).map f = spl (R.map f) o (c.map f) := by simp [spl, List.map_take, List.map_drop]
theorem spl_get {α : Type} {R c : List α} {o : Nat} (h : o + c.length ≤ R.length) (i : Nat) : (spl R o c)[i]? = if i < o then R[i]? else if i < o + c.length then c[i - o]? else R[i]? := by
  simp only [spl, List.append_assoc]
  by_cases h1 : i < o
  · rw [if_pos h1, List.getElem?_append_left (by simp; omega), List.getElem?_take_of_lt h1]
  · rw [if_neg h1, List.getElem?_append_right (by simp; omega)]
    have hl : (R.take o).length = o := by simp; omega
    rw [hl]
    by_cases h2 : i < o + c.length
    · rw [if_pos h2, List.getElem?_append_left (by omega)]
    · rw [if_neg h2, List.getElem?_append_right (by omega), List.getElem?_drop]; congr 1; omega
theorem spl_cons {α : Type} {R c : List α} {o : Nat} {x : α} (h : o + c.length < R.length) : spl R o (x :: c) = spl (R.set o x) (o + 1) c := by
  apply List.ext_getElem?
  intro i
  rw [spl_get (by simp; omega), spl_get (by simp; omega)]
  simp only [List.length_cons]
  by_cases h1 : i < o
  · rw [if_pos h1, if_pos (by omega), List.getElem?_set_ne (by omega)]
  · rw [if_neg h1]
    by_cases h2 : i = o
    · subst h2; rw [if_pos (by omega), if_pos (by omega), List.getElem?_set_self (by omega)]; simp
    · rw [if_neg (show ¬ i < o + 1 by omega)]
      by_cases h3 : i < o + (c.length + 1)
      · rw [if_pos h3, if_pos (by omega), show i - o = (i - (o + 1)) + 1 by omega, List.getElem?_cons_succ]
      · rw [if_neg h3, if_neg (by omega), List.getElem?_set_ne (by omega)]
theorem spl_snoc {α : Type} {R c : List α} {o k : Nat} {x : α} (hk : k = o + c.length) (h : k < R.length) : (spl R o c).set k x = spl R o (c ++ [x]) := by
  subst hk
  apply List.ext_getElem?
  intro i
  rw [spl_get (by simp; omega)]
  simp only [List.length_append, List.length_singleton]
  by_cases h2 : i = o + c.length
  · subst h2
    rw [List.getElem?_set_self (by rw [spl_length (by omega)]; omega), if_neg (by omega), if_pos (by omega), show o + c.length - o = c.length by omega]; simp
  · rw [List.getElem?_set_ne (by omega), spl_get (by omega)]
    by_cases h1 : i < o
    · rw [if_pos h1, if_pos h1]
    · rw [if_neg h1, if_neg h1]
      by_cases h3 : i < o + c.length
      · rw [if_pos h3, if_pos (by omega), List.getElem?_append_left (by omega)]
      · rw [if_neg h3, if_neg (by omega)]

def zip2 (a b : List UInt32) : List UInt32 := List.zipWith (· + ·) a b
theorem zip2_length {a b : List UInt32} {n : Nat} (ha : a.length = n) (hb : b.length = n) : (zip2 a b).length = n := by simp [zip2, ha, hb]
def beginW : List UInt32 := [1779033703, 3144134277, 1013904242, 2773480762, 1359893119, 2600822924, 528734635, 1541459225]
def movedW (x : UInt32) (k l m : Nat) : UInt32 := rotr k x ^^^ rotr l x ^^^ shrW x m
def turnedW (x : UInt32) (k l m : Nat) : UInt32 := rotr k x ^^^ rotr l x ^^^ rotr m x
def word4 (l : List UInt8) : UInt32 := l.foldl (fun a c => shlW a 8 ||| UInt32.ofNat c.toNat) 0
def wordAt (b : List UInt8) (W : List UInt32) (t : Nat) : UInt32 :=
  if t < 16 then word4 ((b.drop (4 * t)).take 4) else movedW (W.getD (t - 2) 0) 17 19 10 + W.getD (t - 7) 0 + movedW (W.getD (t - 15) 0) 7 18 3 + W.getD (t - 16) 0
def sched (b : List UInt8) : Nat → List UInt32
  | 0 => []
  | t + 1 => sched b t ++ [wordAt b (sched b t) t]
theorem sched_length (b : List UInt8) : ∀ t, (sched b t).length = t
  | 0 => rfl
  | t + 1 => by simp [sched, sched_length b t]
def roundW (v : List UInt32) (k w : UInt32) : List UInt32 := match v with
  | [a, b, c, d, e, f, g, h] =>
    [h + turnedW e 6 11 25 + (e &&& f ||| g &&& ~~~e) + k + w + (turnedW a 2 13 22 + (a &&& b ^^^ a &&& c ^^^ b &&& c)), a, b, c, d + (h + turnedW e 6 11 25 + (e &&& f ||| g &&& ~~~e) + k + w), e, f, g]
  | v => v
theorem roundW_length (v : List UInt32) (k w : UInt32) : (roundW v k w).length = v.length := by unfold roundW; split <;> rfl
def roundsW (K : List UInt32) (b : List UInt8) (v : List UInt32) : Nat → List UInt32
  | 0 => v
  | t + 1 => roundW (roundsW K b v t) (K.getD t 0) ((sched b 64).getD t 0)
theorem roundsW_length (K : List UInt32) (b : List UInt8) (v : List UInt32) : ∀ t, (roundsW K b v t).length = v.length
  | 0 => rfl
  | t + 1 => by rw [roundsW, roundW_length, roundsW_length K b v t]
def constW : List UInt32 := [1116352408, 1899447441, 3049323471, 3921009573, 961987163, 1508970993, 2453635748, 2870763221, 3624381080, 310598401, 607225278, 1426881987, 1925078388, 2162078206, 2614888103, 3248222580, 3835390401, 4022224774, 264347078, 604807628, 770255983, 1249150122, 1555081692, 1996064986, 2554220882, 2821834349, 2952996808, 3210313671, 3336571891, 3584528711, 113926993, 338241895, 666307205, 773529912, 1294757372, 1396182291, 1695183700, 1986661051, 2177026350, 2456956037, 2730485921, 2820302411, 3259730800, 3345764771, 3516065817, 3600352804, 4094571909, 275423344, 430227734, 506948616, 659060556, 883997877, 958139571, 1322822218, 1537002063, 1747873779, 1955562222, 2024104815, 2227730452, 2361852424, 2428436474, 2756734187, 3204031479, 3329325298]
/-- What a block adds. -/
def moreStep (M : List UInt32) (b : List UInt8) : List UInt32 := zip2 M (roundsW constW b (zip2 beginW M) 64)
theorem moreStep_length {M : List UInt32} {b : List UInt8} (h : M.length = 8) : (moreStep M b).length = 8 :=
  zip2_length h (by rw [roundsW_length]; exact zip2_length rfl h)

/-- The first k of one row, the others of another. -/
def mix {α : Type} (k : Nat) (X B : List α) : List α := X.take k ++ B.drop k
theorem mix_zero {α : Type} (X B : List α) : mix 0 X B = B := by simp [mix]
theorem mix_all {α : Type} {k : Nat} {X B : List α} (h : X.length = k) (h' : B.length = k) : mix k X B = X := by
  simp only [mix]; rw [List.take_of_length_le (by omega), List.drop_of_length_le (by omega), List.append_nil]
theorem mix_length {α : Type} {k : Nat} {X B : List α} (h : X.length = B.length) : (mix k X B).length = B.length := by simp [mix]; omega
theorem mix_get {α : Type} {k : Nat} {X B : List α} (h : X.length = B.length) (hk : k < B.length) : (mix k X B)[k]'(by rw [mix_length h]; exact hk) = B[k] := by
  simp only [mix]
  rw [List.getElem_append_right (by simp; omega)]
  simp [List.length_take, show min k X.length = k by omega]
theorem mix_set {α : Type} {k : Nat} {X B : List α} (h : X.length = B.length) (hk : k < X.length) : (mix k X B).set k X[k] = mix (k + 1) X B := by
  apply List.ext_getElem?
  intro i
  have hl : (X.take k).length = k := by simp; omega
  have hl' : (X.take (k + 1)).length = k + 1 := by simp; omega
  by_cases hi : i = k
  · subst hi
    rw [List.getElem?_set_self (by rw [mix_length h]; omega)]
    simp only [mix]
    rw [List.getElem?_append_left (by omega), List.getElem?_take_of_lt (by omega), List.getElem?_eq_getElem hk]
  · rw [List.getElem?_set_ne (by omega)]
    simp only [mix]
    by_cases h1 : i < k
    · rw [List.getElem?_append_left (by omega), List.getElem?_append_left (by omega), List.getElem?_take_of_lt h1, List.getElem?_take_of_lt (by omega)]
    · rw [List.getElem?_append_right (by omega), List.getElem?_append_right (by omega), List.getElem?_drop, List.getElem?_drop, hl, hl']
      congr 1; omega
theorem zip2_get {a b : List UInt32} {i : Nat} (ha : i < a.length) (hb : i < b.length) : (zip2 a b)[i]'(by simp [zip2]; omega) = a[i] + b[i] := by simp [zip2]

structure HS where
  M : List UInt32
  R : List UInt8
  n : Nat
def hs0 : HS := ⟨List.replicate 8 0, List.replicate 64 0, 0⟩
def HS.put1 (s : HS) (c : UInt8) : HS := ⟨if (s.n + 1) % 64 = 0 then moreStep s.M (s.R.set (s.n % 64) c) else s.M, s.R.set (s.n % 64) c, s.n + 1⟩
def HS.put (s : HS) (l : List UInt8) : HS := l.foldl HS.put1 s
theorem HS.put_append (s : HS) (a b : List UInt8) : s.put (a ++ b) = (s.put a).put b := by simp [HS.put]
theorem HS.put_nil (s : HS) : s.put [] = s := rfl
def HS.ok (s : HS) : Prop := s.M.length = 8 ∧ s.R.length = 64
theorem HS.put1_ok {s : HS} (h : s.ok) (c : UInt8) : (s.put1 c).ok := by
  refine ⟨?_, by simp [HS.put1, h.2]⟩
  simp only [HS.put1]; split
  · exact moreStep_length h.1
  · exact h.1
theorem HS.put_ok {s : HS} (h : s.ok) (l : List UInt8) : (s.put l).ok := by
  induction l generalizing s with
  | nil => exact h
  | cons c l ih => exact ih (HS.put1_ok h c)
theorem hs0_ok : hs0.ok := ⟨rfl, rfl⟩
theorem HS.put_n (s : HS) (l : List UInt8) : (s.put l).n = s.n + l.length := by
  induction l generalizing s with
  | nil => rfl
  | cons c l ih => rw [HS.put, List.foldl_cons]; have := ih (s.put1 c); rw [HS.put] at this; rw [this]; simp [HS.put1]; omega

/-- A piece that fits into the block. -/
theorem HS.put_fit {s : HS} (h : s.ok) {c : List UInt8} (hf : s.n % 64 + c.length < 64) : s.put c = ⟨s.M, spl s.R (s.n % 64) c, s.n + c.length⟩ := by
  induction c generalizing s with
  | nil => simp [HS.put, spl_nil]
  | cons x c ih =>
    have h1 : s.put1 x = ⟨s.M, s.R.set (s.n % 64) x, s.n + 1⟩ := by
      simp only [List.length_cons] at hf
      unfold HS.put1; rw [if_neg (by omega)]
    simp only [List.length_cons] at hf
    have h2 : (s.n + 1) % 64 = s.n % 64 + 1 := by omega
    show (s.put1 x).put c = _
    rw [ih (HS.put1_ok h x) (by rw [h1]; simp only; omega), h1]
    simp only [h2, List.length_cons]
    rw [spl_cons (by rw [h.2]; omega)]
    congr 1; omega
theorem HS.put_full {s : HS} (h : s.ok) {c : List UInt8} (hc : c ≠ []) (hf : s.n % 64 + c.length = 64) : s.put c = ⟨moreStep s.M (spl s.R (s.n % 64) c), spl s.R (s.n % 64) c, s.n + c.length⟩ := by
  obtain ⟨a, x, rfl⟩ : ∃ a x, c = a ++ [x] := ⟨c.dropLast, c.getLast hc, (List.dropLast_concat_getLast hc).symm⟩
  simp only [List.length_append, List.length_singleton] at hf
  rw [HS.put_append, HS.put_fit h (by omega)]
  simp only [HS.put, List.foldl_cons, List.foldl_nil, HS.put1]
  have h2 : (s.n + a.length) % 64 = 63 := by omega
  have h3 : (spl s.R (s.n % 64) a).set 63 x = spl s.R (s.n % 64) (a ++ [x]) := spl_snoc (by omega) (by rw [h.2]; omega)
  rw [if_pos (by omega), h2, h3]
  simp only [List.length_append, List.length_singleton, Nat.add_assoc]
/-- The state's cells. -/
def cH (s : HS) : List Value := s.M.map w32 ++ (s.R.map byteV ++ [.int .u64 (s.n : Int)])
theorem cH_length {s : HS} (h : s.ok) : (cH s).length = 73 := by simp [cH, h.1, h.2]
theorem cH_M {s : HS} (h : s.ok) : cutL (cH s) 0 8 = some (s.M.map w32) := by
  have := cH_length h
  simp only [cutL]; rw [if_pos (by omega)]
  have hl : (s.M.map w32).length = 8 := by simp [h.1]
  simp [cH, h.1]
theorem cH_all {s : HS} (h : s.ok) : cutL (cH s) 0 73 = some (cH s) := cutL_all (cH_length h)
theorem cH_n {s : HS} (h : s.ok) : (cH s)[72]? = some (.int .u64 (s.n : Int)) := by
  rw [cH, List.getElem?_append_right (by simp [h.1]), List.getElem?_append_right (by simp [h.1, h.2])]
  simp [h.1, h.2]
theorem cH_Mi {s : HS} (h : s.ok) {i : Nat} (hi : i < 8) : (cH s)[i]? = some (w32 (s.M[i]'(by rw [h.1]; exact hi))) := by
  rw [cH, List.getElem?_append_left (by simp [h.1]; exact hi), ws_get]
theorem cH_Ri {s : HS} (h : s.ok) {i : Nat} (hi : i < 64) : (cH s)[8 + i]? = some (byteV (s.R[i]'(by rw [h.2]; exact hi))) := by
  rw [cH, List.getElem?_append_right (by simp [h.1]), List.getElem?_append_left (by simp [h.1, h.2]; exact hi)]
  simp only [List.length_map, h.1, Nat.add_sub_cancel_left]
  rw [bytes_get]
theorem cH_setM {s : HS} (h : s.ok) {i : Nat} (hi : i < 8) (x : UInt32) : (cH s).set i (w32 x) = cH { s with M := s.M.set i x } := by
  simp only [cH]
  rw [List.set_append_left _ _ (by simp [h.1]; exact hi), ws_set]
theorem cH_setn {s : HS} (h : s.ok) (n : Nat) : (cH s).set 72 (.int .u64 (n : Int)) = cH { s with n := n } := by
  simp only [cH]
  rw [List.set_append_right _ _ (by simp [h.1]), List.set_append_right _ _ (by simp [h.1, h.2])]
  simp [h.1, h.2]
theorem spl_app {α : Type} {A B C c : List α} {o : Nat} (h : o + c.length ≤ B.length) : spl (A ++ (B ++ C)) (A.length + o) c = A ++ (spl B o c ++ C) := by
  have e1 : (A ++ (B ++ C)).take (A.length + o) = A ++ B.take o := by
    rw [List.take_append, List.take_of_length_le (by omega), show A.length + o - A.length = o by omega, List.take_append, show o - B.length = 0 by omega]; simp
  have e2 : (A ++ (B ++ C)).drop (A.length + o + c.length) = B.drop (o + c.length) ++ C := by
    rw [List.drop_append, List.drop_of_length_le (by omega), show A.length + o + c.length - A.length = o + c.length by omega, List.drop_append, show o + c.length - B.length = 0 by omega]; simp
  simp only [spl]; rw [e1, e2]; simp
theorem cH_R {s : HS} (h : s.ok) {at_ : Nat} {c : List UInt8} (hc : at_ + c.length ≤ 64) : splice (cH s) (8 + at_) (c.map byteV) = cH { s with R := spl s.R at_ c } := by
  have h8 : (s.M.map w32).length = 8 := by simp [h.1]
  have := spl_app (A := s.M.map w32) (B := s.R.map byteV) (C := [.int .u64 (s.n : Int)]) (c := c.map byteV) (o := at_) (by simp [h.2]; exact hc)
  rw [h8] at this
  rw [splice_spl, cH, cH, this, spl_map]
theorem plain_cH (s : HS) : ∀ v ∈ cH s, Plain v := fun v hv => by
  simp only [cH, List.mem_append, List.mem_map, List.mem_singleton] at hv
  rcases hv with ⟨x, _, rfl⟩ | ⟨x, _, rfl⟩ | rfl
  · exact plain_w32 _
  · exact .int _ _
  · exact .int _ _
theorem oneCell_w (x : UInt32) : oneCell (w32 x) = true := rfl
theorem len8 {l : List UInt32} (h : l.length = 8) : ∃ a b c d e f g i, l = [a, b, c, d, e, f, g, i] := by
  match l, h with
  | [a, b, c, d, e, f, g, i], _ => exact ⟨a, b, c, d, e, f, g, i, rfl⟩
end Go.AM
namespace Go.Proofs.YtgkmlbkocgjmmaaDoor.S
open Go Go.AM
set_option maxRecDepth 100000
set_option linter.unusedVariables false
set_option linter.unusedSimpArgs false

theorem rot_ok (m : AMem) (x : UInt32) (k : Nat) (h1 : 1 ≤ k) (h2 : k ≤ 31) : PureC Tryd.prog 3 94 [w32 x, .int .i64 (0 - (k : Int))] m (w32 (rotr k x)) := by
  refine pure_of_W (fn := Tryd.f94) rfl rfl F94_ok (by simp [F94]) (plain_w32 _) ?_
  have e1 : ibits .and .u64 (IntKind.u64.wrap (0 - (k : Int))) 31 = ((32 - k : Nat) : Int) := by
    have : ∀ k : Fin 32, 1 ≤ k.val → ibits .and .u64 (IntKind.u64.wrap (0 - (k.val : Int))) 31 = ((32 - k.val : Nat) : Int) := by decide +kernel
    exact this ⟨k, by omega⟩ h1
  have e2 : IntKind.u64.wrap (32 - ((32 - k : Nat) : Int)) = (k : Int) := by rw [wrap_u64 (by omega) (by omega)]; omega
  simp (implicitDefEqProofs := false) (maxSteps := 1000000) (disch := first | omega | with_reducible assumption | (simp only [lenT, Nat.reduceAdd]; omega)) only [amT, cut, bnd, Nat.reduceBEq, reduceCtorEq, Nat.reduceEqDiff, Nat.reduceAdd, Nat.reduceMul, Nat.reduceSub, Int.reduceToNat, Int.reduceEq, Int.reduceLT, Int.reduceLE, Int.reduceAdd, Int.reduceSub, Int.reduceMul, reduceIte, resVs, resV, packV, initT, addr, F94, e1, e2, amW, binV_shrw, binV_shlw]
  rw [or_comm_w]; rfl
theorem kRot {m : AMem} {x : UInt32} {k : Nat} (h1 : 1 ≤ k) (h2 : k ≤ 31) : type_of% (DetC.known (rot_ok m x k h1 h2)) := DetC.known (rot_ok m x k h1 h2)
theorem turned_ok (m : AMem) (x : UInt32) (k l n : Nat) (h1 : 1 ≤ k) (h2 : k ≤ 31) (h3 : 1 ≤ l) (h4 : l ≤ 31) (h5 : 1 ≤ n) (h6 : n ≤ 31) : PureC Tryd.prog 3 89 [w32 x, .int .i64 (k : Int), .int .i64 (l : Int), .int .i64 (n : Int)] m (w32 (turnedW x k l n)) := by
  refine pure_of_W (fn := Tryd.f89) rfl rfl F89_ok (by simp [F89]) (plain_w32 _) ?_
  simp (implicitDefEqProofs := false) (maxSteps := 1000000) (disch := first | omega | with_reducible assumption | (simp only [lenT, Nat.reduceAdd]; omega)) only [amT, cut, bnd, Nat.reduceBEq, reduceCtorEq, Nat.reduceEqDiff, Nat.reduceAdd, Nat.reduceMul, Nat.reduceSub, Int.reduceToNat, Int.reduceEq, Int.reduceLT, Int.reduceLE, Int.reduceAdd, Int.reduceSub, Int.reduceMul, reduceIte, resVs, resV, packV, initT, addr, F89, kRot, amW]
  repeat refine OrW.go ?_
  rfl
theorem moved_ok (m : AMem) (x : UInt32) (k l n : Nat) (h1 : 1 ≤ k) (h2 : k ≤ 31) (h3 : 1 ≤ l) (h4 : l ≤ 31) (h5 : 1 ≤ n) (h6 : n ≤ 31) : PureC Tryd.prog 3 88 [w32 x, .int .i64 (k : Int), .int .i64 (l : Int), .int .i64 (n : Int)] m (w32 (movedW x k l n)) := by
  refine pure_of_W (fn := Tryd.f88) rfl rfl F88_ok (by simp [F88]) (plain_w32 _) ?_
  simp (implicitDefEqProofs := false) (maxSteps := 1000000) (disch := first | omega | with_reducible assumption | (simp only [lenT, Nat.reduceAdd]; omega)) only [amT, cut, bnd, Nat.reduceBEq, reduceCtorEq, Nat.reduceEqDiff, Nat.reduceAdd, Nat.reduceMul, Nat.reduceSub, Int.reduceToNat, Int.reduceEq, Int.reduceLT, Int.reduceLE, Int.reduceAdd, Int.reduceSub, Int.reduceMul, reduceIte, resVs, resV, packV, initT, addr, F88, kRot, amW, binV_shrw]
  repeat refine OrW.go ?_
  rfl
end Go.Proofs.YtgkmlbkocgjmmaaDoor.S
namespace Go.Proofs.YtgkmlbkocgjmmaaDoor.S
open Go Go.AM
set_option maxRecDepth 100000
set_option linter.unusedVariables false
set_option linter.unusedSimpArgs false

theorem beginW_len : beginW.length = 8 := rfl
theorem zero8 : [Value.int .u32 0, .int .u32 0, .int .u32 0, .int .u32 0, .int .u32 0, .int .u32 0, .int .u32 0, .int .u32 0] = (List.replicate 8 (0 : UInt32)).map w32 := rfl
/-- The package's variables, as they are laid. -/
structure Glob (m : AMem) : Prop where
  k : ∃ e sp, m.get 0 = .cells (constW.map w32) e false sp
  b : ∃ e sp, m.get 1 = .cells (beginW.map w32) e false sp
  s : 2 < m.size
theorem Glob.old {m M : AMem} (h : Glob m) (ho : Old m M) : Glob M := ⟨by rw [ho.2 _ (by have := h.s; omega)]; exact h.k, by rw [ho.2 _ (by have := h.s; omega)]; exact h.b, by have := h.s; have := ho.1; omega⟩

theorem plain_ws (l : List UInt32) : Plain (.agg (l.map w32).toArray) := .agg fun v hv => by
  simp at hv; obtain ⟨x, _, rfl⟩ := hv; exact plain_w32 _

theorem state_ok (m : AMem) (b : Nat) (s : HS) (hg : Glob m) (hs : s.ok) (hb : b < m.size) (hm : m.get b = .cells (cH s) 96 true .exact) :
    PureC Tryd.prog 3 77 [.pointer (some ⟨b, 0, none⟩)] m (.agg ((zip2 beginW s.M).map w32).toArray) := by
  refine pure_of_W (fn := Tryd.f77) rfl rfl F77_ok (by simp [F77]) (plain_ws _) ?_
  obtain ⟨eb, spb, g1⟩ := hg.b
  have gs := hg.s
  have c8 := cH_M hs
  have m8 := hs.1
  have z8 : (zip2 beginW s.M).length = 8 := zip2_length rfl m8
  have hbl := beginW_len
  simp (implicitDefEqProofs := false) (maxSteps := 1000000) (disch := first | omega | with_reducible assumption | (simp only [lenT, Nat.reduceAdd]; omega)) only [amT, cut, bnd, Nat.reduceBEq, reduceCtorEq, Nat.reduceEqDiff, Nat.reduceAdd, Nat.reduceMul, Nat.reduceSub, Int.reduceToNat, Int.reduceEq, Int.reduceLT, Int.reduceLE, Int.reduceAdd, Int.reduceSub, Int.reduceMul, reduceIte, resVs, resV, packV, initT, addr, F77, g1, hm, c8, cutL_all, zero8, beginW_len, cellsOf_ws]
  refine W_loop (fun N qs => ∃ (i : Nat), N = 8 - i ∧ qs.ds = [] ∧ qs.m = mx m [.cells ((List.replicate 8 (0 : UInt32)).map w32) 92 true .exact, .cells ((mix i (zip2 beginW s.M) beginW).map w32) 92 true .exact] ∧ qs.t 2 = .pointer (some ⟨m.size, 0, none⟩) ∧ qs.t 3 = .pointer (some ⟨m.size + 1, 0, none⟩) ∧ qs.t 10 = .agg (s.M.map w32).toArray ∧ qs.t 11 = .int .i64 i ∧ i ≤ 8) (8 - (0)) ⟨0, rfl, rfl, ?qm, ?q2, ?q3, ?q10, ?q11, ?_⟩ ?_
  case qm | q2 | q3 | q10 | q11 => first | rfl | (simp (implicitDefEqProofs := false) (maxSteps := 1000000) (disch := first | omega | with_reducible assumption | (simp only [lenT, Nat.reduceAdd]; omega)) only [amT, cut, bnd, Nat.reduceBEq, reduceCtorEq, Nat.reduceEqDiff, Nat.reduceAdd, Nat.reduceMul, Nat.reduceSub, Int.reduceToNat, Int.reduceEq, Int.reduceLT, Int.reduceLE, Int.reduceAdd, Int.reduceSub, Int.reduceMul, reduceIte, resVs, resV, packV, initT, addr, mix_zero]; first | done | rfl | (congr 1; omega))
  · omega
  · rintro N t m1 ds ⟨i, rfl, hds, hm, t2, t3, t10, t11, hp⟩
    simp only at hds hm t2 t3 t10 t11
    subst hds; replace hm := hm.symm; subst hm
    have hl := mix_length (k := i) (show (zip2 beginW s.M).length = beginW.length by rw [z8]; rfl)
    by_cases hi : (i : Int) < 8
    · have h1 := mix_get (k := i) (show (zip2 beginW s.M).length = beginW.length by rw [z8]; rfl) (by rw [beginW_len]; omega)
      have h2 := mix_set (k := i) (show (zip2 beginW s.M).length = beginW.length by rw [z8]; rfl) (by omega)
      have h3 := zip2_get (a := beginW) (b := s.M) (i := i) (by rw [beginW_len]; omega) (by omega)
      rw [h3] at h2
      simp (implicitDefEqProofs := false) (maxSteps := 1000000) (disch := first | omega | with_reducible assumption | (simp only [lenT, Nat.reduceAdd]; omega)) only [amT, cut, bnd, Nat.reduceBEq, reduceCtorEq, Nat.reduceEqDiff, Nat.reduceAdd, Nat.reduceMul, Nat.reduceSub, Int.reduceToNat, Int.reduceEq, Int.reduceLT, Int.reduceLE, Int.reduceAdd, Int.reduceSub, Int.reduceMul, reduceIte, resVs, resV, packV, initT, addr, F77_l0, t2, t3, t10, t11, hi, amW, h1, h2, hl, beginW_len]
      rw [LoopK_normal]; refine ⟨_, ?_, i + 1, rfl, rfl, ?qm, ?q2, ?q3, ?q10, ?q11, ?_⟩
      case qm | q2 | q3 | q10 | q11 => first | rfl | (simp (implicitDefEqProofs := false) (maxSteps := 1000000) (disch := first | omega | with_reducible assumption | (simp only [lenT, Nat.reduceAdd]; omega)) only [amT, cut, bnd, Nat.reduceBEq, reduceCtorEq, Nat.reduceEqDiff, Nat.reduceAdd, Nat.reduceMul, Nat.reduceSub, Int.reduceToNat, Int.reduceEq, Int.reduceLT, Int.reduceLE, Int.reduceAdd, Int.reduceSub, Int.reduceMul, reduceIte, resVs, resV, packV, initT, addr, t2, t3, t10, t11]; first | done | rfl | (congr 1; omega))
      · omega
      · omega
    · have : i = 8 := by omega
      subst this
      have h4 := mix_all z8 beginW_len
      simp (implicitDefEqProofs := false) (maxSteps := 1000000) (disch := first | omega | with_reducible assumption | (simp only [lenT, Nat.reduceAdd]; omega)) only [amT, cut, bnd, Nat.reduceBEq, reduceCtorEq, Nat.reduceEqDiff, Nat.reduceAdd, Nat.reduceMul, Nat.reduceSub, Int.reduceToNat, Int.reduceEq, Int.reduceLT, Int.reduceLE, Int.reduceAdd, Int.reduceSub, Int.reduceMul, reduceIte, resVs, resV, packV, initT, addr, F77_l0, t2, t3, t10, t11, h4, cutL_all, z8, cellsOf_ws]
end Go.Proofs.YtgkmlbkocgjmmaaDoor.S
namespace Go.Proofs.YtgkmlbkocgjmmaaDoor.S
open Go Go.AM
set_option maxRecDepth 100000
set_option linter.unusedVariables false
set_option linter.unusedSimpArgs false

theorem kMovedA {m : AMem} {x : UInt32} : Known Tryd.prog 3 88 [w32 x, .int .i64 17, .int .i64 19, .int .i64 10] m (w32 (movedW x 17 19 10)) m := DetC.known (moved_ok m x 17 19 10 (by omega) (by omega) (by omega) (by omega) (by omega) (by omega))
theorem kMovedB {m : AMem} {x : UInt32} : Known Tryd.prog 3 88 [w32 x, .int .i64 7, .int .i64 18, .int .i64 3] m (w32 (movedW x 7 18 3)) m := DetC.known (moved_ok m x 7 18 3 (by omega) (by omega) (by omega) (by omega) (by omega) (by omega))
theorem kTurnedA {m : AMem} {x : UInt32} : Known Tryd.prog 3 89 [w32 x, .int .i64 6, .int .i64 11, .int .i64 25] m (w32 (turnedW x 6 11 25)) m := DetC.known (turned_ok m x 6 11 25 (by omega) (by omega) (by omega) (by omega) (by omega) (by omega))
theorem kTurnedB {m : AMem} {x : UInt32} : Known Tryd.prog 3 89 [w32 x, .int .i64 2, .int .i64 13, .int .i64 22] m (w32 (turnedW x 2 13 22)) m := DetC.known (turned_ok m x 2 13 22 (by omega) (by omega) (by omega) (by omega) (by omega) (by omega))
theorem kState {m : AMem} {b : Nat} {s : HS} (hg : Glob m) (hs : s.ok) (hb : b < m.size) (hm : m.get b = .cells (cH s) 96 true .exact) : type_of% (DetC.known (state_ok m b s hg hs hb hm)) := DetC.known (state_ok m b s hg hs hb hm)

theorem zero64 : [Value.int .u32 0, .int .u32 0, .int .u32 0, .int .u32 0, .int .u32 0, .int .u32 0, .int .u32 0, .int .u32 0, .int .u32 0, .int .u32 0, .int .u32 0, .int .u32 0, .int .u32 0, .int .u32 0, .int .u32 0, .int .u32 0, .int .u32 0, .int .u32 0, .int .u32 0, .int .u32 0, .int .u32 0, .int .u32 0, .int .u32 0, .int .u32 0, .int .u32 0, .int .u32 0, .int .u32 0, .int .u32 0, .int .u32 0, .int .u32 0, .int .u32 0, .int .u32 0, .int .u32 0, .int .u32 0, .int .u32 0, .int .u32 0, .int .u32 0, .int .u32 0, .int .u32 0, .int .u32 0, .int .u32 0, .int .u32 0, .int .u32 0, .int .u32 0, .int .u32 0, .int .u32 0, .int .u32 0, .int .u32 0, .int .u32 0, .int .u32 0, .int .u32 0, .int .u32 0, .int .u32 0, .int .u32 0, .int .u32 0, .int .u32 0, .int .u32 0, .int .u32 0, .int .u32 0, .int .u32 0, .int .u32 0, .int .u32 0, .int .u32 0, .int .u32 0] = (List.replicate 64 (0 : UInt32)).map w32 := rfl
/-- The words up to a place, behind them one, then nothing. -/
def wRow (R : List UInt8) (i : Nat) (x : UInt32) : List UInt32 := sched R i ++ (x :: List.replicate (63 - i) 0)
theorem wRow_length {R : List UInt8} {i : Nat} {x : UInt32} (h : i < 64) : (wRow R i x).length = 64 := by simp [wRow, sched_length]; omega
theorem wRow_set {R : List UInt8} {i : Nat} (x y : UInt32) : (wRow R i x).set i y = wRow R i y := by
  simp only [wRow]; rw [List.set_append_right _ _ (by rw [sched_length]; omega), sched_length]; simp
theorem wRow_at {R : List UInt8} {i : Nat} {x : UInt32} (h : i < (wRow R i x).length) : (wRow R i x)[i] = x := by
  simp only [wRow]; rw [List.getElem_append_right (by rw [sched_length]; omega)]; simp [sched_length]
theorem wRow_old {R : List UInt8} {i j : Nat} {x : UInt32} (hj : j < i) (h : j < (wRow R i x).length) : (wRow R i x)[j] = (sched R i).getD j 0 := by
  simp only [wRow]; rw [List.getElem_append_left (by rw [sched_length]; omega)]; simp [sched_length, hj]
theorem word4_next (l : List UInt8) (c : UInt8) : word4 (l ++ [c]) = shlW (word4 l) 8 ||| UInt32.ofNat c.toNat := by simp [word4]
theorem w32_of_byte (c : UInt8) : (Value.int .u32 (c.toNat : Int)) = w32 (UInt32.ofNat c.toNat) := by
  have := c.toNat_lt
  simp [w32]
theorem binV_shlw8 {k : IntKind} {x : UInt32} : binV .shl (w32 x) (.int k 8) = some (w32 (shlW x 8)) := binV_shlw (b := 8) (by omega)
def padW (R : List UInt8) (i : Nat) : List UInt32 := sched R i ++ List.replicate (64 - i) 0
theorem padW_zero (R : List UInt8) : padW R 0 = List.replicate 64 0 := rfl
theorem padW_lt {R : List UInt8} {i : Nat} (h : i < 64) : padW R i = wRow R i 0 := by
  simp only [padW, wRow]; rw [show 64 - i = (63 - i) + 1 by omega, List.replicate_succ]
theorem padW_next {R : List UInt8} {i : Nat} (h : i < 64) : wRow R i (wordAt R (sched R i) i) = padW R (i + 1) := by
  simp only [wRow, padW, sched, List.append_assoc, List.singleton_append]
  rw [show 64 - (i + 1) = 63 - i by omega]
theorem padW_all (R : List UInt8) : padW R 64 = sched R 64 := by simp [padW]

theorem sched_ok (m : AMem) (b : Nat) (s : HS) (hs : s.ok) (hb : b < m.size) (hm : m.get b = .cells (cH s) 96 true .exact) (t : Tmps) (Q : AExit → ASt → Prop)
    (t0 : t 0 = .pointer (some ⟨b, 0, none⟩)) (t2 : t 2 = .pointer (some ⟨m.size, 0, none⟩)) (t13 : t 13 = .int .i64 0)
    (h : ∀ t' : Tmps, t' 0 = .pointer (some ⟨b, 0, none⟩) → t' 2 = .pointer (some ⟨m.size, 0, none⟩) → Q (.exit 0) ⟨t', mx m [.cells ((sched s.R 64).map w32) 127 true .exact], []⟩) :
    W Tryd.prog 3 (.loop F76_l0) Q ⟨t, mx m [.cells ((List.replicate 64 (0 : UInt32)).map w32) 127 true .exact], []⟩ := by
  refine W_loop (fun N qs => ∃ (i : Nat), N = 64 - i ∧ qs.ds = [] ∧ qs.m = mx m [.cells ((padW s.R i).map w32) 127 true .exact] ∧ qs.t 0 = .pointer (some ⟨b, 0, none⟩) ∧ qs.t 2 = .pointer (some ⟨m.size, 0, none⟩) ∧ qs.t 13 = .int .i64 i ∧ i ≤ 64) (64 - (0)) ⟨0, rfl, rfl, ?qm, ?q0, ?q2, ?q13, ?_⟩ ?_
  case qm | q0 | q2 | q13 => first | rfl | (simp (implicitDefEqProofs := false) (maxSteps := 1000000) (disch := first | omega | with_reducible assumption | (simp only [lenT, Nat.reduceAdd]; omega)) only [amT, cut, bnd, Nat.reduceBEq, reduceCtorEq, Nat.reduceEqDiff, Nat.reduceAdd, Nat.reduceMul, Nat.reduceSub, Int.reduceToNat, Int.reduceEq, Int.reduceLT, Int.reduceLE, Int.reduceAdd, Int.reduceSub, Int.reduceMul, reduceIte, resVs, resV, packV, initT, addr, padW_zero, t0, t2, t13]; first | done | rfl | (congr 1; omega))
  · omega
  · clear t0 t2 t13
    rintro N t m1 ds ⟨i, rfl, hds, hm, t0, t2, t13, hp⟩
    simp only at hds hm t0 t2 t13
    subst hds; replace hm := hm.symm; subst hm
    by_cases hi : (i : Int) < 64
    · have hi' : i < 64 := by omega
      have hl := wRow_length (R := s.R) (x := 0) hi'
      have hn := padW_next (R := s.R) hi'
      by_cases h16 : (16 : Int) ≤ i
      · have e1 : (i : Int) - 2 = ((i - 2 : Nat) : Int) := by omega
        have e2 : (i : Int) - 7 = ((i - 7 : Nat) : Int) := by omega
        have e3 : (i : Int) - 15 = ((i - 15 : Nat) : Int) := by omega
        have e4 : (i : Int) - 16 = ((i - 16 : Nat) : Int) := by omega
        have hw : wordAt s.R (sched s.R i) i = movedW ((sched s.R i).getD (i - 2) 0) 17 19 10 + (sched s.R i).getD (i - 7) 0 + movedW ((sched s.R i).getD (i - 15) 0) 7 18 3 + (sched s.R i).getD (i - 16) 0 := by
          unfold wordAt; rw [if_neg (by omega)]
        rw [hw] at hn
        simp (implicitDefEqProofs := false) (maxSteps := 1000000) (disch := first | omega | with_reducible assumption | (simp only [lenT, Nat.reduceAdd]; omega)) only [amT, cut, bnd, Nat.reduceBEq, reduceCtorEq, Nat.reduceEqDiff, Nat.reduceAdd, Nat.reduceMul, Nat.reduceSub, Int.reduceToNat, Int.reduceEq, Int.reduceLT, Int.reduceLE, Int.reduceAdd, Int.reduceSub, Int.reduceMul, reduceIte, resVs, resV, packV, initT, addr, F76_l0, t0, t2, t13, hi, h16, padW_lt hi', e1, e2, e3, e4, amW, wRow_old, wRow_set, kMovedA, kMovedB]
        repeat refine OrW.go ?_
        rw [LoopK_normal]; refine ⟨_, ?_, i + 1, rfl, rfl, ?qm, ?q0, ?q2, ?q13, ?_⟩
        case qm | q0 | q2 | q13 => first | rfl | (simp (implicitDefEqProofs := false) (maxSteps := 1000000) (disch := first | omega | with_reducible assumption | (simp only [lenT, Nat.reduceAdd]; omega)) only [amT, cut, bnd, Nat.reduceBEq, reduceCtorEq, Nat.reduceEqDiff, Nat.reduceAdd, Nat.reduceMul, Nat.reduceSub, Int.reduceToNat, Int.reduceEq, Int.reduceLT, Int.reduceLE, Int.reduceAdd, Int.reduceSub, Int.reduceMul, reduceIte, resVs, resV, packV, initT, addr, t0, t2, t13, hn]; first | done | rfl | (congr 1; omega))
        · omega
        · omega
      · have e1 : (4 : Int) * (i : Int) = ((4 * i : Nat) : Int) := by omega
        have e2 : ((4 * i : Nat) : Int) + 4 = ((4 * i + 4 : Nat) : Int) := by omega
        have hw : wordAt s.R (sched s.R i) i = word4 ((s.R.drop (4 * i)).take 4) := by
          unfold wordAt; rw [if_pos (by omega)]
        rw [hw] at hn
        have e3 : 4 * i + 4 - 4 * i = 4 := by omega
        simp (implicitDefEqProofs := false) (maxSteps := 1000000) (disch := first | omega | with_reducible assumption | (simp only [lenT, Nat.reduceAdd]; omega)) only [amT, cut, bnd, Nat.reduceBEq, reduceCtorEq, Nat.reduceEqDiff, Nat.reduceAdd, Nat.reduceMul, Nat.reduceSub, Int.reduceToNat, Int.reduceEq, Int.reduceLT, Int.reduceLE, Int.reduceAdd, Int.reduceSub, Int.reduceMul, reduceIte, resVs, resV, packV, initT, addr, F76_l0, t0, t2, t13, hi, h16, padW_lt hi', e1, e2]
        refine W_loop (fun N qs => ∃ (j : Nat), N = 4 - j ∧ qs.ds = [] ∧ qs.m = mx m [.cells ((wRow s.R i (word4 ((s.R.drop (4 * i)).take j))).map w32) 127 true .exact] ∧ qs.t 0 = .pointer (some ⟨b, 0, none⟩) ∧ qs.t 2 = .pointer (some ⟨m.size, 0, none⟩) ∧ qs.t 3 = .int .i64 i ∧ qs.t 13 = .int .i64 i ∧ qs.t 49 = .slice (some ⟨b, 8 + 4 * i, none⟩) 4 (64 - 4 * i) ∧ qs.t 50 = .int .i64 4 ∧ qs.t 51 = .int .i64 j ∧ j ≤ 4) (4 - (0)) ⟨0, rfl, rfl, ?qm, ?q0, ?q2, ?q3, ?q13, ?q49, ?q50, ?q51, ?_⟩ ?_
        case qm | q0 | q2 | q3 | q13 | q49 | q50 | q51 => first | rfl | (simp (implicitDefEqProofs := false) (maxSteps := 1000000) (disch := first | omega | with_reducible assumption | (simp only [lenT, Nat.reduceAdd]; omega)) only [amT, cut, bnd, Nat.reduceBEq, reduceCtorEq, Nat.reduceEqDiff, Nat.reduceAdd, Nat.reduceMul, Nat.reduceSub, Int.reduceToNat, Int.reduceEq, Int.reduceLT, Int.reduceLE, Int.reduceAdd, Int.reduceSub, Int.reduceMul, reduceIte, resVs, resV, packV, initT, addr, t0, t2, t13, List.take_zero, e3]; first | done | rfl | (congr 1; omega))
        · omega
        · clear t0 t2 t13
          rintro N t m1 ds ⟨j, rfl, hds, hm, t0, t2, t3, t13, t49, t50, t51, hp⟩
          simp only at hds hm t0 t2 t3 t13 t49 t50 t51
          subst hds; replace hm := hm.symm; subst hm
          by_cases hj : (j : Int) < 4
          · have hj' : j < 4 := by omega
            have hl2 := wRow_length (R := s.R) (x := word4 ((s.R.drop (4 * i)).take j)) hi'
            have hR : (cH s)[8 + 4 * i + j]? = some (byteV (s.R[4 * i + j]'(by rw [hs.2]; omega))) := by rw [Nat.add_assoc]; exact cH_Ri hs (by omega)
            have hb4 := (s.R[4 * i + j]'(by rw [hs.2]; omega)).toNat_lt
            have hw4 := word4_next ((s.R.drop (4 * i)).take j) (s.R[4 * i + j]'(by rw [hs.2]; omega))
            have hdl : j < (s.R.drop (4 * i)).length := by rw [List.length_drop, hs.2]; omega
            have ht := List.take_succ_eq_append_getElem hdl
            rw [List.getElem_drop] at ht
            rw [← ht] at hw4
            simp (implicitDefEqProofs := false) (maxSteps := 1000000) (disch := first | omega | with_reducible assumption | (simp only [lenT, Nat.reduceAdd]; omega)) only [amT, cut, bnd, Nat.reduceBEq, reduceCtorEq, Nat.reduceEqDiff, Nat.reduceAdd, Nat.reduceMul, Nat.reduceSub, Int.reduceToNat, Int.reduceEq, Int.reduceLT, Int.reduceLE, Int.reduceAdd, Int.reduceSub, Int.reduceMul, reduceIte, resVs, resV, packV, initT, addr, F76_l1, t0, t2, t3, t13, t49, t50, t51, hj, hm, hR, amW, wRow_at, byteV_def, w32_of_byte, binV_shlw8, wRow_set, ← hw4]
            rw [LoopK_normal]; refine ⟨_, ?_, j + 1, rfl, rfl, ?qm, ?q0, ?q2, ?q3, ?q13, ?q49, ?q50, ?q51, ?_⟩
            case qm | q0 | q2 | q3 | q13 | q49 | q50 | q51 => first | rfl | (simp (implicitDefEqProofs := false) (maxSteps := 1000000) (disch := first | omega | with_reducible assumption | (simp only [lenT, Nat.reduceAdd]; omega)) only [amT, cut, bnd, Nat.reduceBEq, reduceCtorEq, Nat.reduceEqDiff, Nat.reduceAdd, Nat.reduceMul, Nat.reduceSub, Int.reduceToNat, Int.reduceEq, Int.reduceLT, Int.reduceLE, Int.reduceAdd, Int.reduceSub, Int.reduceMul, reduceIte, resVs, resV, packV, initT, addr, t0, t2, t3, t13, t49, t50, t51]; first | done | rfl | (congr 1; omega))
            · omega
            · omega
          · have hj4 : j = 4 := by omega
            subst hj4
            simp (implicitDefEqProofs := false) (maxSteps := 1000000) (disch := first | omega | with_reducible assumption | (simp only [lenT, Nat.reduceAdd]; omega)) only [amT, cut, bnd, Nat.reduceBEq, reduceCtorEq, Nat.reduceEqDiff, Nat.reduceAdd, Nat.reduceMul, Nat.reduceSub, Int.reduceToNat, Int.reduceEq, Int.reduceLT, Int.reduceLE, Int.reduceAdd, Int.reduceSub, Int.reduceMul, reduceIte, resVs, resV, packV, initT, addr, F76_l1, t0, t2, t3, t13, t49, t50, t51]
            rw [LoopK_normal]; refine ⟨_, ?_, i + 1, rfl, rfl, ?qm, ?q0, ?q2, ?q13, ?_⟩
            case qm | q0 | q2 | q13 => first | rfl | (simp (implicitDefEqProofs := false) (maxSteps := 1000000) (disch := first | omega | with_reducible assumption | (simp only [lenT, Nat.reduceAdd]; omega)) only [amT, cut, bnd, Nat.reduceBEq, reduceCtorEq, Nat.reduceEqDiff, Nat.reduceAdd, Nat.reduceMul, Nat.reduceSub, Int.reduceToNat, Int.reduceEq, Int.reduceLT, Int.reduceLE, Int.reduceAdd, Int.reduceSub, Int.reduceMul, reduceIte, resVs, resV, packV, initT, addr, t0, t2, t13, hn]; first | done | rfl | (congr 1; omega))
            · omega
            · omega
    · have h64 : i = 64 := by omega
      subst h64
      simp (implicitDefEqProofs := false) (maxSteps := 1000000) (disch := first | omega | with_reducible assumption | (simp only [lenT, Nat.reduceAdd]; omega)) only [amT, cut, bnd, Nat.reduceBEq, reduceCtorEq, Nat.reduceEqDiff, Nat.reduceAdd, Nat.reduceMul, Nat.reduceSub, Int.reduceToNat, Int.reduceEq, Int.reduceLT, Int.reduceLE, Int.reduceAdd, Int.reduceSub, Int.reduceMul, reduceIte, resVs, resV, packV, initT, addr, F76_l0, t0, t2, t13, padW_all]
      exact h _ (by simp (implicitDefEqProofs := false) (maxSteps := 1000000) (disch := first | omega | with_reducible assumption | (simp only [lenT, Nat.reduceAdd]; omega)) only [amT, cut, bnd, Nat.reduceBEq, reduceCtorEq, Nat.reduceEqDiff, Nat.reduceAdd, Nat.reduceMul, Nat.reduceSub, Int.reduceToNat, Int.reduceEq, Int.reduceLT, Int.reduceLE, Int.reduceAdd, Int.reduceSub, Int.reduceMul, reduceIte, resVs, resV, packV, initT, addr, t0, t2, t13]) (by simp (implicitDefEqProofs := false) (maxSteps := 1000000) (disch := first | omega | with_reducible assumption | (simp only [lenT, Nat.reduceAdd]; omega)) only [amT, cut, bnd, Nat.reduceBEq, reduceCtorEq, Nat.reduceEqDiff, Nat.reduceAdd, Nat.reduceMul, Nat.reduceSub, Int.reduceToNat, Int.reduceEq, Int.reduceLT, Int.reduceLE, Int.reduceAdd, Int.reduceSub, Int.reduceMul, reduceIte, resVs, resV, packV, initT, addr, t0, t2, t13])
end Go.Proofs.YtgkmlbkocgjmmaaDoor.S
namespace Go.Proofs.YtgkmlbkocgjmmaaDoor.S
open Go Go.AM
set_option maxRecDepth 100000
set_option linter.unusedVariables false
set_option linter.unusedSimpArgs false

theorem constW_len : constW.length = 64 := rfl
theorem block_ok (m : AMem) (b : Nat) (s : HS) (hg : Glob m) (hs : s.ok) (hb : b < m.size) (hb2 : 2 < b) (hm : m.get b = .cells (cH s) 96 true .exact) :
    DetC Tryd.prog 3 76 [.pointer (some ⟨b, 0, none⟩)] m (.tuple #[]) (mx (m.set b (.cells (cH { s with M := moreStep s.M s.R }) 96 true .exact)) []) := by
  refine set_of_W (fn := Tryd.f76) rfl rfl F76_ok (by simp [F76]) (.tuple (by simp)) (plain_cH _) ?_
  obtain ⟨ek, spk, g0⟩ := hg.k
  have gs := hg.s
  have hkl := constW_len
  have m8 := hs.1
  have z8 : (zip2 beginW s.M).length = 8 := zip2_length rfl m8
  have hsl := sched_length s.R 64
  have hst := @kState (mx m [.cells ((sched s.R 64).map w32) 127 true .exact]) b s (hg.old (Old.here _ _)) hs (by rw [mx_size]; omega) (by rw [mx_old hb]; exact hm)
  simp (implicitDefEqProofs := false) (maxSteps := 1000000) (disch := first | omega | with_reducible assumption | (simp only [lenT, Nat.reduceAdd]; omega)) only [amT, cut, bnd, Nat.reduceBEq, reduceCtorEq, Nat.reduceEqDiff, Nat.reduceAdd, Nat.reduceMul, Nat.reduceSub, Int.reduceToNat, Int.reduceEq, Int.reduceLT, Int.reduceLE, Int.reduceAdd, Int.reduceSub, Int.reduceMul, reduceIte, resVs, resV, packV, initT, addr, F76, zero64]
  refine sched_ok m b s hs hb hm _ _ (by simp (implicitDefEqProofs := false) (maxSteps := 1000000) (disch := first | omega | with_reducible assumption | (simp only [lenT, Nat.reduceAdd]; omega)) only [amT, cut, bnd, Nat.reduceBEq, reduceCtorEq, Nat.reduceEqDiff, Nat.reduceAdd, Nat.reduceMul, Nat.reduceSub, Int.reduceToNat, Int.reduceEq, Int.reduceLT, Int.reduceLE, Int.reduceAdd, Int.reduceSub, Int.reduceMul, reduceIte, resVs, resV, packV, initT, addr]) (by simp (implicitDefEqProofs := false) (maxSteps := 1000000) (disch := first | omega | with_reducible assumption | (simp only [lenT, Nat.reduceAdd]; omega)) only [amT, cut, bnd, Nat.reduceBEq, reduceCtorEq, Nat.reduceEqDiff, Nat.reduceAdd, Nat.reduceMul, Nat.reduceSub, Int.reduceToNat, Int.reduceEq, Int.reduceLT, Int.reduceLE, Int.reduceAdd, Int.reduceSub, Int.reduceMul, reduceIte, resVs, resV, packV, initT, addr]) (by simp (implicitDefEqProofs := false) (maxSteps := 1000000) (disch := first | omega | with_reducible assumption | (simp only [lenT, Nat.reduceAdd]; omega)) only [amT, cut, bnd, Nat.reduceBEq, reduceCtorEq, Nat.reduceEqDiff, Nat.reduceAdd, Nat.reduceMul, Nat.reduceSub, Int.reduceToNat, Int.reduceEq, Int.reduceLT, Int.reduceLE, Int.reduceAdd, Int.reduceSub, Int.reduceMul, reduceIte, resVs, resV, packV, initT, addr]) ?_
  intro t t0 t2
  simp (implicitDefEqProofs := false) (maxSteps := 1000000) (disch := first | omega | with_reducible assumption | (simp only [lenT, Nat.reduceAdd]; omega)) only [amT, cut, bnd, Nat.reduceBEq, reduceCtorEq, Nat.reduceEqDiff, Nat.reduceAdd, Nat.reduceMul, Nat.reduceSub, Int.reduceToNat, Int.reduceEq, Int.reduceLT, Int.reduceLE, Int.reduceAdd, Int.reduceSub, Int.reduceMul, reduceIte, resVs, resV, packV, initT, addr, t0, t2, hst, zero8, g0, cutL_all, amW]
  repeat refine OrW.go ?_
  refine W_loop (fun N qs => ∃ (i : Nat), N = 64 - i ∧ qs.ds = [] ∧ qs.m = mx m [.cells ((sched s.R 64).map w32) 127 true .exact, .cells ((roundsW constW s.R (zip2 beginW s.M) i).map w32) 92 true .exact] ∧ qs.t 0 = .pointer (some ⟨b, 0, none⟩) ∧ qs.t 2 = .pointer (some ⟨m.size, 0, none⟩) ∧ qs.t 6 = .pointer (some ⟨m.size + 1, 0, none⟩) ∧ qs.t 68 = .agg (constW.map w32).toArray ∧ qs.t 69 = .int .i64 i ∧ i ≤ 64) (64 - (0)) ⟨0, rfl, rfl, ?qm, ?q0, ?q2, ?q6, ?q68, ?q69, ?_⟩ ?_
  case qm | q0 | q2 | q6 | q68 | q69 => first | rfl | (simp (implicitDefEqProofs := false) (maxSteps := 1000000) (disch := first | omega | with_reducible assumption | (simp only [lenT, Nat.reduceAdd]; omega)) only [amT, cut, bnd, Nat.reduceBEq, reduceCtorEq, Nat.reduceEqDiff, Nat.reduceAdd, Nat.reduceMul, Nat.reduceSub, Int.reduceToNat, Int.reduceEq, Int.reduceLT, Int.reduceLE, Int.reduceAdd, Int.reduceSub, Int.reduceMul, reduceIte, resVs, resV, packV, initT, addr, t0, t2, roundsW]; first | done | rfl | (congr 1; omega))
  · omega
  · clear t0 t2
    rintro N t m1 ds ⟨i, rfl, hds, hm, t0, t2, t6, t68, t69, hp⟩
    simp only at hds hm t0 t2 t6 t68 t69
    subst hds; replace hm := hm.symm; subst hm
    by_cases hi : (i : Int) < 64
    · have hX : (roundsW constW s.R (zip2 beginW s.M) i).length = 8 := by rw [roundsW_length, z8]
      have hn : roundsW constW s.R (zip2 beginW s.M) (i + 1) = roundW (roundsW constW s.R (zip2 beginW s.M) i) (constW[i]'(by omega)) ((sched s.R 64)[i]'(by omega)) := by
        simp [roundsW, hkl, hsl, show i < 64 by omega]
      obtain ⟨x0, x1, x2, x3, x4, x5, x6, x7, hx⟩ := len8 hX
      rw [hx] at hn
      simp (implicitDefEqProofs := false) (maxSteps := 1000000) (disch := first | omega | with_reducible assumption | (simp only [lenT, Nat.reduceAdd]; omega)) only [amT, cut, bnd, Nat.reduceBEq, reduceCtorEq, Nat.reduceEqDiff, Nat.reduceAdd, Nat.reduceMul, Nat.reduceSub, Int.reduceToNat, Int.reduceEq, Int.reduceLT, Int.reduceLE, Int.reduceAdd, Int.reduceSub, Int.reduceMul, reduceIte, resVs, resV, packV, initT, addr, F76_l2, t0, t2, t6, t68, t69, hi, hx, amW, List.map_cons, List.map_nil, kTurnedA, kTurnedB]
      repeat refine OrW.go ?_
      simp (implicitDefEqProofs := false) (maxSteps := 1000000) (disch := first | omega | with_reducible assumption | (simp only [lenT, Nat.reduceAdd]; omega)) only [amT, cut, bnd, Nat.reduceBEq, reduceCtorEq, Nat.reduceEqDiff, Nat.reduceAdd, Nat.reduceMul, Nat.reduceSub, Int.reduceToNat, Int.reduceEq, Int.reduceLT, Int.reduceLE, Int.reduceAdd, Int.reduceSub, Int.reduceMul, reduceIte, resVs, resV, packV, initT, addr, stepOp_cpy, srcCells_slice, cutL, splice, List.take_succ_cons, List.take_zero, List.drop_succ_cons, List.drop_nil, List.all_cons, List.all_nil, oneCell_w, Nat.min_self, amW, List.map_cons, List.map_nil, t0, t2, t6, t68, t69]
      rw [LoopK_normal]; refine ⟨_, ?_, i + 1, rfl, rfl, ?qm, ?q0, ?q2, ?q6, ?q68, ?q69, ?_⟩
      case qm | q0 | q2 | q6 | q68 | q69 => first | rfl | (simp (implicitDefEqProofs := false) (maxSteps := 1000000) (disch := first | omega | with_reducible assumption | (simp only [lenT, Nat.reduceAdd]; omega)) only [amT, cut, bnd, Nat.reduceBEq, reduceCtorEq, Nat.reduceEqDiff, Nat.reduceAdd, Nat.reduceMul, Nat.reduceSub, Int.reduceToNat, Int.reduceEq, Int.reduceLT, Int.reduceLE, Int.reduceAdd, Int.reduceSub, Int.reduceMul, reduceIte, resVs, resV, packV, initT, addr, t0, t2, t6, t68, t69, hn, roundW, List.map_cons, List.map_nil]; first | done | rfl | (congr 1; omega))
      · omega
      · omega
    · have h64 : i = 64 := by omega
      subst h64
      generalize hV : roundsW constW s.R (zip2 beginW s.M) 64 = V at *
      have hV8 : V.length = 8 := by rw [← hV, roundsW_length, z8]
      have hms : moreStep s.M s.R = zip2 s.M V := by rw [moreStep, hV]
      have hset : m.set b (.cells (cH ⟨s.M, s.R, s.n⟩) 96 true .exact) = m := AMem.set_same hm
      have hzl : (zip2 s.M V).length = s.M.length := by rw [zip2_length m8 hV8, m8]
      simp (implicitDefEqProofs := false) (maxSteps := 1000000) (disch := first | omega | with_reducible assumption | (simp only [lenT, Nat.reduceAdd]; omega)) only [amT, cut, bnd, Nat.reduceBEq, reduceCtorEq, Nat.reduceEqDiff, Nat.reduceAdd, Nat.reduceMul, Nat.reduceSub, Int.reduceToNat, Int.reduceEq, Int.reduceLT, Int.reduceLE, Int.reduceAdd, Int.reduceSub, Int.reduceMul, reduceIte, resVs, resV, packV, initT, addr, F76_l2, t0, t2, t6, t68, t69, cutL_all]
      refine W_loop (fun N qs => ∃ (i : Nat), N = 8 - i ∧ qs.ds = [] ∧ qs.m = mx (m.set b (.cells (cH ⟨mix i (zip2 s.M V) s.M, s.R, s.n⟩) 96 true .exact)) [.cells ((sched s.R 64).map w32) 127 true .exact, .cells (V.map w32) 92 true .exact] ∧ qs.t 0 = .pointer (some ⟨b, 0, none⟩) ∧ qs.t 131 = .agg (V.map w32).toArray ∧ qs.t 132 = .int .i64 i ∧ i ≤ 8) (8 - (0)) ⟨0, rfl, rfl, ?qm, ?q0, ?q131, ?q132, ?_⟩ ?_
      case qm | q0 | q131 | q132 => first | rfl | (simp (implicitDefEqProofs := false) (maxSteps := 1000000) (disch := first | omega | with_reducible assumption | (simp only [lenT, Nat.reduceAdd]; omega)) only [amT, cut, bnd, Nat.reduceBEq, reduceCtorEq, Nat.reduceEqDiff, Nat.reduceAdd, Nat.reduceMul, Nat.reduceSub, Int.reduceToNat, Int.reduceEq, Int.reduceLT, Int.reduceLE, Int.reduceAdd, Int.reduceSub, Int.reduceMul, reduceIte, resVs, resV, packV, initT, addr, t0, t2, t6, t68, t69, mix_zero, hset]; first | done | rfl | (congr 1; omega))
      · omega
      · clear t0 t2 t6 t68 t69 hp hi
        rintro N t m1 ds ⟨i, rfl, hds, hm, t0, t131, t132, hp⟩
        simp only at hds hm t0 t131 t132
        subst hds; replace hm := hm.symm; subst hm
        have hok : HS.ok ⟨mix i (zip2 s.M V) s.M, s.R, s.n⟩ := ⟨by simp only; rw [mix_length hzl, m8], hs.2⟩
        have h73 := cH_length hok
        by_cases hi : (i : Int) < 8
        · have h1 := cH_Mi hok (i := i) (by omega)
          simp only at h1
          rw [mix_get hzl (by omega)] at h1
          have h2 := cH_setM hok (i := i) (by omega) (s.M[i]'(by omega) + V[i]'(by omega))
          simp only at h2
          rw [← zip2_get (by omega) (by omega), mix_set hzl (by omega)] at h2
          have h3 := zip2_get (a := s.M) (b := V) (i := i) (by omega) (by omega)
          simp (implicitDefEqProofs := false) (maxSteps := 1000000) (disch := first | omega | with_reducible assumption | (simp only [lenT, Nat.reduceAdd]; omega)) only [amT, cut, bnd, Nat.reduceBEq, reduceCtorEq, Nat.reduceEqDiff, Nat.reduceAdd, Nat.reduceMul, Nat.reduceSub, Int.reduceToNat, Int.reduceEq, Int.reduceLT, Int.reduceLE, Int.reduceAdd, Int.reduceSub, Int.reduceMul, reduceIte, resVs, resV, packV, initT, addr, F76_l3, t0, t131, t132, hi, amW, h1, ← h3, h2]
          rw [LoopK_normal]; refine ⟨_, ?_, i + 1, rfl, rfl, ?qm, ?q0, ?q131, ?q132, ?_⟩
          case qm | q0 | q131 | q132 => first | rfl | (simp (implicitDefEqProofs := false) (maxSteps := 1000000) (disch := first | omega | with_reducible assumption | (simp only [lenT, Nat.reduceAdd]; omega)) only [amT, cut, bnd, Nat.reduceBEq, reduceCtorEq, Nat.reduceEqDiff, Nat.reduceAdd, Nat.reduceMul, Nat.reduceSub, Int.reduceToNat, Int.reduceEq, Int.reduceLT, Int.reduceLE, Int.reduceAdd, Int.reduceSub, Int.reduceMul, reduceIte, resVs, resV, packV, initT, addr, t0, t131, t132]; first | done | rfl | (congr 1; omega))
          · omega
          · omega
        · have h8 : i = 8 := by omega
          subst h8
          simp (implicitDefEqProofs := false) (maxSteps := 1000000) (disch := first | omega | with_reducible assumption | (simp only [lenT, Nat.reduceAdd]; omega)) only [amT, cut, bnd, Nat.reduceBEq, reduceCtorEq, Nat.reduceEqDiff, Nat.reduceAdd, Nat.reduceMul, Nat.reduceSub, Int.reduceToNat, Int.reduceEq, Int.reduceLT, Int.reduceLE, Int.reduceAdd, Int.reduceSub, Int.reduceMul, reduceIte, resVs, resV, packV, initT, addr, F76_l3, t0, t131, t132, mix_all (show (zip2 s.M V).length = 8 by rw [hzl, m8]) m8, hms]
end Go.Proofs.YtgkmlbkocgjmmaaDoor.S
namespace Go.Proofs.YtgkmlbkocgjmmaaDoor.S
open Go Go.AM
set_option maxRecDepth 100000
set_option linter.unusedVariables false
set_option linter.unusedSimpArgs false

theorem put_nil (m : AMem) (v : Value) : PureC Tryd.prog 3 59 [.pointer none, v] m (.tuple #[]) := by
  refine pure_of_W (fn := Tryd.f59) rfl rfl F59_ok (by simp [F59]) (.tuple (by simp)) ?_
  simp (implicitDefEqProofs := false) (maxSteps := 1000000) (disch := first | omega | with_reducible assumption | (simp only [lenT, Nat.reduceAdd]; omega)) only [amT, cut, bnd, Nat.reduceBEq, reduceCtorEq, Nat.reduceEqDiff, Nat.reduceAdd, Nat.reduceMul, Nat.reduceSub, Int.reduceToNat, Int.reduceEq, Int.reduceLT, Int.reduceLE, Int.reduceAdd, Int.reduceSub, Int.reduceMul, reduceIte, resVs, resV, packV, initT, addr, F59]
  refine W_loop (fun N qs => ∃ (i : Nat), N = 0 ∧ qs.ds = [] ∧ qs.m = mx m [] ∧ qs.t 0 = .pointer none ∧ True) (0) ⟨0, rfl, rfl, ?qm, ?q0, ?_⟩ ?_
  case qm | q0 => first | rfl | (simp (implicitDefEqProofs := false) (maxSteps := 1000000) (disch := first | omega | with_reducible assumption | (simp only [lenT, Nat.reduceAdd]; omega)) only [amT, cut, bnd, Nat.reduceBEq, reduceCtorEq, Nat.reduceEqDiff, Nat.reduceAdd, Nat.reduceMul, Nat.reduceSub, Int.reduceToNat, Int.reduceEq, Int.reduceLT, Int.reduceLE, Int.reduceAdd, Int.reduceSub, Int.reduceMul, reduceIte, resVs, resV, packV, initT, addr]; first | done | rfl | (congr 1; omega))
  · trivial
  · rintro N t m1 ds ⟨i, rfl, hds, hm, t0, hp⟩
    simp only at hds hm t0
    subst hds; replace hm := hm.symm; subst hm
    simp (implicitDefEqProofs := false) (maxSteps := 1000000) (disch := first | omega | with_reducible assumption | (simp only [lenT, Nat.reduceAdd]; omega)) only [amT, cut, bnd, Nat.reduceBEq, reduceCtorEq, Nat.reduceEqDiff, Nat.reduceAdd, Nat.reduceMul, Nat.reduceSub, Int.reduceToNat, Int.reduceEq, Int.reduceLT, Int.reduceLE, Int.reduceAdd, Int.reduceSub, Int.reduceMul, reduceIte, resVs, resV, packV, initT, addr, F59_l0, t0, eqV, Option.isNone]

theorem Glob.set {m : AMem} (h : Glob m) {b : Nat} (hb : 2 < b) (o : AObj) : Glob (m.set b o) :=
  ⟨by rw [AMem.get_set_ne _ _ (by omega)]; exact h.k, by rw [AMem.get_set_ne _ _ (by omega)]; exact h.b, h.s⟩
/-- The state at b. -/
abbrev hAt (m : AMem) (b : Nat) (s : HS) : AMem := m.set b (.cells (cH s) 96 true .exact)

theorem put_ok (m : AMem) (b : Nat) (s : HS) (hg : Glob m) (hs : s.ok) (hb : b < m.size) (hb2 : 2 < b) (hm : m.get b = .cells (cH s) 96 true .exact) (a : Option Addr) (cap : Nat) (c : List UInt8)
    (hc : BSl m a cap c) (hoff : Off a b) (hn : s.n + c.length < 2 ^ 60) :
    DetC Tryd.prog 3 59 [.pointer (some ⟨b, 0, none⟩), .slice a c.length cap] m (.tuple #[]) (mx (hAt m b (s.put c)) []) := by
  refine set_of_W (fn := Tryd.f59) rfl rfl F59_ok (by simp [F59]) (.tuple (by simp)) (plain_cH _) ?_
  have hset : m.set b (.cells (cH s) 96 true .exact) = m := AMem.set_same hm
  simp (implicitDefEqProofs := false) (maxSteps := 1000000) (disch := first | omega | with_reducible assumption | (simp only [lenT, Nat.reduceAdd]; omega)) only [amT, cut, bnd, Nat.reduceBEq, reduceCtorEq, Nat.reduceEqDiff, Nat.reduceAdd, Nat.reduceMul, Nat.reduceSub, Int.reduceToNat, Int.reduceEq, Int.reduceLT, Int.reduceLE, Int.reduceAdd, Int.reduceSub, Int.reduceMul, reduceIte, resVs, resV, packV, initT, addr, F59]
  refine W_loop (fun N qs => ∃ (k : Nat) (a' : Option Addr) (cap' : Nat), N = c.length - k ∧ qs.ds = [] ∧ qs.m = mx (hAt m b (s.put (c.take k))) [] ∧ qs.t 0 = .pointer (some ⟨b, 0, none⟩) ∧ qs.t 1 = .slice a' (c.drop k).length cap' ∧ k ≤ c.length ∧ BSl m a' cap' (c.drop k) ∧ Off a' b) (c.length - (0)) ⟨0, a, cap, rfl, rfl, ?qm, ?q0, ?q1, ?_⟩ ?_
  case qm | q0 | q1 => first | rfl | (simp (implicitDefEqProofs := false) (maxSteps := 1000000) (disch := first | omega | with_reducible assumption | (simp only [lenT, Nat.reduceAdd]; omega)) only [amT, cut, bnd, Nat.reduceBEq, reduceCtorEq, Nat.reduceEqDiff, Nat.reduceAdd, Nat.reduceMul, Nat.reduceSub, Int.reduceToNat, Int.reduceEq, Int.reduceLT, Int.reduceLE, Int.reduceAdd, Int.reduceSub, Int.reduceMul, reduceIte, resVs, resV, packV, initT, addr, List.take_zero, HS.put_nil, hset]; first | done | rfl | (congr 1; omega))
  · exact ⟨by omega, hc, hoff⟩
  · rintro N t m1 ds ⟨k, a', cap', rfl, hds, hm, t0, t1, hp⟩
    simp only at hds hm t0 t1
    subst hds; replace hm := hm.symm; subst hm
    obtain ⟨hk, hc', hoff'⟩ := hp
    have hlen : (c.drop k).length = c.length - k := List.length_drop
    by_cases hz : k = c.length
    · subst hz
      simp (implicitDefEqProofs := false) (maxSteps := 1000000) (disch := first | omega | with_reducible assumption | (simp only [lenT, Nat.reduceAdd]; omega)) only [amT, cut, bnd, Nat.reduceBEq, reduceCtorEq, Nat.reduceEqDiff, Nat.reduceAdd, Nat.reduceMul, Nat.reduceSub, Int.reduceToNat, Int.reduceEq, Int.reduceLT, Int.reduceLE, Int.reduceAdd, Int.reduceSub, Int.reduceMul, reduceIte, resVs, resV, packV, initT, addr, F59_l0, t0, t1, eqV, Option.isNone, List.drop_length]
    · generalize hs1 : s.put (c.take k) = s1 at *
      have hok : s1.ok := by rw [← hs1]; exact HS.put_ok hs _
      have hn1 : s1.n = s.n + k := by rw [← hs1, HS.put_n]; simp; omega
      have hpos : (0 : Int) < ((c.drop k).length : Int) := by omega
      have e1 : (s1.n : Int).tmod 64 = ((s1.n % 64 : Nat) : Int) := tmod_nat _ 64
      have h72 := cH_n hok
      have h73 := cH_length hok
      have hd := hok.2
      obtain ⟨nn, hnn⟩ : ∃ nn, nn = min (c.drop k).length (64 - s1.n % 64) := ⟨_, rfl⟩
      have hbk : b < (hAt m b s1).size := by rw [AMem.size_set]; exact hb
      have hcp := BSl.cpy (m := mx (hAt m b s1) []) ((hc'.set hoff' (.cells (cH s1) 96 true .exact)).old (M := mx (hAt m b s1) []) (Old.here _ _)) (b := b) (o := 8 + s1.n % 64) (dl := 64 - s1.n % 64) (dc := 64 - s1.n % 64) (X := cH s1) (e := 96) (sp := .exact) ((mx_old hbk).trans (AMem.get_set_self _ _ _)) (by omega) (by omega)
      rw [← hnn] at hcp
      obtain ⟨c', hcd⟩ : ∃ c', c' = (c.drop k).take nn := ⟨_, rfl⟩
      rw [← hcd] at hcp
      have hcl : c'.length = nn := by rw [hcd, List.length_take]; omega
      have hR := cH_R hok (at_ := s1.n % 64) (c := c') (by rw [hcl]; omega)
      have hok2 : HS.ok ⟨s1.M, spl s1.R (s1.n % 64) c', s1.n⟩ := ⟨hok.1, by rw [spl_length (by rw [hcl, hd]; omega), hd]⟩
      have hn2 := cH_n hok2
      have h732 := cH_length hok2
      have hsn := cH_setn hok2 (s1.n + nn)
      simp only at hR hn2 hsn
      have e3 : (s1.n : Int) + (nn : Int) = ((s1.n + nn : Nat) : Int) := by omega
      have hdd : (c.drop k).drop nn = c.drop (k + nn) := by rw [List.drop_drop]
      have htk : c.take (k + nn) = c.take k ++ c' := by rw [List.take_add, hcd]
      have hop : (c.drop k).length < openCap := openCap_lt (by omega)
      have hsl := (BSl.tail (m := mx (hAt m b ⟨s1.M, spl s1.R (s1.n % 64) c', s1.n⟩) []) (((hc'.set hoff' _).old (Old.here _ _))) hop (k := nn) (by omega)).1
      have hc3 := (BSl.tail hc' hop (k := nn) (by omega)).2
      have hoff3 := hoff'.tail cap' nn
      rw [hdd] at hc3
      by_cases hfull : ((s1.n % 64 : Nat) : Int) + (nn : Int) = 64
      · have hput : s.put (c.take (k + nn)) = ⟨moreStep s1.M (spl s1.R (s1.n % 64) c'), spl s1.R (s1.n % 64) c', s1.n + nn⟩ := by
          rw [htk, HS.put_append, hs1, HS.put_full hok (by intro h; rw [h] at hcl; simp at hcl; omega) (by rw [hcl]; omega), hcl]
        have hput2 : c.length ≤ k + nn → s.put c = ⟨moreStep s1.M (spl s1.R (s1.n % 64) c'), spl s1.R (s1.n % 64) c', s1.n + nn⟩ := fun h => by rw [List.take_of_length_le h] at hput; exact hput
        have hkb := DetC.known (block_ok (mx (hAt m b ⟨s1.M, spl s1.R (s1.n % 64) c', s1.n + nn⟩) []) b ⟨s1.M, spl s1.R (s1.n % 64) c', s1.n + nn⟩ ((hg.set hb2 _).old (Old.here _ _)) hok2 (by rw [mx_size, AMem.size_set]; omega) hb2 (by rw [mx_old (by rw [AMem.size_set]; exact hb)]; exact AMem.get_set_self _ _ _))
        simp (implicitDefEqProofs := false) (maxSteps := 1000000) (disch := first | omega | with_reducible assumption | (simp only [lenT, Nat.reduceAdd]; omega)) only [amT, cut, bnd, Nat.reduceBEq, reduceCtorEq, Nat.reduceEqDiff, Nat.reduceAdd, Nat.reduceMul, Nat.reduceSub, Int.reduceToNat, Int.reduceEq, Int.reduceLT, Int.reduceLE, Int.reduceAdd, Int.reduceSub, Int.reduceMul, reduceIte, resVs, resV, packV, initT, addr, F59_l0, t0, t1, eqV, Option.isNone, hpos, e1, h72, stepOp_cpy_v, hcp, hR, hn2, stepOp_slV_v, Option.map_none, hsl, e3, hsn, hfull, hkb]
        repeat refine OrW.go ?_
        rw [LoopK_normal]; refine ⟨_, ?_, k + nn, tailA a' cap' nn, tailC cap' nn, rfl, rfl, ?qm, ?q0, ?q1, ?_⟩
        case qm | q0 | q1 => first | rfl | (simp (implicitDefEqProofs := false) (maxSteps := 1000000) (disch := first | omega | with_reducible assumption | (simp only [lenT, Nat.reduceAdd]; omega)) only [amT, cut, bnd, Nat.reduceBEq, reduceCtorEq, Nat.reduceEqDiff, Nat.reduceAdd, Nat.reduceMul, Nat.reduceSub, Int.reduceToNat, Int.reduceEq, Int.reduceLT, Int.reduceLE, Int.reduceAdd, Int.reduceSub, Int.reduceMul, reduceIte, resVs, resV, packV, initT, addr, t0, t1, hput, hput2, hdd]; first | done | rfl | (congr 1; omega))
        · omega
        · exact ⟨by omega, hc3, hoff3⟩
      · have hput : s.put (c.take (k + nn)) = ⟨s1.M, spl s1.R (s1.n % 64) c', s1.n + nn⟩ := by
          rw [htk, HS.put_append, hs1, HS.put_fit hok (by rw [hcl]; omega), hcl]
        have hput2 : c.length ≤ k + nn → s.put c = ⟨s1.M, spl s1.R (s1.n % 64) c', s1.n + nn⟩ := fun h => by rw [List.take_of_length_le h] at hput; exact hput
        simp (implicitDefEqProofs := false) (maxSteps := 1000000) (disch := first | omega | with_reducible assumption | (simp only [lenT, Nat.reduceAdd]; omega)) only [amT, cut, bnd, Nat.reduceBEq, reduceCtorEq, Nat.reduceEqDiff, Nat.reduceAdd, Nat.reduceMul, Nat.reduceSub, Int.reduceToNat, Int.reduceEq, Int.reduceLT, Int.reduceLE, Int.reduceAdd, Int.reduceSub, Int.reduceMul, reduceIte, resVs, resV, packV, initT, addr, F59_l0, t0, t1, eqV, Option.isNone, hpos, e1, h72, stepOp_cpy_v, hcp, hR, hn2, stepOp_slV_v, Option.map_none, hsl, e3, hsn, hfull]
        rw [LoopK_normal]; refine ⟨_, ?_, k + nn, tailA a' cap' nn, tailC cap' nn, rfl, rfl, ?qm, ?q0, ?q1, ?_⟩
        case qm | q0 | q1 => first | rfl | (simp (implicitDefEqProofs := false) (maxSteps := 1000000) (disch := first | omega | with_reducible assumption | (simp only [lenT, Nat.reduceAdd]; omega)) only [amT, cut, bnd, Nat.reduceBEq, reduceCtorEq, Nat.reduceEqDiff, Nat.reduceAdd, Nat.reduceMul, Nat.reduceSub, Int.reduceToNat, Int.reduceEq, Int.reduceLT, Int.reduceLE, Int.reduceAdd, Int.reduceSub, Int.reduceMul, reduceIte, resVs, resV, packV, initT, addr, t0, t1, hput, hput2, hdd]; first | done | rfl | (congr 1; omega))
        · omega
        · exact ⟨by omega, hc3, hoff3⟩
end Go.Proofs.YtgkmlbkocgjmmaaDoor.S
namespace Go.Proofs.YtgkmlbkocgjmmaaDoor.S
open Go Go.AM
set_option maxRecDepth 100000
set_option linter.unusedVariables false
set_option linter.unusedSimpArgs false

def zerosN (n : Nat) : Nat := (119 - n % 64) % 64
def lenB (n : Nat) : List UInt8 := (List.range 8).map fun k => UInt8.ofNat ((8 * n) >>> (56 - 8 * k))
theorem lenB_length (n : Nat) : (lenB n).length = 8 := by simp [lenB]
/-- The first j bytes behind the message, up to its length. -/
def padA (j : Nat) : List UInt8 := match j with | 0 => [] | j + 1 => 128 :: List.replicate j 0
theorem padA_succ (j : Nat) : padA (j + 1) = padA j ++ [if j = 0 then 128 else 0] := by
  cases j with
  | zero => rfl
  | succ j => simp only [padA]; rw [List.replicate_succ']; simp
theorem padA_length (j : Nat) : (padA j).length = j := by cases j <;> simp [padA]
def padB (n : Nat) : List UInt8 := padA (1 + zerosN n) ++ lenB n
/-- A state's bytes. -/
def dig (S : List UInt32) : List UInt8 := (List.range 32).map fun p => UInt8.ofNat ((S.getD (p / 4) 0).toNat >>> (24 - 8 * (p % 4)))
theorem dig_length (S : List UInt32) : (dig S).length = 32 := by simp [dig]
def sumOf (s : HS) : List UInt8 := dig (zip2 beginW (s.put (padB s.n)).M)
theorem sumOf_length (s : HS) : (sumOf s).length = 32 := dig_length _

theorem zero73 : [Value.int .u32 0, .int .u32 0, .int .u32 0, .int .u32 0, .int .u32 0, .int .u32 0, .int .u32 0, .int .u32 0, .int .u8 0, .int .u8 0, .int .u8 0, .int .u8 0, .int .u8 0, .int .u8 0, .int .u8 0, .int .u8 0, .int .u8 0, .int .u8 0, .int .u8 0, .int .u8 0, .int .u8 0, .int .u8 0, .int .u8 0, .int .u8 0, .int .u8 0, .int .u8 0, .int .u8 0, .int .u8 0, .int .u8 0, .int .u8 0, .int .u8 0, .int .u8 0, .int .u8 0, .int .u8 0, .int .u8 0, .int .u8 0, .int .u8 0, .int .u8 0, .int .u8 0, .int .u8 0, .int .u8 0, .int .u8 0, .int .u8 0, .int .u8 0, .int .u8 0, .int .u8 0, .int .u8 0, .int .u8 0, .int .u8 0, .int .u8 0, .int .u8 0, .int .u8 0, .int .u8 0, .int .u8 0, .int .u8 0, .int .u8 0, .int .u8 0, .int .u8 0, .int .u8 0, .int .u8 0, .int .u8 0, .int .u8 0, .int .u8 0, .int .u8 0, .int .u8 0, .int .u8 0, .int .u8 0, .int .u8 0, .int .u8 0, .int .u8 0, .int .u8 0, .int .u8 0, .int .u64 0] = cH hs0 := rfl
theorem zero32 : [Value.int .u8 0, .int .u8 0, .int .u8 0, .int .u8 0, .int .u8 0, .int .u8 0, .int .u8 0, .int .u8 0, .int .u8 0, .int .u8 0, .int .u8 0, .int .u8 0, .int .u8 0, .int .u8 0, .int .u8 0, .int .u8 0, .int .u8 0, .int .u8 0, .int .u8 0, .int .u8 0, .int .u8 0, .int .u8 0, .int .u8 0, .int .u8 0, .int .u8 0, .int .u8 0, .int .u8 0, .int .u8 0, .int .u8 0, .int .u8 0, .int .u8 0, .int .u8 0] = (List.replicate 32 (0 : UInt8)).map byteV := rfl
theorem one_cH (s : HS) : (cH s).all oneCell = true := by simp [cH, oneCell, w32, byteV]
theorem cellsOf_cH (s : HS) : cellsOf (.agg (cH s).toArray) = some (cH s) := by
  simp only [cellsOf]; rw [if_pos (one_cH s)]
theorem put1_known (m : AMem) (d : AObj) (s : HS) (g : List AObj) (c : UInt8) (hg : Glob m) (hs : s.ok) (hn : s.n + 1 < 2 ^ 60) :
    Known Tryd.prog 3 59 [.pointer (some ⟨m.size + 1, 0, none⟩), .slice (some ⟨m.size + (g.length + 1 + 1), 0, none⟩) 1 1] (mx m (d :: .cells (cH s) 96 true .exact :: (g ++ [.cells [.int .u8 (c.toNat : Int)] 5 true .exact]))) (.tuple #[])
      (mx m (d :: .cells (cH (s.put [c])) 96 true .exact :: (g ++ [.cells [.int .u8 (c.toNat : Int)] 5 true .exact]))) := by
  have gs := hg.s
  have h := put_ok (mx m (d :: .cells (cH s) 96 true .exact :: (g ++ [.cells [.int .u8 (c.toNat : Int)] 5 true .exact]))) (m.size + 1) s (hg.old (Old.here _ _)) hs (by rw [mx_size]; simp) (by omega) (mx_new _ _ 1)
    (some ⟨m.size + (g.length + 1 + 1), 0, none⟩) 1 [c] (.inr ⟨_, _, [.int .u8 (c.toNat : Int)], 5, true, .exact, rfl, by rw [mx_size]; simp, by rw [mx_new]; simp, rfl, .inr ⟨openCap_lt (by omega), Nat.le_refl _⟩⟩)
    (fun x o hx => by cases hx; omega) hn
  have e : mx (hAt (mx m (d :: .cells (cH s) 96 true .exact :: (g ++ [.cells [.int .u8 (c.toNat : Int)] 5 true .exact]))) (m.size + 1) (s.put [c])) [] = mx m (d :: .cells (cH (s.put [c])) 96 true .exact :: (g ++ [.cells [.int .u8 (c.toNat : Int)] 5 true .exact])) := by
    simp (implicitDefEqProofs := false) (maxSteps := 1000000) (disch := first | omega | with_reducible assumption | (simp only [lenT, Nat.reduceAdd]; omega)) only [amT, cut, bnd, Nat.reduceBEq, reduceCtorEq, Nat.reduceEqDiff, Nat.reduceAdd, Nat.reduceMul, Nat.reduceSub, Int.reduceToNat, Int.reduceEq, Int.reduceLT, Int.reduceLE, Int.reduceAdd, Int.reduceSub, Int.reduceMul, reduceIte, resVs, resV, packV, initT, addr]
  rw [e] at h
  exact DetC.known h
end Go.Proofs.YtgkmlbkocgjmmaaDoor.S
namespace Go.Proofs.YtgkmlbkocgjmmaaDoor.S
open Go Go.AM
set_option maxRecDepth 100000
set_option linter.unusedVariables false
set_option linter.unusedSimpArgs false

theorem lenB_take {n k : Nat} (hk : k < 8) : (lenB n).take (k + 1) = (lenB n).take k ++ [UInt8.ofNat ((8 * n) >>> (56 - 8 * k))] := by
  rw [List.take_succ_eq_append_getElem (by rw [lenB_length]; exact hk)]; simp [lenB]
theorem u8n (x : Nat) : IntKind.u8.wrap (x : Int) = ((UInt8.ofNat x).toNat : Int) := by simp [IntKind.wrap, IntKind.bits, IntKind.signed]
theorem dig_get {S : List UInt32} (hS : S.length = 8) {i k : Nat} (hi : i < 8) (hk : k < 4) : (dig S)[4 * i + k]'(by rw [dig_length]; omega) = UInt8.ofNat ((S[i]'(by omega)).toNat >>> (24 - 8 * k)) := by
  simp only [dig, List.getElem_map, List.getElem_range]
  rw [show (4 * i + k) / 4 = i by omega, show (4 * i + k) % 4 = k by omega]
  simp [hS, hi]
theorem sumM_ok (m : AMem) (b : Nat) (s : HS) (hg : Glob m) (hs : s.ok) (hb : b < m.size) (hm : m.get b = .cells (cH s) 96 true .exact) (hn : s.n < 2 ^ 59) :
    PureC Tryd.prog 3 60 [.pointer (some ⟨b, 0, none⟩)] m (.agg ((sumOf s).map byteV).toArray) := by
  refine pure_of_W (fn := Tryd.f60) rfl rfl F60_ok (by simp [F60]) (.bytes _) ?_
  have gs := hg.s
  have h73 := cH_all hs
  have hl := cH_length hs
  have hl0 := cH_length hs0_ok
  have h72 := cH_n hs
  simp (implicitDefEqProofs := false) (maxSteps := 1000000) (disch := first | omega | with_reducible assumption | (simp only [lenT, Nat.reduceAdd]; omega)) only [amT, cut, bnd, Nat.reduceBEq, reduceCtorEq, Nat.reduceEqDiff, Nat.reduceAdd, Nat.reduceMul, Nat.reduceSub, Int.reduceToNat, Int.reduceEq, Int.reduceLT, Int.reduceLE, Int.reduceAdd, Int.reduceSub, Int.reduceMul, reduceIte, resVs, resV, packV, initT, addr, F60, eqV, Option.isNone, hm, h73, zero73, cellsOf_cH, zero32, h72]
  refine W_loop (fun N qs => ∃ (j : Nat) (g : List AObj), N = 1 + zerosN s.n - j ∧ qs.ds = [] ∧ qs.m = mx m (.cells ((List.replicate 32 (0 : UInt8)).map byteV) 52 true .exact :: .cells (cH (s.put (padA j))) 96 true .exact :: g) ∧ qs.t 2 = .pointer (some ⟨m.size, 0, none⟩) ∧ qs.t 3 = .pointer (some ⟨m.size + 1, 0, none⟩) ∧ qs.t 4 = .int .u64 (8 * s.n : Nat) ∧ qs.t 5 = .int .u8 (if j = 0 then 128 else 0) ∧ j ≤ 1 + zerosN s.n) (1 + zerosN s.n - (0)) ⟨0, [], rfl, rfl, ?qm, ?q2, ?q3, ?q4, ?q5, ?_⟩ ?_
  case qm | q2 | q3 | q4 | q5 => first | rfl | (simp (implicitDefEqProofs := false) (maxSteps := 1000000) (disch := first | omega | with_reducible assumption | (simp only [lenT, Nat.reduceAdd]; omega)) only [amT, cut, bnd, Nat.reduceBEq, reduceCtorEq, Nat.reduceEqDiff, Nat.reduceAdd, Nat.reduceMul, Nat.reduceSub, Int.reduceToNat, Int.reduceEq, Int.reduceLT, Int.reduceLE, Int.reduceAdd, Int.reduceSub, Int.reduceMul, reduceIte, resVs, resV, packV, initT, addr, padA, HS.put_nil]; first | done | rfl | (congr 1; omega))
  · omega
  · rintro N t m1 ds ⟨j, g, rfl, hds, hm, t2, t3, t4, t5, hp⟩
    simp only at hds hm t2 t3 t4 t5
    subst hds; replace hm := hm.symm; subst hm
    have hok : (s.put (padA j)).ok := HS.put_ok hs _
    have hnj : (s.put (padA j)).n = s.n + j := by rw [HS.put_n, padA_length]
    have h72j := cH_n hok
    have h73j := cH_length hok
    rw [hnj] at h72j
    have e1 : ((s.n + j : Nat) : Int).tmod 64 = (((s.n + j) % 64 : Nat) : Int) := tmod_nat _ 64
    have hz : zerosN s.n = (119 - s.n % 64) % 64 := rfl
    by_cases hj : j = 1 + zerosN s.n
    · have h56 : (((s.n + j) % 64 : Nat) : Int) = 56 := by rw [hj, hz]; omega
      have hj0 : ¬ j = 0 := by omega
      rw [if_neg hj0] at t5
      simp (implicitDefEqProofs := false) (maxSteps := 1000000) (disch := first | omega | with_reducible assumption | (simp only [lenT, Nat.reduceAdd]; omega)) only [amT, cut, bnd, Nat.reduceBEq, reduceCtorEq, Nat.reduceEqDiff, Nat.reduceAdd, Nat.reduceMul, Nat.reduceSub, Int.reduceToNat, Int.reduceEq, Int.reduceLT, Int.reduceLE, Int.reduceAdd, Int.reduceSub, Int.reduceMul, reduceIte, resVs, resV, packV, initT, addr, F60_l0, t2, t3, t4, t5, h72j, e1, h56]
      refine W_loop (fun N qs => ∃ (k : Nat) (g : List AObj), N = 8 - k ∧ qs.ds = [] ∧ qs.m = mx m (.cells ((List.replicate 32 (0 : UInt8)).map byteV) 52 true .exact :: .cells (cH (s.put (padA (1 + zerosN s.n) ++ (lenB s.n).take k))) 96 true .exact :: g) ∧ qs.t 2 = .pointer (some ⟨m.size, 0, none⟩) ∧ qs.t 3 = .pointer (some ⟨m.size + 1, 0, none⟩) ∧ qs.t 4 = .int .u64 (8 * s.n : Nat) ∧ qs.t 6 = .int .i64 (56 - 8 * (k : Int)) ∧ k ≤ 8) (8 - (0)) ⟨0, g, rfl, rfl, ?qm, ?q2, ?q3, ?q4, ?q6, ?_⟩ ?_
      case qm | q2 | q3 | q4 | q6 => first | rfl | (simp (implicitDefEqProofs := false) (maxSteps := 1000000) (disch := first | omega | with_reducible assumption | (simp only [lenT, Nat.reduceAdd]; omega)) only [amT, cut, bnd, Nat.reduceBEq, reduceCtorEq, Nat.reduceEqDiff, Nat.reduceAdd, Nat.reduceMul, Nat.reduceSub, Int.reduceToNat, Int.reduceEq, Int.reduceLT, Int.reduceLE, Int.reduceAdd, Int.reduceSub, Int.reduceMul, reduceIte, resVs, resV, packV, initT, addr, t2, t3, t4, t5, List.take_zero, List.append_nil, ← hj]; first | done | rfl | (congr 1; omega))
      · omega
      · clear t2 t3 t4 t5 h72j h73j hnj hok e1 h56 hj0 hj hp
        rintro N t m1 ds ⟨k, g, rfl, hds, hm, t2, t3, t4, t6, hp⟩
        simp only at hds hm t2 t3 t4 t6
        subst hds; replace hm := hm.symm; subst hm
        have hok : (s.put (padA (1 + zerosN s.n) ++ (lenB s.n).take k)).ok := HS.put_ok hs _
        by_cases hk : (0 : Int) ≤ 56 - 8 * (k : Int)
        · have hk8 : k < 8 := by omega
          have e2 : shr .u64 ((8 * s.n : Nat) : Int) (56 - 8 * (k : Int)) = (((8 * s.n) >>> (56 - 8 * k) : Nat) : Int) := by
            rw [show (56 : Int) - 8 * (k : Int) = ((56 - 8 * k : Nat) : Int) by omega]; exact shr_nat _ _ _ (by simp [IntKind.bits]; omega)
          have hkn := put1_known m (.cells ((List.replicate 32 (0 : UInt8)).map byteV) 52 true .exact) (s.put (padA (1 + zerosN s.n) ++ (lenB s.n).take k)) g (UInt8.ofNat ((8 * s.n) >>> (56 - 8 * k))) hg hok
            (by rw [HS.put_n, List.length_append, padA_length, List.length_take, lenB_length]; omega)
          have hpa : (s.put (padA (1 + zerosN s.n) ++ (lenB s.n).take k)).put [UInt8.ofNat ((8 * s.n) >>> (56 - 8 * k))] = s.put (padA (1 + zerosN s.n) ++ (lenB s.n).take (k + 1)) := by
            rw [lenB_take hk8, ← List.append_assoc, HS.put_append _ _ [_]]
          rw [hpa] at hkn
          simp (implicitDefEqProofs := false) (maxSteps := 1000000) (disch := first | omega | with_reducible assumption | (simp only [lenT, Nat.reduceAdd]; omega)) only [amT, cut, bnd, Nat.reduceBEq, reduceCtorEq, Nat.reduceEqDiff, Nat.reduceAdd, Nat.reduceMul, Nat.reduceSub, Int.reduceToNat, Int.reduceEq, Int.reduceLT, Int.reduceLE, Int.reduceAdd, Int.reduceSub, Int.reduceMul, reduceIte, resVs, resV, packV, initT, addr, F60_l1, t2, t3, t4, t6, hk, e2, u8n, hkn]
          repeat refine OrW.go ?_
          rw [LoopK_normal]; refine ⟨_, ?_, k + 1, g ++ [.cells [.int .u8 ((UInt8.ofNat ((8 * s.n) >>> (56 - 8 * k))).toNat : Int)] 5 true .exact], rfl, rfl, ?qm, ?q2, ?q3, ?q4, ?q6, ?_⟩
          case qm | q2 | q3 | q4 | q6 => first | rfl | (simp (implicitDefEqProofs := false) (maxSteps := 1000000) (disch := first | omega | with_reducible assumption | (simp only [lenT, Nat.reduceAdd]; omega)) only [amT, cut, bnd, Nat.reduceBEq, reduceCtorEq, Nat.reduceEqDiff, Nat.reduceAdd, Nat.reduceMul, Nat.reduceSub, Int.reduceToNat, Int.reduceEq, Int.reduceLT, Int.reduceLE, Int.reduceAdd, Int.reduceSub, Int.reduceMul, reduceIte, resVs, resV, packV, initT, addr, t2, t3, t4, t6]; first | done | rfl | (congr 1; omega))
          · omega
          · omega
        · have hk8 : k = 8 := by omega
          subst hk8
          have hpb : padA (1 + zerosN s.n) ++ (lenB s.n).take 8 = padB s.n := by rw [List.take_of_length_le (by rw [lenB_length]; omega)]; rfl
          rw [hpb] at hok
          generalize hS : zip2 beginW (s.put (padB s.n)).M = S at *
          have hS8 : S.length = 8 := by rw [← hS]; exact zip2_length rfl hok.1
          have hsum : sumOf s = dig S := by rw [sumOf, hS]
          have hst := @kState (mx m (.cells ((List.replicate 32 (0 : UInt8)).map byteV) 52 true .exact :: .cells (cH (s.put (padB s.n))) 96 true .exact :: g)) (m.size + 1) (s.put (padB s.n)) (hg.old (Old.here _ _)) hok (by rw [mx_size]; simp) (mx_new _ _ 1)
          rw [hS] at hst
          simp (implicitDefEqProofs := false) (maxSteps := 1000000) (disch := first | omega | with_reducible assumption | (simp only [lenT, Nat.reduceAdd]; omega)) only [amT, cut, bnd, Nat.reduceBEq, reduceCtorEq, Nat.reduceEqDiff, Nat.reduceAdd, Nat.reduceMul, Nat.reduceSub, Int.reduceToNat, Int.reduceEq, Int.reduceLT, Int.reduceLE, Int.reduceAdd, Int.reduceSub, Int.reduceMul, reduceIte, resVs, resV, packV, initT, addr, F60_l1, t2, t3, t4, t6, hk, hpb, hst]
          repeat refine OrW.go ?_
          refine W_loop (fun N qs => ∃ (i : Nat), N = 8 - i ∧ qs.ds = [] ∧ qs.m = mx m (.cells ((mix (4 * i) (dig S) (List.replicate 32 (0 : UInt8))).map byteV) 52 true .exact :: .cells (cH (s.put (padB s.n))) 96 true .exact :: g) ∧ qs.t 2 = .pointer (some ⟨m.size, 0, none⟩) ∧ qs.t 40 = .agg (S.map w32).toArray ∧ qs.t 41 = .int .i64 i ∧ i ≤ 8) (8 - (0)) ⟨0, rfl, rfl, ?qm, ?q2, ?q40, ?q41, ?_⟩ ?_
          case qm | q2 | q40 | q41 => first | rfl | (simp (implicitDefEqProofs := false) (maxSteps := 1000000) (disch := first | omega | with_reducible assumption | (simp only [lenT, Nat.reduceAdd]; omega)) only [amT, cut, bnd, Nat.reduceBEq, reduceCtorEq, Nat.reduceEqDiff, Nat.reduceAdd, Nat.reduceMul, Nat.reduceSub, Int.reduceToNat, Int.reduceEq, Int.reduceLT, Int.reduceLE, Int.reduceAdd, Int.reduceSub, Int.reduceMul, reduceIte, resVs, resV, packV, initT, addr, mix_zero, t2, t3, t4, t6]; first | done | rfl | (congr 1; omega))
          · omega
          · clear t2 t3 t4 t6 hk hp hst
            rintro N t m1 ds ⟨i, rfl, hds, hm, t2, t40, t41, hp⟩
            simp only at hds hm t2 t40 t41
            subst hds; replace hm := hm.symm; subst hm
            by_cases hi : (i : Int) < 8
            · have hi8 : i < 8 := by omega
              obtain ⟨x, hx⟩ : ∃ x, x = S[i]'(by omega) := ⟨_, rfl⟩
              simp (implicitDefEqProofs := false) (maxSteps := 1000000) (disch := first | omega | with_reducible assumption | (simp only [lenT, Nat.reduceAdd]; omega)) only [amT, cut, bnd, Nat.reduceBEq, reduceCtorEq, Nat.reduceEqDiff, Nat.reduceAdd, Nat.reduceMul, Nat.reduceSub, Int.reduceToNat, Int.reduceEq, Int.reduceLT, Int.reduceLE, Int.reduceAdd, Int.reduceSub, Int.reduceMul, reduceIte, resVs, resV, packV, initT, addr, F60_l2, t2, t40, t41, hi, ws_get, ← hx]
              refine W_loop (fun N qs => ∃ (k : Nat), N = 4 - k ∧ qs.ds = [] ∧ qs.m = mx m (.cells ((mix (4 * i + k) (dig S) (List.replicate 32 (0 : UInt8))).map byteV) 52 true .exact :: .cells (cH (s.put (padB s.n))) 96 true .exact :: g) ∧ qs.t 2 = .pointer (some ⟨m.size, 0, none⟩) ∧ qs.t 7 = .int .i64 i ∧ qs.t 8 = .int .u32 (x.toNat : Int) ∧ qs.t 40 = .agg (S.map w32).toArray ∧ qs.t 41 = .int .i64 i ∧ qs.t 45 = .int .i64 k ∧ k ≤ 4) (4 - (0)) ⟨0, rfl, rfl, ?qm, ?q2, ?q7, ?q8, ?q40, ?q41, ?q45, ?_⟩ ?_
              case qm | q2 | q7 | q8 | q40 | q41 | q45 => first | rfl | (simp (implicitDefEqProofs := false) (maxSteps := 1000000) (disch := first | omega | with_reducible assumption | (simp only [lenT, Nat.reduceAdd]; omega)) only [amT, cut, bnd, Nat.reduceBEq, reduceCtorEq, Nat.reduceEqDiff, Nat.reduceAdd, Nat.reduceMul, Nat.reduceSub, Int.reduceToNat, Int.reduceEq, Int.reduceLT, Int.reduceLE, Int.reduceAdd, Int.reduceSub, Int.reduceMul, reduceIte, resVs, resV, packV, initT, addr, t2, t40, t41, w32_def]; first | done | rfl | (congr 1; omega))
              · omega
              · clear t2 t40 t41
                rintro N t m1 ds ⟨k, rfl, hds, hm, t2, t7, t8, t40, t41, t45, hp⟩
                simp only at hds hm t2 t7 t8 t40 t41 t45
                subst hds; replace hm := hm.symm; subst hm
                have hml : (mix (4 * i + k) (dig S) (List.replicate 32 (0 : UInt8))).length = 32 := by rw [mix_length (by rw [dig_length]; rfl)]; rfl
                by_cases hk : (k : Int) < 4
                · have hk4 : k < 4 := by omega
                  have e1 : (4 : Int) * (i : Int) + (k : Int) = ((4 * i + k : Nat) : Int) := by omega
                  have e2 : shr .u32 (x.toNat : Int) (24 - 8 * (k : Int)) = ((x.toNat >>> (24 - 8 * k) : Nat) : Int) := by
                    rw [show (24 : Int) - 8 * (k : Int) = ((24 - 8 * k : Nat) : Int) by omega]; exact shr_nat _ _ _ (by simp [IntKind.bits]; omega)
                  have e3 := mix_set (k := 4 * i + k) (X := dig S) (B := List.replicate 32 (0 : UInt8)) (by rw [dig_length]; rfl) (by rw [dig_length]; omega)
                  rw [dig_get hS8 hi8 hk4, ← hx] at e3
                  have e4 := map_set_byte (mix (4 * i + k) (dig S) (List.replicate 32 (0 : UInt8))) (4 * i + k) (UInt8.ofNat (x.toNat >>> (24 - 8 * k)))
                  rw [e3, byteV_def] at e4
                  simp (implicitDefEqProofs := false) (maxSteps := 1000000) (disch := first | omega | with_reducible assumption | (simp only [lenT, Nat.reduceAdd]; omega)) only [amT, cut, bnd, Nat.reduceBEq, reduceCtorEq, Nat.reduceEqDiff, Nat.reduceAdd, Nat.reduceMul, Nat.reduceSub, Int.reduceToNat, Int.reduceEq, Int.reduceLT, Int.reduceLE, Int.reduceAdd, Int.reduceSub, Int.reduceMul, reduceIte, resVs, resV, packV, initT, addr, F60_l3, t2, t7, t8, t40, t41, t45, hk, e1, e2, u8n, e4]
                  rw [LoopK_normal]; refine ⟨_, ?_, k + 1, rfl, rfl, ?qm, ?q2, ?q7, ?q8, ?q40, ?q41, ?q45, ?_⟩
                  case qm | q2 | q7 | q8 | q40 | q41 | q45 => first | rfl | (simp (implicitDefEqProofs := false) (maxSteps := 1000000) (disch := first | omega | with_reducible assumption | (simp only [lenT, Nat.reduceAdd]; omega)) only [amT, cut, bnd, Nat.reduceBEq, reduceCtorEq, Nat.reduceEqDiff, Nat.reduceAdd, Nat.reduceMul, Nat.reduceSub, Int.reduceToNat, Int.reduceEq, Int.reduceLT, Int.reduceLE, Int.reduceAdd, Int.reduceSub, Int.reduceMul, reduceIte, resVs, resV, packV, initT, addr, t2, t7, t8, t40, t41, t45]; first | done | rfl | (congr 1; omega))
                  · omega
                  · omega
                · have hk4 : k = 4 := by omega
                  subst hk4
                  simp (implicitDefEqProofs := false) (maxSteps := 1000000) (disch := first | omega | with_reducible assumption | (simp only [lenT, Nat.reduceAdd]; omega)) only [amT, cut, bnd, Nat.reduceBEq, reduceCtorEq, Nat.reduceEqDiff, Nat.reduceAdd, Nat.reduceMul, Nat.reduceSub, Int.reduceToNat, Int.reduceEq, Int.reduceLT, Int.reduceLE, Int.reduceAdd, Int.reduceSub, Int.reduceMul, reduceIte, resVs, resV, packV, initT, addr, F60_l3, t2, t7, t8, t40, t41, t45, hk]
                  rw [LoopK_normal]; refine ⟨_, ?_, i + 1, rfl, rfl, ?qm, ?q2, ?q40, ?q41, ?_⟩
                  case qm | q2 | q40 | q41 => first | rfl | (simp (implicitDefEqProofs := false) (maxSteps := 1000000) (disch := first | omega | with_reducible assumption | (simp only [lenT, Nat.reduceAdd]; omega)) only [amT, cut, bnd, Nat.reduceBEq, reduceCtorEq, Nat.reduceEqDiff, Nat.reduceAdd, Nat.reduceMul, Nat.reduceSub, Int.reduceToNat, Int.reduceEq, Int.reduceLT, Int.reduceLE, Int.reduceAdd, Int.reduceSub, Int.reduceMul, reduceIte, resVs, resV, packV, initT, addr, t2, t7, t8, t40, t41, t45]; first | done | rfl | (congr 1; omega))
                  · omega
                  · omega
            · have hi8 : i = 8 := by omega
              subst hi8
              have hmx := mix_all (k := 32) (X := dig S) (B := List.replicate 32 (0 : UInt8)) (dig_length _) rfl
              have hdl := dig_length S
              simp (implicitDefEqProofs := false) (maxSteps := 1000000) (disch := first | omega | with_reducible assumption | (simp only [lenT, Nat.reduceAdd]; omega)) only [amT, cut, bnd, Nat.reduceBEq, reduceCtorEq, Nat.reduceEqDiff, Nat.reduceAdd, Nat.reduceMul, Nat.reduceSub, Int.reduceToNat, Int.reduceEq, Int.reduceLT, Int.reduceLE, Int.reduceAdd, Int.reduceSub, Int.reduceMul, reduceIte, resVs, resV, packV, initT, addr, F60_l2, t2, t40, t41, hmx, cutL_all, hsum]
    · have hk := put1_known m (.cells ((List.replicate 32 (0 : UInt8)).map byteV) 52 true .exact) (s.put (padA j)) g (if j = 0 then 128 else 0) hg hok (by omega)
      have hpa : (s.put (padA j)).put [if j = 0 then 128 else 0] = s.put (padA (j + 1)) := by rw [padA_succ, HS.put_append]
      rw [hpa] at hk
      by_cases hj0 : j = 0
      · subst hj0
        simp only [if_true] at hk t5
        have h8 : ((128 : UInt8).toNat : Int) = 128 := rfl
        rw [h8] at hk
        rw [Nat.add_zero] at e1 h72j
        by_cases h56 : ((s.n % 64 : Nat) : Int) = 56
        · simp (implicitDefEqProofs := false) (maxSteps := 1000000) (disch := first | omega | with_reducible assumption | (simp only [lenT, Nat.reduceAdd]; omega)) only [amT, cut, bnd, Nat.reduceBEq, reduceCtorEq, Nat.reduceEqDiff, Nat.reduceAdd, Nat.reduceMul, Nat.reduceSub, Int.reduceToNat, Int.reduceEq, Int.reduceLT, Int.reduceLE, Int.reduceAdd, Int.reduceSub, Int.reduceMul, reduceIte, resVs, resV, packV, initT, addr, F60_l0, t2, t3, t4, t5, h72j, e1, h56, hk]
          repeat refine OrW.go ?_
          rw [LoopK_normal]; refine ⟨_, ?_, 0 + 1, g ++ [.cells [.int .u8 128] 5 true .exact], rfl, rfl, ?qm, ?q2, ?q3, ?q4, ?q5, ?_⟩
          case qm | q2 | q3 | q4 | q5 => first | rfl | (simp (implicitDefEqProofs := false) (maxSteps := 1000000) (disch := first | omega | with_reducible assumption | (simp only [lenT, Nat.reduceAdd]; omega)) only [amT, cut, bnd, Nat.reduceBEq, reduceCtorEq, Nat.reduceEqDiff, Nat.reduceAdd, Nat.reduceMul, Nat.reduceSub, Int.reduceToNat, Int.reduceEq, Int.reduceLT, Int.reduceLE, Int.reduceAdd, Int.reduceSub, Int.reduceMul, reduceIte, resVs, resV, packV, initT, addr, t2, t3, t4, t5]; first | done | rfl | (congr 1; omega))
          · omega
          · omega
        · simp (implicitDefEqProofs := false) (maxSteps := 1000000) (disch := first | omega | with_reducible assumption | (simp only [lenT, Nat.reduceAdd]; omega)) only [amT, cut, bnd, Nat.reduceBEq, reduceCtorEq, Nat.reduceEqDiff, Nat.reduceAdd, Nat.reduceMul, Nat.reduceSub, Int.reduceToNat, Int.reduceEq, Int.reduceLT, Int.reduceLE, Int.reduceAdd, Int.reduceSub, Int.reduceMul, reduceIte, resVs, resV, packV, initT, addr, F60_l0, t2, t3, t4, t5, h72j, e1, h56, hk]
          repeat refine OrW.go ?_
          rw [LoopK_normal]; refine ⟨_, ?_, 0 + 1, g ++ [.cells [.int .u8 128] 5 true .exact], rfl, rfl, ?qm, ?q2, ?q3, ?q4, ?q5, ?_⟩
          case qm | q2 | q3 | q4 | q5 => first | rfl | (simp (implicitDefEqProofs := false) (maxSteps := 1000000) (disch := first | omega | with_reducible assumption | (simp only [lenT, Nat.reduceAdd]; omega)) only [amT, cut, bnd, Nat.reduceBEq, reduceCtorEq, Nat.reduceEqDiff, Nat.reduceAdd, Nat.reduceMul, Nat.reduceSub, Int.reduceToNat, Int.reduceEq, Int.reduceLT, Int.reduceLE, Int.reduceAdd, Int.reduceSub, Int.reduceMul, reduceIte, resVs, resV, packV, initT, addr, t2, t3, t4, t5]; first | done | rfl | (congr 1; omega))
          · omega
          · omega
      · have h56 : ¬ (((s.n + j) % 64 : Nat) : Int) = 56 := by omega
        simp only [if_neg hj0] at hk t5
        have h8 : ((0 : UInt8).toNat : Int) = 0 := rfl
        rw [h8] at hk
        simp (implicitDefEqProofs := false) (maxSteps := 1000000) (disch := first | omega | with_reducible assumption | (simp only [lenT, Nat.reduceAdd]; omega)) only [amT, cut, bnd, Nat.reduceBEq, reduceCtorEq, Nat.reduceEqDiff, Nat.reduceAdd, Nat.reduceMul, Nat.reduceSub, Int.reduceToNat, Int.reduceEq, Int.reduceLT, Int.reduceLE, Int.reduceAdd, Int.reduceSub, Int.reduceMul, reduceIte, resVs, resV, packV, initT, addr, F60_l0, t2, t3, t4, t5, h72j, e1, h56, hk]
        repeat refine OrW.go ?_
        rw [LoopK_normal]; refine ⟨_, ?_, j + 1, g ++ [.cells [.int .u8 0] 5 true .exact], rfl, rfl, ?qm, ?q2, ?q3, ?q4, ?q5, ?_⟩
        case qm | q2 | q3 | q4 | q5 => first | rfl | (simp (implicitDefEqProofs := false) (maxSteps := 1000000) (disch := first | omega | with_reducible assumption | (simp only [lenT, Nat.reduceAdd]; omega)) only [amT, cut, bnd, Nat.reduceBEq, reduceCtorEq, Nat.reduceEqDiff, Nat.reduceAdd, Nat.reduceMul, Nat.reduceSub, Int.reduceToNat, Int.reduceEq, Int.reduceLT, Int.reduceLE, Int.reduceAdd, Int.reduceSub, Int.reduceMul, reduceIte, resVs, resV, packV, initT, addr, t2, t3, t4, t5]; first | done | rfl | (congr 1; omega))
        · omega
        · omega
end Go.Proofs.YtgkmlbkocgjmmaaDoor.S
namespace Go.Proofs.YtgkmlbkocgjmmaaDoor.S
open Go Go.AM
set_option maxRecDepth 100000
set_option linter.unusedVariables false
set_option linter.unusedSimpArgs false

/-! sha.Sum -/
def shaR (l : List UInt8) : List UInt8 := sumOf (hs0.put l)
theorem shaR_length (l : List UInt8) : (shaR l).length = 32 := sumOf_length _
theorem sum_ok (m : AMem) (a : Option Addr) (cap : Nat) (c : List UInt8) (hg : Glob m) (hc : BSl m a cap c) (hn : c.length < 2 ^ 58) :
    PureC Tryd.prog 3 35 [.slice a c.length cap] m (.agg ((shaR c).map byteV).toArray) := by
  refine pure_of_W (fn := Tryd.f35) rfl rfl F35_ok (by simp [F35]) (.bytes _) ?_
  have gs := hg.s
  have h1 := DetC.known (put_ok (mx m [.cells ((List.replicate 32 (0 : UInt8)).map byteV) 52 true .exact, .cells (cH hs0) 96 true .exact]) (m.size + 1) hs0 (hg.old (Old.here _ _)) hs0_ok (by rw [mx_size]; simp) (by omega) (mx_new _ _ 1) a cap c (hc.old (Old.here _ _)) (hc.off (by omega)) (by simp [hs0]; omega))
  have hok : (hs0.put c).ok := HS.put_ok hs0_ok _
  have h2 := DetC.known (sumM_ok (mx m [.cells ((List.replicate 32 (0 : UInt8)).map byteV) 52 true .exact, .cells (cH (hs0.put c)) 96 true .exact]) (m.size + 1) (hs0.put c) (hg.old (Old.here _ _)) hok (by rw [mx_size]; simp) (mx_new _ _ 1) (by rw [HS.put_n]; simp [hs0]; omega))
  have hl := sumOf_length (hs0.put c)
  simp (implicitDefEqProofs := false) (maxSteps := 1000000) (disch := first | omega | with_reducible assumption | (simp only [lenT, Nat.reduceAdd]; omega)) only [amT, cut, bnd, Nat.reduceBEq, reduceCtorEq, Nat.reduceEqDiff, Nat.reduceAdd, Nat.reduceMul, Nat.reduceSub, Int.reduceToNat, Int.reduceEq, Int.reduceLT, Int.reduceLE, Int.reduceAdd, Int.reduceSub, Int.reduceMul, reduceIte, resVs, resV, packV, initT, addr, F35, zero73, zero32, h1, h2, cutL_all]
  repeat refine OrW.go ?_
  rfl

/-! The reference. -/
end Go.Proofs.YtgkmlbkocgjmmaaDoor.S
namespace Go.Proofs.YtgkmlbkocgjmmaaDoor
open Go Go.AM
set_option linter.unusedVariables false
set_option linter.unusedSimpArgs false
set_option maxHeartbeats 2000000
set_option maxRecDepth 100000

/-- A derivation's name. -/
def dnameR (d : DrvR) : List UInt8 × Int := if rightR d = true then N.nameR (S.shaR (putB d)) (d.name ++ [46, 100, 114, 118]) else ([], 2)
theorem putB_len {d : DrvR} (hd : d.ok) (hr : rightR d = true) : (putB d).length ≤ 10000000 := by
  obtain ⟨f1, f2, f3⟩ := right_few hr
  have := insB_len hd.inputs d.inputs.length (Nat.le_refl _)
  simp only [putB, List.length_append, textB_len, numB_len, headB, List.length_cons, List.length_nil]; omega
theorem dname_ok (m : AMem) (d : DrvR) (a : Option Addr) (c : Nat) (hg : S.Glob m) (hd : d.ok) (ha : StrR m a d.inputs) :
    RelC Tryd.prog 3 14 [.agg (dRow d a c).toArray] m fun r m' => r = .tuple #[.string ⟨(dnameR d).1.toArray⟩, .int .i64 (dnameR d).2] ∧ Old m m' := by
  refine rel_of_W (fn := Tryd.f14) rfl rfl F14_ok (by simp [F14]) ?_
  have hp := put_ok (mx m [.cells (dRow d a c) 24 true .exact]) d a c hd (ha.old (Old.here _ _))
  have hgS := hg.s
  simp only [dRow] at hp
  repeat first | simp (implicitDefEqProofs := false) (maxSteps := 1000000) (disch := first | omega | with_reducible assumption | (simp only [lenT, Nat.reduceAdd]; omega)) only [amT, cut, bnd, Nat.reduceBEq, reduceCtorEq, Nat.reduceEqDiff, Nat.reduceAdd, Nat.reduceMul, Nat.reduceSub, Int.reduceToNat, Int.reduceEq, Int.reduceLT, Int.reduceLE, Int.reduceAdd, Int.reduceSub, Int.reduceMul, reduceIte, resVs, resV, packV, initT, addr, F14, dRow, cellsOf_dRow, cutL3] | refine OrW.go ?_
  refine RelC.call hp ?_
  rintro r M1 ⟨hO, hr⟩
  have hOm : Old m M1 := (Old.here m _).trans hO
  have hz := hO.1
  rw [mx_size] at hz
  simp only [List.length_cons, List.length_nil, Nat.zero_add] at hz
  have hb : M1.get m.size = .cells [.string ⟨d.name.toArray⟩, .slice a d.inputs.length c, .string ⟨d.recipe.toArray⟩] 24 true .exact := by rw [hO.2 _ (by rw [mx_size]; simp)]; exact mx_new0 _ _
  cases hri : rightR d with
  | false =>
    rw [hri] at hr
    simp only [Bool.false_eq_true, if_false] at hr
    subst hr
    have e : dnameR d = ([], 2) := by simp [dnameR, hri]
    rw [e]
    repeat first | simp (implicitDefEqProofs := false) (maxSteps := 1000000) (disch := first | omega | with_reducible assumption | (simp only [lenT, Nat.reduceAdd]; omega)) only [amT, cut, bnd, Nat.reduceBEq, reduceCtorEq, Nat.reduceEqDiff, Nat.reduceAdd, Nat.reduceMul, Nat.reduceSub, Int.reduceToNat, Int.reduceEq, Int.reduceLT, Int.reduceLE, Int.reduceAdd, Int.reduceSub, Int.reduceMul, reduceIte, resVs, resV, packV, initT, addr] | refine OrW.go ?_
    exact ⟨_, rfl, fun _ => ⟨rfl, hOm.mx []⟩⟩
  | true =>
    rw [hri] at hr
    simp only [if_true] at hr
    obtain ⟨a', c', rfl, hB⟩ := hr
    have e : dnameR d = N.nameR (S.shaR (putB d)) (d.name ++ [46, 100, 114, 118]) := by simp [dnameR, hri]
    rw [e]
    have hl := putB_len hd hri
    have hn := (right_few hri).1
    have k35 := DetC.known (S.sum_ok (mx M1 []) a' c' (putB d) ((hg.old hOm).old (Old.here _ [])) (hB.old (Old.here _ [])) (by omega))
    have k34 := @N.kName (mx M1 []) (d.name ++ [46, 100, 114, 118]) (S.shaR (putB d)) (S.shaR_length _) (by rw [List.length_append]; simp; omega)
    repeat first | simp (implicitDefEqProofs := false) (maxSteps := 1000000) (disch := first | omega | with_reducible assumption | (simp only [lenT, Nat.reduceAdd]; omega)) only [amT, cut, bnd, Nat.reduceBEq, reduceCtorEq, Nat.reduceEqDiff, Nat.reduceAdd, Nat.reduceMul, Nat.reduceSub, Int.reduceToNat, Int.reduceEq, Int.reduceLT, Int.reduceLE, Int.reduceAdd, Int.reduceSub, Int.reduceMul, reduceIte, resVs, resV, packV, initT, addr, hb, k35, k34] | refine OrW.go ?_
    exact ⟨_, rfl, fun _ => ⟨rfl, hOm.mx []⟩⟩
end Go.Proofs.YtgkmlbkocgjmmaaDoor
namespace Go.Proofs.YtgkmlbkocgjmmaaDoor
open Go Go.AM
set_option linter.unusedVariables false
set_option linter.unusedSimpArgs false
set_option maxHeartbeats 2000000
set_option maxRecDepth 100000

theorem cut_one {X : List Value} {o : Nat} {v : Value} (h : X[o]? = some v) : cutL X o 1 = some [v] := by
  obtain ⟨ho, h⟩ := List.getElem?_eq_some_iff.1 h
  unfold cutL
  rw [if_pos (by omega), List.drop_eq_getElem_cons ho, h]; rfl
theorem strR_at (M : AMem) (l : List AObj) (k : Nat) {ls : List (List UInt8)} {X : List Value} {e : TypeId} {w : Bool} {sp : Spare} (h : l[k]? = some (.cells X e w sp)) (hX : X.take ls.length = ls.map sV) : StrR (mx M l) (some ⟨M.size + k, 0, none⟩) ls := fun i hi => by
  have hk : k < l.length := (List.getElem?_eq_some_iff.1 h).1
  have hg : (mx M l).get (M.size + k) = .cells X e w sp := by rw [mx_new]; simp [List.getD, h]
  refine ⟨_, _, rfl, by rw [mx_size]; omega, ?_⟩
  rw [hg, rdO_cells, Nat.zero_add]
  refine cut_one ?_
  have h1 : (X.take ls.length)[i]? = (ls.map sV)[i]? := by rw [hX]
  rw [List.getElem?_take, if_pos hi] at h1
  rw [h1]; simp [hi, sV]
theorem src_at (M : AMem) (l : List AObj) (k : Nat) {ls : List (List UInt8)} {e : TypeId} {w : Bool} {sp : Spare} (h : l[k]? = some (.cells (ls.map sV) e w sp)) : Src (mx M l) (some ⟨M.size + k, 0, none⟩) ls := by
  have hk : k < l.length := (List.getElem?_eq_some_iff.1 h).1
  have hg : (mx M l).get (M.size + k) = .cells (ls.map sV) e w sp := by rw [mx_new]; simp [List.getD, h]
  exact .inr ⟨_, _, rfl, by rw [mx_size]; omega, by rw [hg, rdO_cells]; exact cutL_all (by simp)⟩
theorem intR_at (M : AMem) (l : List AObj) (k : Nat) {ls : List Nat} {e : TypeId} {w : Bool} {sp : Spare} (h : l[k]? = some (.cells (ls.map iV) e w sp)) : IntR (mx M l) (some ⟨M.size + k, 0, none⟩) ls := by
  have hk : k < l.length := (List.getElem?_eq_some_iff.1 h).1
  have hg : (mx M l).get (M.size + k) = .cells (ls.map iV) e w sp := by rw [mx_new]; simp [List.getD, h]
  exact intR_cells (by rw [mx_size]; omega) hg
def wN : List (List UInt8) := [[97], [98], [99], [100]]
def wD : List (List (List UInt8)) := [[[98], [99]], [[99]], [], [[100]]]
def wX : DrvR := ⟨[120], [], []⟩
def wO (z : Nat) : List AObj := [.cells (wN.map sV) 9 true .exact, .cells ([[98], [99]].map sV) 9 true .exact, .cells ([[99]].map sV) 9 true .exact, .cells ([[100]].map sV) 9 true .exact,
  .cells [.slice (some ⟨z + 1, 0, none⟩) 2 2, .slice (some ⟨z + 2, 0, none⟩) 1 1, .slice none 0 0, .slice (some ⟨z + 3, 0, none⟩) 1 1] 22 true .exact]
theorem w_names (m : AMem) : StrR (mx m (wO m.size)) (some ⟨m.size, 0, none⟩) wN := strR_at m (wO m.size) 0 rfl rfl
theorem w_names3 (m : AMem) : StrR (mx m (wO m.size)) (some ⟨m.size, 0, none⟩) (wN.take 3) := strR_at m (wO m.size) 0 rfl rfl
theorem w_needs (m : AMem) : NeedsR (mx m (wO m.size)) (some ⟨m.size + 4, 0, none⟩) wD := fun i hi => by
  have hl : m.size + 4 < (mx m (wO m.size)).size := by rw [mx_size]; simp [wO]
  have hg := mx_new m (wO m.size) 4
  have r1 := src_at m (wO m.size) 1 (ls := [[98], [99]]) rfl
  have r2 := src_at m (wO m.size) 2 (ls := [[99]]) rfl
  have r3 := src_at m (wO m.size) 3 (ls := [[100]]) rfl
  match i, hi with
  | 0, _ => exact ⟨_, _, some ⟨m.size + 1, 0, none⟩, 2, rfl, hl, by rw [hg]; rfl, r1, by simp [wD]⟩
  | 1, _ => exact ⟨_, _, some ⟨m.size + 2, 0, none⟩, 1, rfl, hl, by rw [hg]; rfl, r2, by simp [wD]⟩
  | 2, _ => exact ⟨_, _, none, 0, rfl, hl, by rw [hg]; rfl, .inl ⟨rfl, rfl⟩, by simp [wD]⟩
  | 3, _ => exact ⟨_, _, some ⟨m.size + 3, 0, none⟩, 1, rfl, hl, by rw [hg]; rfl, r3, by simp [wD]⟩
theorem w_sort4 : sortR wN wD = ([], 240) := by decide +kernel
theorem w_sort3 : sortR (wN.take 3) wD = ([2, 1, 0], 0) := by decide +kernel
theorem w_clos1 : closR wN wD [[98]] = ([1, 2], 0) := by
  have h0 := CInv.init wN wD [[98]]
  have h1 := h0.take (k := 1) (by decide +kernel)
  have e1 : ([] : List (List UInt8)) ++ rowOf wD 1 = [[99]] := rfl
  rw [e1] at h1
  have h2 := h1.take (k := 2) (by decide +kernel)
  have e2 : ([] : List (List UInt8)) ++ rowOf wD 2 = [] := rfl
  rw [e2] at h2
  have e3 := closO_of h2
  unfold closR
  rw [if_pos (by decide +kernel), e3]; decide +kernel
theorem w_clos2 : closR wN wD [[100], [120]] = ([3], 0) := by
  have h0 := CInv.init wN wD [[100], [120]]
  have h1 := h0.take (k := 3) (by decide +kernel)
  have e1 : [[120]] ++ rowOf wD 3 = [[120], [100]] := rfl
  rw [e1] at h1
  have h2 := h1.skip fun k hk => by
    rw [show plR wN [120] = none by decide +kernel] at hk; cases hk
  have h3 := h2.skip fun k hk => by
    rw [show plR wN [100] = some 3 by decide +kernel] at hk; cases hk; decide +kernel
  have e3 := closO_of h3
  unfold closR
  rw [if_pos (by decide +kernel), e3]; decide +kernel
theorem w_right : rightR wX = true := by decide +kernel
theorem w_put : putB wX = [68, 82, 86, 49, 0, 0, 0, 1, 120, 0, 0, 0, 0, 0, 0] := by decide +kernel
theorem w_get : getR (putB wX) = (wX, 0) := by kernel_rfl
theorem w_name : (dnameR wX).2 = 0 ∧ (dnameR wX).1.length = 38 := by
  have e : dnameR wX = N.nameR (S.shaR (putB wX)) [120, 46, 100, 114, 118] := by simp only [dnameR, w_right, if_true]; rfl
  have hr : N.rightB [120, 46, 100, 114, 118] = true := by decide +kernel
  rw [e]
  simp [N.nameR, hr, N.lettersOf_length]
theorem w_ok : wX.ok := ⟨by decide, by decide, by decide, by decide⟩
theorem w_sl (a : Nat) (M : AMem) : slVv 1 (.slice (some ⟨a, 0, none⟩) 4 4) none (some (.int .i64 3)) none M = some (.slice (some ⟨a, 0, none⟩) 3 4, M) := by
  have h : ¬ (4 : Nat) = openCap := openCap_ne (by omega)
  simp only [slVv, if_neg h]; rfl
theorem w_rows : ∀ i, (rowOf wD i).length ≤ 1000
  | 0 => by simp [rowOf, wD]
  | 1 => by simp [rowOf, wD]
  | 2 => by simp [rowOf, wD]
  | 3 => by simp [rowOf, wD]
  | n + 4 => by simp [rowOf, wD, List.getD]
theorem same_w {M : AMem} {v : Value} {l : List Nat} (h : IntB M v l) (hl : l.length ≤ 100) (objs : List AObj) (k q : Nat) (hk : objs[k]? = some (.cells (l.map iV) 3 true .exact)) (hq : q = M.size + k) : Known Tryd.prog 3 24 [v, .slice (some ⟨q, 0, none⟩) l.length l.length] (mx M objs) (.bool true) (mx M objs) := by
  obtain ⟨a, c, rfl⟩ := h.len
  subst hq
  have h2 := intR_at M objs k hk
  have := DetC.known (sameInts_ok (mx M objs) a c l (h.row.old (Old.here _ _)) (some ⟨M.size + k, 0, none⟩) l.length l h2 (by omega) (by omega))
  simpa using this
theorem works_ok (m : AMem) (hg : S.Glob m) : PureC Tryd.prog 3 11 [] m (.bool true) := by
  refine pure_of_W (fn := Tryd.f11) rfl rfl F11_ok (by simp [F11]) (.bool _) ?_
  repeat first | simp (implicitDefEqProofs := false) (maxSteps := 1000000) (disch := first | omega | with_reducible assumption | (simp only [lenT, Nat.reduceAdd]; omega)) only [amT, cut, bnd, Nat.reduceBEq, reduceCtorEq, Nat.reduceEqDiff, Nat.reduceAdd, Nat.reduceMul, Nat.reduceSub, Int.reduceToNat, Int.reduceEq, Int.reduceLT, Int.reduceLE, Int.reduceAdd, Int.reduceSub, Int.reduceMul, reduceIte, resVs, resV, packV, initT, addr, F11] | refine OrW.go ?_
  refine RelC.call (sort_ok (mx m (wO m.size)) (some ⟨m.size, 0, none⟩) 4 wN (w_names m) (by decide) (some ⟨m.size + 4, 0, none⟩) 4 wD (w_needs m) (by decide)) ?_
  rintro r M1 ⟨hz1, v1, rfl, hI1⟩
  simp only [w_sort4] at hI1 ⊢
  repeat first | simp (implicitDefEqProofs := false) (maxSteps := 1000000) (disch := first | omega | with_reducible assumption | (simp only [lenT, Nat.reduceAdd]; omega)) only [amT, cut, bnd, Nat.reduceBEq, reduceCtorEq, Nat.reduceEqDiff, Nat.reduceAdd, Nat.reduceMul, Nat.reduceSub, Int.reduceToNat, Int.reduceEq, Int.reduceLT, Int.reduceLE, Int.reduceAdd, Int.reduceSub, Int.reduceMul, reduceIte, resVs, resV, packV, initT, addr, stepOp_slV_v, w_sl] | refine OrW.go ?_
  refine RelC.call (sort_ok (mx M1 []) (some ⟨m.size, 0, none⟩) 4 (wN.take 3) ((w_names3 m).old (hz1.mx [])) (by decide) (some ⟨m.size + 4, 0, none⟩) 4 wD ((w_needs m).old (hz1.mx [])) (by decide)) ?_
  rintro r M2 ⟨hO2, v2, rfl, hI2⟩
  simp only [w_sort3] at hI2 ⊢
  have hz2 : Old (mx m (wO m.size)) M2 := hz1.trans ((Old.here _ _).trans hO2)
  repeat first | simp (implicitDefEqProofs := false) (maxSteps := 1000000) (disch := first | omega | with_reducible assumption | (simp only [lenT, Nat.reduceAdd]; omega)) only [amT, cut, bnd, Nat.reduceBEq, reduceCtorEq, Nat.reduceEqDiff, Nat.reduceAdd, Nat.reduceMul, Nat.reduceSub, Int.reduceToNat, Int.reduceEq, Int.reduceLT, Int.reduceLE, Int.reduceAdd, Int.reduceSub, Int.reduceMul, reduceIte, resVs, resV, packV, initT, addr] | refine OrW.go ?_
  refine RelC.call (closure_ok (mx M2 [.cells ([[98]].map sV) 9 true .exact]) (some ⟨m.size, 0, none⟩) 4 wN ((w_names m).old (hz2.mx _)) (by decide) (some ⟨m.size + 4, 0, none⟩) 4 wD ((w_needs m).old (hz2.mx _)) (by decide) (some ⟨M2.size, 0, none⟩) 1 [[98]] (src_at M2 _ 0 rfl) (by decide) w_rows) ?_
  rintro r M3 ⟨hO3, v3, rfl, hI3⟩
  simp only [w_clos1] at hI3 ⊢
  have hy3 : Old M2 M3 := (Old.here _ _).trans hO3
  have hz3 := hz2.trans hy3
  repeat first | simp (implicitDefEqProofs := false) (maxSteps := 1000000) (disch := first | omega | with_reducible assumption | (simp only [lenT, Nat.reduceAdd]; omega)) only [amT, cut, bnd, Nat.reduceBEq, reduceCtorEq, Nat.reduceEqDiff, Nat.reduceAdd, Nat.reduceMul, Nat.reduceSub, Int.reduceToNat, Int.reduceEq, Int.reduceLT, Int.reduceLE, Int.reduceAdd, Int.reduceSub, Int.reduceMul, reduceIte, resVs, resV, packV, initT, addr] | refine OrW.go ?_
  refine RelC.call (closure_ok (mx M3 [.cells ([[100], [120]].map sV) 9 true .exact]) (some ⟨m.size, 0, none⟩) 4 wN ((w_names m).old (hz3.mx _)) (by decide) (some ⟨m.size + 4, 0, none⟩) 4 wD ((w_needs m).old (hz3.mx _)) (by decide) (some ⟨M3.size, 0, none⟩) 2 [[100], [120]] (src_at M3 _ 0 rfl) (by decide) w_rows) ?_
  rintro r M4 ⟨hO4, v4, rfl, hI4⟩
  simp only [w_clos2] at hI4 ⊢
  have hy4 : Old M3 M4 := (Old.here _ _).trans hO4
  have hz4 := hz3.trans hy4
  repeat first | simp (implicitDefEqProofs := false) (maxSteps := 1000000) (disch := first | omega | with_reducible assumption | (simp only [lenT, Nat.reduceAdd]; omega)) only [amT, cut, bnd, Nat.reduceBEq, reduceCtorEq, Nat.reduceEqDiff, Nat.reduceAdd, Nat.reduceMul, Nat.reduceSub, Int.reduceToNat, Int.reduceEq, Int.reduceLT, Int.reduceLE, Int.reduceAdd, Int.reduceSub, Int.reduceMul, reduceIte, resVs, resV, packV, initT, addr] | refine OrW.go ?_
  refine RelC.call (put_ok (mx M4 []) wX none 0 w_ok (fun i h => by cases h)) ?_
  rintro r M5 ⟨hO5, hr5⟩
  rw [w_right, if_pos rfl] at hr5
  obtain ⟨a5, c5, rfl, hB5⟩ := hr5
  have hy5 : Old M4 M5 := (Old.here _ _).trans hO5
  repeat first | simp (implicitDefEqProofs := false) (maxSteps := 1000000) (disch := first | omega | with_reducible assumption | (simp only [lenT, Nat.reduceAdd]; omega)) only [amT, cut, bnd, Nat.reduceBEq, reduceCtorEq, Nat.reduceEqDiff, Nat.reduceAdd, Nat.reduceMul, Nat.reduceSub, Int.reduceToNat, Int.reduceEq, Int.reduceLT, Int.reduceLE, Int.reduceAdd, Int.reduceSub, Int.reduceMul, reduceIte, resVs, resV, packV, initT, addr] | refine OrW.go ?_
  refine RelC.call (get_ok (mx M5 []) a5 c5 (putB wX) (hB5.old (Old.here _ _)) (by decide +kernel)) ?_
  rintro r M6 ⟨hO6, a6, c6, rfl, hS6⟩
  have hy6 : Old M5 M6 := (Old.here _ _).trans hO6
  simp only [w_get] at hS6 ⊢
  repeat first | simp (implicitDefEqProofs := false) (maxSteps := 1000000) (disch := first | omega | with_reducible assumption | (simp only [lenT, Nat.reduceAdd]; omega)) only [amT, cut, bnd, Nat.reduceBEq, reduceCtorEq, Nat.reduceEqDiff, Nat.reduceAdd, Nat.reduceMul, Nat.reduceSub, Int.reduceToNat, Int.reduceEq, Int.reduceLT, Int.reduceLE, Int.reduceAdd, Int.reduceSub, Int.reduceMul, reduceIte, resVs, resV, packV, initT, addr, dRow, cellsOf_dRow, cutL3, splice3] | refine OrW.go ?_
  have hz6 := hz4.trans (hy5.trans hy6)
  have hgm : Old m M6 := (Old.here m _).trans hz6
  refine RelC.call (dname_ok (mx M6 [.cells (dRow wX a6 c6) 24 true .exact]) wX a6 c6 (hg.old (hgm.mx _)) w_ok (hS6.old (Old.here _ _))) ?_
  rintro r M7 ⟨rfl, hO7⟩
  obtain ⟨n1, n2⟩ := w_name
  rw [n1]
  have hy7 : Old M6 M7 := (Old.here _ _).trans hO7
  have hl6 : M6.size < M7.size := by have := hO7.1; rw [mx_size] at this; simp at this; omega
  have hb6 : M7.get M6.size = .cells (dRow wX a6 c6) 24 true .exact := by rw [hO7.2 _ (by rw [mx_size]; simp)]; exact mx_new0 _ _
  simp only [dRow] at hb6
  have q2 : IntB M7 v2 [2, 1, 0] := hI2.old (hy3.trans (hy4.trans (hy5.trans (hy6.trans hy7))))
  have q3 : IntB M7 v3 [1, 2] := hI3.old (hy4.trans (hy5.trans (hy6.trans hy7)))
  have q4 : IntB M7 v4 [3] := hI4.old (hy5.trans (hy6.trans hy7))
  have s2 := same_w q2 (by decide) [.cells [.int .i64 2, .int .i64 1, .int .i64 0] 3 true .exact] 0 M7.size rfl rfl
  have s3 := same_w q3 (by decide) [.cells [.int .i64 2, .int .i64 1, .int .i64 0] 3 true .exact, .cells [.int .i64 1, .int .i64 2] 3 true .exact] 1 (M7.size + 1) rfl rfl
  have s4 := same_w q4 (by decide) [.cells [.int .i64 2, .int .i64 1, .int .i64 0] 3 true .exact, .cells [.int .i64 1, .int .i64 2] 3 true .exact, .cells [.int .i64 3] 3 true .exact] 2 (M7.size + 2) rfl rfl
  simp only [List.length_cons, List.length_nil, Nat.zero_add, Nat.reduceAdd] at s2 s3 s4
  have hS7 : StrR M7 a6 wX.inputs := (hS6.old (Old.refl _)).old hy7
  have hB7 : BSl M7 a5 c5 (putB wX) := hB5.old (hy6.trans hy7)
  have hstr := (hB7.old (Old.here M7 [.cells [.int .i64 2, .int .i64 1, .int .i64 0] 3 true .exact, .cells [.int .i64 1, .int .i64 2] 3 true .exact, .cells [.int .i64 3] 3 true .exact])).str
  have e1 : strEq ⟨(putB wX).toArray⟩ ⟨[68, 82, 86, 49, 0, 0, 0, 1, 120, 0, 0, 0, 0, 0, 0].toArray⟩ = true := by rw [w_put]; exact strEq_self _
  have e2 : strEq ⟨wX.name.toArray⟩ ⟨[120].toArray⟩ = true := strEq_self _
  have kr := DetC.known (right_ok (mx M7 [.cells [.int .i64 2, .int .i64 1, .int .i64 0] 3 true .exact, .cells [.int .i64 1, .int .i64 2] 3 true .exact, .cells [.int .i64 3] 3 true .exact]) wX a6 c6 w_ok (hS7.old (Old.here _ _)))
  rw [w_right] at kr
  simp only [dRow] at kr
  repeat first | simp (implicitDefEqProofs := false) (maxSteps := 1000000) (disch := first | omega | with_reducible assumption | (simp only [lenT, Nat.reduceAdd]; omega)) only [amT, cut, bnd, Nat.reduceBEq, reduceCtorEq, Nat.reduceEqDiff, Nat.reduceAdd, Nat.reduceMul, Nat.reduceSub, Int.reduceToNat, Int.reduceEq, Int.reduceLT, Int.reduceLE, Int.reduceAdd, Int.reduceSub, Int.reduceMul, reduceIte, resVs, resV, packV, initT, addr, s2, s3, s4, stepOp_b2s_v, hstr, e1, hb6, e2, n2, kr, cutL3] | refine OrW.go ?_
  exact (hgm.trans hy7).mx _
theorem kWorks {M : AMem} (hg : S.Glob M) (l : List AObj) : Known Tryd.prog 3 11 [] (mx M l) (.bool true) (mx M l) := DetC.known (works_ok _ (hg.old (Old.here _ _)))
end Go.Proofs.YtgkmlbkocgjmmaaDoor
namespace Go.Proofs.YtgkmlbkocgjmmaaDoor
open Go Go.AM
set_option linter.unusedVariables false
set_option linter.unusedSimpArgs false
set_option maxHeartbeats 2000000
set_option maxRecDepth 100000

end Go.Proofs.YtgkmlbkocgjmmaaDoor
namespace Go.Proofs.YtgkmlbkocgjmmaaDoor.S
open Go Go.AM
set_option maxRecDepth 100000
set_option linter.unusedVariables false
set_option linter.unusedSimpArgs false

end Go.Proofs.YtgkmlbkocgjmmaaDoor.S
namespace Go.Proofs.YtgkmlbkocgjmmaaDoor.S
open Go Go.AM
set_option maxRecDepth 100000
set_option linter.unusedVariables false
set_option linter.unusedSimpArgs false

end Go.Proofs.YtgkmlbkocgjmmaaDoor.S
namespace Go.Proofs.YtgkmlbkocgjmmaaDoor.S
open Go Go.AM
set_option maxRecDepth 100000
set_option linter.unusedVariables false
set_option linter.unusedSimpArgs false

/-! The chain of states. -/
end Go.Proofs.YtgkmlbkocgjmmaaDoor.S
namespace Go.Proofs.YtgkmlbkocgjmmaaDoor.S
open Go Go.AM
set_option linter.unusedVariables false
set_option linter.unusedSimpArgs false

end Go.Proofs.YtgkmlbkocgjmmaaDoor.S
namespace Go.Proofs.YtgkmlbkocgjmmaaDoor
open Go Go.AM
set_option linter.unusedVariables false
set_option linter.unusedSimpArgs false
set_option maxHeartbeats 2000000
set_option maxRecDepth 100000

end Go.Proofs.YtgkmlbkocgjmmaaDoor
namespace Go.Proofs.YtgkmlbkocgjmmaaDoor
open Go Go.AM
set_option linter.unusedVariables false
set_option linter.unusedSimpArgs false
set_option maxHeartbeats 2000000
set_option maxRecDepth 100000

end Go.Proofs.YtgkmlbkocgjmmaaDoor
namespace Go.Proofs.YtgkmlbkocgjmmaaDoor
open Go Go.AM
set_option linter.unusedVariables false
set_option linter.unusedSimpArgs false
set_option maxHeartbeats 2000000
set_option maxRecDepth 100000

def fewB (d : DrvR) : Bool := decide (d.name.length ≤ 200) && decide (d.recipe.length ≤ 1000) && shortB d.inputs 70
/-- Its texts may be of any length that a machine has. -/
structure DrvR.any (d : DrvR) : Prop where
  name : d.name.length ≤ 9223372036854775807
  recipe : d.recipe.length ≤ 9223372036854775807
  len : d.inputs.length ≤ 9223372036854775807
  ins : ∀ s ∈ d.inputs, s.length ≤ 9223372036854775807
theorem few_ok (m : AMem) (d : DrvR) (a : Option Addr) (c : Nat) (hd : d.any) (ha : StrR m a d.inputs) : PureC Tryd.prog 3 10 [.agg (dRow d a c).toArray] m (.bool (fewB d)) := by
  refine pure_of_W (fn := Tryd.f10) rfl rfl F10_ok (by simp [F10]) (.bool _) ?_
  have k25 := DetC.known (short_ok (mx m [.cells (dRow d a c) 24 true .exact]) a c d.inputs (ha.old (Old.here _ _)) hd.len hd.ins 70 (by omega))
  rw [show ((70 : Nat) : Int) = 70 from rfl] at k25
  simp only [dRow] at k25
  have h1 := hd.name; have h2 := hd.recipe
  by_cases g1 : (d.name.length : Int) ≤ 200
  case neg =>
    have e : fewB d = false := by simp [fewB]; intros; omega
    rw [e]
    repeat first | simp (implicitDefEqProofs := false) (maxSteps := 1000000) (disch := first | omega | with_reducible assumption | (simp only [lenT, Nat.reduceAdd]; omega)) only [amT, cut, bnd, Nat.reduceBEq, reduceCtorEq, Nat.reduceEqDiff, Nat.reduceAdd, Nat.reduceMul, Nat.reduceSub, Int.reduceToNat, Int.reduceEq, Int.reduceLT, Int.reduceLE, Int.reduceAdd, Int.reduceSub, Int.reduceMul, reduceIte, resVs, resV, packV, initT, addr, F10, dRow, cellsOf_dRow, g1] | refine OrW.go ?_
  by_cases g2 : (d.recipe.length : Int) ≤ 1000
  case neg =>
    have e : fewB d = false := by simp [fewB]; intros; omega
    rw [e]
    repeat first | simp (implicitDefEqProofs := false) (maxSteps := 1000000) (disch := first | omega | with_reducible assumption | (simp only [lenT, Nat.reduceAdd]; omega)) only [amT, cut, bnd, Nat.reduceBEq, reduceCtorEq, Nat.reduceEqDiff, Nat.reduceAdd, Nat.reduceMul, Nat.reduceSub, Int.reduceToNat, Int.reduceEq, Int.reduceLT, Int.reduceLE, Int.reduceAdd, Int.reduceSub, Int.reduceMul, reduceIte, resVs, resV, packV, initT, addr, F10, dRow, cellsOf_dRow, g1, g2] | refine OrW.go ?_
  have e : fewB d = shortB d.inputs 70 := by
    have w1 : d.name.length ≤ 200 := by omega
    have w2 : d.recipe.length ≤ 1000 := by omega
    simp [fewB, w1, w2]
  rw [e]
  repeat first | simp (implicitDefEqProofs := false) (maxSteps := 1000000) (disch := first | omega | with_reducible assumption | (simp only [lenT, Nat.reduceAdd]; omega)) only [amT, cut, bnd, Nat.reduceBEq, reduceCtorEq, Nat.reduceEqDiff, Nat.reduceAdd, Nat.reduceMul, Nat.reduceSub, Int.reduceToNat, Int.reduceEq, Int.reduceLT, Int.reduceLE, Int.reduceAdd, Int.reduceSub, Int.reduceMul, reduceIte, resVs, resV, packV, initT, addr, F10, dRow, cellsOf_dRow, g1, g2, k25] | refine OrW.go ?_
structure DrvR.small (d : DrvR) : Prop where
  ok : d.ok
  name : d.name.length ≤ 200
  recipe : d.recipe.length ≤ 1000
  len : d.inputs.length ≤ 70
  ins : ∀ s ∈ d.inputs, s.length ≤ 200
theorem few_small {d : DrvR} (h : fewB d = true) : d.small := by
  unfold fewB shortB at h
  simp only [Bool.and_eq_true, decide_eq_true_eq, List.all_eq_true] at h
  obtain ⟨⟨h1, h2⟩, h3, h4⟩ := h
  exact ⟨⟨by omega, fun s hs => by have := h4 s hs; omega, by omega, by omega⟩, h1, h2, h3, h4⟩
theorem insB_len2 {l : List (List UInt8)} (h : ∀ s ∈ l, s.length ≤ 200) : ∀ n, n ≤ l.length → (insB l n).length ≤ 204 * n
  | 0, _ => by simp [insB]
  | n + 1, hn => by
    have := insB_len2 h n (by omega)
    have h2 := h l[n] (List.getElem_mem (by omega))
    rw [insB_succ (by omega), List.length_append, textB_len]; omega
theorem small_len {d : DrvR} (h : d.small) : (putB d).length ≤ 20000 := by
  have h1 := insB_len2 h.ins d.inputs.length (Nat.le_refl _)
  have h2 := h.name; have h3 := h.recipe; have h4 := h.len
  simp only [putB, List.length_append, textB_len, numB_len, headB, List.length_cons, List.length_nil]; omega
end Go.Proofs.YtgkmlbkocgjmmaaDoor
namespace Go.Proofs.YtgkmlbkocgjmmaaDoor
open Go Go.AM
set_option linter.unusedVariables false
set_option linter.unusedSimpArgs false
set_option maxHeartbeats 2000000
set_option maxRecDepth 100000

end Go.Proofs.YtgkmlbkocgjmmaaDoor
namespace Go.Proofs.YtgkmlbkocgjmmaaDoor
open Go Go.AM
set_option linter.unusedVariables false
set_option linter.unusedSimpArgs false
set_option maxHeartbeats 2000000
set_option maxRecDepth 100000

structure StP (m M : AMem) (d : DrvR) (v : Value) : Prop where
  old : Old m M
  lt : m.size + 1 < M.size
  box : M.get m.size = .cells [.string ⟨#[]⟩, .slice none 0 0, .string ⟨#[]⟩] 24 true .exact
  at_ : M.get (m.size + 1) = .cells [.string ⟨d.name.toArray⟩, v, .string ⟨d.recipe.toArray⟩] 24 true .exact
  own : ∀ x, ownV v x → m.size + 1 < x
  strs : StrB M v d.inputs
theorem StP.set {m M : AMem} {d : DrvR} {v : Value} (h : StP m M d v) (d' : DrvR) (hd : d'.inputs = d.inputs) : StP m (M.set (m.size + 1) (.cells [.string ⟨d'.name.toArray⟩, v, .string ⟨d'.recipe.toArray⟩] 24 true .exact)) d' v :=
  ⟨h.old.set (by omega) _, h.lt, by rw [AMem.get_set_ne _ _ (by omega)]; exact h.box, AMem.get_set_self _ _ _, h.own, by
    rw [hd]; exact h.strs.keep ((Keep.refl (fun x => x = m.size + 1) M).set (fun _ => rfl) _) fun x hx e => by have := h.own x hx; omega⟩
theorem StP.more {m M M' : AMem} {d : DrvR} {v : Value} (h : StP m M d v) (ho : Old M M') : StP m M' d v :=
  ⟨h.old.trans ho, Nat.lt_of_lt_of_le h.lt ho.1, by rw [ho.2 _ (by have := h.lt; omega)]; exact h.box, by rw [ho.2 _ h.lt]; exact h.at_, h.own, h.strs.old ho⟩
/-- One text more. -/
theorem StP.app {m M : AMem} {d : DrvR} {a : Option Addr} {k : Nat} (h : StP m M d (.slice a d.inputs.length k)) (hl : d.inputs.length ≤ 100000) (s : List UInt8) :
    ∃ a' k' M', appV 9 1 16 [.string ⟨#[]⟩] (.slice a d.inputs.length k) (.slice (some ⟨M.size, 0, none⟩) 1 1) (mx M [.cells [.string ⟨s.toArray⟩] 9 true .exact]) = some (.slice a' (d.inputs ++ [s]).length k', mx M' []) ∧ m.size + 1 < M'.size ∧ M'.get (m.size + 1) = M.get (m.size + 1) ∧
      StP m (M'.set (m.size + 1) (.cells [.string ⟨d.name.toArray⟩, .slice a' (d.inputs ++ [s]).length k', .string ⟨d.recipe.toArray⟩] 24 true .exact)) ⟨d.name, d.inputs ++ [s], d.recipe⟩ (.slice a' (d.inputs ++ [s]).length k') := by
  have hlt := h.lt
  obtain ⟨v6, M6, happ, hB6, hk6, ho6⟩ := (h.strs.old (Old.here M [.cells [.string ⟨s.toArray⟩] 9 true .exact])).app (w := .slice (some ⟨M.size, 0, none⟩) 1 1) (news := [s]) (by simp; omega) rfl (by rw [List.length_singleton, srcCells_slice (Nat.le_refl _), rd_def, mx_mx, List.append_nil, mx_new0]; rfl)
  obtain ⟨av6, cv6, rfl⟩ := hB6.len
  rw [mx_mx, List.append_nil] at happ
  have hk6' : ∀ y, y ≤ m.size + 1 → M6.get y = M.get y := fun y hy => by rw [hk6.2 y (by rw [mx_size]; omega) (fun e => by have := h.own y e; omega), mx_old (by omega)]
  have hs6 := hk6.1
  rw [mx_size] at hs6
  have hown : ∀ x, ownV (.slice av6 (d.inputs ++ [s]).length cv6) x → m.size + 1 < x := fun x hx => by
    rcases ho6 x hx with e | e
    · exact h.own x e
    · rw [mx_size] at e; omega
  refine ⟨av6, cv6, M6, happ, by omega, hk6' _ (Nat.le_refl _), ⟨?_, by rw [AMem.size_set]; omega, by rw [AMem.get_set_ne _ _ (by omega), hk6' _ (by omega)]; exact h.box, AMem.get_set_self _ _ _, hown, hB6.keep ((Keep.refl (fun x => x = m.size + 1) M6).set (fun _ => rfl) _) fun x hx e => by have := hown x hx; omega⟩⟩
  exact (show Old m M6 from ⟨by have := h.old.1; omega, fun y hy => by rw [hk6' y (by omega)]; exact h.old.2 y hy⟩).set (by omega) _
end Go.Proofs.YtgkmlbkocgjmmaaDoor
namespace Go.Proofs.YtgkmlbkocgjmmaaDoor
open Go Go.AM
set_option linter.unusedVariables false
set_option linter.unusedSimpArgs false
set_option maxHeartbeats 2000000
set_option maxRecDepth 100000

theorem sameTexts_ok (m : AMem) (a1 : Option Addr) (c1 : Nat) (a2 : Option Addr) (c2 : Nat) (l : List (List UInt8)) (h1 : StrR m a1 l) (h2 : StrR m a2 l) (hl : l.length ≤ 9223372036854775807) :
    PureC Tryd.prog 3 46 [.slice a1 l.length c1, .slice a2 l.length c2] m (.bool true) := by
  refine pure_of_W (fn := Tryd.f46) rfl rfl F46_ok (by simp [F46]) (.bool _) ?_
  repeat first | simp (implicitDefEqProofs := false) (maxSteps := 1000000) (disch := first | omega | with_reducible assumption | (simp only [lenT, Nat.reduceAdd]; omega)) only [amT, cut, bnd, Nat.reduceBEq, reduceCtorEq, Nat.reduceEqDiff, Nat.reduceAdd, Nat.reduceMul, Nat.reduceSub, Int.reduceToNat, Int.reduceEq, Int.reduceLT, Int.reduceLE, Int.reduceAdd, Int.reduceSub, Int.reduceMul, reduceIte, resVs, resV, packV, initT, addr, F46] | refine OrW.go ?_
  refine W_loop (fun N qs => ∃ (i : Nat), N = l.length - i ∧ qs.ds = [] ∧ qs.m = mx m [] ∧ qs.t 0 = .slice a1 l.length c1 ∧ qs.t 1 = .slice a2 l.length c2 ∧ qs.t 5 = .int .i64 i ∧ i ≤ l.length) (l.length - (0)) ⟨0, rfl, rfl, ?qm, ?q0, ?q1, ?q5, ?_⟩ ?_
  case qm | q0 | q1 | q5 => first | rfl | (simp (implicitDefEqProofs := false) (maxSteps := 1000000) (disch := first | omega | with_reducible assumption | (simp only [lenT, Nat.reduceAdd]; omega)) only [amT, cut, bnd, Nat.reduceBEq, reduceCtorEq, Nat.reduceEqDiff, Nat.reduceAdd, Nat.reduceMul, Nat.reduceSub, Int.reduceToNat, Int.reduceEq, Int.reduceLT, Int.reduceLE, Int.reduceAdd, Int.reduceSub, Int.reduceMul, reduceIte, resVs, resV, packV, initT, addr]; first | done | rfl | (congr 1; omega))
  · omega
  · rintro N t m1 ds ⟨i, rfl, hds, hm, t0, t1, t5, hp⟩
    simp only at hds hm t0 t1 t5
    subst hds; replace hm := hm.symm; subst hm
    by_cases g : (i : Int) < (l.length : Int)
    · have hi : i < l.length := by omega
      obtain ⟨b1, o1, rfl, hb1, r1⟩ := h1 i hi
      obtain ⟨b2, o2, rfl, hb2, r2⟩ := h2 i hi
      repeat first | simp (implicitDefEqProofs := false) (maxSteps := 1000000) (disch := first | omega | with_reducible assumption | (simp only [lenT, Nat.reduceAdd]; omega)) only [amT, cut, bnd, Nat.reduceBEq, reduceCtorEq, Nat.reduceEqDiff, Nat.reduceAdd, Nat.reduceMul, Nat.reduceSub, Int.reduceToNat, Int.reduceEq, Int.reduceLT, Int.reduceLE, Int.reduceAdd, Int.reduceSub, Int.reduceMul, reduceIte, resVs, resV, packV, initT, addr, F46_l0, t0, t1, t5, g, r1, r2] | refine OrW.go ?_
      rw [LoopK_normal]; refine ⟨_, ?_, i + 1, rfl, rfl, ?qm, ?q0, ?q1, ?q5, ?_⟩
      case qm | q0 | q1 | q5 => first | rfl | (simp (implicitDefEqProofs := false) (maxSteps := 1000000) (disch := first | omega | with_reducible assumption | (simp only [lenT, Nat.reduceAdd]; omega)) only [amT, cut, bnd, Nat.reduceBEq, reduceCtorEq, Nat.reduceEqDiff, Nat.reduceAdd, Nat.reduceMul, Nat.reduceSub, Int.reduceToNat, Int.reduceEq, Int.reduceLT, Int.reduceLE, Int.reduceAdd, Int.reduceSub, Int.reduceMul, reduceIte, resVs, resV, packV, initT, addr, t0, t1, t5]; first | done | rfl | (congr 1; omega))
      · omega
      · omega
    · repeat first | simp (implicitDefEqProofs := false) (maxSteps := 1000000) (disch := first | omega | with_reducible assumption | (simp only [lenT, Nat.reduceAdd]; omega)) only [amT, cut, bnd, Nat.reduceBEq, reduceCtorEq, Nat.reduceEqDiff, Nat.reduceAdd, Nat.reduceMul, Nat.reduceSub, Int.reduceToNat, Int.reduceEq, Int.reduceLT, Int.reduceLE, Int.reduceAdd, Int.reduceSub, Int.reduceMul, reduceIte, resVs, resV, packV, initT, addr, F46_l0, t0, t1, t5, g] | refine OrW.go ?_
theorem same_ok (m : AMem) (d : DrvR) (a1 : Option Addr) (c1 : Nat) (a2 : Option Addr) (c2 : Nat) (h1 : StrR m a1 d.inputs) (h2 : StrR m a2 d.inputs) (hl : d.inputs.length ≤ 9223372036854775807) :
    PureC Tryd.prog 3 20 [.agg (dRow d a1 c1).toArray, .agg (dRow d a2 c2).toArray] m (.bool true) := by
  refine pure_of_W (fn := Tryd.f20) rfl rfl F20_ok (by simp [F20]) (.bool _) ?_
  have k := DetC.known (sameTexts_ok (mx m [.cells (dRow d a1 c1) 24 true .exact, .cells (dRow d a2 c2) 24 true .exact]) a1 c1 a2 c2 d.inputs (h1.old (Old.here _ _)) (h2.old (Old.here _ _)) hl)
  simp only [dRow] at k
  repeat first | simp (implicitDefEqProofs := false) (maxSteps := 1000000) (disch := first | omega | with_reducible assumption | (simp only [lenT, Nat.reduceAdd]; omega)) only [amT, cut, bnd, Nat.reduceBEq, reduceCtorEq, Nat.reduceEqDiff, Nat.reduceAdd, Nat.reduceMul, Nat.reduceSub, Int.reduceToNat, Int.reduceEq, Int.reduceLT, Int.reduceLE, Int.reduceAdd, Int.reduceSub, Int.reduceMul, reduceIte, resVs, resV, packV, initT, addr, F20, dRow, cellsOf_dRow, k] | refine OrW.go ?_
end Go.Proofs.YtgkmlbkocgjmmaaDoor
namespace Go.Proofs.YtgkmlbkocgjmmaaDoor
open Go Go.AM
set_option linter.unusedVariables false
set_option linter.unusedSimpArgs false

theorem beN_cons (c : UInt8) (l : List UInt8) : beN (c :: l) = c.toNat * 256 ^ l.length + beN l := by
  have h : ∀ (l : List UInt8) (n : Nat), l.foldl (fun n c => n * 256 + c.toNat) n = n * 256 ^ l.length + beN l := by
    intro l
    induction l with
    | nil => intro n; simp [beN]
    | cons x l ih =>
      intro n
      have h1 := ih x.toNat
      have e : beN (x :: l) = l.foldl (fun n c => n * 256 + c.toNat) (0 * 256 + x.toNat) := rfl
      rw [List.foldl_cons, ih (n * 256 + x.toNat), e, ih (0 * 256 + x.toNat), List.length_cons, Nat.pow_succ, Nat.zero_mul, Nat.zero_add, Nat.add_mul, Nat.mul_assoc, Nat.mul_comm 256, Nat.add_assoc]
  have e : beN (c :: l) = l.foldl (fun n c => n * 256 + c.toNat) (0 * 256 + c.toNat) := rfl
  rw [e, h, Nat.zero_mul, Nat.zero_add]
theorem shr_div (n w : Nat) : n >>> (8 * w) = n / 256 ^ w := by rw [Nat.shiftRight_eq_div_pow, Nat.pow_mul]
theorem beN_numB (n : Nat) : ∀ w, beN (numB n w) = n % 256 ^ w
  | 0 => by simp [numB, beN, Nat.mod_one]
  | w + 1 => by
    have h : (UInt8.ofNat (n >>> (8 * w))).toNat = n / 256 ^ w % 256 := by rw [shr_div]; simp
    rw [numB, beN_cons, numB_len, beN_numB n w, h, Nat.mod_pow_succ, Nat.mul_comm, Nat.add_comm]
theorem numB_mod (n m : Nat) : ∀ w, n % 256 ^ w = m % 256 ^ w → numB n w = numB m w
  | 0, _ => rfl
  | w + 1, h => by
    have h1 : n % 256 ^ w = m % 256 ^ w := by
      have := congrArg (· % 256 ^ w) h
      simpa [Nat.pow_succ, Nat.mod_mul_right_mod] using this
    have h2 : n / 256 ^ w % 256 = m / 256 ^ w % 256 := by
      rw [Nat.mod_pow_succ, Nat.mod_pow_succ, h1] at h
      have := Nat.add_left_cancel h
      exact Nat.eq_of_mul_eq_mul_left (Nat.pow_pos (by omega)) this
    rw [numB, numB, numB_mod n m w h1]
    congr 1
    rw [shr_div, shr_div]
    apply UInt8.toNat.inj
    simpa using h2
theorem numB_beN : ∀ (l : List UInt8) (w : Nat), l.length = w → numB (beN l) w = l
  | [], 0, _ => rfl
  | c :: l, w + 1, h => by
    have hl : l.length = w := by simpa using h
    have hlt := beN_lt l
    rw [hl] at hlt
    have hc := c.toNat_lt
    have e : beN (c :: l) = c.toNat * 256 ^ w + beN l := by rw [beN_cons, hl]
    have hp : 0 < 256 ^ w := Nat.pow_pos (by omega)
    have hd : beN (c :: l) / 256 ^ w = c.toNat := by
      rw [e, Nat.add_comm, Nat.add_mul_div_right _ _ hp, Nat.div_eq_of_lt hlt, Nat.zero_add]
    have hm : beN (c :: l) % 256 ^ w = beN l % 256 ^ w := by rw [e, Nat.add_comm, Nat.add_mul_mod_self_right]
    rw [numB, shr_div, hd, numB_mod _ _ w hm, numB_beN l w hl]
    congr 1
    apply UInt8.toNat.inj
    simp
theorem takeR_app (x rest : List UInt8) : takeR ⟨x ++ rest, false⟩ x.length = (x, ⟨rest, false⟩) := by
  simp [takeR]
theorem numR_app (n w : Nat) (rest : List UInt8) (h : n < 256 ^ w) : numR ⟨numB n w ++ rest, false⟩ w = (n, ⟨rest, false⟩) := by
  have e := takeR_app (numB n w) rest
  rw [numB_len] at e
  unfold numR
  rw [e]
  simp only [beN_numB, Nat.mod_eq_of_lt h]
theorem textR_app (s rest : List UInt8) (h : s.length < 256 ^ 4) : textR ⟨textB s ++ rest, false⟩ = (s, ⟨rest, false⟩) := by
  unfold textR textB
  rw [List.append_assoc, numR_app _ 4 _ h]
  exact takeR_app s rest
theorem readIns_app : ∀ (l : List (List UInt8)) (rest : List UInt8), (∀ s ∈ l, s.length < 256 ^ 4) → readIns l.length ⟨(l.map textB).flatten ++ rest, false⟩ = (l, ⟨rest, false⟩)
  | [], rest, _ => rfl
  | s :: l, rest, h => by
    have e := textR_app s ((l.map textB).flatten ++ rest) (h s (by simp))
    rw [← List.append_assoc] at e
    have e2 : ((s :: l).map textB).flatten ++ rest = textB s ++ (l.map textB).flatten ++ rest := by simp
    rw [e2]
    simp only [List.length_cons, readIns, Bool.false_eq_true, if_false, e, readIns_app l rest fun x hx => h x (by simp [hx])]
theorem insB_all (l : List (List UInt8)) : insB l l.length = (l.map textB).flatten := by unfold insB; rw [List.take_length]
theorem get_put {d : DrvR} (hr : rightR d = true) (hi : ∀ s ∈ d.inputs, s.length ≤ 100000) : getR (putB d) = (d, 0) := by
  obtain ⟨f1, f2, f3⟩ := right_few hr
  have e : (putB d).drop 4 = textB d.name ++ (numB d.inputs.length 2 ++ ((d.inputs.map textB).flatten ++ (textB d.recipe ++ []))) := by
    unfold putB; rw [insB_all]; simp [headB]
  have e2 : (putB d).take 4 = headB := by unfold putB; simp [headB]
  have hl : 4 ≤ (putB d).length := by unfold putB; simp [headB]
  have hp : partsR ((putB d).drop 4) = (d, ⟨[], false⟩) := by
    unfold partsR
    rw [e]
    simp only [textR_app d.name _ (by omega), numR_app d.inputs.length 2 _ (by omega), readIns_app d.inputs _ (fun s hs => by have := hi s hs; omega), textR_app d.recipe _ (by omega)]
  unfold getR
  rw [if_pos ⟨e2, hl⟩, hp, hr]; rfl
theorem takeR_inv {s : Rd} {n : Nat} (h : (takeR s n).2.bad = false) : s.bad = false ∧ s.c = (takeR s n).1 ++ (takeR s n).2.c ∧ (takeR s n).1.length = n := by
  unfold takeR at h ⊢
  split
  · rename_i h2; rw [if_pos h2] at h; cases h
  · rename_i h2
    simp only [Bool.or_eq_true, decide_eq_true_eq, not_or] at h2
    exact ⟨by simpa using h2.1, (List.take_append_drop n s.c).symm, by rw [List.length_take]; omega⟩
theorem numR_inv {s : Rd} {w : Nat} (h : (numR s w).2.bad = false) : s.bad = false ∧ s.c = numB (numR s w).1 w ++ (numR s w).2.c := by
  obtain ⟨h1, h2, h3⟩ := takeR_inv (s := s) (n := w) h
  refine ⟨h1, ?_⟩
  show s.c = numB (beN (takeR s w).1) w ++ _
  rw [numB_beN _ _ h3]; exact h2
theorem textR_inv {s : Rd} (h : (textR s).2.bad = false) : s.bad = false ∧ s.c = textB (textR s).1 ++ (textR s).2.c := by
  obtain ⟨h1, h2, h3⟩ := takeR_inv (s := (numR s 4).2) (n := (numR s 4).1) h
  obtain ⟨h4, h5⟩ := numR_inv h1
  refine ⟨h4, ?_⟩
  have e : textB (textR s).1 = numB (numR s 4).1 4 ++ (textR s).1 := by
    unfold textB; rw [show (textR s).1.length = (numR s 4).1 from h3]
  rw [e, List.append_assoc, h5, h2]; rfl
theorem readIns_inv : ∀ (n : Nat) (s : Rd), (readIns n s).2.bad = false → s.bad = false ∧ (readIns n s).1.length = n ∧ s.c = ((readIns n s).1.map textB).flatten ++ (readIns n s).2.c
  | 0, s, h => ⟨h, rfl, rfl⟩
  | n + 1, s, h => by
    cases hb : s.bad with
    | true =>
      have e : readIns (n + 1) s = ([], s) := by simp [readIns, hb]
      rw [e] at h; rw [show s.bad = true from hb] at h; cases h
    | false =>
      have e : readIns (n + 1) s = ((textR s).1 :: (readIns n (textR s).2).1, (readIns n (textR s).2).2) := by simp [readIns, hb]
      rw [e] at h ⊢
      obtain ⟨h1, h2, h3⟩ := readIns_inv n (textR s).2 h
      obtain ⟨h4, h5⟩ := textR_inv h1
      refine ⟨rfl, by simp [h2], ?_⟩
      simp only [List.map_cons, List.flatten_cons]
      rw [h5, h3, List.append_assoc]
theorem put_get {b : List UInt8} {d : DrvR} (h : getR b = (d, 0)) : rightR d = true ∧ putB d = b := by
  unfold getR at h
  split at h
  · rename_i h4
    split at h
    · rename_i hc
      simp only [Bool.and_eq_true, Bool.not_eq_true', decide_eq_true_eq] at hc
      obtain ⟨⟨c1, c2⟩, c3⟩ := hc
      have hd : (partsR (b.drop 4)).1 = d := congrArg Prod.fst h
      rw [hd] at c3
      refine ⟨c3, ?_⟩
      obtain ⟨q1, q2⟩ := textR_inv (s := (readIns (numR (textR ⟨b.drop 4, false⟩).2 2).1 (numR (textR ⟨b.drop 4, false⟩).2 2).2).2) c1
      obtain ⟨q3, q4, q5⟩ := readIns_inv _ _ q1
      obtain ⟨q6, q7⟩ := numR_inv q3
      obtain ⟨q8, q9⟩ := textR_inv q6
      have hr : (textR (readIns (numR (textR ⟨b.drop 4, false⟩).2 2).1 (numR (textR ⟨b.drop 4, false⟩).2 2).2).2).2.c = [] := List.length_eq_zero_iff.1 c2
      rw [hr, List.append_nil] at q2
      rw [q5, q2] at q7
      rw [q7] at q9
      have hb : b = headB ++ b.drop 4 := by rw [← h4.1]; exact (List.take_append_drop 4 b).symm
      simp only at q9
      rw [hb, q9, ← hd]
      unfold putB
      rw [insB_all]
      show headB ++ textB (textR ⟨b.drop 4, false⟩).1 ++ numB (readIns _ _).1.length 2 ++ _ ++ textB _ = _
      rw [q4]
      simp only [List.append_assoc]
      rfl
    · cases h
  · cases h
end Go.Proofs.YtgkmlbkocgjmmaaDoor
namespace Go.Proofs.YtgkmlbkocgjmmaaDoor
open Go Go.AM
set_option linter.unusedVariables false
set_option linter.unusedSimpArgs false
set_option maxHeartbeats 2000000
set_option maxRecDepth 100000

theorem in_len : ∀ (l : List (List UInt8)) (s : List UInt8), s ∈ l → s.length ≤ (l.map textB).flatten.length
  | x :: l, s, h => by
    simp only [List.map_cons, List.flatten_cons, List.length_append, textB_len]
    rcases List.mem_cons.1 h with rfl | h
    · omega
    · have := in_len l s h; omega
theorem got_ok {b : List UInt8} {d : DrvR} (h : getR b = (d, 0)) (hl : b.length ≤ 3000) : rightR d = true ∧ putB d = b ∧ d.ok := by
  obtain ⟨h1, h2⟩ := put_get h
  obtain ⟨f1, f2, f3⟩ := right_few h1
  refine ⟨h1, h2, by omega, fun s hs => ?_, by omega, by omega⟩
  have h3 := in_len _ _ hs
  have h4 : (putB d).length ≤ 3000 := by rw [h2]; exact hl
  unfold putB at h4
  rw [insB_all] at h4
  simp only [List.length_append] at h4
  omega
theorem getR_two (b : List UInt8) : (getR b).2 = 0 ∨ (getR b).2 = 150 := by
  unfold getR
  split
  · split
    · exact .inl rfl
    · exact .inr rfl
  · exact .inr rfl
/-- The second half of it. -/
def F5_X : ACode := F5.code.tl.tl.tl.tl
theorem F5_cut : F5.code = .seq F5.code.hd (.seq F5.code.tl.hd (.seq F5.code.tl.tl.hd (.seq F5.code.tl.tl.tl.hd F5_X))) := rfl
/-- The second half: what is got is put as the same bytes. -/
theorem lawBack (m : AMem) (hg : S.Glob m) (d : DrvR) (a : Option Addr) (c : Nat) (hd : d.any) (ha : StrR m a d.inputs) (ba : Option Addr) (bc : Nat) (b : List UInt8) (hb : BSl m ba bc b) (hbl : b.length ≤ 9223372036854775807) :
    PureC Tryd.prog 3 5 [.agg (dRow d a c).toArray, .slice ba b.length bc] m (.bool true) := by
  refine pure_of_W (fn := Tryd.f5) rfl rfl F5_ok (by simp [F5]) (.bool _) ?_
  have kf := DetC.known (few_ok (mx m [.cells (dRow d a c) 24 true .exact]) d a c hd (ha.old (Old.here _ _)))
  have kw := kWorks hg [.cells (dRow d a c) 24 true .exact]
  simp only [dRow] at kf kw
  cases hf : fewB d with
  | false =>
    rw [hf] at kf
    repeat first | simp (implicitDefEqProofs := false) (maxSteps := 1000000) (disch := first | omega | with_reducible assumption | (simp only [lenT, Nat.reduceAdd]; omega)) only [amT, cut, bnd, Nat.reduceBEq, reduceCtorEq, Nat.reduceEqDiff, Nat.reduceAdd, Nat.reduceMul, Nat.reduceSub, Int.reduceToNat, Int.reduceEq, Int.reduceLT, Int.reduceLE, Int.reduceAdd, Int.reduceSub, Int.reduceMul, reduceIte, resVs, resV, packV, initT, addr, F5, dRow, cellsOf_dRow, cutL3, kf, kw] | refine OrW.go ?_
  | true =>
    rw [hf] at kf
    by_cases h : (3000 : Int) < (b.length : Int)
    · repeat first | simp (implicitDefEqProofs := false) (maxSteps := 1000000) (disch := first | omega | with_reducible assumption | (simp only [lenT, Nat.reduceAdd]; omega)) only [amT, cut, bnd, Nat.reduceBEq, reduceCtorEq, Nat.reduceEqDiff, Nat.reduceAdd, Nat.reduceMul, Nat.reduceSub, Int.reduceToNat, Int.reduceEq, Int.reduceLT, Int.reduceLE, Int.reduceAdd, Int.reduceSub, Int.reduceMul, reduceIte, resVs, resV, packV, initT, addr, F5, dRow, cellsOf_dRow, cutL3, kf, kw, h] | refine OrW.go ?_
    have hl : b.length ≤ 3000 := by omega
    have hsm := few_small hf
    have hpl := small_len hsm
    have hp := put_ok (mx m [.cells (dRow d a c) 24 true .exact]) d a c hsm.ok (ha.old (Old.here _ _))
    simp only [dRow] at hp
    -- from the second Get on
    have key : ∀ M : AMem, Old m M → ∀ t : Tmps, t 1 = .slice ba b.length bc → W Tryd.prog 3 F5_X (RetK F5.res fun r m' => r = .ret (.bool true) ∧ Old m m') ⟨t, mx M [], []⟩ := by
      intro M hO t ht
      have hG := get_ok (mx M []) ba bc b (hb.old (hO.mx [])) (by omega)
      have kw2 := kWorks (hg.old hO)
      repeat first | simp (implicitDefEqProofs := false) (maxSteps := 1000000) (disch := first | omega | with_reducible assumption | (simp only [lenT, Nat.reduceAdd]; omega)) only [amT, cut, bnd, Nat.reduceBEq, reduceCtorEq, Nat.reduceEqDiff, Nat.reduceAdd, Nat.reduceMul, Nat.reduceSub, Int.reduceToNat, Int.reduceEq, Int.reduceLT, Int.reduceLE, Int.reduceAdd, Int.reduceSub, Int.reduceMul, reduceIte, resVs, resV, packV, initT, addr, F5_X, F5, tl_seq, ht] | refine OrW.go ?_
      refine RelC.call hG ?_
      rintro r M2 ⟨hO2, a2, c2, rfl, hS2⟩
      have hz2 : Old m M2 := hO.trans ((Old.here M []).trans hO2)
      have hgt := getR_two b
      cases hR : getR b with
      | mk d2 e2 =>
        rw [hR] at hS2 hgt
        simp only at hS2 hgt
        rcases hgt with rfl | rfl
        · obtain ⟨g1, g2, g3⟩ := got_ok hR hl
          have hp2 := put_ok (mx M2 [.cells (dRow d2 a2 c2) 24 true .exact]) d2 a2 c2 g3 (hS2.old (Old.here _ _))
          simp only [dRow, g1, if_true] at hp2
          repeat first | simp (implicitDefEqProofs := false) (maxSteps := 1000000) (disch := first | omega | with_reducible assumption | (simp only [lenT, Nat.reduceAdd]; omega)) only [amT, cut, bnd, Nat.reduceBEq, reduceCtorEq, Nat.reduceEqDiff, Nat.reduceAdd, Nat.reduceMul, Nat.reduceSub, Int.reduceToNat, Int.reduceEq, Int.reduceLT, Int.reduceLE, Int.reduceAdd, Int.reduceSub, Int.reduceMul, reduceIte, resVs, resV, packV, initT, addr, dRow, cellsOf_dRow, splice3, cutL3] | refine OrW.go ?_
          refine RelC.call hp2 ?_
          rintro r M3 ⟨hO3, a3, c3, rfl, hB3⟩
          have hz3 : Old m M3 := hz2.trans ((Old.here M2 _).trans hO3)
          rw [g2] at hB3
          have s1 := (hB3.old (Old.here M3 [])).str
          have s2 := (hb.old (hz3.mx [])).str
          have kw3 := kWorks (hg.old hz3) []
          rw [g2]
          repeat first | simp (implicitDefEqProofs := false) (maxSteps := 1000000) (disch := first | omega | with_reducible assumption | (simp only [lenT, Nat.reduceAdd]; omega)) only [amT, cut, bnd, Nat.reduceBEq, reduceCtorEq, Nat.reduceEqDiff, Nat.reduceAdd, Nat.reduceMul, Nat.reduceSub, Int.reduceToNat, Int.reduceEq, Int.reduceLT, Int.reduceLE, Int.reduceAdd, Int.reduceSub, Int.reduceMul, reduceIte, resVs, resV, packV, initT, addr, stepOp_b2s_v, s1, s2, kw3, ht] | refine OrW.go ?_
          exact hz3.mx []
        · have kw3 := kWorks (hg.old hz2) [.cells (dRow d2 a2 c2) 24 true .exact]
          simp only [dRow] at kw3
          repeat first | simp (implicitDefEqProofs := false) (maxSteps := 1000000) (disch := first | omega | with_reducible assumption | (simp only [lenT, Nat.reduceAdd]; omega)) only [amT, cut, bnd, Nat.reduceBEq, reduceCtorEq, Nat.reduceEqDiff, Nat.reduceAdd, Nat.reduceMul, Nat.reduceSub, Int.reduceToNat, Int.reduceEq, Int.reduceLT, Int.reduceLE, Int.reduceAdd, Int.reduceSub, Int.reduceMul, reduceIte, resVs, resV, packV, initT, addr, dRow, cellsOf_dRow, splice3, cutL3, kw3] | refine OrW.go ?_
          exact hz2.mx _
    rw [F5_cut]
    repeat first | simp (implicitDefEqProofs := false) (maxSteps := 1000000) (disch := first | omega | with_reducible assumption | (simp only [lenT, Nat.reduceAdd]; omega)) only [amT, cut, bnd, Nat.reduceBEq, reduceCtorEq, Nat.reduceEqDiff, Nat.reduceAdd, Nat.reduceMul, Nat.reduceSub, Int.reduceToNat, Int.reduceEq, Int.reduceLT, Int.reduceLE, Int.reduceAdd, Int.reduceSub, Int.reduceMul, reduceIte, resVs, resV, packV, initT, addr, F5, hd_seq, tl_seq, dRow, cellsOf_dRow, cutL3, kf, h] | refine OrW.go ?_
    refine RelC.call hp ?_
    rintro r M1 ⟨hO1, hr1⟩
    have hz1 : Old m M1 := (Old.here m _).trans hO1
    have hs1 := hO1.1
    rw [mx_size] at hs1
    simp only [List.length_cons, List.length_nil, Nat.zero_add] at hs1
    have b1 : M1.get m.size = .cells [.string ⟨d.name.toArray⟩, .slice a d.inputs.length c, .string ⟨d.recipe.toArray⟩] 24 true .exact := by rw [hO1.2 _ (by rw [mx_size]; simp)]; exact mx_new0 _ _
    by_cases hr : rightR d = true
    · rw [if_pos hr] at hr1
      obtain ⟨a1, c1, rfl, hB1⟩ := hr1
      have hG := get_ok (mx M1 []) a1 c1 (putB d) (hB1.old (Old.here _ [])) (by omega)
      rw [get_put hr hsm.ok.inputs] at hG
      repeat first | simp (implicitDefEqProofs := false) (maxSteps := 1000000) (disch := first | omega | with_reducible assumption | (simp only [lenT, Nat.reduceAdd]; omega)) only [amT, cut, bnd, Nat.reduceBEq, reduceCtorEq, Nat.reduceEqDiff, Nat.reduceAdd, Nat.reduceMul, Nat.reduceSub, Int.reduceToNat, Int.reduceEq, Int.reduceLT, Int.reduceLE, Int.reduceAdd, Int.reduceSub, Int.reduceMul, reduceIte, resVs, resV, packV, initT, addr] | refine OrW.go ?_
      refine RelC.call hG ?_
      rintro r M2 ⟨hO2, a2, c2, rfl, hS2⟩
      simp only at hS2
      have hy2 : Old M1 M2 := (Old.here M1 []).trans hO2
      have b2 := b1
      rw [← hy2.2 _ (by omega)] at b2
      have hs2 := hy2.1
      have ks := DetC.known (same_ok (mx M2 [.cells (dRow d a2 c2) 24 true .exact]) d a2 c2 a c (hS2.old (Old.here _ _)) (ha.old ((hz1.trans hy2).mx _)) (by have := hsm.len; omega))
      simp only [dRow] at ks
      repeat first | simp (implicitDefEqProofs := false) (maxSteps := 1000000) (disch := first | omega | with_reducible assumption | (simp only [lenT, Nat.reduceAdd]; omega)) only [amT, cut, bnd, Nat.reduceBEq, reduceCtorEq, Nat.reduceEqDiff, Nat.reduceAdd, Nat.reduceMul, Nat.reduceSub, Int.reduceToNat, Int.reduceEq, Int.reduceLT, Int.reduceLE, Int.reduceAdd, Int.reduceSub, Int.reduceMul, reduceIte, resVs, resV, packV, initT, addr, dRow, cellsOf_dRow, splice3, cutL3, b2, ks] | refine OrW.go ?_
      have k := key (mx M2 [.cells [.string ⟨d.name.toArray⟩, .slice a2 d.inputs.length c2, .string ⟨d.recipe.toArray⟩] 24 true .exact]) ((hz1.trans hy2).mx _)
      rw [mx_mx, List.append_nil] at k
      exact k _ (by simp (implicitDefEqProofs := false) (maxSteps := 1000000) (disch := first | omega | with_reducible assumption | (simp only [lenT, Nat.reduceAdd]; omega)) only [amT, cut, bnd, Nat.reduceBEq, reduceCtorEq, Nat.reduceEqDiff, Nat.reduceAdd, Nat.reduceMul, Nat.reduceSub, Int.reduceToNat, Int.reduceEq, Int.reduceLT, Int.reduceLE, Int.reduceAdd, Int.reduceSub, Int.reduceMul, reduceIte, resVs, resV, packV, initT, addr])
    · rw [if_neg hr] at hr1
      subst hr1
      repeat first | simp (implicitDefEqProofs := false) (maxSteps := 1000000) (disch := first | omega | with_reducible assumption | (simp only [lenT, Nat.reduceAdd]; omega)) only [amT, cut, bnd, Nat.reduceBEq, reduceCtorEq, Nat.reduceEqDiff, Nat.reduceAdd, Nat.reduceMul, Nat.reduceSub, Int.reduceToNat, Int.reduceEq, Int.reduceLT, Int.reduceLE, Int.reduceAdd, Int.reduceSub, Int.reduceMul, reduceIte, resVs, resV, packV, initT, addr] | refine OrW.go ?_
      exact key M1 hz1 _ (by simp (implicitDefEqProofs := false) (maxSteps := 1000000) (disch := first | omega | with_reducible assumption | (simp only [lenT, Nat.reduceAdd]; omega)) only [amT, cut, bnd, Nat.reduceBEq, reduceCtorEq, Nat.reduceEqDiff, Nat.reduceAdd, Nat.reduceMul, Nat.reduceSub, Int.reduceToNat, Int.reduceEq, Int.reduceLT, Int.reduceLE, Int.reduceAdd, Int.reduceSub, Int.reduceMul, reduceIte, resVs, resV, packV, initT, addr])
end Go.Proofs.YtgkmlbkocgjmmaaDoor
namespace Go.AM
set_option linter.unusedVariables false
section
variable {P : Program}
/-- A laid row of words. -/
theorem laid_words {w : World} {name : String} {g t e : Nat} {n : Nat} {zs : List UInt32} {cs : Array Value} {fuel : Nat} {p : List MemPlace}
    (hg : P.globalNamed name = some g) (hv : w.var? P name = some cs) (ht : P.underlying t = some (.array n e)) (he : P.underlying e = some (.int .u32)) (hct : P.cellsOf t = n) (hc : P.cellsOf e = 1)
    (hd : DataW.trod (fun _ => ()) P w 0 (fun _ => true) false fuel t cs.toList = some (.agg (zs.map fun z => .lit (.int .u32 (z.toNat : Int))), p)) :
    ∃ ty frz, w.heap[g]? = some (.cells cs ty frz) ∧ cs = (zs.map w32).toArray := by
  obtain ⟨xs, mm, _, ex, hlen, hl, hel⟩ := DataW.trod_array ht hd
  have e1 : zs.map (fun z => DataW.lit (.int .u32 (z.toNat : Int))) = xs.map (·.1) := DataW.agg.inj (Prod.mk.inj ex).1
  rw [hct] at hlen
  have hzl : zs.length = n := by have := congrArg List.length e1; simp at this; omega
  simp only [World.var?, hg, Option.bind_some] at hv
  split at hv <;> simp at hv
  rename_i cs' ty frz hh
  subst hv
  refine ⟨ty, frz, hh, ?_⟩
  apply Array.ext'
  apply List.ext_getElem
  · simp [hzl] at hlen ⊢; omega
  · intro i h1 h2
    have hi : i < n := by simp at hlen h1; omega
    have k := hel i hi
    rw [hc, Nat.mul_one] at k
    have k1 : (cs'.toList.drop i).take 1 = [cs'.toList[i]] := by rw [List.drop_eq_getElem_cons h1]; simp
    rw [k1, List.getElem?_eq_getElem (by omega)] at k
    obtain ⟨z, a0, b0, _⟩ := DataW.trod_int he k
    have a1 : cs'.toList[i] = .int .u32 z := by simpa using a0
    rw [a1]
    have e2 := congrArg (fun l => l[i]?) e1
    simp only [List.getElem?_map, List.getElem?_eq_getElem (show i < zs.length by omega), List.getElem?_eq_getElem (show i < xs.length by omega), Option.map_some, Option.some.injEq, b0] at e2
    simp only [DataW.lit.injEq, Lit.int.injEq, true_and] at e2
    simp [w32, e2]
end
end Go.AM
namespace Go.Proofs.YtgkmlbkocgjmmaaDoor.gl
open Go.ChangeShapes Go.WideShapes Go.ChangeAt Go.RowKit
set_option linter.unusedVariables false
theorem own : ownKnob Tryd.prog.godebug = none := by kernel_rfl
theorem laidOut : laidOutB Tryd.prog = true := by kernel_rfl
abbrev laid : List (String × DataW Unit) := [("tithebarn/sha.constants", Rows.laid_tithebarn_sha_constants), ("tithebarn/sha.begin", Rows.laid_tithebarn_sha_begin)]

/-- The listed variables, where they lie. -/
theorem globs {W : World} (h : laidMetH Tryd.prog laid W) : (∃ ty frz, W.heap[0]? = some (.cells (AM.constW.map AM.w32).toArray ty frz)) ∧ ∃ ty frz, W.heap[1]? = some (.cells (AM.beginW.map AM.w32).toArray ty frz) := by
  rw [MakeChecks.laidMetH_plain _ _ _ (by kernel_rfl)] at h
  obtain ⟨ps, ⟨g, t, cs, fuel, p, q, hg, ht, hv, hd, ⟨g2, t2, cs2, fuel2, p2, q2, hg2, ht2, hv2, hd2, _, _⟩, _⟩, _, _⟩ := h
  have k0 : Tryd.prog.globalNamed "tithebarn/sha.constants" = some 0 := by kernel_rfl
  have k1 : Tryd.prog.globalNamed "tithebarn/sha.begin" = some 1 := by kernel_rfl
  obtain rfl := Option.some.inj (k0.symm.trans hg)
  obtain rfl := Option.some.inj (k1.symm.trans hg2)
  obtain rfl := Option.some.inj ((show (Tryd.prog.globals[0]?).map (·.type) = some 127 by kernel_rfl).symm.trans ht)
  obtain rfl := Option.some.inj ((show (Tryd.prog.globals[1]?).map (·.type) = some 92 by kernel_rfl).symm.trans ht2)
  obtain ⟨ty, frz, h1, rfl⟩ := AM.laid_words (zs := AM.constW) k0 hv Tryd.underlying127 Tryd.underlying91 (by kernel_rfl) (by kernel_rfl) hd
  obtain ⟨ty2, frz2, h2, rfl⟩ := AM.laid_words (zs := AM.beginW) k1 hv2 Tryd.underlying92 Tryd.underlying91 (by kernel_rfl) (by kernel_rfl) hd2
  exact ⟨⟨ty, frz, h1⟩, ⟨ty2, frz2, h2⟩⟩

/-- A world in which they are as listed. -/
noncomputable def laidWorld (os : Os) : World :=
  let w0 := World.holding Tryd.prog os ⟨#[], #[], []⟩
  { w0 with heap := (w0.heap.modify 0 fun
      | .cells _ t frozen => .cells (AM.constW.map AM.w32).toArray t frozen
      | o => o).modify 1 fun
      | .cells _ t frozen => .cells (AM.beginW.map AM.w32).toArray t frozen
      | o => o }
theorem laidWorld_met (os : Os) (args : Array Value) : laidMetH Tryd.prog laid ((laidWorld os).forCall (fun _ _ => 0) ⟨#[], args, []⟩).memory := by
  rw [MakeChecks.laidMetH_plain _ _ _ (by kernel_rfl)]
  exact laidMet_of_run' 8 (by kernel_rfl) (by kernel_rfl)

/-- The memory of which a law speaks: the variables, and what the arguments lead to. -/
def osOf (ty ty2 : TypeId) (l : List (AM.AObj × AM.Loc)) : List (AM.AObj × AM.Loc) :=
  (.cells (AM.constW.map AM.w32) ty false (.full 1), ⟨0, 0, 64, 1⟩) :: (.cells (AM.beginW.map AM.w32) ty2 false (.full 1), ⟨1, 0, 8, 1⟩) :: (.dead, ⟨2, 0, 0, 1⟩) :: l
theorem plain_w (l : List UInt32) : ∀ v ∈ l.map AM.w32, AM.Plain v := fun v hv => by
  simp only [List.mem_map] at hv; obtain ⟨x, _, rfl⟩ := hv; exact AM.plain_w32 _
theorem obj_w {W : World} {ρ : AM.Ren} {g : Nat} {l : List UInt32} {ty : TypeId} {frz : Nat × Nat} (h : W.heap[g]? = some (.cells (l.map AM.w32).toArray ty frz)) {n : Nat} (hn : l.length = n) : AM.ObjRel ρ (.cells (l.map AM.w32) ty false (.full 1)) ⟨g, 0, n, 1⟩ W := by
  have := AM.ObjRel.plain (ρ := ρ) (c := l.map AM.w32) (o := 0) (e := ty) h (by simp) (fun j hj => by simp; simp at hj; simp [hj]) (plain_w l) 1 (by omega)
  rwa [List.length_map, hn] at this
theorem wrtL {ty ty2 : TypeId} {l : List (AM.AObj × AM.Loc)} (hl : ∀ x ∈ l, x.1.wrt = false) : ∀ x ∈ osOf ty ty2 l, x.1.wrt = false := fun x hx => by
  simp only [osOf, List.mem_cons] at hx
  rcases hx with rfl | rfl | rfl | hx
  · rfl
  · rfl
  · rfl
  · exact hl x hx
theorem rep {W : World} {ty ty2 : TypeId} {frz frz2 : Nat × Nat} (h0 : W.heap[0]? = some (.cells (AM.constW.map AM.w32).toArray ty frz)) (h1 : W.heap[1]? = some (.cells (AM.beginW.map AM.w32).toArray ty2 frz2))
    {l : List (AM.AObj × AM.Loc)} (hl : ∀ x ∈ l, AM.ObjRel (AM.renOf (osOf ty ty2 l)) x.1 x.2 W) (hw : ∀ x ∈ l, x.1.wrt = false) : AM.Rep 3 (AM.memOf (osOf ty ty2 l)) (AM.renOf (osOf ty ty2 l)) W := by
  refine AM.Rep.of (osOf ty ty2 l) (fun g hg => ?_) (fun x hx => ?_) (wrtL hw)
  · match g, hg with
    | 0, _ => exact ⟨_, rfl, rfl, rfl⟩
    | 1, _ => exact ⟨_, rfl, rfl, rfl⟩
    | 2, _ => exact ⟨_, rfl, rfl, rfl⟩
  · simp only [osOf, List.mem_cons] at hx
    rcases hx with rfl | rfl | rfl | hx
    · exact obj_w h0 rfl
    · exact obj_w h1 rfl
    · trivial
    · exact hl x hx
theorem glob (ty ty2 : TypeId) (l : List (AM.AObj × AM.Loc)) : S.Glob (AM.memOf (osOf ty ty2 l)) := ⟨⟨ty, _, rfl⟩, ⟨ty2, _, rfl⟩, by show 2 < l.length + 1 + 1 + 1; omega⟩
theorem os_at {ty ty2 : TypeId} {l : List (AM.AObj × AM.Loc)} {k : Nat} {x : AM.AObj × AM.Loc} (h : l[k]? = some x) : (osOf ty ty2 l)[3 + k]? = some x := by
  rw [Nat.add_comm]; exact h
theorem get_at {ty ty2 : TypeId} {l : List (AM.AObj × AM.Loc)} {k : Nat} {x : AM.AObj × AM.Loc} (h : l[k]? = some x) : (AM.memOf (osOf ty ty2 l)).get (3 + k) = x.1 := by
  simp only [AM.memOf, os_at h]
theorem ren_at {ty ty2 : TypeId} {l : List (AM.AObj × AM.Loc)} {k : Nat} {x : AM.AObj × AM.Loc} (h : l[k]? = some x) : AM.renOf (osOf ty ty2 l) (3 + k) = some x.2 := by
  simp only [AM.renOf, os_at h, Option.map_some]
theorem lt_at {ty ty2 : TypeId} {l : List (AM.AObj × AM.Loc)} {k : Nat} {x : AM.AObj × AM.Loc} (h : l[k]? = some x) : 3 + k < (AM.memOf (osOf ty ty2 l)).size := by
  have := (List.getElem?_eq_some_iff.1 h).1
  show 3 + k < l.length + 1 + 1 + 1; omega

/-- An argument whose blocks are those from the k-th on. -/
def Arg (W : World) (k : Nat) (L : List (AM.AObj × AM.Loc)) (F : AM.AMem → AM.Ren → Prop) : Prop :=
  (∀ x ∈ L, x.1.wrt = false) ∧ ∀ (ty ty2 : TypeId) (l : List (AM.AObj × AM.Loc)), (∀ j (h : j < L.length), l[k + j]? = some L[j]) → (∀ x ∈ L, AM.ObjRel (AM.renOf (osOf ty ty2 l)) x.1 x.2 W) ∧ F (AM.memOf (osOf ty ty2 l)) (AM.renOf (osOf ty ty2 l))
theorem Arg.none (W : World) (k : Nat) : Arg W k [] fun _ _ => True := ⟨(fun x h => by cases h), fun ty ty2 l _ => ⟨(fun x h => by cases h), trivial⟩⟩
theorem Arg.and {W : World} {k : Nat} {L1 L2 : List (AM.AObj × AM.Loc)} {F1 F2 : AM.AMem → AM.Ren → Prop} (h1 : Arg W k L1 F1) (h2 : Arg W (k + L1.length) L2 F2) : Arg W k (L1 ++ L2) fun m ρ => F1 m ρ ∧ F2 m ρ := by
  refine ⟨fun x hx => (List.mem_append.1 hx).elim (h1.1 x) (h2.1 x), fun ty ty2 l hl => ?_⟩
  obtain ⟨a1, b1⟩ := h1.2 ty ty2 l fun j h => by rw [hl j (by rw [List.length_append]; omega), List.getElem_append_left h]
  obtain ⟨a2, b2⟩ := h2.2 ty ty2 l fun j h => by
    rw [Nat.add_assoc, hl (L1.length + j) (by rw [List.length_append]; omega), List.getElem_append_right (by omega)]
    simp only [Nat.add_sub_cancel_left]
  exact ⟨fun x hx => (List.mem_append.1 hx).elim (a1 x) (a2 x), b1, b2⟩
theorem Arg.all {W : World} {L : List (AM.AObj × AM.Loc)} {F : AM.AMem → AM.Ren → Prop} (h : Arg W 0 L F) (ty ty2 : TypeId) : (∀ x ∈ L, AM.ObjRel (AM.renOf (osOf ty ty2 L)) x.1 x.2 W) ∧ F (AM.memOf (osOf ty ty2 L)) (AM.renOf (osOf ty ty2 L)) :=
  h.2 ty ty2 L fun j hj => by rw [Nat.zero_add]; exact List.getElem?_eq_getElem hj

/-- A row of texts. -/
theorem arg_strs {W : World} {ls : List (List UInt8)} {v : Value} (h : AM.SlP W (ls.map fun s => .string ⟨s.toArray⟩) v) (k : Nat) : ∃ (x : AM.AObj × AM.Loc) (a : Option Addr) (cap : Nat), (∀ ρ, AM.ObjRel ρ x.1 x.2 W) ∧ Arg W k [x] fun m ρ => Src m a ls ∧ AM.VRel ρ (.slice a ls.length cap) v := by
  have hp : ∀ x ∈ ls.map (fun s : List UInt8 => Value.string ⟨s.toArray⟩), AM.Plain x := fun x hx => by
    simp only [List.mem_map] at hx; obtain ⟨y, _, rfl⟩ := hx; exact .string _
  generalize hc : ls.map (fun s : List UInt8 => Value.string ⟨s.toArray⟩) = c at h hp
  have hcl : c.length = ls.length := by rw [← hc, List.length_map]
  cases h with
  | nil h =>
    subst h
    obtain rfl : ls = [] := List.length_eq_zero_iff.1 (by simpa using hcl.symm)
    exact ⟨(.dead, ⟨2, 0, 0, 1⟩), none, 0, fun _ => trivial, fun x hx => (by rw [List.mem_singleton] at hx; subst hx; rfl), fun ty ty2 l hl => ⟨fun x hx => (by rw [List.mem_singleton] at hx; subst hx; trivial), .inl ⟨rfl, rfl⟩, .nilSlice 0 0⟩⟩
  | none a h =>
    subst h
    obtain rfl : ls = [] := List.length_eq_zero_iff.1 (by simpa using hcl.symm)
    exact ⟨(.dead, ⟨2, 0, 0, 1⟩), some ⟨0, 0, none⟩, 0, fun _ => trivial, fun x hx => (by rw [List.mem_singleton] at hx; subst hx; rfl), fun ty ty2 l hl => ⟨fun x hx => (by rw [List.mem_singleton] at hx; subst hx; trivial),
      .inr ⟨0, 0, rfl, by show 0 < l.length + 1 + 1 + 1; omega, AM.cutL_zero (Nat.zero_le _)⟩, .sliceEnd (b := 0) (o := 0) (L := ⟨0, 0, 64, 1⟩) rfl (.inl rfl)⟩⟩
  | some b o cap carr t frz hh hl hcc hcap hle =>
    have hob : ∀ ρ, AM.ObjRel ρ (.cells c t false (.full 1)) ⟨b, o, c.length, 1⟩ W := fun ρ => AM.ObjRel.plain hh hl hcc hp 1 (by omega)
    refine ⟨(.cells c t false (.full 1), ⟨b, o, c.length, 1⟩), some ⟨3 + k, 0, none⟩, cap, hob, fun x hx => (by rw [List.mem_singleton] at hx; subst hx; rfl), fun ty ty2 l hl => ⟨fun x hx => (by rw [List.mem_singleton] at hx; subst hx; exact hob _), ?_, ?_⟩⟩
    · have h0 := hl 0 (by simp)
      rw [Nat.add_zero] at h0
      refine .inr ⟨3 + k, 0, rfl, lt_at h0, ?_⟩
      rw [get_at h0]
      show AM.cutL c 0 ls.length = _
      rw [← hcl, AM.cutL_all rfl, ← hc]; rfl
    · have h0 := hl 0 (by simp)
      rw [Nat.add_zero] at h0
      rw [← hcl]
      exact .slice (b := 3 + k) (o := 0) (ren_at h0) (AM.openCap_lt hcap)
/-- A row of bytes. -/
theorem arg_bytes {W : World} {v : Value} (h : AM.SlB W v) (k : Nat) : ∃ (x : AM.AObj × AM.Loc) (a : Option Addr) (cap : Nat) (c : List UInt8), c.length ≤ 9223372036854775807 ∧ Arg W k [x] fun m ρ => AM.BSl m a cap c ∧ AM.VRel ρ (.slice a c.length cap) v := by
  cases h with
  | nil => exact ⟨(.dead, ⟨2, 0, 0, 1⟩), none, 0, [], by simp, fun x hx => (by rw [List.mem_singleton] at hx; subst hx; rfl), fun ty ty2 l hl => ⟨fun x hx => (by rw [List.mem_singleton] at hx; subst hx; trivial), .inl ⟨rfl, rfl, rfl⟩, .nilSlice 0 0⟩⟩
  | none a => exact ⟨(.dead, ⟨2, 0, 0, 1⟩), some ⟨0, 0, none⟩, 0, [], by simp, fun x hx => (by rw [List.mem_singleton] at hx; subst hx; rfl), fun ty ty2 l hl => ⟨fun x hx => (by rw [List.mem_singleton] at hx; subst hx; trivial), .inr ⟨0, 0, _, _, _, _, rfl, by show 0 < l.length + 1 + 1 + 1; omega, rfl, AM.cutL_zero (Nat.zero_le _), .inr ⟨AM.zeroCap_lt, Nat.le_refl _⟩⟩, .sliceEnd (b := 0) (o := 0) (L := ⟨0, 0, 64, 1⟩) rfl (.inl rfl)⟩⟩
  | some b o cap c carr t frz hh hl hc hcap hle =>
    have hob : ∀ ρ, AM.ObjRel ρ (.cells (c.map AM.byteV) t false (.full 1)) ⟨b, o, c.length, 1⟩ W := fun ρ => by
      have := AM.ObjRel.plain (ρ := ρ) (c := c.map AM.byteV) (o := o) (e := t) hh (by rw [List.length_map]; exact hl) (fun j hj => by rw [List.getElem_map]; exact hc j (by simpa using hj)) (AM.plain_byteV c) 1 (by omega)
      rw [List.length_map] at this
      exact this
    refine ⟨(.cells (c.map AM.byteV) t false (.full 1), ⟨b, o, c.length, 1⟩), some ⟨3 + k, 0, none⟩, cap, c, by omega, fun x hx => (by rw [List.mem_singleton] at hx; subst hx; rfl), fun ty ty2 l hl => ⟨fun x hx => (by rw [List.mem_singleton] at hx; subst hx; exact hob _), ?_, ?_⟩⟩
    · have h0 := hl 0 (by simp)
      rw [Nat.add_zero] at h0
      refine .inr ⟨3 + k, 0, _, _, _, _, rfl, lt_at h0, get_at h0, ?_, .inr ⟨AM.openCap_lt hcap, hle⟩⟩
      rw [← List.length_map (f := AM.byteV)]; exact AM.cutL_all rfl
    · have h0 := hl 0 (by simp)
      rw [Nat.add_zero] at h0
      exact .slice (b := 3 + k) (o := 0) (ren_at h0) (AM.openCap_lt hcap)
/-- What a row of rows of texts is, in a world. -/
abbrev RowT := List (List UInt8) × Value
def RowT.ok (W : World) (z : RowT) : Prop := AM.SlP W (z.1.map fun s => .string ⟨s.toArray⟩) z.2 ∧ (∀ y ∈ z.1, y.length ≤ 9223372036854775807) ∧ z.1.length ≤ 9223372036854775807
instance : Inhabited RowT := ⟨([], .bool false)⟩
end Go.Proofs.YtgkmlbkocgjmmaaDoor.gl
namespace Go.Proofs.YtgkmlbkocgjmmaaDoor.gl
open Go.ChangeShapes Go.WideShapes Go.ChangeAt Go.RowKit
set_option linter.unusedVariables false
set_option maxRecDepth 100000
theorem open_drv {H : Type} {enc : TypeId × Value → H} {w : World} {base : Nat} {hd : Bool} {cs : List Value} {y : DataW H × List MemPlace} {fuel : Nat}
    (h : DataW.trod enc Tryd.prog w base (fun _ => true) hd fuel 24 cs = some y) : ∃ (d : DrvR) (v : Value), cs = [.string ⟨d.name.toArray⟩, v, .string ⟨d.recipe.toArray⟩] ∧ AM.SlP w (d.inputs.map fun s => .string ⟨s.toArray⟩) v ∧ d.any := by
  cases fuel with
  | zero => simp [DataW.trod] at h
  | succ fuel =>
    simp only [DataW.trod, Tryd.underlying24] at h
    split at h <;> try (simp at h; done)
    rename_i hlen
    have h3 : Tryd.prog.cellsOf 24 = 3 := by kernel_rfl
    rw [h3] at hlen
    simp only [Option.map_eq_some_iff] at h
    obtain ⟨xs, hxs, _⟩ := h
    obtain ⟨c0, c1, c2, rfl⟩ : ∃ a b c, cs = [a, b, c] := by
      match cs, hlen with
      | [a, b, c], _ => exact ⟨a, b, c, rfl⟩
    have k9 : Tryd.prog.cellsOf 9 = 1 := by kernel_rfl
    have k22 : Tryd.prog.cellsOf 22 = 1 := by kernel_rfl
    obtain ⟨y0, e0⟩ := Go.AM.mapM_some_get hxs 0 (by decide)
    obtain ⟨y1, e1⟩ := Go.AM.mapM_some_get hxs 1 (by decide)
    obtain ⟨y2, e2⟩ := Go.AM.mapM_some_get hxs 2 (by decide)
    simp only [List.getElem_cons_zero, List.getElem_cons_succ, k9, k22, List.drop_zero, List.drop_succ_cons, List.take_succ_cons, List.take_zero] at e0 e1 e2
    obtain ⟨s0, rfl, w0⟩ := AM.trod_str Tryd.underlying9 e0
    obtain ⟨s2, rfl, w2⟩ := AM.trod_str Tryd.underlying9 e2
    obtain ⟨v, l, ev, hs, hl, hl2⟩ := AM.open_strs Tryd.underlying22 Tryd.underlying9 k9 e1
    cases ev
    exact ⟨⟨s0, l, s2⟩, _, rfl, hs, w0, w2, hl2, hl⟩
theorem drv_of {v x y z : Value} (h : v.cells.toList = [x, y, z]) : v = .agg #[x, y, z] := by
  cases v with
  | agg cs =>
    have h : cs.toList = [x, y, z] := h
    have : cs = #[x, y, z] := Array.ext' h
    rw [this]
  | _ => simp [Value.cells] at h
theorem rel_drv {ρ : AM.Ren} {d : DrvR} {a : Option Addr} {c : Nat} {v : Value} (h : AM.VRel ρ (.slice a d.inputs.length c) v) : AM.VRel ρ (.agg (dRow d a c).toArray) (.agg #[.string ⟨d.name.toArray⟩, v, .string ⟨d.recipe.toArray⟩]) := by
  refine .agg _ _ rfl fun i h1 h2 => ?_
  match i, h1 with
  | 0, _ => exact .string _
  | 1, _ => exact h
  | 2, _ => exact .string _
end Go.Proofs.YtgkmlbkocgjmmaaDoor.gl
