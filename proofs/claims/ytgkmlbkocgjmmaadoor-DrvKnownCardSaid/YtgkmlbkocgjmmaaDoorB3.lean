/- Derivations: names. -/
import Derived.Test.YtgkmlbkocgjmmaaDoorA4
import Derived.Test.YtgkmlbkocgjmmaaDoorDrvF
import Derived.Test.YtgkmlbkocgjmmaaDoorB2
set_option linter.unusedVariables false
set_option linter.unusedSimpArgs false
set_option linter.unnecessarySimpa false
open Nat renaming reduceBEq → zA, reduceEqDiff → zB, reduceAdd → zC, reduceMul → zD, reduceSub → zE
open Int renaming reduceToNat → zF, reduceEq → zG, reduceLT → zH, reduceLE → zI, reduceAdd → zJ, reduceSub → zK, reduceMul → zL
namespace Go.AM
set_option linter.unusedVariables false

def w32 (x : UInt32) : Value := .int .u32 (x.toNat : Int)
theorem w32_def (x : UInt32) : w32 x = .int .u32 (x.toNat : Int) := rfl
theorem plain_w32 (x : UInt32) : Plain (w32 x) := .int _ _
def shrW (x : UInt32) (b : Nat) : UInt32 := UInt32.ofNat (x.toNat >>> b)
def shlW (x : UInt32) (b : Nat) : UInt32 := UInt32.ofNat (x.toNat <<< b)
def rotr (b : Nat) (x : UInt32) : UInt32 := shrW x b ||| shlW x (32 - b)

theorem wrap_u32n (n : Nat) : IntKind.u32.wrap (n : Int) = ((n % 2 ^ 32 : Nat) : Int) := by simp [IntKind.wrap, IntKind.bits, IntKind.signed]
theorem u32_le (x : UInt32) : (x.toNat : Int) ≤ IntKind.u32.max := by
  have := x.toNat_lt; rw [max_u32]; omega
theorem binV_addw (x y : UInt32) : binV .add (w32 x) (w32 y) = some (w32 (x + y)) := by
  rw [w32_def, w32_def, binV_add, w32_def, show (x.toNat : Int) + y.toNat = ((x.toNat + y.toNat : Nat) : Int) by push_cast; rfl, wrap_u32n, UInt32.toNat_add]
theorem binV_andw (x y : UInt32) : binV .and (w32 x) (w32 y) = some (w32 (x &&& y)) := by
  rw [w32_def, w32_def, binV_and, w32_def, ibits_and_nat (u32_le x) (u32_le y), UInt32.toNat_and]
theorem binV_orw (x y : UInt32) : binV .or (w32 x) (w32 y) = some (w32 (x ||| y)) := by
  rw [w32_def, w32_def, binV_or, w32_def, ibits_or_nat (u32_le x) (u32_le y), UInt32.toNat_or]
theorem binV_xorw (x y : UInt32) : binV .xor (w32 x) (w32 y) = some (w32 (x ^^^ y)) := by
  rw [w32_def, w32_def, binV_xor, w32_def, ibits_xor_nat (u32_le x) (u32_le y), UInt32.toNat_xor]
theorem ofInt_w (x : UInt32) : BitVec.ofInt IntKind.u32.bits (x.toNat : Int) = x.toBitVec := by
  apply BitVec.eq_of_toNat_eq
  rw [ofInt_nat (u32_le x)]; rfl
theorem ibits_andNotw (x y : UInt32) : ibits .andNot .u32 (x.toNat : Int) (y.toNat : Int) = ((x &&& ~~~y).toNat : Int) := by
  simp only [ibits, ofInt_w]
  have h : ((x.toBitVec &&& ~~~y.toBitVec).toNat : Int) ≤ IntKind.u32.max := by
    have := (x.toBitVec &&& ~~~y.toBitVec).isLt
    rw [max_u32]; omega
  exact (wrap_small h).trans rfl
theorem binV_andNotw (x y : UInt32) : binV .andNot (w32 x) (w32 y) = some (w32 (x &&& ~~~y)) := by
  rw [w32_def, w32_def, binV_andNot, w32_def, ibits_andNotw]
theorem binV_shrw {k : IntKind} {x : UInt32} {b : Nat} (h : b ≤ 32) : binV .shr (w32 x) (.int k (b : Int)) = some (w32 (shrW x b)) := by
  rw [w32_def, binV_shr _ _ (by omega), w32_def, shr_nat _ _ _ (by simpa [IntKind.bits] using h)]
  have h2 : x.toNat >>> b < 2 ^ 32 := Nat.lt_of_le_of_lt (Nat.shiftRight_le _ _) x.toNat_lt
  simp [shrW, Nat.mod_eq_of_lt h2]
theorem binV_shlw {k : IntKind} {x : UInt32} {b : Nat} (h : b ≤ 32) : binV .shl (w32 x) (.int k (b : Int)) = some (w32 (shlW x b)) := by
  rw [w32_def, binV_shl _ _ (by omega), w32_def]
  simp only [shl, Int.toNat_natCast, show min b IntKind.u32.bits = b by simp [IntKind.bits]; omega]
  rw [show (x.toNat : Int) * 2 ^ b = ((x.toNat * 2 ^ b : Nat) : Int) by push_cast; rfl, wrap_u32n]
  simp [shlW, Nat.shiftLeft_eq]
theorem not_w (x : UInt32) : unV .xor (w32 x) = some (w32 (~~~x)) := by
  have h := ibits_xor_nat (u32_le (0xFFFFFFFF : UInt32)) (u32_le x)
  have h1 : (((0xFFFFFFFF : UInt32).toNat : Nat) : Int) = 4294967295 := rfl
  rw [h1] at h
  have h2 : (~~~x).toNat = (0xFFFFFFFF : UInt32).toNat ^^^ x.toNat := by
    rw [← UInt32.toNat_xor]; congr 1
  rw [w32_def, w32_def, h2, ← h]; rfl
theorem ws_get {l : List UInt32} {i : Nat} (h : i < l.length) : (l.map w32)[i]? = some (w32 l[i]) := by simp [h]
theorem ws_set (l : List UInt32) (i : Nat) (x : UInt32) : (l.map w32).set i (w32 x) = (l.set i x).map w32 := by simp [List.map_set]
theorem cellsOf_w (x : UInt32) : cellsOf (w32 x) = some [w32 x] := rfl
theorem cellsOf_ws (l : List UInt32) : cellsOf (.agg (l.map w32).toArray) = some (l.map w32) := by
  simp [cellsOf, oneCell, w32]

theorem amW : type_of% @binV_addw ∧ type_of% @binV_andw ∧ type_of% @binV_orw ∧ type_of% @binV_xorw ∧ type_of% @binV_andNotw ∧ type_of% @not_w ∧ type_of% @ws_get ∧ type_of% @ws_set ∧ type_of% @cellsOf_w ∧ type_of% @cellsOf_ws :=
  ⟨@binV_addw, @binV_andw, @binV_orw, @binV_xorw, @binV_andNotw, @not_w, @ws_get, @ws_set, @cellsOf_w, @cellsOf_ws⟩
/-! Sums of bits. -/
theorem ch_eq (e f g : UInt32) : (e &&& f ||| g &&& ~~~e) = (e &&& f ^^^ ~~~e &&& g) := by
  apply UInt32.toBitVec_inj.1
  simp only [UInt32.toBitVec_and, UInt32.toBitVec_or, UInt32.toBitVec_xor, UInt32.toBitVec_not]
  ext i hi
  simp only [BitVec.getElem_and, BitVec.getElem_or, BitVec.getElem_xor, BitVec.getElem_not]
  cases e.toBitVec[i] <;> cases f.toBitVec[i] <;> cases g.toBitVec[i] <;> rfl
theorem maj_eq (a b c : UInt32) : (a &&& b ^^^ a &&& c ^^^ b &&& c) = (a &&& b ||| a &&& c ||| b &&& c) := by
  apply UInt32.toBitVec_inj.1
  simp only [UInt32.toBitVec_and, UInt32.toBitVec_or, UInt32.toBitVec_xor]
  ext i hi
  simp only [BitVec.getElem_and, BitVec.getElem_or, BitVec.getElem_xor]
  cases a.toBitVec[i] <;> cases b.toBitVec[i] <;> cases c.toBitVec[i] <;> rfl
theorem or_comm_w (a b : UInt32) : a ||| b = b ||| a := by
  apply UInt32.toNat_inj.1; rw [UInt32.toNat_or, UInt32.toNat_or, Nat.or_comm]

/-! ### The function, in plain words -/
def spl {α : Type} (R : List α) (o : Nat) (c : List α) : List α := R.take o ++ c ++ R.drop (o + c.length)
theorem splice_spl (R v : List Value) (o : Nat) : splice R o v = spl R o v := rfl
theorem spl_length {α : Type} {R c : List α} {o : Nat} (h : o + c.length ≤ R.length) : (spl R o c).length = R.length := by simp [spl]; omega
theorem spl_nil {α : Type} (R : List α) (o : Nat) : spl R o [] = R := by simp [spl]
theorem spl_map {α β : Type} (f : α → β) (R c : List α) (o : Nat) : (spl R o c).map f = spl (R.map f) o (c.map f) := by simp [spl, List.map_take, List.map_drop]
theorem spl_all {α : Type} {R c : List α} (h : c.length = R.length) : spl R 0 c = c := by simp [spl, h]
theorem spl_get {α : Type} {R c : List α} {o : Nat} (h : o + c.length ≤ R.length) (i : Nat) : (spl R o c)[i]? = if i < o then R[i]? else if i < o + c.length then c[i - o]? else R[i]? := by
  simp only [spl, List.append_assoc]
  by_cases h1 : i < o
  · rw [if_pos h1, List.getElem?_append_left (by simp; omega), List.getElem?_take_of_lt h1]
  · rw [if_neg h1, List.getElem?_append_right (by simp; omega)]
    have hl : (R.take o).length = o := by simp; omega
    rw [hl]
    by_cases h2 : i < o + c.length
    · rw [if_pos h2, List.getElem?_append_left (by omega)]
    · rw [if_neg h2, List.getElem?_append_right (by omega), List.getElem?_drop]; congr 1; omega
theorem spl_cons {α : Type} {R c : List α} {o : Nat} {x : α} (h : o + c.length < R.length) : spl R o (x :: c) = spl (R.set o x) (o + 1) c := by
  apply List.ext_getElem?
  intro i
  rw [spl_get (by simp; omega), spl_get (by simp; omega)]
  simp only [List.length_cons]
  by_cases h1 : i < o
  · rw [if_pos h1, if_pos (by omega), List.getElem?_set_ne (by omega)]
  · rw [if_neg h1]
    by_cases h2 : i = o
    · subst h2; rw [if_pos (by omega), if_pos (by omega), List.getElem?_set_self (by omega)]; simp
    · rw [if_neg (show ¬ i < o + 1 by omega)]
      by_cases h3 : i < o + (c.length + 1)
      · rw [if_pos h3, if_pos (by omega), show i - o = (i - (o + 1)) + 1 by omega, List.getElem?_cons_succ]
      · rw [if_neg h3, if_neg (by omega), List.getElem?_set_ne (by omega)]
theorem spl_snoc {α : Type} {R c : List α} {o k : Nat} {x : α} (hk : k = o + c.length) (h : k < R.length) : (spl R o c).set k x = spl R o (c ++ [x]) := by
  subst hk
  apply List.ext_getElem?
  intro i
  rw [spl_get (by simp; omega)]
  simp only [List.length_append, List.length_singleton]
  by_cases h2 : i = o + c.length
  · subst h2
    rw [List.getElem?_set_self (by rw [spl_length (by omega)]; omega), if_neg (by omega), if_pos (by omega), show o + c.length - o = c.length by omega]; simp
  · rw [List.getElem?_set_ne (by omega), spl_get (by omega)]
    by_cases h1 : i < o
    · rw [if_pos h1, if_pos h1]
    · rw [if_neg h1, if_neg h1]
      by_cases h3 : i < o + c.length
      · rw [if_pos h3, if_pos (by omega), List.getElem?_append_left (by omega)]
      · rw [if_neg h3, if_neg (by omega)]

def zip2 (a b : List UInt32) : List UInt32 := List.zipWith (· + ·) a b
theorem zip2_length {a b : List UInt32} {n : Nat} (ha : a.length = n) (hb : b.length = n) : (zip2 a b).length = n := by simp [zip2, ha, hb]
theorem zip2_assoc : ∀ (a b c : List UInt32), zip2 (zip2 a b) c = zip2 a (zip2 b c)
  | [], _, _ => by simp [zip2]
  | _ :: _, [], _ => by simp [zip2]
  | _ :: _, _ :: _, [] => by simp [zip2]
  | x :: a, y :: b, z :: c => by
    have := zip2_assoc a b c
    simp only [zip2, List.zipWith_cons_cons] at this ⊢
    rw [this, UInt32.add_assoc]
def beginW : List UInt32 := [1779033703, 3144134277, 1013904242, 2773480762, 1359893119, 2600822924, 528734635, 1541459225]
def movedW (x : UInt32) (k l m : Nat) : UInt32 := rotr k x ^^^ rotr l x ^^^ shrW x m
def turnedW (x : UInt32) (k l m : Nat) : UInt32 := rotr k x ^^^ rotr l x ^^^ rotr m x
def word4 (l : List UInt8) : UInt32 := l.foldl (fun a c => shlW a 8 ||| UInt32.ofNat c.toNat) 0
def wordAt (b : List UInt8) (W : List UInt32) (t : Nat) : UInt32 :=
  if t < 16 then word4 ((b.drop (4 * t)).take 4) else movedW (W.getD (t - 2) 0) 17 19 10 + W.getD (t - 7) 0 + movedW (W.getD (t - 15) 0) 7 18 3 + W.getD (t - 16) 0
def sched (b : List UInt8) : Nat → List UInt32
  | 0 => []
  | t + 1 => sched b t ++ [wordAt b (sched b t) t]
theorem sched_length (b : List UInt8) : ∀ t, (sched b t).length = t
  | 0 => rfl
  | t + 1 => by simp [sched, sched_length b t]
def roundW (v : List UInt32) (k w : UInt32) : List UInt32 := match v with
  | [a, b, c, d, e, f, g, h] =>
    [h + turnedW e 6 11 25 + (e &&& f ||| g &&& ~~~e) + k + w + (turnedW a 2 13 22 + (a &&& b ^^^ a &&& c ^^^ b &&& c)), a, b, c, d + (h + turnedW e 6 11 25 + (e &&& f ||| g &&& ~~~e) + k + w), e, f, g]
  | v => v
theorem roundW_length (v : List UInt32) (k w : UInt32) : (roundW v k w).length = v.length := by unfold roundW; split <;> rfl
def roundsW (K : List UInt32) (b : List UInt8) (v : List UInt32) : Nat → List UInt32
  | 0 => v
  | t + 1 => roundW (roundsW K b v t) (K.getD t 0) ((sched b 64).getD t 0)
theorem roundsW_length (K : List UInt32) (b : List UInt8) (v : List UInt32) : ∀ t, (roundsW K b v t).length = v.length
  | 0 => rfl
  | t + 1 => by rw [roundsW, roundW_length, roundsW_length K b v t]
def constW : List UInt32 := [1116352408, 1899447441, 3049323471, 3921009573, 961987163, 1508970993, 2453635748, 2870763221, 3624381080, 310598401, 607225278, 1426881987, 1925078388, 2162078206, 2614888103, 3248222580, 3835390401, 4022224774, 264347078, 604807628, 770255983, 1249150122, 1555081692, 1996064986, 2554220882, 2821834349, 2952996808, 3210313671, 3336571891, 3584528711, 113926993, 338241895, 666307205, 773529912, 1294757372, 1396182291, 1695183700, 1986661051, 2177026350, 2456956037, 2730485921, 2820302411, 3259730800, 3345764771, 3516065817, 3600352804, 4094571909, 275423344, 430227734, 506948616, 659060556, 883997877, 958139571, 1322822218, 1537002063, 1747873779, 1955562222, 2024104815, 2227730452, 2361852424, 2428436474, 2756734187, 3204031479, 3329325298]
def moreStep (M : List UInt32) (b : List UInt8) : List UInt32 := zip2 M (roundsW constW b (zip2 beginW M) 64)
theorem moreStep_length {M : List UInt32} {b : List UInt8} (h : M.length = 8) : (moreStep M b).length = 8 :=
  zip2_length h (by rw [roundsW_length]; exact zip2_length rfl h)

def mix {α : Type} (k : Nat) (X B : List α) : List α := X.take k ++ B.drop k
theorem mix_zero {α : Type} (X B : List α) : mix 0 X B = B := by simp [mix]
theorem mix_all {α : Type} {k : Nat} {X B : List α} (h : X.length = k) (h' : B.length = k) : mix k X B = X := by
  simp only [mix]; rw [List.take_of_length_le (by omega), List.drop_of_length_le (by omega), List.append_nil]
theorem mix_length {α : Type} {k : Nat} {X B : List α} (h : X.length = B.length) : (mix k X B).length = B.length := by simp [mix]; omega
theorem mix_get {α : Type} {k : Nat} {X B : List α} (h : X.length = B.length) (hk : k < B.length) : (mix k X B)[k]'(by rw [mix_length h]; exact hk) = B[k] := by
  simp only [mix]
  rw [List.getElem_append_right (by simp; omega)]
  simp [List.length_take, show min k X.length = k by omega]
theorem mix_set {α : Type} {k : Nat} {X B : List α} (h : X.length = B.length) (hk : k < X.length) : (mix k X B).set k X[k] = mix (k + 1) X B := by
  apply List.ext_getElem?
  intro i
  have hl : (X.take k).length = k := by simp; omega
  have hl' : (X.take (k + 1)).length = k + 1 := by simp; omega
  by_cases hi : i = k
  · subst hi
    rw [List.getElem?_set_self (by rw [mix_length h]; omega)]
    simp only [mix]
    rw [List.getElem?_append_left (by omega), List.getElem?_take_of_lt (by omega), List.getElem?_eq_getElem hk]
  · rw [List.getElem?_set_ne (by omega)]
    simp only [mix]
    by_cases h1 : i < k
    · rw [List.getElem?_append_left (by omega), List.getElem?_append_left (by omega), List.getElem?_take_of_lt h1, List.getElem?_take_of_lt (by omega)]
    · rw [List.getElem?_append_right (by omega), List.getElem?_append_right (by omega), List.getElem?_drop, List.getElem?_drop, hl, hl']
      congr 1; omega
theorem zip2_get {a b : List UInt32} {i : Nat} (ha : i < a.length) (hb : i < b.length) : (zip2 a b)[i]'(by simp [zip2]; omega) = a[i] + b[i] := by simp [zip2]

structure HS where
  M : List UInt32
  R : List UInt8
  n : Nat
def hs0 : HS := ⟨List.replicate 8 0, List.replicate 64 0, 0⟩
def HS.put1 (s : HS) (c : UInt8) : HS := ⟨if (s.n + 1) % 64 = 0 then moreStep s.M (s.R.set (s.n % 64) c) else s.M, s.R.set (s.n % 64) c, s.n + 1⟩
def HS.put (s : HS) (l : List UInt8) : HS := l.foldl HS.put1 s
theorem HS.put_append (s : HS) (a b : List UInt8) : s.put (a ++ b) = (s.put a).put b := by simp [HS.put]
theorem HS.put_nil (s : HS) : s.put [] = s := rfl
def HS.ok (s : HS) : Prop := s.M.length = 8 ∧ s.R.length = 64
theorem HS.put1_ok {s : HS} (h : s.ok) (c : UInt8) : (s.put1 c).ok := by
  refine ⟨?_, by simp [HS.put1, h.2]⟩
  simp only [HS.put1]; split
  · exact moreStep_length h.1
  · exact h.1
theorem HS.put_ok {s : HS} (h : s.ok) (l : List UInt8) : (s.put l).ok := by
  induction l generalizing s with
  | nil => exact h
  | cons c l ih => exact ih (HS.put1_ok h c)
theorem hs0_ok : hs0.ok := ⟨rfl, rfl⟩
theorem HS.put_n (s : HS) (l : List UInt8) : (s.put l).n = s.n + l.length := by
  induction l generalizing s with
  | nil => rfl
  | cons c l ih => rw [HS.put, List.foldl_cons]; have := ih (s.put1 c); rw [HS.put] at this; rw [this]; simp [HS.put1]; omega

theorem HS.put_fit {s : HS} (h : s.ok) {c : List UInt8} (hf : s.n % 64 + c.length < 64) : s.put c = ⟨s.M, spl s.R (s.n % 64) c, s.n + c.length⟩ := by
  induction c generalizing s with
  | nil => simp [HS.put, spl_nil]
  | cons x c ih =>
    have h1 : s.put1 x = ⟨s.M, s.R.set (s.n % 64) x, s.n + 1⟩ := by
      simp only [List.length_cons] at hf
      unfold HS.put1; rw [if_neg (by omega)]
    simp only [List.length_cons] at hf
    have h2 : (s.n + 1) % 64 = s.n % 64 + 1 := by omega
    show (s.put1 x).put c = _
    rw [ih (HS.put1_ok h x) (by rw [h1]; simp only; omega), h1]
    simp only [h2, List.length_cons]
    rw [spl_cons (by rw [h.2]; omega)]
    congr 1; omega
theorem HS.put_full {s : HS} (h : s.ok) {c : List UInt8} (hc : c ≠ []) (hf : s.n % 64 + c.length = 64) : s.put c = ⟨moreStep s.M (spl s.R (s.n % 64) c), spl s.R (s.n % 64) c, s.n + c.length⟩ := by
  obtain ⟨a, x, rfl⟩ : ∃ a x, c = a ++ [x] := ⟨c.dropLast, c.getLast hc, (List.dropLast_concat_getLast hc).symm⟩
  simp only [List.length_append, List.length_singleton] at hf
  rw [HS.put_append, HS.put_fit h (by omega)]
  simp only [HS.put, List.foldl_cons, List.foldl_nil, HS.put1]
  have h2 : (s.n + a.length) % 64 = 63 := by omega
  have h3 : (spl s.R (s.n % 64) a).set 63 x = spl s.R (s.n % 64) (a ++ [x]) := spl_snoc (by omega) (by rw [h.2]; omega)
  rw [if_pos (by omega), h2, h3]
  simp only [List.length_append, List.length_singleton, Nat.add_assoc]
def cH (s : HS) : List Value := s.M.map w32 ++ (s.R.map byteV ++ [.int .u64 (s.n : Int)])
theorem cH_length {s : HS} (h : s.ok) : (cH s).length = 73 := by simp [cH, h.1, h.2]
theorem cH_M {s : HS} (h : s.ok) : cutL (cH s) 0 8 = some (s.M.map w32) := by
  have := cH_length h
  simp only [cutL]; rw [if_pos (by omega)]
  have hl : (s.M.map w32).length = 8 := by simp [h.1]
  simp [cH, h.1]
theorem cH_all {s : HS} (h : s.ok) : cutL (cH s) 0 73 = some (cH s) := cutL_all (cH_length h)
theorem cH_n {s : HS} (h : s.ok) : (cH s)[72]? = some (.int .u64 (s.n : Int)) := by
  rw [cH, List.getElem?_append_right (by simp [h.1]), List.getElem?_append_right (by simp [h.1, h.2])]
  simp [h.1, h.2]
theorem cH_Mi {s : HS} (h : s.ok) {i : Nat} (hi : i < 8) : (cH s)[i]? = some (w32 (s.M[i]'(by rw [h.1]; exact hi))) := by
  rw [cH, List.getElem?_append_left (by simp [h.1]; exact hi), ws_get]
theorem cH_Ri {s : HS} (h : s.ok) {i : Nat} (hi : i < 64) : (cH s)[8 + i]? = some (byteV (s.R[i]'(by rw [h.2]; exact hi))) := by
  rw [cH, List.getElem?_append_right (by simp [h.1]), List.getElem?_append_left (by simp [h.1, h.2]; exact hi)]
  simp only [List.length_map, h.1, Nat.add_sub_cancel_left]
  rw [bytes_get]
theorem cH_setM {s : HS} (h : s.ok) {i : Nat} (hi : i < 8) (x : UInt32) : (cH s).set i (w32 x) = cH { s with M := s.M.set i x } := by
  simp only [cH]
  rw [List.set_append_left _ _ (by simp [h.1]; exact hi), ws_set]
theorem cH_setn {s : HS} (h : s.ok) (n : Nat) : (cH s).set 72 (.int .u64 (n : Int)) = cH { s with n := n } := by
  simp only [cH]
  rw [List.set_append_right _ _ (by simp [h.1]), List.set_append_right _ _ (by simp [h.1, h.2])]
  simp [h.1, h.2]
theorem spl_app {α : Type} {A B C c : List α} {o : Nat} (h : o + c.length ≤ B.length) : spl (A ++ (B ++ C)) (A.length + o) c = A ++ (spl B o c ++ C) := by
  have e1 : (A ++ (B ++ C)).take (A.length + o) = A ++ B.take o := by
    rw [List.take_append, List.take_of_length_le (by omega), show A.length + o - A.length = o by omega, List.take_append, show o - B.length = 0 by omega]; simp
  have e2 : (A ++ (B ++ C)).drop (A.length + o + c.length) = B.drop (o + c.length) ++ C := by
    rw [List.drop_append, List.drop_of_length_le (by omega), show A.length + o + c.length - A.length = o + c.length by omega, List.drop_append, show o + c.length - B.length = 0 by omega]; simp
  simp only [spl]; rw [e1, e2]; simp
theorem cH_R {s : HS} (h : s.ok) {at_ : Nat} {c : List UInt8} (hc : at_ + c.length ≤ 64) : splice (cH s) (8 + at_) (c.map byteV) = cH { s with R := spl s.R at_ c } := by
  have h8 : (s.M.map w32).length = 8 := by simp [h.1]
  have := spl_app (A := s.M.map w32) (B := s.R.map byteV) (C := [.int .u64 (s.n : Int)]) (c := c.map byteV) (o := at_) (by simp [h.2]; exact hc)
  rw [h8] at this
  rw [splice_spl, cH, cH, this, spl_map]
theorem plain_cH (s : HS) : ∀ v ∈ cH s, Plain v := fun v hv => by
  simp only [cH, List.mem_append, List.mem_map, List.mem_singleton] at hv
  rcases hv with ⟨x, _, rfl⟩ | ⟨x, _, rfl⟩ | rfl
  · exact plain_w32 _
  · exact .int _ _
  · exact .int _ _
theorem oneCell_w (x : UInt32) : oneCell (w32 x) = true := rfl
theorem len8 {l : List UInt32} (h : l.length = 8) : ∃ a b c d e f g i, l = [a, b, c, d, e, f, g, i] := by
  match l, h with
  | [a, b, c, d, e, f, g, i], _ => exact ⟨a, b, c, d, e, f, g, i, rfl⟩
end Go.AM
namespace Go.Proofs.YtgkmlbkocgjmmaaDoor.S
open Go Go.AM
set_option maxRecDepth 100000
set_option linter.unusedVariables false
set_option linter.unusedSimpArgs false

theorem rot_ok (m : AMem) (x : UInt32) (k : Nat) (h1 : 1 ≤ k) (h2 : k ≤ 31) : PureC Tryd.prog 3 94 [w32 x, .int .i64 (0 - (k : Int))] m (w32 (rotr k x)) := by
  refine pure_of_W (fn := Tryd.f94) rfl rfl F94_ok (by simp [F94]) (plain_w32 _) ?_
  have e1 : ibits .and .u64 (IntKind.u64.wrap (0 - (k : Int))) 31 = ((32 - k : Nat) : Int) := by
    have : ∀ k : Fin 32, 1 ≤ k.val → ibits .and .u64 (IntKind.u64.wrap (0 - (k.val : Int))) 31 = ((32 - k.val : Nat) : Int) := by decide +kernel
    exact this ⟨k, by omega⟩ h1
  have e2 : IntKind.u64.wrap (32 - ((32 - k : Nat) : Int)) = (k : Int) := by rw [wrap_u64 (by omega) (by omega)]; omega
  simp -implicitDefEqProofs (disch := first | omega | with_reducible assumption | (simp only [zU, zC]; omega)) only [zT, zA, reduceCtorEq, zB, zC, zD, zE, zF, zG, zH, zI, zJ, zK, zL, reduceIte, F94, e1, e2, amW, binV_shrw, binV_shlw]
  rw [or_comm_w]; rfl
theorem r_ok (m : AMem) (x : UInt32) (k : Nat) (h1 : 1 ≤ k) (h2 : k ≤ 31) : PureC Tryd.prog 3 81 [.int .i64 (k : Int), w32 x] m (w32 (rotr k x)) := by
  refine pure_of_W (fn := Tryd.f81) rfl rfl F81_ok (by simp [F81]) (plain_w32 _) ?_
  have e2 : IntKind.i64.wrap (32 - (k : Int)) = ((32 - k : Nat) : Int) := by rw [wrap_i64 (by omega) (by omega)]; omega
  simp -implicitDefEqProofs (disch := first | omega | with_reducible assumption | (simp only [zU, zC]; omega)) only [zT, zA, reduceCtorEq, zB, zC, zD, zE, zF, zG, zH, zI, zJ, zK, zL, reduceIte, F81, e2, amW, binV_shrw, binV_shlw]
  rfl
theorem kRot {m : AMem} {x : UInt32} {k : Nat} (h1 : 1 ≤ k) (h2 : k ≤ 31) : type_of% (DetC.known (rot_ok m x k h1 h2)) := DetC.known (rot_ok m x k h1 h2)
theorem turned_ok (m : AMem) (x : UInt32) (k l n : Nat) (h1 : 1 ≤ k) (h2 : k ≤ 31) (h3 : 1 ≤ l) (h4 : l ≤ 31) (h5 : 1 ≤ n) (h6 : n ≤ 31) : PureC Tryd.prog 3 89 [w32 x, .int .i64 (k : Int), .int .i64 (l : Int), .int .i64 (n : Int)] m (w32 (turnedW x k l n)) := by
  refine pure_of_W (fn := Tryd.f89) rfl rfl F89_ok (by simp [F89]) (plain_w32 _) ?_
  simp -implicitDefEqProofs (disch := first | omega | with_reducible assumption | (simp only [zU, zC]; omega)) only [zT, zA, reduceCtorEq, zB, zC, zD, zE, zF, zG, zH, zI, zJ, zK, zL, reduceIte, F89, kRot, amW]
  repeat refine OrW.go ?_
  rfl
theorem moved_ok (m : AMem) (x : UInt32) (k l n : Nat) (h1 : 1 ≤ k) (h2 : k ≤ 31) (h3 : 1 ≤ l) (h4 : l ≤ 31) (h5 : 1 ≤ n) (h6 : n ≤ 31) : PureC Tryd.prog 3 88 [w32 x, .int .i64 (k : Int), .int .i64 (l : Int), .int .i64 (n : Int)] m (w32 (movedW x k l n)) := by
  refine pure_of_W (fn := Tryd.f88) rfl rfl F88_ok (by simp [F88]) (plain_w32 _) ?_
  simp -implicitDefEqProofs (disch := first | omega | with_reducible assumption | (simp only [zU, zC]; omega)) only [zT, zA, reduceCtorEq, zB, zC, zD, zE, zF, zG, zH, zI, zJ, zK, zL, reduceIte, F88, kRot, amW, binV_shrw]
  repeat refine OrW.go ?_
  rfl
end Go.Proofs.YtgkmlbkocgjmmaaDoor.S
namespace Go.Proofs.YtgkmlbkocgjmmaaDoor.S
open Go Go.AM
set_option maxRecDepth 100000
set_option linter.unusedVariables false
set_option linter.unusedSimpArgs false

theorem beginW_len : beginW.length = 8 := rfl
theorem zero8 : [Value.int .u32 0, .int .u32 0, .int .u32 0, .int .u32 0, .int .u32 0, .int .u32 0, .int .u32 0, .int .u32 0] = (List.replicate 8 (0 : UInt32)).map w32 := rfl
structure Glob (m : AMem) : Prop where
  k : ∃ e sp, m.get 0 = .cells (constW.map w32) e false sp
  b : ∃ e sp, m.get 1 = .cells (beginW.map w32) e false sp
  s : 2 < m.size
theorem Glob.old {m M : AMem} (h : Glob m) (ho : Old m M) : Glob M := ⟨by rw [ho.2 _ (by have := h.s; omega)]; exact h.k, by rw [ho.2 _ (by have := h.s; omega)]; exact h.b, by have := h.s; have := ho.1; omega⟩

theorem plain_ws (l : List UInt32) : Plain (.agg (l.map w32).toArray) := .agg fun v hv => by
  simp at hv; obtain ⟨x, _, rfl⟩ := hv; exact plain_w32 _

theorem state_ok (m : AMem) (b : Nat) (s : HS) (hg : Glob m) (hs : s.ok) (hb : b < m.size) (hm : m.get b = .cells (cH s) 96 true .exact) :
    PureC Tryd.prog 3 77 [.pointer (some ⟨b, 0, none⟩)] m (.agg ((zip2 beginW s.M).map w32).toArray) := by
  refine pure_of_W (fn := Tryd.f77) rfl rfl F77_ok (by simp [F77]) (plain_ws _) ?_
  obtain ⟨eb, spb, g1⟩ := hg.b
  have gs := hg.s
  have c8 := cH_M hs
  have m8 := hs.1
  have z8 : (zip2 beginW s.M).length = 8 := zip2_length rfl m8
  have hbl := beginW_len
  simp -implicitDefEqProofs (disch := first | omega | with_reducible assumption | (simp only [zU, zC]; omega)) only [zT, zA, reduceCtorEq, zB, zC, zD, zE, zF, zG, zH, zI, zJ, zK, zL, reduceIte, F77, g1, hm, c8, cutL_all, zero8, beginW_len, cellsOf_ws]
  refine W_loop (fun N qs => ∃ (i : Nat), N = 8 - i ∧ qs.ds = [] ∧ qs.m = mx m [.cells ((List.replicate 8 (0 : UInt32)).map w32) 92 true .exact, .cells ((mix i (zip2 beginW s.M) beginW).map w32) 92 true .exact] ∧ qs.t 2 = .pointer (some ⟨m.size, 0, none⟩) ∧ qs.t 3 = .pointer (some ⟨m.size + 1, 0, none⟩) ∧ qs.t 10 = .agg (s.M.map w32).toArray ∧ qs.t 11 = .int .i64 i ∧ i ≤ 8) (8 - (0)) ⟨0, rfl, rfl, ?qm, ?q2, ?q3, ?q10, ?q11, ?_⟩ ?_
  case qm | q2 | q3 | q10 | q11 => first | rfl | (simp -implicitDefEqProofs (disch := first | omega | with_reducible assumption | (simp only [zU, zC]; omega)) only [zT, zA, reduceCtorEq, zB, zC, zD, zE, zF, zG, zH, zI, zJ, zK, zL, reduceIte, mix_zero]; first | done | rfl | (congr 1; omega))
  · omega
  · rintro N t m1 ds ⟨i, rfl, hds, hm, t2, t3, t10, t11, hp⟩
    simp only at hds hm t2 t3 t10 t11
    subst hds; replace hm := hm.symm; subst hm
    have hl := mix_length (k := i) (show (zip2 beginW s.M).length = beginW.length by rw [z8]; rfl)
    by_cases hi : (i : Int) < 8
    · have h1 := mix_get (k := i) (show (zip2 beginW s.M).length = beginW.length by rw [z8]; rfl) (by rw [beginW_len]; omega)
      have h2 := mix_set (k := i) (show (zip2 beginW s.M).length = beginW.length by rw [z8]; rfl) (by omega)
      have h3 := zip2_get (a := beginW) (b := s.M) (i := i) (by rw [beginW_len]; omega) (by omega)
      rw [h3] at h2
      simp -implicitDefEqProofs (disch := first | omega | with_reducible assumption | (simp only [zU, zC]; omega)) only [zT, zA, reduceCtorEq, zB, zC, zD, zE, zF, zG, zH, zI, zJ, zK, zL, reduceIte, F77_l0, t2, t3, t10, t11, hi, amW, h1, h2, hl, beginW_len]
      rw [LoopK_normal]; refine ⟨_, ?_, i + 1, rfl, rfl, ?qm, ?q2, ?q3, ?q10, ?q11, ?_⟩
      case qm | q2 | q3 | q10 | q11 => first | rfl | (simp -implicitDefEqProofs (disch := first | omega | with_reducible assumption | (simp only [zU, zC]; omega)) only [zT, zA, reduceCtorEq, zB, zC, zD, zE, zF, zG, zH, zI, zJ, zK, zL, reduceIte, t2, t3, t10, t11]; first | done | rfl | (congr 1; omega))
      · omega
      · omega
    · have : i = 8 := by omega
      subst this
      have h4 := mix_all z8 beginW_len
      simp -implicitDefEqProofs (disch := first | omega | with_reducible assumption | (simp only [zU, zC]; omega)) only [zT, zA, reduceCtorEq, zB, zC, zD, zE, zF, zG, zH, zI, zJ, zK, zL, reduceIte, F77_l0, t2, t3, t10, t11, h4, cutL_all, z8, cellsOf_ws]
end Go.Proofs.YtgkmlbkocgjmmaaDoor.S
namespace Go.Proofs.YtgkmlbkocgjmmaaDoor.S
open Go Go.AM
set_option maxRecDepth 100000
set_option linter.unusedVariables false
set_option linter.unusedSimpArgs false

theorem kMovedA {m : AMem} {x : UInt32} : Known Tryd.prog 3 88 [w32 x, .int .i64 17, .int .i64 19, .int .i64 10] m (w32 (movedW x 17 19 10)) m := DetC.known (moved_ok m x 17 19 10 (by omega) (by omega) (by omega) (by omega) (by omega) (by omega))
theorem kMovedB {m : AMem} {x : UInt32} : Known Tryd.prog 3 88 [w32 x, .int .i64 7, .int .i64 18, .int .i64 3] m (w32 (movedW x 7 18 3)) m := DetC.known (moved_ok m x 7 18 3 (by omega) (by omega) (by omega) (by omega) (by omega) (by omega))
theorem kTurnedA {m : AMem} {x : UInt32} : Known Tryd.prog 3 89 [w32 x, .int .i64 6, .int .i64 11, .int .i64 25] m (w32 (turnedW x 6 11 25)) m := DetC.known (turned_ok m x 6 11 25 (by omega) (by omega) (by omega) (by omega) (by omega) (by omega))
theorem kTurnedB {m : AMem} {x : UInt32} : Known Tryd.prog 3 89 [w32 x, .int .i64 2, .int .i64 13, .int .i64 22] m (w32 (turnedW x 2 13 22)) m := DetC.known (turned_ok m x 2 13 22 (by omega) (by omega) (by omega) (by omega) (by omega) (by omega))
theorem kState {m : AMem} {b : Nat} {s : HS} (hg : Glob m) (hs : s.ok) (hb : b < m.size) (hm : m.get b = .cells (cH s) 96 true .exact) : type_of% (DetC.known (state_ok m b s hg hs hb hm)) := DetC.known (state_ok m b s hg hs hb hm)

theorem zero64 : [Value.int .u32 0, .int .u32 0, .int .u32 0, .int .u32 0, .int .u32 0, .int .u32 0, .int .u32 0, .int .u32 0, .int .u32 0, .int .u32 0, .int .u32 0, .int .u32 0, .int .u32 0, .int .u32 0, .int .u32 0, .int .u32 0, .int .u32 0, .int .u32 0, .int .u32 0, .int .u32 0, .int .u32 0, .int .u32 0, .int .u32 0, .int .u32 0, .int .u32 0, .int .u32 0, .int .u32 0, .int .u32 0, .int .u32 0, .int .u32 0, .int .u32 0, .int .u32 0, .int .u32 0, .int .u32 0, .int .u32 0, .int .u32 0, .int .u32 0, .int .u32 0, .int .u32 0, .int .u32 0, .int .u32 0, .int .u32 0, .int .u32 0, .int .u32 0, .int .u32 0, .int .u32 0, .int .u32 0, .int .u32 0, .int .u32 0, .int .u32 0, .int .u32 0, .int .u32 0, .int .u32 0, .int .u32 0, .int .u32 0, .int .u32 0, .int .u32 0, .int .u32 0, .int .u32 0, .int .u32 0, .int .u32 0, .int .u32 0, .int .u32 0, .int .u32 0] = (List.replicate 64 (0 : UInt32)).map w32 := rfl
def wRow (R : List UInt8) (i : Nat) (x : UInt32) : List UInt32 := sched R i ++ (x :: List.replicate (63 - i) 0)
theorem wRow_length {R : List UInt8} {i : Nat} {x : UInt32} (h : i < 64) : (wRow R i x).length = 64 := by simp [wRow, sched_length]; omega
theorem wRow_set {R : List UInt8} {i : Nat} (x y : UInt32) : (wRow R i x).set i y = wRow R i y := by
  simp only [wRow]; rw [List.set_append_right _ _ (by rw [sched_length]; omega), sched_length]; simp
theorem wRow_at {R : List UInt8} {i : Nat} {x : UInt32} (h : i < (wRow R i x).length) : (wRow R i x)[i] = x := by
  simp only [wRow]; rw [List.getElem_append_right (by rw [sched_length]; omega)]; simp [sched_length]
theorem wRow_old {R : List UInt8} {i j : Nat} {x : UInt32} (hj : j < i) (h : j < (wRow R i x).length) : (wRow R i x)[j] = (sched R i).getD j 0 := by
  simp only [wRow]; rw [List.getElem_append_left (by rw [sched_length]; omega)]; simp [sched_length, hj]
theorem word4_next (l : List UInt8) (c : UInt8) : word4 (l ++ [c]) = shlW (word4 l) 8 ||| UInt32.ofNat c.toNat := by simp [word4]
theorem w32_of_byte (c : UInt8) : (Value.int .u32 (c.toNat : Int)) = w32 (UInt32.ofNat c.toNat) := by
  have := c.toNat_lt
  simp [w32]
theorem binV_shlw8 {k : IntKind} {x : UInt32} : binV .shl (w32 x) (.int k 8) = some (w32 (shlW x 8)) := binV_shlw (b := 8) (by omega)
def padW (R : List UInt8) (i : Nat) : List UInt32 := sched R i ++ List.replicate (64 - i) 0
theorem padW_zero (R : List UInt8) : padW R 0 = List.replicate 64 0 := rfl
theorem padW_lt {R : List UInt8} {i : Nat} (h : i < 64) : padW R i = wRow R i 0 := by
  simp only [padW, wRow]; rw [show 64 - i = (63 - i) + 1 by omega, List.replicate_succ]
theorem padW_next {R : List UInt8} {i : Nat} (h : i < 64) : wRow R i (wordAt R (sched R i) i) = padW R (i + 1) := by
  simp only [wRow, padW, sched, List.append_assoc, List.singleton_append]
  rw [show 64 - (i + 1) = 63 - i by omega]
theorem padW_all (R : List UInt8) : padW R 64 = sched R 64 := by simp [padW]

theorem sched_ok (m : AMem) (b : Nat) (s : HS) (hs : s.ok) (hb : b < m.size) (hm : m.get b = .cells (cH s) 96 true .exact) (t : Tmps) (Q : AExit → ASt → Prop)
    (t0 : t 0 = .pointer (some ⟨b, 0, none⟩)) (t2 : t 2 = .pointer (some ⟨m.size, 0, none⟩)) (t13 : t 13 = .int .i64 0)
    (h : ∀ t' : Tmps, t' 0 = .pointer (some ⟨b, 0, none⟩) → t' 2 = .pointer (some ⟨m.size, 0, none⟩) → Q (.exit 0) ⟨t', mx m [.cells ((sched s.R 64).map w32) 127 true .exact], []⟩) :
    W Tryd.prog 3 (.loop F76_l0) Q ⟨t, mx m [.cells ((List.replicate 64 (0 : UInt32)).map w32) 127 true .exact], []⟩ := by
  refine W_loop (fun N qs => ∃ (i : Nat), N = 64 - i ∧ qs.ds = [] ∧ qs.m = mx m [.cells ((padW s.R i).map w32) 127 true .exact] ∧ qs.t 0 = .pointer (some ⟨b, 0, none⟩) ∧ qs.t 2 = .pointer (some ⟨m.size, 0, none⟩) ∧ qs.t 13 = .int .i64 i ∧ i ≤ 64) (64 - (0)) ⟨0, rfl, rfl, ?qm, ?q0, ?q2, ?q13, ?_⟩ ?_
  case qm | q0 | q2 | q13 => first | rfl | (simp -implicitDefEqProofs (disch := first | omega | with_reducible assumption | (simp only [zU, zC]; omega)) only [zT, zA, reduceCtorEq, zB, zC, zD, zE, zF, zG, zH, zI, zJ, zK, zL, reduceIte, padW_zero, t0, t2, t13]; first | done | rfl | (congr 1; omega))
  · omega
  · clear t0 t2 t13
    rintro N t m1 ds ⟨i, rfl, hds, hm, t0, t2, t13, hp⟩
    simp only at hds hm t0 t2 t13
    subst hds; replace hm := hm.symm; subst hm
    by_cases hi : (i : Int) < 64
    · have hi' : i < 64 := by omega
      have hl := wRow_length (R := s.R) (x := 0) hi'
      have hn := padW_next (R := s.R) hi'
      by_cases h16 : (16 : Int) ≤ i
      · have e1 : (i : Int) - 2 = ((i - 2 : Nat) : Int) := by omega
        have e2 : (i : Int) - 7 = ((i - 7 : Nat) : Int) := by omega
        have e3 : (i : Int) - 15 = ((i - 15 : Nat) : Int) := by omega
        have e4 : (i : Int) - 16 = ((i - 16 : Nat) : Int) := by omega
        have hw : wordAt s.R (sched s.R i) i = movedW ((sched s.R i).getD (i - 2) 0) 17 19 10 + (sched s.R i).getD (i - 7) 0 + movedW ((sched s.R i).getD (i - 15) 0) 7 18 3 + (sched s.R i).getD (i - 16) 0 := by
          unfold wordAt; rw [if_neg (by omega)]
        rw [hw] at hn
        simp -implicitDefEqProofs (disch := first | omega | with_reducible assumption | (simp only [zU, zC]; omega)) only [zT, zA, reduceCtorEq, zB, zC, zD, zE, zF, zG, zH, zI, zJ, zK, zL, reduceIte, F76_l0, t0, t2, t13, hi, h16, padW_lt hi', e1, e2, e3, e4, amW, wRow_old, wRow_set, kMovedA, kMovedB]
        repeat refine OrW.go ?_
        rw [LoopK_normal]; refine ⟨_, ?_, i + 1, rfl, rfl, ?qm, ?q0, ?q2, ?q13, ?_⟩
        case qm | q0 | q2 | q13 => first | rfl | (simp -implicitDefEqProofs (disch := first | omega | with_reducible assumption | (simp only [zU, zC]; omega)) only [zT, zA, reduceCtorEq, zB, zC, zD, zE, zF, zG, zH, zI, zJ, zK, zL, reduceIte, t0, t2, t13, hn]; first | done | rfl | (congr 1; omega))
        · omega
        · omega
      · have e1 : (4 : Int) * (i : Int) = ((4 * i : Nat) : Int) := by omega
        have e2 : ((4 * i : Nat) : Int) + 4 = ((4 * i + 4 : Nat) : Int) := by omega
        have hw : wordAt s.R (sched s.R i) i = word4 ((s.R.drop (4 * i)).take 4) := by
          unfold wordAt; rw [if_pos (by omega)]
        rw [hw] at hn
        have e3 : 4 * i + 4 - 4 * i = 4 := by omega
        simp -implicitDefEqProofs (disch := first | omega | with_reducible assumption | (simp only [zU, zC]; omega)) only [zT, zA, reduceCtorEq, zB, zC, zD, zE, zF, zG, zH, zI, zJ, zK, zL, reduceIte, F76_l0, t0, t2, t13, hi, h16, padW_lt hi', e1, e2]
        refine W_loop (fun N qs => ∃ (j : Nat), N = 4 - j ∧ qs.ds = [] ∧ qs.m = mx m [.cells ((wRow s.R i (word4 ((s.R.drop (4 * i)).take j))).map w32) 127 true .exact] ∧ qs.t 0 = .pointer (some ⟨b, 0, none⟩) ∧ qs.t 2 = .pointer (some ⟨m.size, 0, none⟩) ∧ qs.t 3 = .int .i64 i ∧ qs.t 13 = .int .i64 i ∧ qs.t 49 = .slice (some ⟨b, 8 + 4 * i, none⟩) 4 (64 - 4 * i) ∧ qs.t 50 = .int .i64 4 ∧ qs.t 51 = .int .i64 j ∧ j ≤ 4) (4 - (0)) ⟨0, rfl, rfl, ?qm, ?q0, ?q2, ?q3, ?q13, ?q49, ?q50, ?q51, ?_⟩ ?_
        case qm | q0 | q2 | q3 | q13 | q49 | q50 | q51 => first | rfl | (simp -implicitDefEqProofs (disch := first | omega | with_reducible assumption | (simp only [zU, zC]; omega)) only [zT, zA, reduceCtorEq, zB, zC, zD, zE, zF, zG, zH, zI, zJ, zK, zL, reduceIte, t0, t2, t13, List.take_zero, e3]; first | done | rfl | (congr 1; omega))
        · omega
        · clear t0 t2 t13
          rintro N t m1 ds ⟨j, rfl, hds, hm, t0, t2, t3, t13, t49, t50, t51, hp⟩
          simp only at hds hm t0 t2 t3 t13 t49 t50 t51
          subst hds; replace hm := hm.symm; subst hm
          by_cases hj : (j : Int) < 4
          · have hj' : j < 4 := by omega
            have hl2 := wRow_length (R := s.R) (x := word4 ((s.R.drop (4 * i)).take j)) hi'
            have hR : (cH s)[8 + 4 * i + j]? = some (byteV (s.R[4 * i + j]'(by rw [hs.2]; omega))) := by rw [Nat.add_assoc]; exact cH_Ri hs (by omega)
            have hb4 := (s.R[4 * i + j]'(by rw [hs.2]; omega)).toNat_lt
            have hw4 := word4_next ((s.R.drop (4 * i)).take j) (s.R[4 * i + j]'(by rw [hs.2]; omega))
            have hdl : j < (s.R.drop (4 * i)).length := by rw [List.length_drop, hs.2]; omega
            have ht := List.take_succ_eq_append_getElem hdl
            rw [List.getElem_drop] at ht
            rw [← ht] at hw4
            simp -implicitDefEqProofs (disch := first | omega | with_reducible assumption | (simp only [zU, zC]; omega)) only [zT, zA, reduceCtorEq, zB, zC, zD, zE, zF, zG, zH, zI, zJ, zK, zL, reduceIte, F76_l1, t0, t2, t3, t13, t49, t50, t51, hj, hm, hR, amW, wRow_at, byteV_def, w32_of_byte, binV_shlw8, wRow_set, ← hw4]
            rw [LoopK_normal]; refine ⟨_, ?_, j + 1, rfl, rfl, ?qm, ?q0, ?q2, ?q3, ?q13, ?q49, ?q50, ?q51, ?_⟩
            case qm | q0 | q2 | q3 | q13 | q49 | q50 | q51 => first | rfl | (simp -implicitDefEqProofs (disch := first | omega | with_reducible assumption | (simp only [zU, zC]; omega)) only [zT, zA, reduceCtorEq, zB, zC, zD, zE, zF, zG, zH, zI, zJ, zK, zL, reduceIte, t0, t2, t3, t13, t49, t50, t51]; first | done | rfl | (congr 1; omega))
            · omega
            · omega
          · have hj4 : j = 4 := by omega
            subst hj4
            simp -implicitDefEqProofs (disch := first | omega | with_reducible assumption | (simp only [zU, zC]; omega)) only [zT, zA, reduceCtorEq, zB, zC, zD, zE, zF, zG, zH, zI, zJ, zK, zL, reduceIte, F76_l1, t0, t2, t3, t13, t49, t50, t51]
            rw [LoopK_normal]; refine ⟨_, ?_, i + 1, rfl, rfl, ?qm, ?q0, ?q2, ?q13, ?_⟩
            case qm | q0 | q2 | q13 => first | rfl | (simp -implicitDefEqProofs (disch := first | omega | with_reducible assumption | (simp only [zU, zC]; omega)) only [zT, zA, reduceCtorEq, zB, zC, zD, zE, zF, zG, zH, zI, zJ, zK, zL, reduceIte, t0, t2, t13, hn]; first | done | rfl | (congr 1; omega))
            · omega
            · omega
    · have h64 : i = 64 := by omega
      subst h64
      simp -implicitDefEqProofs (disch := first | omega | with_reducible assumption | (simp only [zU, zC]; omega)) only [zT, zA, reduceCtorEq, zB, zC, zD, zE, zF, zG, zH, zI, zJ, zK, zL, reduceIte, F76_l0, t0, t2, t13, padW_all]
      exact h _ (by simp -implicitDefEqProofs (disch := first | omega | with_reducible assumption | (simp only [zU, zC]; omega)) only [zT, zA, reduceCtorEq, zB, zC, zD, zE, zF, zG, zH, zI, zJ, zK, zL, reduceIte, t0, t2, t13]) (by simp -implicitDefEqProofs (disch := first | omega | with_reducible assumption | (simp only [zU, zC]; omega)) only [zT, zA, reduceCtorEq, zB, zC, zD, zE, zF, zG, zH, zI, zJ, zK, zL, reduceIte, t0, t2, t13])
end Go.Proofs.YtgkmlbkocgjmmaaDoor.S
namespace Go.Proofs.YtgkmlbkocgjmmaaDoor.S
open Go Go.AM
set_option maxRecDepth 100000
set_option linter.unusedVariables false
set_option linter.unusedSimpArgs false

theorem constW_len : constW.length = 64 := rfl
theorem block_ok (m : AMem) (b : Nat) (s : HS) (hg : Glob m) (hs : s.ok) (hb : b < m.size) (hb2 : 2 < b) (hm : m.get b = .cells (cH s) 96 true .exact) :
    DetC Tryd.prog 3 76 [.pointer (some ⟨b, 0, none⟩)] m (.tuple #[]) (mx (m.set b (.cells (cH { s with M := moreStep s.M s.R }) 96 true .exact)) []) := by
  refine set_of_W (fn := Tryd.f76) rfl rfl F76_ok (by simp [F76]) (.tuple (by simp)) (plain_cH _) ?_
  obtain ⟨ek, spk, g0⟩ := hg.k
  have gs := hg.s
  have hkl := constW_len
  have m8 := hs.1
  have z8 : (zip2 beginW s.M).length = 8 := zip2_length rfl m8
  have hsl := sched_length s.R 64
  have hst := @kState (mx m [.cells ((sched s.R 64).map w32) 127 true .exact]) b s (hg.old (Old.here _ _)) hs (by rw [mx_size]; omega) (by rw [mx_old hb]; exact hm)
  simp -implicitDefEqProofs (disch := first | omega | with_reducible assumption | (simp only [zU, zC]; omega)) only [zT, zA, reduceCtorEq, zB, zC, zD, zE, zF, zG, zH, zI, zJ, zK, zL, reduceIte, F76, zero64]
  refine sched_ok m b s hs hb hm _ _ (by simp -implicitDefEqProofs (disch := first | omega | with_reducible assumption | (simp only [zU, zC]; omega)) only [zT, zA, reduceCtorEq, zB, zC, zD, zE, zF, zG, zH, zI, zJ, zK, zL, reduceIte]) (by simp -implicitDefEqProofs (disch := first | omega | with_reducible assumption | (simp only [zU, zC]; omega)) only [zT, zA, reduceCtorEq, zB, zC, zD, zE, zF, zG, zH, zI, zJ, zK, zL, reduceIte]) (by simp -implicitDefEqProofs (disch := first | omega | with_reducible assumption | (simp only [zU, zC]; omega)) only [zT, zA, reduceCtorEq, zB, zC, zD, zE, zF, zG, zH, zI, zJ, zK, zL, reduceIte]) ?_
  intro t t0 t2
  simp -implicitDefEqProofs (disch := first | omega | with_reducible assumption | (simp only [zU, zC]; omega)) only [zT, zA, reduceCtorEq, zB, zC, zD, zE, zF, zG, zH, zI, zJ, zK, zL, reduceIte, t0, t2, hst, zero8, g0, cutL_all, amW]
  repeat refine OrW.go ?_
  refine W_loop (fun N qs => ∃ (i : Nat), N = 64 - i ∧ qs.ds = [] ∧ qs.m = mx m [.cells ((sched s.R 64).map w32) 127 true .exact, .cells ((roundsW constW s.R (zip2 beginW s.M) i).map w32) 92 true .exact] ∧ qs.t 0 = .pointer (some ⟨b, 0, none⟩) ∧ qs.t 2 = .pointer (some ⟨m.size, 0, none⟩) ∧ qs.t 6 = .pointer (some ⟨m.size + 1, 0, none⟩) ∧ qs.t 68 = .agg (constW.map w32).toArray ∧ qs.t 69 = .int .i64 i ∧ i ≤ 64) (64 - (0)) ⟨0, rfl, rfl, ?qm, ?q0, ?q2, ?q6, ?q68, ?q69, ?_⟩ ?_
  case qm | q0 | q2 | q6 | q68 | q69 => first | rfl | (simp -implicitDefEqProofs (disch := first | omega | with_reducible assumption | (simp only [zU, zC]; omega)) only [zT, zA, reduceCtorEq, zB, zC, zD, zE, zF, zG, zH, zI, zJ, zK, zL, reduceIte, t0, t2, roundsW]; first | done | rfl | (congr 1; omega))
  · omega
  · clear t0 t2
    rintro N t m1 ds ⟨i, rfl, hds, hm, t0, t2, t6, t68, t69, hp⟩
    simp only at hds hm t0 t2 t6 t68 t69
    subst hds; replace hm := hm.symm; subst hm
    by_cases hi : (i : Int) < 64
    · have hX : (roundsW constW s.R (zip2 beginW s.M) i).length = 8 := by rw [roundsW_length, z8]
      have hn : roundsW constW s.R (zip2 beginW s.M) (i + 1) = roundW (roundsW constW s.R (zip2 beginW s.M) i) (constW[i]'(by omega)) ((sched s.R 64)[i]'(by omega)) := by
        simp [roundsW, hkl, hsl, show i < 64 by omega]
      obtain ⟨x0, x1, x2, x3, x4, x5, x6, x7, hx⟩ := len8 hX
      rw [hx] at hn
      simp -implicitDefEqProofs (disch := first | omega | with_reducible assumption | (simp only [zU, zC]; omega)) only [zT, zA, reduceCtorEq, zB, zC, zD, zE, zF, zG, zH, zI, zJ, zK, zL, reduceIte, F76_l2, t0, t2, t6, t68, t69, hi, hx, amW, List.map_cons, List.map_nil, kTurnedA, kTurnedB]
      repeat refine OrW.go ?_
      simp -implicitDefEqProofs (disch := first | omega | with_reducible assumption | (simp only [zU, zC]; omega)) only [zT, zA, reduceCtorEq, zB, zC, zD, zE, zF, zG, zH, zI, zJ, zK, zL, reduceIte, stepOp_cpy, srcCells_slice, cutL, splice, List.take_succ_cons, List.take_zero, List.drop_succ_cons, List.drop_nil, List.all_cons, List.all_nil, oneCell_w, Nat.min_self, amW, List.map_cons, List.map_nil, t0, t2, t6, t68, t69]
      rw [LoopK_normal]; refine ⟨_, ?_, i + 1, rfl, rfl, ?qm, ?q0, ?q2, ?q6, ?q68, ?q69, ?_⟩
      case qm | q0 | q2 | q6 | q68 | q69 => first | rfl | (simp -implicitDefEqProofs (disch := first | omega | with_reducible assumption | (simp only [zU, zC]; omega)) only [zT, zA, reduceCtorEq, zB, zC, zD, zE, zF, zG, zH, zI, zJ, zK, zL, reduceIte, t0, t2, t6, t68, t69, hn, roundW, List.map_cons, List.map_nil]; first | done | rfl | (congr 1; omega))
      · omega
      · omega
    · have h64 : i = 64 := by omega
      subst h64
      generalize hV : roundsW constW s.R (zip2 beginW s.M) 64 = V at *
      have hV8 : V.length = 8 := by rw [← hV, roundsW_length, z8]
      have hms : moreStep s.M s.R = zip2 s.M V := by rw [moreStep, hV]
      have hset : m.set b (.cells (cH ⟨s.M, s.R, s.n⟩) 96 true .exact) = m := AMem.set_same hm
      have hzl : (zip2 s.M V).length = s.M.length := by rw [zip2_length m8 hV8, m8]
      simp -implicitDefEqProofs (disch := first | omega | with_reducible assumption | (simp only [zU, zC]; omega)) only [zT, zA, reduceCtorEq, zB, zC, zD, zE, zF, zG, zH, zI, zJ, zK, zL, reduceIte, F76_l2, t0, t2, t6, t68, t69, cutL_all]
      refine W_loop (fun N qs => ∃ (i : Nat), N = 8 - i ∧ qs.ds = [] ∧ qs.m = mx (m.set b (.cells (cH ⟨mix i (zip2 s.M V) s.M, s.R, s.n⟩) 96 true .exact)) [.cells ((sched s.R 64).map w32) 127 true .exact, .cells (V.map w32) 92 true .exact] ∧ qs.t 0 = .pointer (some ⟨b, 0, none⟩) ∧ qs.t 131 = .agg (V.map w32).toArray ∧ qs.t 132 = .int .i64 i ∧ i ≤ 8) (8 - (0)) ⟨0, rfl, rfl, ?qm, ?q0, ?q131, ?q132, ?_⟩ ?_
      case qm | q0 | q131 | q132 => first | rfl | (simp -implicitDefEqProofs (disch := first | omega | with_reducible assumption | (simp only [zU, zC]; omega)) only [zT, zA, reduceCtorEq, zB, zC, zD, zE, zF, zG, zH, zI, zJ, zK, zL, reduceIte, t0, t2, t6, t68, t69, mix_zero, hset]; first | done | rfl | (congr 1; omega))
      · omega
      · clear t0 t2 t6 t68 t69 hp hi
        rintro N t m1 ds ⟨i, rfl, hds, hm, t0, t131, t132, hp⟩
        simp only at hds hm t0 t131 t132
        subst hds; replace hm := hm.symm; subst hm
        have hok : HS.ok ⟨mix i (zip2 s.M V) s.M, s.R, s.n⟩ := ⟨by simp only; rw [mix_length hzl, m8], hs.2⟩
        have h73 := cH_length hok
        by_cases hi : (i : Int) < 8
        · have h1 := cH_Mi hok (i := i) (by omega)
          simp only at h1
          rw [mix_get hzl (by omega)] at h1
          have h2 := cH_setM hok (i := i) (by omega) (s.M[i]'(by omega) + V[i]'(by omega))
          simp only at h2
          rw [← zip2_get (by omega) (by omega), mix_set hzl (by omega)] at h2
          have h3 := zip2_get (a := s.M) (b := V) (i := i) (by omega) (by omega)
          simp -implicitDefEqProofs (disch := first | omega | with_reducible assumption | (simp only [zU, zC]; omega)) only [zT, zA, reduceCtorEq, zB, zC, zD, zE, zF, zG, zH, zI, zJ, zK, zL, reduceIte, F76_l3, t0, t131, t132, hi, amW, h1, ← h3, h2]
          rw [LoopK_normal]; refine ⟨_, ?_, i + 1, rfl, rfl, ?qm, ?q0, ?q131, ?q132, ?_⟩
          case qm | q0 | q131 | q132 => first | rfl | (simp -implicitDefEqProofs (disch := first | omega | with_reducible assumption | (simp only [zU, zC]; omega)) only [zT, zA, reduceCtorEq, zB, zC, zD, zE, zF, zG, zH, zI, zJ, zK, zL, reduceIte, t0, t131, t132]; first | done | rfl | (congr 1; omega))
          · omega
          · omega
        · have h8 : i = 8 := by omega
          subst h8
          simp -implicitDefEqProofs (disch := first | omega | with_reducible assumption | (simp only [zU, zC]; omega)) only [zT, zA, reduceCtorEq, zB, zC, zD, zE, zF, zG, zH, zI, zJ, zK, zL, reduceIte, F76_l3, t0, t131, t132, mix_all (show (zip2 s.M V).length = 8 by rw [hzl, m8]) m8, hms]
end Go.Proofs.YtgkmlbkocgjmmaaDoor.S
namespace Go.Proofs.YtgkmlbkocgjmmaaDoor.S
open Go Go.AM
set_option maxRecDepth 100000
set_option linter.unusedVariables false
set_option linter.unusedSimpArgs false

theorem put_nil (m : AMem) (v : Value) : PureC Tryd.prog 3 59 [.pointer none, v] m (.tuple #[]) := by
  refine pure_of_W (fn := Tryd.f59) rfl rfl F59_ok (by simp [F59]) (.tuple (by simp)) ?_
  simp -implicitDefEqProofs (disch := first | omega | with_reducible assumption | (simp only [zU, zC]; omega)) only [zT, zA, reduceCtorEq, zB, zC, zD, zE, zF, zG, zH, zI, zJ, zK, zL, reduceIte, F59]
  refine W_loop (fun N qs => ∃ (i : Nat), N = 0 ∧ qs.ds = [] ∧ qs.m = mx m [] ∧ qs.t 0 = .pointer none ∧ True) (0) ⟨0, rfl, rfl, ?qm, ?q0, ?_⟩ ?_
  case qm | q0 => first | rfl | (simp -implicitDefEqProofs (disch := first | omega | with_reducible assumption | (simp only [zU, zC]; omega)) only [zT, zA, reduceCtorEq, zB, zC, zD, zE, zF, zG, zH, zI, zJ, zK, zL, reduceIte]; first | done | rfl | (congr 1; omega))
  · trivial
  · rintro N t m1 ds ⟨i, rfl, hds, hm, t0, hp⟩
    simp only at hds hm t0
    subst hds; replace hm := hm.symm; subst hm
    simp -implicitDefEqProofs (disch := first | omega | with_reducible assumption | (simp only [zU, zC]; omega)) only [zT, zA, reduceCtorEq, zB, zC, zD, zE, zF, zG, zH, zI, zJ, zK, zL, reduceIte, F59_l0, t0, eqV, Option.isNone]

theorem Glob.set {m : AMem} (h : Glob m) {b : Nat} (hb : 2 < b) (o : AObj) : Glob (m.set b o) :=
  ⟨by rw [AMem.get_set_ne _ _ (by omega)]; exact h.k, by rw [AMem.get_set_ne _ _ (by omega)]; exact h.b, h.s⟩
abbrev hAt (m : AMem) (b : Nat) (s : HS) : AMem := m.set b (.cells (cH s) 96 true .exact)

theorem put_ok (m : AMem) (b : Nat) (s : HS) (hg : Glob m) (hs : s.ok) (hb : b < m.size) (hb2 : 2 < b) (hm : m.get b = .cells (cH s) 96 true .exact) (a : Option Addr) (cap : Nat) (c : List UInt8)
    (hc : BSl m a cap c) (hoff : Off a b) (hn : s.n + c.length < 2 ^ 60) :
    DetC Tryd.prog 3 59 [.pointer (some ⟨b, 0, none⟩), .slice a c.length cap] m (.tuple #[]) (mx (hAt m b (s.put c)) []) := by
  refine set_of_W (fn := Tryd.f59) rfl rfl F59_ok (by simp [F59]) (.tuple (by simp)) (plain_cH _) ?_
  have hset : m.set b (.cells (cH s) 96 true .exact) = m := AMem.set_same hm
  simp -implicitDefEqProofs (disch := first | omega | with_reducible assumption | (simp only [zU, zC]; omega)) only [zT, zA, reduceCtorEq, zB, zC, zD, zE, zF, zG, zH, zI, zJ, zK, zL, reduceIte, F59]
  refine W_loop (fun N qs => ∃ (k : Nat) (a' : Option Addr) (cap' : Nat), N = c.length - k ∧ qs.ds = [] ∧ qs.m = mx (hAt m b (s.put (c.take k))) [] ∧ qs.t 0 = .pointer (some ⟨b, 0, none⟩) ∧ qs.t 1 = .slice a' (c.drop k).length cap' ∧ k ≤ c.length ∧ BSl m a' cap' (c.drop k) ∧ Off a' b) (c.length - (0)) ⟨0, a, cap, rfl, rfl, ?qm, ?q0, ?q1, ?_⟩ ?_
  case qm | q0 | q1 => first | rfl | (simp -implicitDefEqProofs (disch := first | omega | with_reducible assumption | (simp only [zU, zC]; omega)) only [zT, zA, reduceCtorEq, zB, zC, zD, zE, zF, zG, zH, zI, zJ, zK, zL, reduceIte, List.take_zero, HS.put_nil, hset]; first | done | rfl | (congr 1; omega))
  · exact ⟨by omega, hc, hoff⟩
  · rintro N t m1 ds ⟨k, a', cap', rfl, hds, hm, t0, t1, hp⟩
    simp only at hds hm t0 t1
    subst hds; replace hm := hm.symm; subst hm
    obtain ⟨hk, hc', hoff'⟩ := hp
    have hlen : (c.drop k).length = c.length - k := List.length_drop
    by_cases hz : k = c.length
    · subst hz
      simp -implicitDefEqProofs (disch := first | omega | with_reducible assumption | (simp only [zU, zC]; omega)) only [zT, zA, reduceCtorEq, zB, zC, zD, zE, zF, zG, zH, zI, zJ, zK, zL, reduceIte, F59_l0, t0, t1, eqV, Option.isNone, List.drop_length]
    · generalize hs1 : s.put (c.take k) = s1 at *
      have hok : s1.ok := by rw [← hs1]; exact HS.put_ok hs _
      have hn1 : s1.n = s.n + k := by rw [← hs1, HS.put_n]; simp; omega
      have hpos : (0 : Int) < ((c.drop k).length : Int) := by omega
      have e1 : (s1.n : Int).tmod 64 = ((s1.n % 64 : Nat) : Int) := tmod_nat _ 64
      have h72 := cH_n hok
      have h73 := cH_length hok
      have hd := hok.2
      obtain ⟨nn, hnn⟩ : ∃ nn, nn = min (c.drop k).length (64 - s1.n % 64) := ⟨_, rfl⟩
      have hbk : b < (hAt m b s1).size := by rw [AMem.size_set]; exact hb
      have hcp := BSl.cpy (m := mx (hAt m b s1) []) ((hc'.set hoff' (.cells (cH s1) 96 true .exact)).old (M := mx (hAt m b s1) []) (Old.here _ _)) (b := b) (o := 8 + s1.n % 64) (dl := 64 - s1.n % 64) (dc := 64 - s1.n % 64) (X := cH s1) (e := 96) (sp := .exact) ((mx_old hbk).trans (AMem.get_set_self _ _ _)) (by omega) (by omega)
      rw [← hnn] at hcp
      obtain ⟨c', hcd⟩ : ∃ c', c' = (c.drop k).take nn := ⟨_, rfl⟩
      rw [← hcd] at hcp
      have hcl : c'.length = nn := by rw [hcd, List.length_take]; omega
      have hR := cH_R hok (at_ := s1.n % 64) (c := c') (by rw [hcl]; omega)
      have hok2 : HS.ok ⟨s1.M, spl s1.R (s1.n % 64) c', s1.n⟩ := ⟨hok.1, by rw [spl_length (by rw [hcl, hd]; omega), hd]⟩
      have hn2 := cH_n hok2
      have h732 := cH_length hok2
      have hsn := cH_setn hok2 (s1.n + nn)
      simp only at hR hn2 hsn
      have e3 : (s1.n : Int) + (nn : Int) = ((s1.n + nn : Nat) : Int) := by omega
      have hdd : (c.drop k).drop nn = c.drop (k + nn) := by rw [List.drop_drop]
      have htk : c.take (k + nn) = c.take k ++ c' := by rw [List.take_add, hcd]
      have hop : (c.drop k).length < openCap := openCap_lt (by omega)
      have hsl := (BSl.tail (m := mx (hAt m b ⟨s1.M, spl s1.R (s1.n % 64) c', s1.n⟩) []) (((hc'.set hoff' _).old (Old.here _ _))) hop (k := nn) (by omega)).1
      have hc3 := (BSl.tail hc' hop (k := nn) (by omega)).2
      have hoff3 := hoff'.tail cap' nn
      rw [hdd] at hc3
      by_cases hfull : ((s1.n % 64 : Nat) : Int) + (nn : Int) = 64
      · have hput : s.put (c.take (k + nn)) = ⟨moreStep s1.M (spl s1.R (s1.n % 64) c'), spl s1.R (s1.n % 64) c', s1.n + nn⟩ := by
          rw [htk, HS.put_append, hs1, HS.put_full hok (by intro h; rw [h] at hcl; simp at hcl; omega) (by rw [hcl]; omega), hcl]
        have hput2 : c.length ≤ k + nn → s.put c = ⟨moreStep s1.M (spl s1.R (s1.n % 64) c'), spl s1.R (s1.n % 64) c', s1.n + nn⟩ := fun h => by rw [List.take_of_length_le h] at hput; exact hput
        have hkb := DetC.known (block_ok (mx (hAt m b ⟨s1.M, spl s1.R (s1.n % 64) c', s1.n + nn⟩) []) b ⟨s1.M, spl s1.R (s1.n % 64) c', s1.n + nn⟩ ((hg.set hb2 _).old (Old.here _ _)) hok2 (by rw [mx_size, AMem.size_set]; omega) hb2 (by rw [mx_old (by rw [AMem.size_set]; exact hb)]; exact AMem.get_set_self _ _ _))
        simp -implicitDefEqProofs (disch := first | omega | with_reducible assumption | (simp only [zU, zC]; omega)) only [zT, zA, reduceCtorEq, zB, zC, zD, zE, zF, zG, zH, zI, zJ, zK, zL, reduceIte, F59_l0, t0, t1, eqV, Option.isNone, hpos, e1, h72, stepOp_cpy_v, hcp, hR, hn2, stepOp_slV_v, Option.map_none, hsl, e3, hsn, hfull, hkb]
        repeat refine OrW.go ?_
        rw [LoopK_normal]; refine ⟨_, ?_, k + nn, tailA a' cap' nn, tailC cap' nn, rfl, rfl, ?qm, ?q0, ?q1, ?_⟩
        case qm | q0 | q1 => first | rfl | (simp -implicitDefEqProofs (disch := first | omega | with_reducible assumption | (simp only [zU, zC]; omega)) only [zT, zA, reduceCtorEq, zB, zC, zD, zE, zF, zG, zH, zI, zJ, zK, zL, reduceIte, t0, t1, hput, hput2, hdd]; first | done | rfl | (congr 1; omega))
        · omega
        · exact ⟨by omega, hc3, hoff3⟩
      · have hput : s.put (c.take (k + nn)) = ⟨s1.M, spl s1.R (s1.n % 64) c', s1.n + nn⟩ := by
          rw [htk, HS.put_append, hs1, HS.put_fit hok (by rw [hcl]; omega), hcl]
        have hput2 : c.length ≤ k + nn → s.put c = ⟨s1.M, spl s1.R (s1.n % 64) c', s1.n + nn⟩ := fun h => by rw [List.take_of_length_le h] at hput; exact hput
        simp -implicitDefEqProofs (disch := first | omega | with_reducible assumption | (simp only [zU, zC]; omega)) only [zT, zA, reduceCtorEq, zB, zC, zD, zE, zF, zG, zH, zI, zJ, zK, zL, reduceIte, F59_l0, t0, t1, eqV, Option.isNone, hpos, e1, h72, stepOp_cpy_v, hcp, hR, hn2, stepOp_slV_v, Option.map_none, hsl, e3, hsn, hfull]
        rw [LoopK_normal]; refine ⟨_, ?_, k + nn, tailA a' cap' nn, tailC cap' nn, rfl, rfl, ?qm, ?q0, ?q1, ?_⟩
        case qm | q0 | q1 => first | rfl | (simp -implicitDefEqProofs (disch := first | omega | with_reducible assumption | (simp only [zU, zC]; omega)) only [zT, zA, reduceCtorEq, zB, zC, zD, zE, zF, zG, zH, zI, zJ, zK, zL, reduceIte, t0, t1, hput, hput2, hdd]; first | done | rfl | (congr 1; omega))
        · omega
        · exact ⟨by omega, hc3, hoff3⟩
end Go.Proofs.YtgkmlbkocgjmmaaDoor.S
namespace Go.Proofs.YtgkmlbkocgjmmaaDoor.S
open Go Go.AM
set_option maxRecDepth 100000
set_option linter.unusedVariables false
set_option linter.unusedSimpArgs false

def zerosN (n : Nat) : Nat := (119 - n % 64) % 64
def lenB (n : Nat) : List UInt8 := (List.range 8).map fun k => UInt8.ofNat ((8 * n) >>> (56 - 8 * k))
theorem lenB_length (n : Nat) : (lenB n).length = 8 := by simp [lenB]
def padA (j : Nat) : List UInt8 := match j with | 0 => [] | j + 1 => 128 :: List.replicate j 0
theorem padA_succ (j : Nat) : padA (j + 1) = padA j ++ [if j = 0 then 128 else 0] := by
  cases j with
  | zero => rfl
  | succ j => simp only [padA]; rw [List.replicate_succ']; simp
theorem padA_length (j : Nat) : (padA j).length = j := by cases j <;> simp [padA]
def padB (n : Nat) : List UInt8 := padA (1 + zerosN n) ++ lenB n
def dig (S : List UInt32) : List UInt8 := (List.range 32).map fun p => UInt8.ofNat ((S.getD (p / 4) 0).toNat >>> (24 - 8 * (p % 4)))
theorem dig_length (S : List UInt32) : (dig S).length = 32 := by simp [dig]
def sumOf (s : HS) : List UInt8 := dig (zip2 beginW (s.put (padB s.n)).M)
theorem sumOf_length (s : HS) : (sumOf s).length = 32 := dig_length _

theorem zero73 : [Value.int .u32 0, .int .u32 0, .int .u32 0, .int .u32 0, .int .u32 0, .int .u32 0, .int .u32 0, .int .u32 0, .int .u8 0, .int .u8 0, .int .u8 0, .int .u8 0, .int .u8 0, .int .u8 0, .int .u8 0, .int .u8 0, .int .u8 0, .int .u8 0, .int .u8 0, .int .u8 0, .int .u8 0, .int .u8 0, .int .u8 0, .int .u8 0, .int .u8 0, .int .u8 0, .int .u8 0, .int .u8 0, .int .u8 0, .int .u8 0, .int .u8 0, .int .u8 0, .int .u8 0, .int .u8 0, .int .u8 0, .int .u8 0, .int .u8 0, .int .u8 0, .int .u8 0, .int .u8 0, .int .u8 0, .int .u8 0, .int .u8 0, .int .u8 0, .int .u8 0, .int .u8 0, .int .u8 0, .int .u8 0, .int .u8 0, .int .u8 0, .int .u8 0, .int .u8 0, .int .u8 0, .int .u8 0, .int .u8 0, .int .u8 0, .int .u8 0, .int .u8 0, .int .u8 0, .int .u8 0, .int .u8 0, .int .u8 0, .int .u8 0, .int .u8 0, .int .u8 0, .int .u8 0, .int .u8 0, .int .u8 0, .int .u8 0, .int .u8 0, .int .u8 0, .int .u8 0, .int .u64 0] = cH hs0 := rfl
theorem zero32 : [Value.int .u8 0, .int .u8 0, .int .u8 0, .int .u8 0, .int .u8 0, .int .u8 0, .int .u8 0, .int .u8 0, .int .u8 0, .int .u8 0, .int .u8 0, .int .u8 0, .int .u8 0, .int .u8 0, .int .u8 0, .int .u8 0, .int .u8 0, .int .u8 0, .int .u8 0, .int .u8 0, .int .u8 0, .int .u8 0, .int .u8 0, .int .u8 0, .int .u8 0, .int .u8 0, .int .u8 0, .int .u8 0, .int .u8 0, .int .u8 0, .int .u8 0, .int .u8 0] = (List.replicate 32 (0 : UInt8)).map byteV := rfl
theorem one_cH (s : HS) : (cH s).all oneCell = true := by simp [cH, oneCell, w32, byteV]
theorem cellsOf_cH (s : HS) : cellsOf (.agg (cH s).toArray) = some (cH s) := by
  simp only [cellsOf]; rw [if_pos (one_cH s)]
theorem put1_known (m : AMem) (d : AObj) (s : HS) (g : List AObj) (c : UInt8) (hg : Glob m) (hs : s.ok) (hn : s.n + 1 < 2 ^ 60) :
    Known Tryd.prog 3 59 [.pointer (some ⟨m.size + 1, 0, none⟩), .slice (some ⟨m.size + (g.length + 1 + 1), 0, none⟩) 1 1] (mx m (d :: .cells (cH s) 96 true .exact :: (g ++ [.cells [.int .u8 (c.toNat : Int)] 5 true .exact]))) (.tuple #[])
      (mx m (d :: .cells (cH (s.put [c])) 96 true .exact :: (g ++ [.cells [.int .u8 (c.toNat : Int)] 5 true .exact]))) := by
  have gs := hg.s
  have h := put_ok (mx m (d :: .cells (cH s) 96 true .exact :: (g ++ [.cells [.int .u8 (c.toNat : Int)] 5 true .exact]))) (m.size + 1) s (hg.old (Old.here _ _)) hs (by rw [mx_size]; simp) (by omega) (mx_new _ _ 1)
    (some ⟨m.size + (g.length + 1 + 1), 0, none⟩) 1 [c] (.inr ⟨_, _, [.int .u8 (c.toNat : Int)], 5, true, .exact, rfl, by rw [mx_size]; simp, by rw [mx_new]; simp, rfl, .inr ⟨openCap_lt (by omega), Nat.le_refl _⟩⟩)
    (fun x o hx => by cases hx; omega) hn
  have e : mx (hAt (mx m (d :: .cells (cH s) 96 true .exact :: (g ++ [.cells [.int .u8 (c.toNat : Int)] 5 true .exact]))) (m.size + 1) (s.put [c])) [] = mx m (d :: .cells (cH (s.put [c])) 96 true .exact :: (g ++ [.cells [.int .u8 (c.toNat : Int)] 5 true .exact])) := by
    simp -implicitDefEqProofs (disch := first | omega | with_reducible assumption | (simp only [zU, zC]; omega)) only [zT, zA, reduceCtorEq, zB, zC, zD, zE, zF, zG, zH, zI, zJ, zK, zL, reduceIte]
  rw [e] at h
  exact DetC.known h
end Go.Proofs.YtgkmlbkocgjmmaaDoor.S
namespace Go.Proofs.YtgkmlbkocgjmmaaDoor.S
open Go Go.AM
set_option maxRecDepth 100000
set_option linter.unusedVariables false
set_option linter.unusedSimpArgs false

theorem lenB_take {n k : Nat} (hk : k < 8) : (lenB n).take (k + 1) = (lenB n).take k ++ [UInt8.ofNat ((8 * n) >>> (56 - 8 * k))] := by
  rw [List.take_succ_eq_append_getElem (by rw [lenB_length]; exact hk)]; simp [lenB]
theorem u8n (x : Nat) : IntKind.u8.wrap (x : Int) = ((UInt8.ofNat x).toNat : Int) := by simp [IntKind.wrap, IntKind.bits, IntKind.signed]
theorem dig_get {S : List UInt32} (hS : S.length = 8) {i k : Nat} (hi : i < 8) (hk : k < 4) : (dig S)[4 * i + k]'(by rw [dig_length]; omega) = UInt8.ofNat ((S[i]'(by omega)).toNat >>> (24 - 8 * k)) := by
  simp only [dig, List.getElem_map, List.getElem_range]
  rw [show (4 * i + k) / 4 = i by omega, show (4 * i + k) % 4 = k by omega]
  simp [hS, hi]
theorem sumM_ok (m : AMem) (b : Nat) (s : HS) (hg : Glob m) (hs : s.ok) (hb : b < m.size) (hm : m.get b = .cells (cH s) 96 true .exact) (hn : s.n < 2 ^ 59) :
    PureC Tryd.prog 3 60 [.pointer (some ⟨b, 0, none⟩)] m (.agg ((sumOf s).map byteV).toArray) := by
  refine pure_of_W (fn := Tryd.f60) rfl rfl F60_ok (by simp [F60]) (.bytes _) ?_
  have gs := hg.s
  have h73 := cH_all hs
  have hl := cH_length hs
  have hl0 := cH_length hs0_ok
  have h72 := cH_n hs
  simp -implicitDefEqProofs (disch := first | omega | with_reducible assumption | (simp only [zU, zC]; omega)) only [zT, zA, reduceCtorEq, zB, zC, zD, zE, zF, zG, zH, zI, zJ, zK, zL, reduceIte, F60, eqV, Option.isNone, hm, h73, zero73, cellsOf_cH, zero32, h72]
  refine W_loop (fun N qs => ∃ (j : Nat) (g : List AObj), N = 1 + zerosN s.n - j ∧ qs.ds = [] ∧ qs.m = mx m (.cells ((List.replicate 32 (0 : UInt8)).map byteV) 52 true .exact :: .cells (cH (s.put (padA j))) 96 true .exact :: g) ∧ qs.t 2 = .pointer (some ⟨m.size, 0, none⟩) ∧ qs.t 3 = .pointer (some ⟨m.size + 1, 0, none⟩) ∧ qs.t 4 = .int .u64 (8 * s.n : Nat) ∧ qs.t 5 = .int .u8 (if j = 0 then 128 else 0) ∧ j ≤ 1 + zerosN s.n) (1 + zerosN s.n - (0)) ⟨0, [], rfl, rfl, ?qm, ?q2, ?q3, ?q4, ?q5, ?_⟩ ?_
  case qm | q2 | q3 | q4 | q5 => first | rfl | (simp -implicitDefEqProofs (disch := first | omega | with_reducible assumption | (simp only [zU, zC]; omega)) only [zT, zA, reduceCtorEq, zB, zC, zD, zE, zF, zG, zH, zI, zJ, zK, zL, reduceIte, padA, HS.put_nil]; first | done | rfl | (congr 1; omega))
  · omega
  · rintro N t m1 ds ⟨j, g, rfl, hds, hm, t2, t3, t4, t5, hp⟩
    simp only at hds hm t2 t3 t4 t5
    subst hds; replace hm := hm.symm; subst hm
    have hok : (s.put (padA j)).ok := HS.put_ok hs _
    have hnj : (s.put (padA j)).n = s.n + j := by rw [HS.put_n, padA_length]
    have h72j := cH_n hok
    have h73j := cH_length hok
    rw [hnj] at h72j
    have e1 : ((s.n + j : Nat) : Int).tmod 64 = (((s.n + j) % 64 : Nat) : Int) := tmod_nat _ 64
    have hz : zerosN s.n = (119 - s.n % 64) % 64 := rfl
    by_cases hj : j = 1 + zerosN s.n
    · have h56 : (((s.n + j) % 64 : Nat) : Int) = 56 := by rw [hj, hz]; omega
      have hj0 : ¬ j = 0 := by omega
      rw [if_neg hj0] at t5
      simp -implicitDefEqProofs (disch := first | omega | with_reducible assumption | (simp only [zU, zC]; omega)) only [zT, zA, reduceCtorEq, zB, zC, zD, zE, zF, zG, zH, zI, zJ, zK, zL, reduceIte, F60_l0, t2, t3, t4, t5, h72j, e1, h56]
      refine W_loop (fun N qs => ∃ (k : Nat) (g : List AObj), N = 8 - k ∧ qs.ds = [] ∧ qs.m = mx m (.cells ((List.replicate 32 (0 : UInt8)).map byteV) 52 true .exact :: .cells (cH (s.put (padA (1 + zerosN s.n) ++ (lenB s.n).take k))) 96 true .exact :: g) ∧ qs.t 2 = .pointer (some ⟨m.size, 0, none⟩) ∧ qs.t 3 = .pointer (some ⟨m.size + 1, 0, none⟩) ∧ qs.t 4 = .int .u64 (8 * s.n : Nat) ∧ qs.t 6 = .int .i64 (56 - 8 * (k : Int)) ∧ k ≤ 8) (8 - (0)) ⟨0, g, rfl, rfl, ?qm, ?q2, ?q3, ?q4, ?q6, ?_⟩ ?_
      case qm | q2 | q3 | q4 | q6 => first | rfl | (simp -implicitDefEqProofs (disch := first | omega | with_reducible assumption | (simp only [zU, zC]; omega)) only [zT, zA, reduceCtorEq, zB, zC, zD, zE, zF, zG, zH, zI, zJ, zK, zL, reduceIte, t2, t3, t4, t5, List.take_zero, List.append_nil, ← hj]; first | done | rfl | (congr 1; omega))
      · omega
      · clear t2 t3 t4 t5 h72j h73j hnj hok e1 h56 hj0 hj hp
        rintro N t m1 ds ⟨k, g, rfl, hds, hm, t2, t3, t4, t6, hp⟩
        simp only at hds hm t2 t3 t4 t6
        subst hds; replace hm := hm.symm; subst hm
        have hok : (s.put (padA (1 + zerosN s.n) ++ (lenB s.n).take k)).ok := HS.put_ok hs _
        by_cases hk : (0 : Int) ≤ 56 - 8 * (k : Int)
        · have hk8 : k < 8 := by omega
          have e2 : shr .u64 ((8 * s.n : Nat) : Int) (56 - 8 * (k : Int)) = (((8 * s.n) >>> (56 - 8 * k) : Nat) : Int) := by
            rw [show (56 : Int) - 8 * (k : Int) = ((56 - 8 * k : Nat) : Int) by omega]; exact shr_nat _ _ _ (by simp [IntKind.bits]; omega)
          have hkn := put1_known m (.cells ((List.replicate 32 (0 : UInt8)).map byteV) 52 true .exact) (s.put (padA (1 + zerosN s.n) ++ (lenB s.n).take k)) g (UInt8.ofNat ((8 * s.n) >>> (56 - 8 * k))) hg hok
            (by rw [HS.put_n, List.length_append, padA_length, List.length_take, lenB_length]; omega)
          have hpa : (s.put (padA (1 + zerosN s.n) ++ (lenB s.n).take k)).put [UInt8.ofNat ((8 * s.n) >>> (56 - 8 * k))] = s.put (padA (1 + zerosN s.n) ++ (lenB s.n).take (k + 1)) := by
            rw [lenB_take hk8, ← List.append_assoc, HS.put_append _ _ [_]]
          rw [hpa] at hkn
          simp -implicitDefEqProofs (disch := first | omega | with_reducible assumption | (simp only [zU, zC]; omega)) only [zT, zA, reduceCtorEq, zB, zC, zD, zE, zF, zG, zH, zI, zJ, zK, zL, reduceIte, F60_l1, t2, t3, t4, t6, hk, e2, u8n, hkn]
          repeat refine OrW.go ?_
          rw [LoopK_normal]; refine ⟨_, ?_, k + 1, g ++ [.cells [.int .u8 ((UInt8.ofNat ((8 * s.n) >>> (56 - 8 * k))).toNat : Int)] 5 true .exact], rfl, rfl, ?qm, ?q2, ?q3, ?q4, ?q6, ?_⟩
          case qm | q2 | q3 | q4 | q6 => first | rfl | (simp -implicitDefEqProofs (disch := first | omega | with_reducible assumption | (simp only [zU, zC]; omega)) only [zT, zA, reduceCtorEq, zB, zC, zD, zE, zF, zG, zH, zI, zJ, zK, zL, reduceIte, t2, t3, t4, t6]; first | done | rfl | (congr 1; omega))
          · omega
          · omega
        · have hk8 : k = 8 := by omega
          subst hk8
          have hpb : padA (1 + zerosN s.n) ++ (lenB s.n).take 8 = padB s.n := by rw [List.take_of_length_le (by rw [lenB_length]; omega)]; rfl
          rw [hpb] at hok
          generalize hS : zip2 beginW (s.put (padB s.n)).M = S at *
          have hS8 : S.length = 8 := by rw [← hS]; exact zip2_length rfl hok.1
          have hsum : sumOf s = dig S := by rw [sumOf, hS]
          have hst := @kState (mx m (.cells ((List.replicate 32 (0 : UInt8)).map byteV) 52 true .exact :: .cells (cH (s.put (padB s.n))) 96 true .exact :: g)) (m.size + 1) (s.put (padB s.n)) (hg.old (Old.here _ _)) hok (by rw [mx_size]; simp) (mx_new _ _ 1)
          rw [hS] at hst
          simp -implicitDefEqProofs (disch := first | omega | with_reducible assumption | (simp only [zU, zC]; omega)) only [zT, zA, reduceCtorEq, zB, zC, zD, zE, zF, zG, zH, zI, zJ, zK, zL, reduceIte, F60_l1, t2, t3, t4, t6, hk, hpb, hst]
          repeat refine OrW.go ?_
          refine W_loop (fun N qs => ∃ (i : Nat), N = 8 - i ∧ qs.ds = [] ∧ qs.m = mx m (.cells ((mix (4 * i) (dig S) (List.replicate 32 (0 : UInt8))).map byteV) 52 true .exact :: .cells (cH (s.put (padB s.n))) 96 true .exact :: g) ∧ qs.t 2 = .pointer (some ⟨m.size, 0, none⟩) ∧ qs.t 40 = .agg (S.map w32).toArray ∧ qs.t 41 = .int .i64 i ∧ i ≤ 8) (8 - (0)) ⟨0, rfl, rfl, ?qm, ?q2, ?q40, ?q41, ?_⟩ ?_
          case qm | q2 | q40 | q41 => first | rfl | (simp -implicitDefEqProofs (disch := first | omega | with_reducible assumption | (simp only [zU, zC]; omega)) only [zT, zA, reduceCtorEq, zB, zC, zD, zE, zF, zG, zH, zI, zJ, zK, zL, reduceIte, mix_zero, t2, t3, t4, t6]; first | done | rfl | (congr 1; omega))
          · omega
          · clear t2 t3 t4 t6 hk hp hst
            rintro N t m1 ds ⟨i, rfl, hds, hm, t2, t40, t41, hp⟩
            simp only at hds hm t2 t40 t41
            subst hds; replace hm := hm.symm; subst hm
            by_cases hi : (i : Int) < 8
            · have hi8 : i < 8 := by omega
              obtain ⟨x, hx⟩ : ∃ x, x = S[i]'(by omega) := ⟨_, rfl⟩
              simp -implicitDefEqProofs (disch := first | omega | with_reducible assumption | (simp only [zU, zC]; omega)) only [zT, zA, reduceCtorEq, zB, zC, zD, zE, zF, zG, zH, zI, zJ, zK, zL, reduceIte, F60_l2, t2, t40, t41, hi, ws_get, ← hx]
              refine W_loop (fun N qs => ∃ (k : Nat), N = 4 - k ∧ qs.ds = [] ∧ qs.m = mx m (.cells ((mix (4 * i + k) (dig S) (List.replicate 32 (0 : UInt8))).map byteV) 52 true .exact :: .cells (cH (s.put (padB s.n))) 96 true .exact :: g) ∧ qs.t 2 = .pointer (some ⟨m.size, 0, none⟩) ∧ qs.t 7 = .int .i64 i ∧ qs.t 8 = .int .u32 (x.toNat : Int) ∧ qs.t 40 = .agg (S.map w32).toArray ∧ qs.t 41 = .int .i64 i ∧ qs.t 45 = .int .i64 k ∧ k ≤ 4) (4 - (0)) ⟨0, rfl, rfl, ?qm, ?q2, ?q7, ?q8, ?q40, ?q41, ?q45, ?_⟩ ?_
              case qm | q2 | q7 | q8 | q40 | q41 | q45 => first | rfl | (simp -implicitDefEqProofs (disch := first | omega | with_reducible assumption | (simp only [zU, zC]; omega)) only [zT, zA, reduceCtorEq, zB, zC, zD, zE, zF, zG, zH, zI, zJ, zK, zL, reduceIte, t2, t40, t41, w32_def]; first | done | rfl | (congr 1; omega))
              · omega
              · clear t2 t40 t41
                rintro N t m1 ds ⟨k, rfl, hds, hm, t2, t7, t8, t40, t41, t45, hp⟩
                simp only at hds hm t2 t7 t8 t40 t41 t45
                subst hds; replace hm := hm.symm; subst hm
                have hml : (mix (4 * i + k) (dig S) (List.replicate 32 (0 : UInt8))).length = 32 := by rw [mix_length (by rw [dig_length]; rfl)]; rfl
                by_cases hk : (k : Int) < 4
                · have hk4 : k < 4 := by omega
                  have e1 : (4 : Int) * (i : Int) + (k : Int) = ((4 * i + k : Nat) : Int) := by omega
                  have e2 : shr .u32 (x.toNat : Int) (24 - 8 * (k : Int)) = ((x.toNat >>> (24 - 8 * k) : Nat) : Int) := by
                    rw [show (24 : Int) - 8 * (k : Int) = ((24 - 8 * k : Nat) : Int) by omega]; exact shr_nat _ _ _ (by simp [IntKind.bits]; omega)
                  have e3 := mix_set (k := 4 * i + k) (X := dig S) (B := List.replicate 32 (0 : UInt8)) (by rw [dig_length]; rfl) (by rw [dig_length]; omega)
                  rw [dig_get hS8 hi8 hk4, ← hx] at e3
                  have e4 := map_set_byte (mix (4 * i + k) (dig S) (List.replicate 32 (0 : UInt8))) (4 * i + k) (UInt8.ofNat (x.toNat >>> (24 - 8 * k)))
                  rw [e3, byteV_def] at e4
                  simp -implicitDefEqProofs (disch := first | omega | with_reducible assumption | (simp only [zU, zC]; omega)) only [zT, zA, reduceCtorEq, zB, zC, zD, zE, zF, zG, zH, zI, zJ, zK, zL, reduceIte, F60_l3, t2, t7, t8, t40, t41, t45, hk, e1, e2, u8n, e4]
                  rw [LoopK_normal]; refine ⟨_, ?_, k + 1, rfl, rfl, ?qm, ?q2, ?q7, ?q8, ?q40, ?q41, ?q45, ?_⟩
                  case qm | q2 | q7 | q8 | q40 | q41 | q45 => first | rfl | (simp -implicitDefEqProofs (disch := first | omega | with_reducible assumption | (simp only [zU, zC]; omega)) only [zT, zA, reduceCtorEq, zB, zC, zD, zE, zF, zG, zH, zI, zJ, zK, zL, reduceIte, t2, t7, t8, t40, t41, t45]; first | done | rfl | (congr 1; omega))
                  · omega
                  · omega
                · have hk4 : k = 4 := by omega
                  subst hk4
                  simp -implicitDefEqProofs (disch := first | omega | with_reducible assumption | (simp only [zU, zC]; omega)) only [zT, zA, reduceCtorEq, zB, zC, zD, zE, zF, zG, zH, zI, zJ, zK, zL, reduceIte, F60_l3, t2, t7, t8, t40, t41, t45, hk]
                  rw [LoopK_normal]; refine ⟨_, ?_, i + 1, rfl, rfl, ?qm, ?q2, ?q40, ?q41, ?_⟩
                  case qm | q2 | q40 | q41 => first | rfl | (simp -implicitDefEqProofs (disch := first | omega | with_reducible assumption | (simp only [zU, zC]; omega)) only [zT, zA, reduceCtorEq, zB, zC, zD, zE, zF, zG, zH, zI, zJ, zK, zL, reduceIte, t2, t7, t8, t40, t41, t45]; first | done | rfl | (congr 1; omega))
                  · omega
                  · omega
            · have hi8 : i = 8 := by omega
              subst hi8
              have hmx := mix_all (k := 32) (X := dig S) (B := List.replicate 32 (0 : UInt8)) (dig_length _) rfl
              have hdl := dig_length S
              simp -implicitDefEqProofs (disch := first | omega | with_reducible assumption | (simp only [zU, zC]; omega)) only [zT, zA, reduceCtorEq, zB, zC, zD, zE, zF, zG, zH, zI, zJ, zK, zL, reduceIte, F60_l2, t2, t40, t41, hmx, cutL_all, hsum]
    · have hk := put1_known m (.cells ((List.replicate 32 (0 : UInt8)).map byteV) 52 true .exact) (s.put (padA j)) g (if j = 0 then 128 else 0) hg hok (by omega)
      have hpa : (s.put (padA j)).put [if j = 0 then 128 else 0] = s.put (padA (j + 1)) := by rw [padA_succ, HS.put_append]
      rw [hpa] at hk
      by_cases hj0 : j = 0
      · subst hj0
        simp only [if_true] at hk t5
        have h8 : ((128 : UInt8).toNat : Int) = 128 := rfl
        rw [h8] at hk
        rw [Nat.add_zero] at e1 h72j
        by_cases h56 : ((s.n % 64 : Nat) : Int) = 56
        · simp -implicitDefEqProofs (disch := first | omega | with_reducible assumption | (simp only [zU, zC]; omega)) only [zT, zA, reduceCtorEq, zB, zC, zD, zE, zF, zG, zH, zI, zJ, zK, zL, reduceIte, F60_l0, t2, t3, t4, t5, h72j, e1, h56, hk]
          repeat refine OrW.go ?_
          rw [LoopK_normal]; refine ⟨_, ?_, 0 + 1, g ++ [.cells [.int .u8 128] 5 true .exact], rfl, rfl, ?qm, ?q2, ?q3, ?q4, ?q5, ?_⟩
          case qm | q2 | q3 | q4 | q5 => first | rfl | (simp -implicitDefEqProofs (disch := first | omega | with_reducible assumption | (simp only [zU, zC]; omega)) only [zT, zA, reduceCtorEq, zB, zC, zD, zE, zF, zG, zH, zI, zJ, zK, zL, reduceIte, t2, t3, t4, t5]; first | done | rfl | (congr 1; omega))
          · omega
          · omega
        · simp -implicitDefEqProofs (disch := first | omega | with_reducible assumption | (simp only [zU, zC]; omega)) only [zT, zA, reduceCtorEq, zB, zC, zD, zE, zF, zG, zH, zI, zJ, zK, zL, reduceIte, F60_l0, t2, t3, t4, t5, h72j, e1, h56, hk]
          repeat refine OrW.go ?_
          rw [LoopK_normal]; refine ⟨_, ?_, 0 + 1, g ++ [.cells [.int .u8 128] 5 true .exact], rfl, rfl, ?qm, ?q2, ?q3, ?q4, ?q5, ?_⟩
          case qm | q2 | q3 | q4 | q5 => first | rfl | (simp -implicitDefEqProofs (disch := first | omega | with_reducible assumption | (simp only [zU, zC]; omega)) only [zT, zA, reduceCtorEq, zB, zC, zD, zE, zF, zG, zH, zI, zJ, zK, zL, reduceIte, t2, t3, t4, t5]; first | done | rfl | (congr 1; omega))
          · omega
          · omega
      · have h56 : ¬ (((s.n + j) % 64 : Nat) : Int) = 56 := by omega
        simp only [if_neg hj0] at hk t5
        have h8 : ((0 : UInt8).toNat : Int) = 0 := rfl
        rw [h8] at hk
        simp -implicitDefEqProofs (disch := first | omega | with_reducible assumption | (simp only [zU, zC]; omega)) only [zT, zA, reduceCtorEq, zB, zC, zD, zE, zF, zG, zH, zI, zJ, zK, zL, reduceIte, F60_l0, t2, t3, t4, t5, h72j, e1, h56, hk]
        repeat refine OrW.go ?_
        rw [LoopK_normal]; refine ⟨_, ?_, j + 1, g ++ [.cells [.int .u8 0] 5 true .exact], rfl, rfl, ?qm, ?q2, ?q3, ?q4, ?q5, ?_⟩
        case qm | q2 | q3 | q4 | q5 => first | rfl | (simp -implicitDefEqProofs (disch := first | omega | with_reducible assumption | (simp only [zU, zC]; omega)) only [zT, zA, reduceCtorEq, zB, zC, zD, zE, zF, zG, zH, zI, zJ, zK, zL, reduceIte, t2, t3, t4, t5]; first | done | rfl | (congr 1; omega))
        · omega
        · omega
end Go.Proofs.YtgkmlbkocgjmmaaDoor.S
namespace Go.Proofs.YtgkmlbkocgjmmaaDoor.S
open Go Go.AM
set_option maxRecDepth 100000
set_option linter.unusedVariables false
set_option linter.unusedSimpArgs false

/-! sha.Sum -/
def shaR (l : List UInt8) : List UInt8 := sumOf (hs0.put l)
theorem shaR_length (l : List UInt8) : (shaR l).length = 32 := sumOf_length _
theorem sum_ok (m : AMem) (a : Option Addr) (cap : Nat) (c : List UInt8) (hg : Glob m) (hc : BSl m a cap c) (hn : c.length < 2 ^ 58) :
    PureC Tryd.prog 3 35 [.slice a c.length cap] m (.agg ((shaR c).map byteV).toArray) := by
  refine pure_of_W (fn := Tryd.f35) rfl rfl F35_ok (by simp [F35]) (.bytes _) ?_
  have gs := hg.s
  have h1 := DetC.known (put_ok (mx m [.cells ((List.replicate 32 (0 : UInt8)).map byteV) 52 true .exact, .cells (cH hs0) 96 true .exact]) (m.size + 1) hs0 (hg.old (Old.here _ _)) hs0_ok (by rw [mx_size]; simp) (by omega) (mx_new _ _ 1) a cap c (hc.old (Old.here _ _)) (hc.off (by omega)) (by simp [hs0]; omega))
  have hok : (hs0.put c).ok := HS.put_ok hs0_ok _
  have h2 := DetC.known (sumM_ok (mx m [.cells ((List.replicate 32 (0 : UInt8)).map byteV) 52 true .exact, .cells (cH (hs0.put c)) 96 true .exact]) (m.size + 1) (hs0.put c) (hg.old (Old.here _ _)) hok (by rw [mx_size]; simp) (mx_new _ _ 1) (by rw [HS.put_n]; simp [hs0]; omega))
  have hl := sumOf_length (hs0.put c)
  simp -implicitDefEqProofs (disch := first | omega | with_reducible assumption | (simp only [zU, zC]; omega)) only [zT, zA, reduceCtorEq, zB, zC, zD, zE, zF, zG, zH, zI, zJ, zK, zL, reduceIte, F35, zero73, zero32, h1, h2, cutL_all]
  repeat refine OrW.go ?_
  rfl

/-! The reference. -/
def hexs : List UInt8 := [48, 49, 50, 51, 52, 53, 54, 55, 56, 57, 97, 98, 99, 100, 101, 102]
def dgB (c : UInt8) : UInt8 := if c ∈ hexs then UInt8.ofNat (hexs.idxOf c) else 16
theorem hexs_at (i : Nat) (h : i < 16) : (⟨#[48, 49, 50, 51, 52, 53, 54, 55, 56, 57, 97, 98, 99, 100, 101, 102]⟩ : ByteArray)[i]? = some (hexs[i]'h) := by
  have : ∀ i : Fin 16, (⟨#[48, 49, 50, 51, 52, 53, 54, 55, 56, 57, 97, 98, 99, 100, 101, 102]⟩ : ByteArray)[i.val]? = some (hexs[i.val]'i.isLt) := by decide +kernel
  exact this ⟨i, h⟩
theorem dgB_at (i : Nat) (h : i < 16) : dgB (hexs[i]'h) = UInt8.ofNat i := by
  have : ∀ i : Fin 16, dgB (hexs[i.val]'i.isLt) = UInt8.ofNat i.val := by decide +kernel
  exact this ⟨i, h⟩
theorem dgB_none {c : UInt8} (h : ∀ i (h : i < 16), hexs[i]'h ≠ c) : dgB c = 16 := by
  unfold dgB; rw [if_neg]
  intro hm
  obtain ⟨i, hi, he⟩ := List.getElem_of_mem hm
  exact h i hi he
theorem digit_ok (m : AMem) (c : UInt8) : PureC Tryd.prog 3 79 [byteV c] m (byteV (dgB c)) := by
  refine pure_of_W (fn := Tryd.f79) rfl rfl F79_ok (by simp [F79]) (.int _ _) ?_
  simp -implicitDefEqProofs (disch := first | omega | with_reducible assumption | (simp only [zU, zC]; omega)) only [zT, zA, reduceCtorEq, zB, zC, zD, zE, zF, zG, zH, zI, zJ, zK, zL, reduceIte, F79, byteV_def]
  refine W_loop (fun N qs => ∃ (i : Nat), N = 16 - i ∧ qs.ds = [] ∧ qs.m = mx m [] ∧ qs.t 0 = .int .u8 (c.toNat : Int) ∧ qs.t 3 = .int .u8 i ∧ i ≤ 16 ∧ ∀ j (h : j < 16), j < i → hexs[j]'h ≠ c) (16 - (0)) ⟨0, rfl, rfl, ?qm, ?q0, ?q3, ?_⟩ ?_
  case qm | q0 | q3 => first | rfl | (simp -implicitDefEqProofs (disch := first | omega | with_reducible assumption | (simp only [zU, zC]; omega)) only [zT, zA, reduceCtorEq, zB, zC, zD, zE, zF, zG, zH, zI, zJ, zK, zL, reduceIte]; first | done | rfl | (congr 1; omega))
  · exact ⟨by omega, by omega⟩
  · rintro N t m1 ds ⟨i, rfl, hds, hm, t0, t3, hp⟩
    simp only at hds hm t0 t3
    subst hds; replace hm := hm.symm; subst hm
    obtain ⟨hi16, hne⟩ := hp
    by_cases hi : (i : Int) < 16
    · have hi' : i < 16 := by omega
      have hs := hexs_at i hi'
      by_cases he : ((hexs[i]'hi').toNat : Int) = c.toNat
      · have hc : c = hexs[i]'hi' := (UInt8.toNat_inj.1 (by exact_mod_cast he)).symm
        have hd := dgB_at i hi'
        rw [← hc] at hd
        have h16 : (UInt8.ofNat i).toNat = i := by simp; omega
        simp -implicitDefEqProofs (disch := first | omega | with_reducible assumption | (simp only [zU, zC]; omega)) only [zT, zA, reduceCtorEq, zB, zC, zD, zE, zF, zG, zH, zI, zJ, zK, zL, reduceIte, F79_l0, t0, t3, hi, hs, he, hd, h16]
      · simp -implicitDefEqProofs (disch := first | omega | with_reducible assumption | (simp only [zU, zC]; omega)) only [zT, zA, reduceCtorEq, zB, zC, zD, zE, zF, zG, zH, zI, zJ, zK, zL, reduceIte, F79_l0, t0, t3, hi, hs, he]
        rw [LoopK_normal]; refine ⟨_, ?_, i + 1, rfl, rfl, ?qm, ?q0, ?q3, ?_⟩
        case qm | q0 | q3 => first | rfl | (simp -implicitDefEqProofs (disch := first | omega | with_reducible assumption | (simp only [zU, zC]; omega)) only [zT, zA, reduceCtorEq, zB, zC, zD, zE, zF, zG, zH, zI, zJ, zK, zL, reduceIte, t0, t3]; first | done | rfl | (congr 1; omega))
        · omega
        · refine ⟨by omega, fun j hj hji => ?_⟩
          by_cases hje : j = i
          · subst hje; intro hc; exact he (by rw [hc])
          · exact hne j hj (by omega)
    · have hd : dgB c = 16 := dgB_none fun j hj => hne j hj (by omega)
      simp -implicitDefEqProofs (disch := first | omega | with_reducible assumption | (simp only [zU, zC]; omega)) only [zT, zA, reduceCtorEq, zB, zC, zD, zE, zF, zG, zH, zI, zJ, zK, zL, reduceIte, F79_l0, t0, t3, hi, hd]
      rfl
theorem message_ok (m : AMem) (a : Option Addr) (cap : Nat) (c : List UInt8) (hc : BSl m a cap c) (hn : c.length ≤ 1000000) :
    DetC Tryd.prog 3 63 [.slice a c.length cap] m (.slice (some ⟨m.size, 0, none⟩) (c ++ padB c.length).length openCap) (mx m [.cells ((c ++ padB c.length).map byteV) 5 true (.room [.int .u8 0])]) := by
  refine det_of_W (fn := Tryd.f63) rfl rfl F63_ok (by simp [F63]) ?_
  have hstr := (hc.old (Old.here m [])).str
  simp -implicitDefEqProofs (disch := first | omega | with_reducible assumption | (simp only [zU, zC]; omega)) only [zT, zA, reduceCtorEq, zB, zC, zD, zE, zF, zG, zH, zI, zJ, zK, zL, reduceIte, F63, stepOp_b2s_v, hstr]
  have hlen : ∀ j, ((c ++ padA j).map byteV).length = c.length + j := fun j => by rw [List.length_map, List.length_append, padA_length]
  have hlen2 : ∀ k, k ≤ 8 → ((c ++ padA (1 + zerosN c.length) ++ (lenB c.length).take k).map byteV).length = c.length + (1 + zerosN c.length) + k := fun k hk => by
    rw [List.length_map, List.length_append, List.length_append, padA_length, List.length_take, lenB_length]; omega
  refine W_loop (fun N qs => ∃ (j : Nat) (M : AMem) (av : Option Addr) (cv : Nat), N = 1 + zerosN c.length - j ∧ qs.ds = [] ∧ qs.m = mx M [] ∧ qs.t 0 = .slice a c.length cap ∧ qs.t 3 = .slice av (c.length + j) cv ∧ 1 ≤ j ∧ j ≤ 1 + zerosN c.length ∧ Old m M ∧ Buf m M (.slice av (c.length + j) cv) ((c ++ padA j).map byteV) 5 (.int .u8 0)) (1 + zerosN c.length - (1)) ⟨1, mx m [.cells ((c ++ padA 1).map byteV) 5 true (.room [.int .u8 0])], some ⟨m.size, 0, none⟩, openCap, rfl, rfl, ?qm, ?q0, ?q3, ?_⟩ ?_
  case qm | q0 | q3 => first | rfl | (simp -implicitDefEqProofs (disch := first | omega | with_reducible assumption | (simp only [zU, zC]; omega)) only [zT, zA, reduceCtorEq, zB, zC, zD, zE, zF, zG, zH, zI, zJ, zK, zL, reduceIte, padA, List.replicate_zero]; first | done | rfl | (congr 1; omega))
  · refine ⟨by omega, by omega, Old.here _ _, .inr ⟨m.size, Nat.le_refl _, by rw [mx_size]; simp, by rw [hlen], mx_new0 _ _⟩⟩
  · rintro N t m1 ds ⟨j, M, av, cv, rfl, hds, hm, t0, t3, hp⟩
    simp only at hds hm t0 t3
    subst hds; replace hm := hm.symm; subst hm
    obtain ⟨hj1, hjJ, hO, hB⟩ := hp
    have hz : zerosN c.length = (119 - c.length % 64) % 64 := rfl
    have e1 : ((c.length + j : Nat) : Int).tmod 64 = (((c.length + j) % 64 : Nat) : Int) := tmod_nat _ 64
    by_cases hj : j = 1 + zerosN c.length
    · have h56 : (((c.length + j) % 64 : Nat) : Int) = 56 := by rw [hj, hz]; omega
      simp -implicitDefEqProofs (disch := first | omega | with_reducible assumption | (simp only [zU, zC]; omega)) only [zT, zA, reduceCtorEq, zB, zC, zD, zE, zF, zG, zH, zI, zJ, zK, zL, reduceIte, F63_l0, t0, t3, e1, h56]
      subst hj
      refine W_loop (fun N qs => ∃ (k : Nat) (M : AMem) (av : Option Addr) (cv : Nat), N = 8 - k ∧ qs.ds = [] ∧ qs.m = mx M [] ∧ qs.t 3 = .slice av (c.length + (1 + zerosN c.length) + k) cv ∧ qs.t 4 = .int .u64 (8 * c.length : Nat) ∧ qs.t 5 = .int .i64 (7 - (k : Int)) ∧ k ≤ 8 ∧ Old m M ∧ Buf m M (.slice av (c.length + (1 + zerosN c.length) + k) cv) ((c ++ padA (1 + zerosN c.length) ++ (lenB c.length).take k).map byteV) 5 (.int .u8 0)) (8 - (0)) ⟨0, M, av, cv, rfl, rfl, ?qm, ?q3, ?q4, ?q5, ?_⟩ ?_
      case qm | q3 | q4 | q5 => first | rfl | (simp -implicitDefEqProofs (disch := first | omega | with_reducible assumption | (simp only [zU, zC]; omega)) only [zT, zA, reduceCtorEq, zB, zC, zD, zE, zF, zG, zH, zI, zJ, zK, zL, reduceIte, t0, t3]; first | done | rfl | (congr 1; omega))
      · exact ⟨by omega, hO, by rw [List.take_zero, List.append_nil]; exact hB⟩
      · clear t0 t3 hB hO hjJ hj1 e1 h56
        rintro N t m1 ds ⟨k, M, av, cv, rfl, hds, hm, t3, t4, t5, hp⟩
        simp only at hds hm t3 t4 t5
        subst hds; replace hm := hm.symm; subst hm
        obtain ⟨hk8, hO, hB⟩ := hp
        by_cases hk : (0 : Int) ≤ 7 - (k : Int)
        · have e2 : shr .u64 ((8 * c.length : Nat) : Int) (8 * (7 - (k : Int))) = (((8 * c.length) >>> (56 - 8 * k) : Nat) : Int) := by
            rw [show (8 : Int) * (7 - (k : Int)) = ((56 - 8 * k : Nat) : Int) by omega]; exact shr_nat _ _ _ (by simp [IntKind.bits]; omega)
          obtain ⟨v', M', happ, hB', hF⟩ := hB.app1 (e2 := 5) (x := .int .u8 ((UInt8.ofNat ((8 * c.length) >>> (56 - 8 * k))).toNat : Int)) (bytes := 1) hO.1 rfl rfl (by rw [hlen2 k hk8]; omega) (by rw [hlen2 k hk8]; omega)
          have hO' := hO.fr hF hB.new
          have hnx : (c ++ padA (1 + zerosN c.length) ++ (lenB c.length).take k).map byteV ++ [.int .u8 ((UInt8.ofNat ((8 * c.length) >>> (56 - 8 * k))).toNat : Int)] = (c ++ padA (1 + zerosN c.length) ++ (lenB c.length).take (k + 1)).map byteV := by
            rw [lenB_take (by omega), ← List.append_assoc, List.map_append (l₁ := c ++ padA (1 + zerosN c.length) ++ (lenB c.length).take k)]; rfl
          rw [hnx] at hB'
          obtain ⟨av', cv', rfl⟩ := hB'.len
          rw [hlen2 (k + 1) (by omega)] at happ hB'
          simp -implicitDefEqProofs (disch := first | omega | with_reducible assumption | (simp only [zU, zC]; omega)) only [zT, zA, reduceCtorEq, zB, zC, zD, zE, zF, zG, zH, zI, zJ, zK, zL, reduceIte, F63_l1, t3, t4, t5, hk, e2, u8n, stepOp_app_v, happ]
          rw [LoopK_normal]; refine ⟨_, ?_, k + 1, M', av', cv', rfl, rfl, ?qm, ?q3, ?q4, ?q5, ?_⟩
          case qm | q3 | q4 | q5 => first | rfl | (simp -implicitDefEqProofs (disch := first | omega | with_reducible assumption | (simp only [zU, zC]; omega)) only [zT, zA, reduceCtorEq, zB, zC, zD, zE, zF, zG, zH, zI, zJ, zK, zL, reduceIte, t3, t4, t5]; first | done | rfl | (congr 1; omega))
          · omega
          · exact ⟨by omega, hO', hB'⟩
        · have hk8 : k = 8 := by omega
          subst hk8
          have hpb : c ++ padA (1 + zerosN c.length) ++ (lenB c.length).take 8 = c ++ padB c.length := by rw [List.take_of_length_le (by rw [lenB_length]; omega), List.append_assoc]; rfl
          rw [hpb] at hB
          simp -implicitDefEqProofs (disch := first | omega | with_reducible assumption | (simp only [zU, zC]; omega)) only [zT, zA, reduceCtorEq, zB, zC, zD, zE, zF, zG, zH, zI, zJ, zK, zL, reduceIte, F63_l1, t3, t4, t5, hk]
          intro _
          have := hB.kept hO (by simp [padB, padA, Nat.add_comm 1]) (plain_byteV _)
          simp only [List.length_map, List.length_append] at this ⊢
          exact this
    · have h56 : ¬ (((c.length + j) % 64 : Nat) : Int) = 56 := by omega
      obtain ⟨v', M', happ, hB', hF⟩ := hB.app1 (e2 := 5) (x := .int .u8 0) (bytes := 1) hO.1 rfl rfl (by rw [hlen]; omega) (by rw [hlen]; omega)
      have hO' := hO.fr hF hB.new
      have hnx : (c ++ padA j).map byteV ++ [.int .u8 0] = (c ++ padA (j + 1)).map byteV := by
        rw [padA_succ, if_neg (by omega), ← List.append_assoc, List.map_append (l₁ := c ++ padA j)]; rfl
      rw [hnx] at hB'
      obtain ⟨av', cv', rfl⟩ := hB'.len
      rw [hlen] at happ hB'
      simp -implicitDefEqProofs (disch := first | omega | with_reducible assumption | (simp only [zU, zC]; omega)) only [zT, zA, reduceCtorEq, zB, zC, zD, zE, zF, zG, zH, zI, zJ, zK, zL, reduceIte, F63_l0, t0, t3, e1, h56, stepOp_app_v, happ]
      rw [LoopK_normal]; refine ⟨_, ?_, j + 1, M', av', cv', rfl, rfl, ?qm, ?q0, ?q3, ?_⟩
      case qm | q0 | q3 => first | rfl | (simp -implicitDefEqProofs (disch := first | omega | with_reducible assumption | (simp only [zU, zC]; omega)) only [zT, zA, reduceCtorEq, zB, zC, zD, zE, zF, zG, zH, zI, zJ, zK, zL, reduceIte, t0, t3]; first | done | rfl | (congr 1; omega))
      · omega
      · exact ⟨by omega, by omega, hO', hB'⟩
end Go.Proofs.YtgkmlbkocgjmmaaDoor.S
namespace Go.Proofs.YtgkmlbkocgjmmaaDoor
open Go Go.AM
set_option linter.unusedVariables false
set_option linter.unusedSimpArgs false
set_option maxHeartbeats 2000000
set_option maxRecDepth 100000

def dnameR (d : DrvR) : List UInt8 × Int := if rightR d = true then N.nameR (S.shaR (putB d)) (d.name ++ [46, 100, 114, 118]) else ([], 2)
theorem putB_len {d : DrvR} (hd : d.ok) (hr : rightR d = true) : (putB d).length ≤ 10000000 := by
  obtain ⟨f1, f2, f3⟩ := right_few hr
  have := insB_len hd.inputs d.inputs.length (Nat.le_refl _)
  simp only [putB, List.length_append, textB_len, numB_len, headB, List.length_cons, List.length_nil]; omega
theorem dname_ok (m : AMem) (d : DrvR) (a : Option Addr) (c : Nat) (hg : S.Glob m) (hd : d.ok) (ha : StrR m a d.inputs) :
    RelC Tryd.prog 3 14 [.agg (dRow d a c).toArray] m fun r m' => r = .tuple #[.string ⟨(dnameR d).1.toArray⟩, .int .i64 (dnameR d).2] ∧ Old m m' := by
  refine rel_of_W (fn := Tryd.f14) rfl rfl F14_ok (by simp [F14]) ?_
  have hp := put_ok (mx m [.cells (dRow d a c) 24 true .exact]) d a c hd (ha.old (Old.here _ _))
  have hgS := hg.s
  simp only [dRow] at hp
  repeat first | simp -implicitDefEqProofs (disch := first | omega | with_reducible assumption | (simp only [zU, zC]; omega)) only [zT, zA, reduceCtorEq, zB, zC, zD, zE, zF, zG, zH, zI, zJ, zK, zL, reduceIte, F14, dRow, cellsOf_dRow, cutL3] | refine OrW.go ?_
  refine RelC.call hp ?_
  rintro r M1 ⟨hO, hr⟩
  have hOm : Old m M1 := (Old.here m _).trans hO
  have hz := hO.1
  rw [mx_size] at hz
  simp only [List.length_cons, List.length_nil, Nat.zero_add] at hz
  have hb : M1.get m.size = .cells [.string ⟨d.name.toArray⟩, .slice a d.inputs.length c, .string ⟨d.recipe.toArray⟩] 24 true .exact := by rw [hO.2 _ (by rw [mx_size]; simp)]; exact mx_new0 _ _
  cases hri : rightR d with
  | false =>
    rw [hri] at hr
    simp only [Bool.false_eq_true, if_false] at hr
    subst hr
    have e : dnameR d = ([], 2) := by simp [dnameR, hri]
    rw [e]
    repeat first | simp -implicitDefEqProofs (disch := first | omega | with_reducible assumption | (simp only [zU, zC]; omega)) only [zT, zA, reduceCtorEq, zB, zC, zD, zE, zF, zG, zH, zI, zJ, zK, zL, reduceIte] | refine OrW.go ?_
    exact ⟨_, rfl, fun _ => ⟨rfl, hOm.mx []⟩⟩
  | true =>
    rw [hri] at hr
    simp only [if_true] at hr
    obtain ⟨a', c', rfl, hB⟩ := hr
    have e : dnameR d = N.nameR (S.shaR (putB d)) (d.name ++ [46, 100, 114, 118]) := by simp [dnameR, hri]
    rw [e]
    have hl := putB_len hd hri
    have hn := (right_few hri).1
    have k35 := DetC.known (S.sum_ok (mx M1 []) a' c' (putB d) ((hg.old hOm).old (Old.here _ [])) (hB.old (Old.here _ [])) (by omega))
    have k34 := @N.kName (mx M1 []) (d.name ++ [46, 100, 114, 118]) (S.shaR (putB d)) (S.shaR_length _) (by rw [List.length_append]; simp; omega)
    repeat first | simp -implicitDefEqProofs (disch := first | omega | with_reducible assumption | (simp only [zU, zC]; omega)) only [zT, zA, reduceCtorEq, zB, zC, zD, zE, zF, zG, zH, zI, zJ, zK, zL, reduceIte, hb, k35, k34] | refine OrW.go ?_
    exact ⟨_, rfl, fun _ => ⟨rfl, hOm.mx []⟩⟩
end Go.Proofs.YtgkmlbkocgjmmaaDoor
namespace Go.Proofs.YtgkmlbkocgjmmaaDoor
open Go Go.AM
set_option linter.unusedVariables false
set_option linter.unusedSimpArgs false
set_option maxHeartbeats 2000000
set_option maxRecDepth 100000

theorem cut_one {X : List Value} {o : Nat} {v : Value} (h : X[o]? = some v) : cutL X o 1 = some [v] := by
  obtain ⟨ho, h⟩ := List.getElem?_eq_some_iff.1 h
  unfold cutL
  rw [if_pos (by omega), List.drop_eq_getElem_cons ho, h]; rfl
theorem strR_at (M : AMem) (l : List AObj) (k : Nat) {ls : List (List UInt8)} {X : List Value} {e : TypeId} {w : Bool} {sp : Spare} (h : l[k]? = some (.cells X e w sp)) (hX : X.take ls.length = ls.map sV) : StrR (mx M l) (some ⟨M.size + k, 0, none⟩) ls := fun i hi => by
  have hk : k < l.length := (List.getElem?_eq_some_iff.1 h).1
  have hg : (mx M l).get (M.size + k) = .cells X e w sp := by rw [mx_new]; simp [List.getD, h]
  refine ⟨_, _, rfl, by rw [mx_size]; omega, ?_⟩
  rw [hg, rdO_cells, Nat.zero_add]
  refine cut_one ?_
  have h1 : (X.take ls.length)[i]? = (ls.map sV)[i]? := by rw [hX]
  rw [List.getElem?_take, if_pos hi] at h1
  rw [h1]; simp [hi, sV]
theorem src_at (M : AMem) (l : List AObj) (k : Nat) {ls : List (List UInt8)} {e : TypeId} {w : Bool} {sp : Spare} (h : l[k]? = some (.cells (ls.map sV) e w sp)) : Src (mx M l) (some ⟨M.size + k, 0, none⟩) ls := by
  have hk : k < l.length := (List.getElem?_eq_some_iff.1 h).1
  have hg : (mx M l).get (M.size + k) = .cells (ls.map sV) e w sp := by rw [mx_new]; simp [List.getD, h]
  exact .inr ⟨_, _, rfl, by rw [mx_size]; omega, by rw [hg, rdO_cells]; exact cutL_all (by simp)⟩
theorem intR_at (M : AMem) (l : List AObj) (k : Nat) {ls : List Nat} {e : TypeId} {w : Bool} {sp : Spare} (h : l[k]? = some (.cells (ls.map iV) e w sp)) : IntR (mx M l) (some ⟨M.size + k, 0, none⟩) ls := by
  have hk : k < l.length := (List.getElem?_eq_some_iff.1 h).1
  have hg : (mx M l).get (M.size + k) = .cells (ls.map iV) e w sp := by rw [mx_new]; simp [List.getD, h]
  exact intR_cells (by rw [mx_size]; omega) hg
def wN : List (List UInt8) := [[97], [98], [99], [100]]
def wD : List (List (List UInt8)) := [[[98], [99]], [[99]], [], [[100]]]
def wX : DrvR := ⟨[120], [], []⟩
def wO (z : Nat) : List AObj := [.cells (wN.map sV) 9 true .exact, .cells ([[98], [99]].map sV) 9 true .exact, .cells ([[99]].map sV) 9 true .exact, .cells ([[100]].map sV) 9 true .exact,
  .cells [.slice (some ⟨z + 1, 0, none⟩) 2 2, .slice (some ⟨z + 2, 0, none⟩) 1 1, .slice none 0 0, .slice (some ⟨z + 3, 0, none⟩) 1 1] 22 true .exact]
theorem w_names (m : AMem) : StrR (mx m (wO m.size)) (some ⟨m.size, 0, none⟩) wN := strR_at m (wO m.size) 0 rfl rfl
theorem w_names3 (m : AMem) : StrR (mx m (wO m.size)) (some ⟨m.size, 0, none⟩) (wN.take 3) := strR_at m (wO m.size) 0 rfl rfl
theorem w_needs (m : AMem) : NeedsR (mx m (wO m.size)) (some ⟨m.size + 4, 0, none⟩) wD := fun i hi => by
  have hl : m.size + 4 < (mx m (wO m.size)).size := by rw [mx_size]; simp [wO]
  have hg := mx_new m (wO m.size) 4
  have r1 := src_at m (wO m.size) 1 (ls := [[98], [99]]) rfl
  have r2 := src_at m (wO m.size) 2 (ls := [[99]]) rfl
  have r3 := src_at m (wO m.size) 3 (ls := [[100]]) rfl
  match i, hi with
  | 0, _ => exact ⟨_, _, some ⟨m.size + 1, 0, none⟩, 2, rfl, hl, by rw [hg]; rfl, r1, by simp [wD]⟩
  | 1, _ => exact ⟨_, _, some ⟨m.size + 2, 0, none⟩, 1, rfl, hl, by rw [hg]; rfl, r2, by simp [wD]⟩
  | 2, _ => exact ⟨_, _, none, 0, rfl, hl, by rw [hg]; rfl, .inl ⟨rfl, rfl⟩, by simp [wD]⟩
  | 3, _ => exact ⟨_, _, some ⟨m.size + 3, 0, none⟩, 1, rfl, hl, by rw [hg]; rfl, r3, by simp [wD]⟩
theorem w_sort4 : sortR wN wD = ([], 240) := by decide +kernel
theorem w_sort3 : sortR (wN.take 3) wD = ([2, 1, 0], 0) := by decide +kernel
theorem w_clos1 : closR wN wD [[98]] = ([1, 2], 0) := by
  have h0 := CInv.init wN wD [[98]]
  have h1 := h0.take (k := 1) (by decide +kernel)
  have e1 : ([] : List (List UInt8)) ++ rowOf wD 1 = [[99]] := rfl
  rw [e1] at h1
  have h2 := h1.take (k := 2) (by decide +kernel)
  have e2 : ([] : List (List UInt8)) ++ rowOf wD 2 = [] := rfl
  rw [e2] at h2
  have e3 := closO_of h2
  unfold closR
  rw [if_pos (by decide +kernel), e3]; decide +kernel
theorem w_clos2 : closR wN wD [[100], [120]] = ([3], 0) := by
  have h0 := CInv.init wN wD [[100], [120]]
  have h1 := h0.take (k := 3) (by decide +kernel)
  have e1 : [[120]] ++ rowOf wD 3 = [[120], [100]] := rfl
  rw [e1] at h1
  have h2 := h1.skip fun k hk => by
    rw [show plR wN [120] = none by decide +kernel] at hk; cases hk
  have h3 := h2.skip fun k hk => by
    rw [show plR wN [100] = some 3 by decide +kernel] at hk; cases hk; decide +kernel
  have e3 := closO_of h3
  unfold closR
  rw [if_pos (by decide +kernel), e3]; decide +kernel
theorem w_right : rightR wX = true := by decide +kernel
theorem w_put : putB wX = [68, 82, 86, 49, 0, 0, 0, 1, 120, 0, 0, 0, 0, 0, 0] := by decide +kernel
theorem w_get : getR (putB wX) = (wX, 0) := by kernel_rfl
theorem w_name : (dnameR wX).2 = 0 ∧ (dnameR wX).1.length = 38 := by
  have e : dnameR wX = N.nameR (S.shaR (putB wX)) [120, 46, 100, 114, 118] := by simp only [dnameR, w_right, if_true]; rfl
  have hr : N.rightB [120, 46, 100, 114, 118] = true := by decide +kernel
  rw [e]
  simp [N.nameR, hr, N.lettersOf_length]
theorem w_ok : wX.ok := ⟨by decide, by decide, by decide, by decide⟩
theorem w_sl (a : Nat) (M : AMem) : slVv 1 (.slice (some ⟨a, 0, none⟩) 4 4) none (some (.int .i64 3)) none M = some (.slice (some ⟨a, 0, none⟩) 3 4, M) := by
  have h : ¬ (4 : Nat) = openCap := openCap_ne (by omega)
  simp only [slVv, if_neg h]; rfl
theorem w_rows : ∀ i, (rowOf wD i).length ≤ 1000
  | 0 => by simp [rowOf, wD]
  | 1 => by simp [rowOf, wD]
  | 2 => by simp [rowOf, wD]
  | 3 => by simp [rowOf, wD]
  | n + 4 => by simp [rowOf, wD, List.getD]
theorem same_w {M : AMem} {v : Value} {l : List Nat} (h : IntB M v l) (hl : l.length ≤ 100) (objs : List AObj) (k q : Nat) (hk : objs[k]? = some (.cells (l.map iV) 3 true .exact)) (hq : q = M.size + k) : Known Tryd.prog 3 24 [v, .slice (some ⟨q, 0, none⟩) l.length l.length] (mx M objs) (.bool true) (mx M objs) := by
  obtain ⟨a, c, rfl⟩ := h.len
  subst hq
  have h2 := intR_at M objs k hk
  have := DetC.known (sameInts_ok (mx M objs) a c l (h.row.old (Old.here _ _)) (some ⟨M.size + k, 0, none⟩) l.length l h2 (by omega) (by omega))
  simpa using this
theorem works_ok (m : AMem) (hg : S.Glob m) : PureC Tryd.prog 3 11 [] m (.bool true) := by
  refine pure_of_W (fn := Tryd.f11) rfl rfl F11_ok (by simp [F11]) (.bool _) ?_
  repeat first | simp -implicitDefEqProofs (disch := first | omega | with_reducible assumption | (simp only [zU, zC]; omega)) only [zT, zA, reduceCtorEq, zB, zC, zD, zE, zF, zG, zH, zI, zJ, zK, zL, reduceIte, F11] | refine OrW.go ?_
  refine RelC.call (sort_ok (mx m (wO m.size)) (some ⟨m.size, 0, none⟩) 4 wN (w_names m) (by decide) (some ⟨m.size + 4, 0, none⟩) 4 wD (w_needs m) (by decide)) ?_
  rintro r M1 ⟨hz1, v1, rfl, hI1⟩
  simp only [w_sort4] at hI1 ⊢
  repeat first | simp -implicitDefEqProofs (disch := first | omega | with_reducible assumption | (simp only [zU, zC]; omega)) only [zT, zA, reduceCtorEq, zB, zC, zD, zE, zF, zG, zH, zI, zJ, zK, zL, reduceIte, stepOp_slV_v, w_sl] | refine OrW.go ?_
  refine RelC.call (sort_ok (mx M1 []) (some ⟨m.size, 0, none⟩) 4 (wN.take 3) ((w_names3 m).old (hz1.mx [])) (by decide) (some ⟨m.size + 4, 0, none⟩) 4 wD ((w_needs m).old (hz1.mx [])) (by decide)) ?_
  rintro r M2 ⟨hO2, v2, rfl, hI2⟩
  simp only [w_sort3] at hI2 ⊢
  have hz2 : Old (mx m (wO m.size)) M2 := hz1.trans ((Old.here _ _).trans hO2)
  repeat first | simp -implicitDefEqProofs (disch := first | omega | with_reducible assumption | (simp only [zU, zC]; omega)) only [zT, zA, reduceCtorEq, zB, zC, zD, zE, zF, zG, zH, zI, zJ, zK, zL, reduceIte] | refine OrW.go ?_
  refine RelC.call (closure_ok (mx M2 [.cells ([[98]].map sV) 9 true .exact]) (some ⟨m.size, 0, none⟩) 4 wN ((w_names m).old (hz2.mx _)) (by decide) (some ⟨m.size + 4, 0, none⟩) 4 wD ((w_needs m).old (hz2.mx _)) (by decide) (some ⟨M2.size, 0, none⟩) 1 [[98]] (src_at M2 _ 0 rfl) (by decide) w_rows) ?_
  rintro r M3 ⟨hO3, v3, rfl, hI3⟩
  simp only [w_clos1] at hI3 ⊢
  have hy3 : Old M2 M3 := (Old.here _ _).trans hO3
  have hz3 := hz2.trans hy3
  repeat first | simp -implicitDefEqProofs (disch := first | omega | with_reducible assumption | (simp only [zU, zC]; omega)) only [zT, zA, reduceCtorEq, zB, zC, zD, zE, zF, zG, zH, zI, zJ, zK, zL, reduceIte] | refine OrW.go ?_
  refine RelC.call (closure_ok (mx M3 [.cells ([[100], [120]].map sV) 9 true .exact]) (some ⟨m.size, 0, none⟩) 4 wN ((w_names m).old (hz3.mx _)) (by decide) (some ⟨m.size + 4, 0, none⟩) 4 wD ((w_needs m).old (hz3.mx _)) (by decide) (some ⟨M3.size, 0, none⟩) 2 [[100], [120]] (src_at M3 _ 0 rfl) (by decide) w_rows) ?_
  rintro r M4 ⟨hO4, v4, rfl, hI4⟩
  simp only [w_clos2] at hI4 ⊢
  have hy4 : Old M3 M4 := (Old.here _ _).trans hO4
  have hz4 := hz3.trans hy4
  repeat first | simp -implicitDefEqProofs (disch := first | omega | with_reducible assumption | (simp only [zU, zC]; omega)) only [zT, zA, reduceCtorEq, zB, zC, zD, zE, zF, zG, zH, zI, zJ, zK, zL, reduceIte] | refine OrW.go ?_
  refine RelC.call (put_ok (mx M4 []) wX none 0 w_ok (fun i h => by cases h)) ?_
  rintro r M5 ⟨hO5, hr5⟩
  rw [w_right, if_pos rfl] at hr5
  obtain ⟨a5, c5, rfl, hB5⟩ := hr5
  have hy5 : Old M4 M5 := (Old.here _ _).trans hO5
  repeat first | simp -implicitDefEqProofs (disch := first | omega | with_reducible assumption | (simp only [zU, zC]; omega)) only [zT, zA, reduceCtorEq, zB, zC, zD, zE, zF, zG, zH, zI, zJ, zK, zL, reduceIte] | refine OrW.go ?_
  refine RelC.call (get_ok (mx M5 []) a5 c5 (putB wX) (hB5.old (Old.here _ _)) (by decide +kernel)) ?_
  rintro r M6 ⟨hO6, a6, c6, rfl, hS6⟩
  have hy6 : Old M5 M6 := (Old.here _ _).trans hO6
  simp only [w_get] at hS6 ⊢
  repeat first | simp -implicitDefEqProofs (disch := first | omega | with_reducible assumption | (simp only [zU, zC]; omega)) only [zT, zA, reduceCtorEq, zB, zC, zD, zE, zF, zG, zH, zI, zJ, zK, zL, reduceIte, dRow, cellsOf_dRow, cutL3, splice3] | refine OrW.go ?_
  have hz6 := hz4.trans (hy5.trans hy6)
  have hgm : Old m M6 := (Old.here m _).trans hz6
  refine RelC.call (dname_ok (mx M6 [.cells (dRow wX a6 c6) 24 true .exact]) wX a6 c6 (hg.old (hgm.mx _)) w_ok (hS6.old (Old.here _ _))) ?_
  rintro r M7 ⟨rfl, hO7⟩
  obtain ⟨n1, n2⟩ := w_name
  rw [n1]
  have hy7 : Old M6 M7 := (Old.here _ _).trans hO7
  have hl6 : M6.size < M7.size := by have := hO7.1; rw [mx_size] at this; simp at this; omega
  have hb6 : M7.get M6.size = .cells (dRow wX a6 c6) 24 true .exact := by rw [hO7.2 _ (by rw [mx_size]; simp)]; exact mx_new0 _ _
  simp only [dRow] at hb6
  have q2 : IntB M7 v2 [2, 1, 0] := hI2.old (hy3.trans (hy4.trans (hy5.trans (hy6.trans hy7))))
  have q3 : IntB M7 v3 [1, 2] := hI3.old (hy4.trans (hy5.trans (hy6.trans hy7)))
  have q4 : IntB M7 v4 [3] := hI4.old (hy5.trans (hy6.trans hy7))
  have s2 := same_w q2 (by decide) [.cells [.int .i64 2, .int .i64 1, .int .i64 0] 3 true .exact] 0 M7.size rfl rfl
  have s3 := same_w q3 (by decide) [.cells [.int .i64 2, .int .i64 1, .int .i64 0] 3 true .exact, .cells [.int .i64 1, .int .i64 2] 3 true .exact] 1 (M7.size + 1) rfl rfl
  have s4 := same_w q4 (by decide) [.cells [.int .i64 2, .int .i64 1, .int .i64 0] 3 true .exact, .cells [.int .i64 1, .int .i64 2] 3 true .exact, .cells [.int .i64 3] 3 true .exact] 2 (M7.size + 2) rfl rfl
  simp only [List.length_cons, List.length_nil, Nat.zero_add, zC] at s2 s3 s4
  have hS7 : StrR M7 a6 wX.inputs := (hS6.old (Old.refl _)).old hy7
  have hB7 : BSl M7 a5 c5 (putB wX) := hB5.old (hy6.trans hy7)
  have hstr := (hB7.old (Old.here M7 [.cells [.int .i64 2, .int .i64 1, .int .i64 0] 3 true .exact, .cells [.int .i64 1, .int .i64 2] 3 true .exact, .cells [.int .i64 3] 3 true .exact])).str
  have e1 : strEq ⟨(putB wX).toArray⟩ ⟨[68, 82, 86, 49, 0, 0, 0, 1, 120, 0, 0, 0, 0, 0, 0].toArray⟩ = true := by rw [w_put]; exact strEq_self _
  have e2 : strEq ⟨wX.name.toArray⟩ ⟨[120].toArray⟩ = true := strEq_self _
  have kr := DetC.known (right_ok (mx M7 [.cells [.int .i64 2, .int .i64 1, .int .i64 0] 3 true .exact, .cells [.int .i64 1, .int .i64 2] 3 true .exact, .cells [.int .i64 3] 3 true .exact]) wX a6 c6 w_ok (hS7.old (Old.here _ _)))
  rw [w_right] at kr
  simp only [dRow] at kr
  repeat first | simp -implicitDefEqProofs (disch := first | omega | with_reducible assumption | (simp only [zU, zC]; omega)) only [zT, zA, reduceCtorEq, zB, zC, zD, zE, zF, zG, zH, zI, zJ, zK, zL, reduceIte, s2, s3, s4, stepOp_b2s_v, hstr, e1, hb6, e2, n2, kr, cutL3] | refine OrW.go ?_
  exact (hgm.trans hy7).mx _
theorem kWorks {M : AMem} (hg : S.Glob M) (l : List AObj) : Known Tryd.prog 3 11 [] (mx M l) (.bool true) (mx M l) := DetC.known (works_ok _ (hg.old (Old.here _ _)))
end Go.Proofs.YtgkmlbkocgjmmaaDoor
namespace Go.Proofs.YtgkmlbkocgjmmaaDoor
open Go Go.AM
set_option linter.unusedVariables false
set_option linter.unusedSimpArgs false
set_option maxHeartbeats 2000000
set_option maxRecDepth 100000

def plZ (names : List (List UInt8)) (s : List UInt8) : Int := match plR names s with | some k => (k : Nat) | none => -1
theorem place_ok (m : AMem) (a : Option Addr) (c : Nat) (names : List (List UInt8)) (s : List UInt8) (ha : StrR m a names) (hl : names.length ≤ 1000000) :
    PureC Tryd.prog 3 28 [.slice a names.length c, .string ⟨s.toArray⟩] m (.int .i64 (plZ names s)) := by
  refine pure_of_W (fn := Tryd.f28) rfl rfl F28_ok (by simp [F28]) (.int _ _) ?_
  simp -implicitDefEqProofs (disch := first | omega | with_reducible assumption | (simp only [zU, zC]; omega)) only [zT, zA, reduceCtorEq, zB, zC, zD, zE, zF, zG, zH, zI, zJ, zK, zL, reduceIte, F28]
  refine W_loop (fun N qs => ∃ (i : Nat), N = names.length - i ∧ qs.ds = [] ∧ qs.m = mx m [] ∧ qs.t 0 = .slice a names.length c ∧ qs.t 1 = .string ⟨s.toArray⟩ ∧ qs.t 5 = .int .i64 i ∧ i ≤ names.length ∧ ∀ j (h : j < names.length), j < i → names[j] ≠ s) (names.length - (0)) ⟨0, rfl, rfl, ?qm, ?q0, ?q1, ?q5, ?_⟩ ?_
  case qm | q0 | q1 | q5 => first | rfl | (simp -implicitDefEqProofs (disch := first | omega | with_reducible assumption | (simp only [zU, zC]; omega)) only [zT, zA, reduceCtorEq, zB, zC, zD, zE, zF, zG, zH, zI, zJ, zK, zL, reduceIte]; first | done | rfl | (congr 1; omega))
  · exact ⟨by omega, fun j h1 h2 => by omega⟩
  · rintro N t m1 ds ⟨i, rfl, hds, hm, t0, t1, t5, hp⟩
    simp only at hds hm t0 t1 t5
    subst hds; replace hm := hm.symm; subst hm
    obtain ⟨hi, hall⟩ := hp
    by_cases g : (i : Int) < (names.length : Int)
    · have hi' : i < names.length := by omega
      obtain ⟨b, o, rfl, hb, hr⟩ := ha i hi'
      by_cases e : names[i] = s
      · have ee : plZ names s = (i : Nat) := by
          have : plR names s = some i := by unfold plR; rw [List.findIdx?_eq_some_iff_getElem]; exact ⟨hi', by simpa using e, fun j hj => by simpa using hall j (by omega) hj⟩
          simp [plZ, this]
        rw [ee]
        rw [e] at hr
        repeat first | simp -implicitDefEqProofs (disch := first | omega | with_reducible assumption | (simp only [zU, zC]; omega)) only [zT, zA, reduceCtorEq, zB, zC, zD, zE, zF, zG, zH, zI, zJ, zK, zL, reduceIte, F28_l0, t0, t1, t5, g, hr] | refine OrW.go ?_
      · have es : strEq ⟨names[i].toArray⟩ ⟨s.toArray⟩ = false := by rw [strEq_mk]; simp [e]
        repeat first | simp -implicitDefEqProofs (disch := first | omega | with_reducible assumption | (simp only [zU, zC]; omega)) only [zT, zA, reduceCtorEq, zB, zC, zD, zE, zF, zG, zH, zI, zJ, zK, zL, reduceIte, F28_l0, t0, t1, t5, g, hr, es] | refine OrW.go ?_
        rw [LoopK_normal]; refine ⟨_, ?_, i + 1, rfl, rfl, ?qm, ?q0, ?q1, ?q5, ?_⟩
        case qm | q0 | q1 | q5 => first | rfl | (simp -implicitDefEqProofs (disch := first | omega | with_reducible assumption | (simp only [zU, zC]; omega)) only [zT, zA, reduceCtorEq, zB, zC, zD, zE, zF, zG, zH, zI, zJ, zK, zL, reduceIte, t0, t1, t5]; first | done | rfl | (congr 1; omega))
        · omega
        · refine ⟨by omega, fun j h1 h2 => ?_⟩
          rcases Nat.lt_or_ge j i with h | h
          · exact hall j h1 h
          · obtain rfl : j = i := by omega
            exact e
    · obtain rfl : i = names.length := by omega
      have ee : plZ names s = -1 := by
        have : plR names s = none := plR_none.2 fun hm => by obtain ⟨j, hj, h⟩ := List.mem_iff_getElem.1 hm; exact hall j hj hj h
        simp [plZ, this]
      rw [ee]
      repeat first | simp -implicitDefEqProofs (disch := first | omega | with_reducible assumption | (simp only [zU, zC]; omega)) only [zT, zA, reduceCtorEq, zB, zC, zD, zE, zF, zG, zH, zI, zJ, zK, zL, reduceIte, F28_l0, t0, t1, t5, g] | refine OrW.go ?_
theorem plR_self {names : List (List UInt8)} (h : names.Nodup) {i : Nat} (hi : i < names.length) : plR names names[i] = some i := by
  unfold plR; rw [List.findIdx?_eq_some_iff_getElem]
  refine ⟨hi, by simp, fun j hj => ?_⟩
  have := (List.nodup_iff_pairwise_ne.1 h)
  rw [List.pairwise_iff_getElem] at this
  simpa using this j i (by omega) hi hj
theorem nodup_of {names : List (List UInt8)} (h : ∀ i (hi : i < names.length), plR names names[i] = some i) : names.Nodup := by
  rw [List.nodup_iff_pairwise_ne, List.pairwise_iff_getElem]
  intro i j hi hj hij e
  have h1 := h i hi
  have h2 := h j hj
  rw [e] at h1; rw [h1] at h2; cases h2; omega
theorem twice_ok (m : AMem) (a : Option Addr) (c : Nat) (names : List (List UInt8)) (ha : StrR m a names) (hl : names.length ≤ 1000000) :
    PureC Tryd.prog 3 52 [.slice a names.length c] m (.bool (!decide names.Nodup)) := by
  refine pure_of_W (fn := Tryd.f52) rfl rfl F52_ok (by simp [F52]) (.bool _) ?_
  have kp := fun s => DetC.known (place_ok (mx m []) a c names s (ha.old (Old.here _ [])) hl)
  simp -implicitDefEqProofs (disch := first | omega | with_reducible assumption | (simp only [zU, zC]; omega)) only [zT, zA, reduceCtorEq, zB, zC, zD, zE, zF, zG, zH, zI, zJ, zK, zL, reduceIte, F52]
  refine W_loop (fun N qs => ∃ (i : Nat), N = names.length - i ∧ qs.ds = [] ∧ qs.m = mx m [] ∧ qs.t 0 = .slice a names.length c ∧ qs.t 3 = .int .i64 i ∧ i ≤ names.length ∧ ∀ j (h : j < names.length), j < i → plR names names[j] = some j) (names.length - (0)) ⟨0, rfl, rfl, ?qm, ?q0, ?q3, ?_⟩ ?_
  case qm | q0 | q3 => first | rfl | (simp -implicitDefEqProofs (disch := first | omega | with_reducible assumption | (simp only [zU, zC]; omega)) only [zT, zA, reduceCtorEq, zB, zC, zD, zE, zF, zG, zH, zI, zJ, zK, zL, reduceIte]; first | done | rfl | (congr 1; omega))
  · exact ⟨by omega, fun j h1 h2 => by omega⟩
  · rintro N t m1 ds ⟨i, rfl, hds, hm, t0, t3, hp⟩
    simp only at hds hm t0 t3
    subst hds; replace hm := hm.symm; subst hm
    obtain ⟨hi, hall⟩ := hp
    by_cases g : (i : Int) < (names.length : Int)
    · have hi' : i < names.length := by omega
      obtain ⟨b, o, e0, hb, hr⟩ := ha i hi'
      have k1 := kp names[i]
      rw [e0] at k1
      by_cases e : plZ names names[i] = (i : Int)
      · rw [e] at k1
        repeat first | simp -implicitDefEqProofs (disch := first | omega | with_reducible assumption | (simp only [zU, zC]; omega)) only [zT, zA, reduceCtorEq, zB, zC, zD, zE, zF, zG, zH, zI, zJ, zK, zL, reduceIte, F52_l0, t0, t3, g, hr, e0, k1] | refine OrW.go ?_
        rw [LoopK_normal]; refine ⟨_, ?_, i + 1, rfl, rfl, ?qm, ?q0, ?q3, ?_⟩
        case qm | q0 | q3 => first | rfl | (simp -implicitDefEqProofs (disch := first | omega | with_reducible assumption | (simp only [zU, zC]; omega)) only [zT, zA, reduceCtorEq, zB, zC, zD, zE, zF, zG, zH, zI, zJ, zK, zL, reduceIte, t0, t3, e0]; first | done | rfl | (congr 1; omega))
        · omega
        · refine ⟨by omega, fun j h1 h2 => ?_⟩
          rcases Nat.lt_or_ge j i with h | h
          · exact hall j h1 h
          · obtain rfl : j = i := by omega
            unfold plZ at e
            cases hpl : plR names names[j] with
            | none => rw [hpl] at e; simp only at e; omega
            | some k => rw [hpl] at e; simp only at e; obtain rfl : k = j := by omega
                        rfl
      · have hnd : ¬ names.Nodup := fun h => e (by simp [plZ, plR_self h hi'])
        repeat first | simp -implicitDefEqProofs (disch := first | omega | with_reducible assumption | (simp only [zU, zC]; omega)) only [zT, zA, reduceCtorEq, zB, zC, zD, zE, zF, zG, zH, zI, zJ, zK, zL, reduceIte, F52_l0, t0, t3, g, hr, e0, k1, e] | refine OrW.go ?_
        simp [hnd]
    · obtain rfl : i = names.length := by omega
      have hnd : names.Nodup := nodup_of fun i hi => hall i hi hi
      repeat first | simp -implicitDefEqProofs (disch := first | omega | with_reducible assumption | (simp only [zU, zC]; omega)) only [zT, zA, reduceCtorEq, zB, zC, zD, zE, zF, zG, zH, zI, zJ, zK, zL, reduceIte, F52_l0, t0, t3, g] | refine OrW.go ?_
      simp [hnd]
theorem has_ok (m : AMem) (a : Option Addr) (c : Nat) (l : List Nat) (n : Nat) (ha : IntR m a l) (hl : l.length ≤ 1000000) :
    PureC Tryd.prog 3 53 [.slice a l.length c, .int .i64 n] m (.bool (l.contains n)) := by
  refine pure_of_W (fn := Tryd.f53) rfl rfl F53_ok (by simp [F53]) (.bool _) ?_
  simp -implicitDefEqProofs (disch := first | omega | with_reducible assumption | (simp only [zU, zC]; omega)) only [zT, zA, reduceCtorEq, zB, zC, zD, zE, zF, zG, zH, zI, zJ, zK, zL, reduceIte, F53]
  refine W_loop (fun N qs => ∃ (i : Nat), N = l.length - i ∧ qs.ds = [] ∧ qs.m = mx m [] ∧ qs.t 0 = .slice a l.length c ∧ qs.t 1 = .int .i64 n ∧ qs.t 5 = .int .i64 i ∧ i ≤ l.length ∧ ∀ j (h : j < l.length), j < i → l[j] ≠ n) (l.length - (0)) ⟨0, rfl, rfl, ?qm, ?q0, ?q1, ?q5, ?_⟩ ?_
  case qm | q0 | q1 | q5 => first | rfl | (simp -implicitDefEqProofs (disch := first | omega | with_reducible assumption | (simp only [zU, zC]; omega)) only [zT, zA, reduceCtorEq, zB, zC, zD, zE, zF, zG, zH, zI, zJ, zK, zL, reduceIte]; first | done | rfl | (congr 1; omega))
  · exact ⟨by omega, fun j h1 h2 => by omega⟩
  · rintro N t m1 ds ⟨i, rfl, hds, hm, t0, t1, t5, hp⟩
    simp only at hds hm t0 t1 t5
    subst hds; replace hm := hm.symm; subst hm
    obtain ⟨hi, hall⟩ := hp
    by_cases g : (i : Int) < (l.length : Int)
    · have hi' : i < l.length := by omega
      obtain ⟨b, o, rfl, hb, hr⟩ := ha i hi'
      simp only [iV] at hr
      by_cases e : l[i] = n
      · have ee : l.contains n = true := by rw [List.contains_iff_mem, ← e]; exact List.getElem_mem hi'
        rw [ee]
        rw [e] at hr
        repeat first | simp -implicitDefEqProofs (disch := first | omega | with_reducible assumption | (simp only [zU, zC]; omega)) only [zT, zA, reduceCtorEq, zB, zC, zD, zE, zF, zG, zH, zI, zJ, zK, zL, reduceIte, F53_l0, t0, t1, t5, g, hr] | refine OrW.go ?_
      · have e' : ¬ (l[i] : Int) = (n : Int) := by omega
        repeat first | simp -implicitDefEqProofs (disch := first | omega | with_reducible assumption | (simp only [zU, zC]; omega)) only [zT, zA, reduceCtorEq, zB, zC, zD, zE, zF, zG, zH, zI, zJ, zK, zL, reduceIte, F53_l0, t0, t1, t5, g, hr, e'] | refine OrW.go ?_
        rw [LoopK_normal]; refine ⟨_, ?_, i + 1, rfl, rfl, ?qm, ?q0, ?q1, ?q5, ?_⟩
        case qm | q0 | q1 | q5 => first | rfl | (simp -implicitDefEqProofs (disch := first | omega | with_reducible assumption | (simp only [zU, zC]; omega)) only [zT, zA, reduceCtorEq, zB, zC, zD, zE, zF, zG, zH, zI, zJ, zK, zL, reduceIte, t0, t1, t5]; first | done | rfl | (congr 1; omega))
        · omega
        · refine ⟨by omega, fun j h1 h2 => ?_⟩
          rcases Nat.lt_or_ge j i with h | h
          · exact hall j h1 h
          · obtain rfl : j = i := by omega
            exact e
    · obtain rfl : i = l.length := by omega
      have ee : l.contains n = false := by
        rw [← Bool.not_eq_true, List.contains_iff_mem]; intro hm
        obtain ⟨j, hj, h⟩ := List.mem_iff_getElem.1 hm; exact hall j hj hj h
      rw [ee]
      repeat first | simp -implicitDefEqProofs (disch := first | omega | with_reducible assumption | (simp only [zU, zC]; omega)) only [zT, zA, reduceCtorEq, zB, zC, zD, zE, zF, zG, zH, zI, zJ, zK, zL, reduceIte, F53_l0, t0, t1, t5, g] | refine OrW.go ?_
theorem all_ok (m : AMem) (a : Option Addr) (c : Nat) (l : List Nat) (ha : IntR m a l) (hl : l.length ≤ 1000000) (a2 : Option Addr) (c2 : Nat) (l2 : List Nat) (ha2 : IntR m a2 l2) (hl2 : l2.length ≤ 1000000) :
    PureC Tryd.prog 3 54 [.slice a l.length c, .slice a2 l2.length c2] m (.bool (l2.all l.contains)) := by
  refine pure_of_W (fn := Tryd.f54) rfl rfl F54_ok (by simp [F54]) (.bool _) ?_
  have kh := fun n => DetC.known (has_ok (mx m []) a c l n (ha.old (Old.here _ [])) hl)
  simp -implicitDefEqProofs (disch := first | omega | with_reducible assumption | (simp only [zU, zC]; omega)) only [zT, zA, reduceCtorEq, zB, zC, zD, zE, zF, zG, zH, zI, zJ, zK, zL, reduceIte, F54]
  refine W_loop (fun N qs => ∃ (i : Nat), N = l2.length - i ∧ qs.ds = [] ∧ qs.m = mx m [] ∧ qs.t 0 = .slice a l.length c ∧ qs.t 1 = .slice a2 l2.length c2 ∧ qs.t 5 = .int .i64 i ∧ i ≤ l2.length ∧ ∀ j (h : j < l2.length), j < i → l.contains l2[j] = true) (l2.length - (0)) ⟨0, rfl, rfl, ?qm, ?q0, ?q1, ?q5, ?_⟩ ?_
  case qm | q0 | q1 | q5 => first | rfl | (simp -implicitDefEqProofs (disch := first | omega | with_reducible assumption | (simp only [zU, zC]; omega)) only [zT, zA, reduceCtorEq, zB, zC, zD, zE, zF, zG, zH, zI, zJ, zK, zL, reduceIte]; first | done | rfl | (congr 1; omega))
  · exact ⟨by omega, fun j h1 h2 => by omega⟩
  · rintro N t m1 ds ⟨i, rfl, hds, hm, t0, t1, t5, hp⟩
    simp only at hds hm t0 t1 t5
    subst hds; replace hm := hm.symm; subst hm
    obtain ⟨hi, hall⟩ := hp
    by_cases g : (i : Int) < (l2.length : Int)
    · have hi' : i < l2.length := by omega
      obtain ⟨b, o, rfl, hb, hr⟩ := ha2 i hi'
      simp only [iV] at hr
      have k1 := kh l2[i]
      cases e : l.contains l2[i] with
      | false =>
        have ee : l2.all l.contains = false := by rw [List.all_eq_false]; exact ⟨_, List.getElem_mem hi', by rw [e]; simp⟩
        rw [e] at k1
        rw [ee]
        repeat first | simp -implicitDefEqProofs (disch := first | omega | with_reducible assumption | (simp only [zU, zC]; omega)) only [zT, zA, reduceCtorEq, zB, zC, zD, zE, zF, zG, zH, zI, zJ, zK, zL, reduceIte, F54_l0, t0, t1, t5, g, hr, k1] | refine OrW.go ?_
      | true =>
        rw [e] at k1
        repeat first | simp -implicitDefEqProofs (disch := first | omega | with_reducible assumption | (simp only [zU, zC]; omega)) only [zT, zA, reduceCtorEq, zB, zC, zD, zE, zF, zG, zH, zI, zJ, zK, zL, reduceIte, F54_l0, t0, t1, t5, g, hr, k1] | refine OrW.go ?_
        rw [LoopK_normal]; refine ⟨_, ?_, i + 1, rfl, rfl, ?qm, ?q0, ?q1, ?q5, ?_⟩
        case qm | q0 | q1 | q5 => first | rfl | (simp -implicitDefEqProofs (disch := first | omega | with_reducible assumption | (simp only [zU, zC]; omega)) only [zT, zA, reduceCtorEq, zB, zC, zD, zE, zF, zG, zH, zI, zJ, zK, zL, reduceIte, t0, t1, t5]; first | done | rfl | (congr 1; omega))
        · omega
        · refine ⟨by omega, fun j h1 h2 => ?_⟩
          rcases Nat.lt_or_ge j i with h | h
          · exact hall j h1 h
          · obtain rfl : j = i := by omega
            exact e
    · obtain rfl : i = l2.length := by omega
      have ee : l2.all l.contains = true := by
        rw [List.all_eq_true]; intro x hx; obtain ⟨j, hj, rfl⟩ := List.mem_iff_getElem.1 hx; exact hall j hj hj
      rw [ee]
      repeat first | simp -implicitDefEqProofs (disch := first | omega | with_reducible assumption | (simp only [zU, zC]; omega)) only [zT, zA, reduceCtorEq, zB, zC, zD, zE, zF, zG, zH, zI, zJ, zK, zL, reduceIte, F54_l0, t0, t1, t5, g] | refine OrW.go ?_
def edgesR (names : List (List UInt8)) (needs : List (List (List UInt8))) (i : Nat) : List Nat := (rowOf needs i).filterMap (plR names)
theorem edges_ok (m : AMem) (a : Option Addr) (c : Nat) (names : List (List UInt8)) (ha : StrR m a names) (hl : names.length ≤ 1000000) (na : Option Addr) (nc : Nat) (needs : List (List (List UInt8))) (hN : NeedsR m na needs) (hnl : needs.length ≤ 1000000) (i : Nat) (hi : i ≤ 1000000) :
    RelC Tryd.prog 3 55 [.slice a names.length c, .slice na needs.length nc, .int .i64 i] m fun r m' => Old m m' ∧ IntB m' r (edgesR names needs i) ∧ ∀ x, ownV r x → m.size ≤ x := by
  refine rel_of_W (fn := Tryd.f55) rfl rfl F55_ok (by simp [F55]) ?_
  by_cases g : (i : Int) < (needs.length : Int)
  · have hi' : i < needs.length := by omega
    obtain ⟨b, o, ra, rc, rfl, hb, hr, hS, hrl⟩ := hN i hi'
    have e : edgesR names needs i = needs[i].filterMap (plR names) := by simp [edgesR, rowOf, List.getD, hi']
    rw [e]
    simp -implicitDefEqProofs (disch := first | omega | with_reducible assumption | (simp only [zU, zC]; omega)) only [zT, zA, reduceCtorEq, zB, zC, zD, zE, zF, zG, zH, zI, zJ, zK, zL, reduceIte, F55, g]
    refine W_loop (fun N qs => ∃ (k : Nat) (M : AMem) (oa : Option Addr) (oc : Nat), N = needs[i].length - k ∧ qs.ds = [] ∧ qs.m = mx M [] ∧ qs.t 0 = .slice a names.length c ∧ qs.t 1 = .slice (some ⟨b, o, none⟩) needs.length nc ∧ qs.t 2 = .int .i64 i ∧ qs.t 7 = .slice oa ((needs[i].take k).filterMap (plR names)).length oc ∧ qs.t 8 = .int .i64 k ∧ k ≤ needs[i].length ∧ Old m M ∧ IntB M (.slice oa ((needs[i].take k).filterMap (plR names)).length oc) ((needs[i].take k).filterMap (plR names)) ∧ ∀ x, ownV (.slice oa ((needs[i].take k).filterMap (plR names)).length oc) x → m.size ≤ x) (needs[i].length - (0)) ⟨0, m, none, 0, rfl, rfl, ?qm, ?q0, ?q1, ?q2, ?q7, ?q8, ?_⟩ ?_
    case qm | q0 | q1 | q2 | q7 | q8 => first | rfl | (simp -implicitDefEqProofs (disch := first | omega | with_reducible assumption | (simp only [zU, zC]; omega)) only [zT, zA, reduceCtorEq, zB, zC, zD, zE, zF, zG, zH, zI, zJ, zK, zL, reduceIte, List.take_zero, List.filterMap_nil]; first | done | rfl | (congr 1; omega))
    · exact ⟨by omega, Old.refl _, .inl ⟨by simp, rfl⟩, fun x ⟨o, l, c, h⟩ => by cases h⟩
    · rintro N t m1 ds ⟨k, M, oa, oc, rfl, hds, hm, t0, t1, t2, t7, t8, hp⟩
      simp only at hds hm t0 t1 t2 t7 t8
      subst hds; replace hm := hm.symm; subst hm
      obtain ⟨hk, hO, hI, hown⟩ := hp
      have hbM : b < M.size := Nat.lt_of_lt_of_le hb hO.1
      have hrM : rdO (M.get b) (o + i) 1 = some [.slice ra needs[i].length rc] := by rw [hO.2 b hb]; exact hr
      by_cases gk : (k : Int) < (needs[i].length : Int)
      · have hk' : k < needs[i].length := by omega
        obtain ⟨b2, o2, rfl, hb2, hr2⟩ := hS.str k hk'
        have hb2M : b2 < M.size := Nat.lt_of_lt_of_le hb2 hO.1
        have hr2M : rdO (M.get b2) (o2 + k) 1 = some [.string ⟨needs[i][k].toArray⟩] := by rw [hO.2 b2 hb2]; exact hr2
        have kp := DetC.known (place_ok (mx M []) a c names needs[i][k] (ha.old (hO.mx [])) hl)
        have hsn : (needs[i].take (k + 1)).filterMap (plR names) = (needs[i].take k).filterMap (plR names) ++ (match plR names needs[i][k] with | some q => [q] | none => []) := by
          rw [List.take_succ_eq_append_getElem hk', List.filterMap_append]
          congr 1
          cases h : plR names needs[i][k] <;> simp [h]
        cases hpl : plR names needs[i][k] with
        | none =>
          have ez : plZ names needs[i][k] = -1 := by simp [plZ, hpl]
          rw [ez] at kp
          rw [hpl] at hsn
          simp only [List.append_nil] at hsn
          repeat first | simp -implicitDefEqProofs (disch := first | omega | with_reducible assumption | (simp only [zU, zC]; omega)) only [zT, zA, reduceCtorEq, zB, zC, zD, zE, zF, zG, zH, zI, zJ, zK, zL, reduceIte, F55_l0, t0, t1, t2, t7, t8, g, gk, hrM, hr2M, kp] | refine OrW.go ?_
          rw [LoopK_normal]; refine ⟨_, ?_, k + 1, M, oa, oc, rfl, rfl, ?qm, ?q0, ?q1, ?q2, ?q7, ?q8, ?_⟩
          case qm | q0 | q1 | q2 | q7 | q8 => first | rfl | (simp -implicitDefEqProofs (disch := first | omega | with_reducible assumption | (simp only [zU, zC]; omega)) only [zT, zA, reduceCtorEq, zB, zC, zD, zE, zF, zG, zH, zI, zJ, zK, zL, reduceIte, t0, t1, t2, t7, t8, hsn]; first | done | rfl | (congr 1; omega))
          · omega
          · rw [hsn]; exact ⟨by omega, hO, hI, hown⟩
        | some q =>
          have ez : plZ names needs[i][k] = (q : Nat) := by simp [plZ, hpl]
          rw [ez] at kp
          rw [hpl] at hsn
          simp only at hsn
          have hll : ((needs[i].take k).filterMap (plR names)).length ≤ k := by
            have := List.length_filterMap_le (plR names) (needs[i].take k); rw [List.length_take] at this; omega
          obtain ⟨v', M4, happ, hI4, hk4, ho4⟩ := (hI.old (Old.here M [.cells [iV q] 3 true .exact])).app (nb := M.size) (k := q) (by omega) (by rw [mx_size]; simp) (mx_new0 _ _)
          rw [mx_mx, List.append_nil] at happ
          rw [← hsn] at hI4
          obtain ⟨av, cv, rfl⟩ := hI4.len
          simp only [iV] at happ
          have hs4 := hk4.1
          rw [mx_size] at hs4
          have hOM4 : Old m M4 := ⟨by have := hO.1; omega, fun y hy => by
            rw [hk4.2 y (by rw [mx_size]; have := hO.1; omega) (fun h => by have := hown y h; omega), mx_old (by have := hO.1; omega)]; exact hO.2 y hy⟩
          have gq : (0 : Int) ≤ (q : Int) := by omega
          repeat first | simp -implicitDefEqProofs (disch := first | omega | with_reducible assumption | (simp only [zU, zC]; omega)) only [zT, zA, reduceCtorEq, zB, zC, zD, zE, zF, zG, zH, zI, zJ, zK, zL, reduceIte, F55_l0, t0, t1, t2, t7, t8, g, gk, hrM, hr2M, kp, gq, stepOp_app_v, happ] | refine OrW.go ?_
          rw [LoopK_normal]; refine ⟨_, ?_, k + 1, M4, av, cv, rfl, rfl, ?qm, ?q0, ?q1, ?q2, ?q7, ?q8, ?_⟩
          case qm | q0 | q1 | q2 | q7 | q8 => first | rfl | (simp -implicitDefEqProofs (disch := first | omega | with_reducible assumption | (simp only [zU, zC]; omega)) only [zT, zA, reduceCtorEq, zB, zC, zD, zE, zF, zG, zH, zI, zJ, zK, zL, reduceIte, t0, t1, t2, t7, t8]; first | done | rfl | (congr 1; omega))
          · omega
          · exact ⟨by omega, hOM4, hI4, fun x hx => by have := ho4 x hx; rw [mx_size] at this; have := hO.1; omega⟩
      · obtain rfl : k = needs[i].length := by omega
        rw [List.take_length] at hI t7 hown
        repeat first | simp -implicitDefEqProofs (disch := first | omega | with_reducible assumption | (simp only [zU, zC]; omega)) only [zT, zA, reduceCtorEq, zB, zC, zD, zE, zF, zG, zH, zI, zJ, zK, zL, reduceIte, F55_l0, t0, t1, t2, t7, t8, g, gk, hrM] | refine OrW.go ?_
        exact ⟨_, rfl, fun _ => ⟨hO.mx [], hI.old (Old.here _ []), hown⟩⟩
  · have e : edgesR names needs i = [] := by simp [edgesR, rowOf, List.getD, show ¬ i < needs.length by omega]
    rw [e]
    repeat first | simp -implicitDefEqProofs (disch := first | omega | with_reducible assumption | (simp only [zU, zC]; omega)) only [zT, zA, reduceCtorEq, zB, zC, zD, zE, zF, zG, zH, zI, zJ, zK, zL, reduceIte, F55, g] | refine OrW.go ?_
    exact ⟨_, rfl, fun _ => ⟨.inl ⟨rfl, rfl⟩, fun x ⟨o, l, c, h⟩ => by cases h⟩⟩
end Go.Proofs.YtgkmlbkocgjmmaaDoor
namespace Go.Proofs.YtgkmlbkocgjmmaaDoor
open Go Go.AM
set_option linter.unusedVariables false
set_option linter.unusedSimpArgs false
set_option maxHeartbeats 2000000
set_option maxRecDepth 100000

theorem all_fm (names : List (List UInt8)) (done : List Bool) (out : List Nat) (hD : ∀ k, k < names.length → done.getD k false = out.contains k) (row : List (List UInt8)) :
    (row.filterMap (plR names)).all out.contains = !row.any (badDep names done) := by
  induction row with
  | nil => rfl
  | cons s row ih =>
    cases h : plR names s with
    | none =>
      rw [List.filterMap_cons_none h, ih]
      simp [List.any_cons, badDep, h]
    | some k =>
      rw [List.filterMap_cons_some h, List.all_cons, ih, List.any_cons, ← hD k (plR_lt h)]
      simp [badDep, h]
theorem ref_ready {names : List (List UInt8)} {needs : List (List (List UInt8))} {done : List Bool} {out : List Nat} (hD : ∀ k, k < names.length → done.getD k false = out.contains k) {i : Nat} (hi : i < names.length) :
    readyR names needs done i = (!out.contains i && (edgesR names needs i).all out.contains) := by
  unfold readyR edgesR
  rw [all_fm names done out hD, hD i hi]
theorem done_next {names : List (List UInt8)} {done : List Bool} {out : List Nat} (hD : ∀ k, k < names.length → done.getD k false = out.contains k) (hl : done.length = names.length) {i : Nat} (hi : i < names.length) :
    ∀ k, k < names.length → (done.set i true).getD k false = (out ++ [i]).contains k := fun k hk => by
  rw [getD_set (by omega)]
  by_cases h : k = i
  · subst h; simp
  · rw [if_neg h, hD k hk]
    rw [Bool.eq_iff_iff]; simp [h]
theorem full_none {names : List (List UInt8)} {needs : List (List (List UInt8))} {done : List Bool} (hl : done.length = names.length) (h : done.count false = 0) : nextR names needs done = none := by
  refine next_none fun j hj => ?_
  have : done[j]'(by omega) = true := by
    cases hb : done[j]'(by omega) with
    | true => rfl
    | false => have := List.count_pos_iff.2 (show false ∈ done from hb ▸ List.getElem_mem (by omega)); omega
  unfold readyR
  simp [List.getD, show j < done.length by omega, this]
theorem refSort_ok (m : AMem) (a : Option Addr) (c : Nat) (names : List (List UInt8)) (ha : StrR m a names) (hl : names.length ≤ 100000) (na : Option Addr) (nc : Nat) (needs : List (List (List UInt8))) (hN : NeedsR m na needs) (hnl : needs.length ≤ 1000000) (hrow : ∀ i, (rowOf needs i).length ≤ 1000) :
    RelC Tryd.prog 3 23 [.slice a names.length c, .slice na needs.length nc] m fun r m' => Old m m' ∧ ∃ v, r = .tuple #[v, .int .i64 (sortR names needs).2] ∧ IntB m' v (sortR names needs).1 := by
  refine rel_of_W (fn := Tryd.f23) rfl rfl F23_ok (by simp [F23]) ?_
  have kt := DetC.known (twice_ok (mx m []) a c names (ha.old (Old.here _ [])) (by omega))
  by_cases hnd : names.Nodup
  case neg =>
    have e : sortR names needs = ([], 151) := if_neg hnd
    have e2 : (!decide names.Nodup) = true := by simp [hnd]
    rw [e2] at kt
    rw [e]
    repeat first | simp -implicitDefEqProofs (disch := first | omega | with_reducible assumption | (simp only [zU, zC]; omega)) only [zT, zA, reduceCtorEq, zB, zC, zD, zE, zF, zG, zH, zI, zJ, zK, zL, reduceIte, F23, kt] | refine OrW.go ?_
    exact ⟨_, rfl, fun _ => ⟨.slice none 0 0, rfl, .inl ⟨rfl, rfl⟩⟩⟩
  have e2 : (!decide names.Nodup) = false := by simp [hnd]
  rw [e2] at kt
  repeat first | simp -implicitDefEqProofs (disch := first | omega | with_reducible assumption | (simp only [zU, zC]; omega)) only [zT, zA, reduceCtorEq, zB, zC, zD, zE, zF, zG, zH, zI, zJ, zK, zL, reduceIte, F23, kt] | refine OrW.go ?_
  refine W_loop (fun N qs => ∃ (M : AMem) (oa : Option Addr) (oc : Nat) (out : List Nat) (done : List Bool), N = done.count false ∧ qs.ds = [] ∧ qs.m = mx M [] ∧ qs.t 0 = .slice a names.length c ∧ qs.t 1 = .slice na needs.length nc ∧ qs.t 6 = .slice oa out.length oc ∧ Old m M ∧ IntB M (.slice oa out.length oc) out ∧ (∀ x, ownV (.slice oa out.length oc) x → m.size ≤ x) ∧ done.length = names.length ∧ out.length + done.count false = names.length ∧ (∀ k, k < names.length → done.getD k false = out.contains k) ∧ ∀ res, Runs names needs done out res → Runs names needs (List.replicate names.length false) [] res) ((List.replicate names.length false).count false) ⟨m, none, 0, [], List.replicate names.length false, rfl, rfl, ?qm, ?q0, ?q1, ?q6, ?_⟩ ?_
  case qm | q0 | q1 | q6 => first | rfl | (simp -implicitDefEqProofs (disch := first | omega | with_reducible assumption | (simp only [zU, zC]; omega)) only [zT, zA, reduceCtorEq, zB, zC, zD, zE, zF, zG, zH, zI, zJ, zK, zL, reduceIte]; first | done | rfl | (congr 1; omega))
  · refine ⟨Old.refl _, .inl ⟨rfl, rfl⟩, fun x ⟨o, l, c, h⟩ => (by cases h), by simp, by simp, fun k hk => ?_, fun _ h => h⟩
    simp [List.getD, List.getElem?_replicate, hk]
  · rintro N t m1 ds ⟨M, oa, oc, out, done, rfl, hds, hm, t0, t1, t6, hp⟩
    simp only at hds hm t0 t1 t6
    subst hds; replace hm := hm.symm; subst hm
    obtain ⟨p1, p2, p3, p4, p5, p6, p7⟩ := hp
    by_cases g : (out.length : Int) < (names.length : Int)
    · repeat first | simp -implicitDefEqProofs (disch := first | omega | with_reducible assumption | (simp only [zU, zC]; omega)) only [zT, zA, reduceCtorEq, zB, zC, zD, zE, zF, zG, zH, zI, zJ, zK, zL, reduceIte, F23_l0, t0, t1, t6, g] | refine OrW.go ?_
      refine W_loop (fun N qs => ∃ (i : Nat) (nx : Int) (M1 : AMem), N = names.length - i ∧ qs.ds = [] ∧ qs.m = mx M1 [] ∧ qs.t 0 = .slice a names.length c ∧ qs.t 1 = .slice na needs.length nc ∧ qs.t 6 = .slice oa out.length oc ∧ qs.t 7 = .int .i64 nx ∧ qs.t 8 = .int .i64 i ∧ i ≤ names.length ∧ Old M M1 ∧ ((nx = -1 ∧ ∀ j, j < i → readyR names needs done j = false) ∨ ∃ k : Nat, nx = (k : Int) ∧ nextR names needs done = some k)) (names.length - (0)) ⟨0, -1, M, rfl, rfl, ?qm, ?q0, ?q1, ?q6, ?q7, ?q8, ?_⟩ ?_
      case qm | q0 | q1 | q6 | q7 | q8 => first | rfl | (simp -implicitDefEqProofs (disch := first | omega | with_reducible assumption | (simp only [zU, zC]; omega)) only [zT, zA, reduceCtorEq, zB, zC, zD, zE, zF, zG, zH, zI, zJ, zK, zL, reduceIte, t0, t1, t6]; first | done | rfl | (congr 1; omega))
      · exact ⟨by omega, Old.refl _, .inl ⟨rfl, fun j h => by omega⟩⟩
      · rintro N t m1 ds ⟨i, nx, M1, rfl, hds, hm, t0, t1, t6, t7, t8, hp⟩
        simp only at hds hm t0 t1 t6 t7 t8
        subst hds; replace hm := hm.symm; subst hm
        obtain ⟨hi, hO, hx⟩ := hp
        rcases hx with ⟨rfl, hall⟩ | ⟨k, rfl, hk⟩
        · by_cases gi : (i : Int) < (names.length : Int)
          · have hi' : i < names.length := by omega
            have hrd := ref_ready (needs := needs) p6 hi'
            have kh := DetC.known (has_ok (mx M1 []) oa oc out i (p2.row.old (hO.mx [])) (by omega))
            have gm : (-1 : Int) < 0 := by omega
            cases hc : out.contains i with
            | true =>
              rw [hc] at kh hrd
              simp only [Bool.not_true, Bool.false_and] at hrd
              repeat first | simp -implicitDefEqProofs (disch := first | omega | with_reducible assumption | (simp only [zU, zC]; omega)) only [zT, zA, reduceCtorEq, zB, zC, zD, zE, zF, zG, zH, zI, zJ, zK, zL, reduceIte, F23_l1, t0, t1, t6, t7, t8, gi, gm, kh] | refine OrW.go ?_
              rw [LoopK_normal]; refine ⟨_, ?_, i + 1, -1, M1, rfl, rfl, ?qm, ?q0, ?q1, ?q6, ?q7, ?q8, ?_⟩
              case qm | q0 | q1 | q6 | q7 | q8 => first | rfl | (simp -implicitDefEqProofs (disch := first | omega | with_reducible assumption | (simp only [zU, zC]; omega)) only [zT, zA, reduceCtorEq, zB, zC, zD, zE, zF, zG, zH, zI, zJ, zK, zL, reduceIte, t0, t1, t6, t7, t8]; first | done | rfl | (congr 1; omega))
              · omega
              · refine ⟨by omega, hO, .inl ⟨rfl, fun j hj => ?_⟩⟩
                rcases Nat.lt_or_ge j i with h | h
                · exact hall j h
                · obtain rfl : j = i := by omega
                  exact hrd
            | false =>
              rw [hc] at kh hrd
              simp only [Bool.not_false, Bool.true_and] at hrd
              have hed := edges_ok (mx M1 []) a c names (ha.old ((p1.trans hO).mx [])) (by omega) na nc needs (hN.old ((p1.trans hO).mx [])) hnl i (by omega)
              repeat first | simp -implicitDefEqProofs (disch := first | omega | with_reducible assumption | (simp only [zU, zC]; omega)) only [zT, zA, reduceCtorEq, zB, zC, zD, zE, zF, zG, zH, zI, zJ, zK, zL, reduceIte, F23_l1, t0, t1, t6, t7, t8, gi, gm, kh] | refine OrW.go ?_
              refine RelC.call hed ?_
              rintro v M2 ⟨hO2, hI, -⟩
              have hO12 : Old M1 M2 := (Old.here M1 []).trans hO2
              obtain ⟨ea, ec, rfl⟩ := hI.len
              have hel : (edgesR names needs i).length ≤ 1000 := by
                have := List.length_filterMap_le (plR names) (rowOf needs i); have := hrow i; unfold edgesR; omega
              have ka := DetC.known (all_ok (mx M2 []) oa oc out (p2.row.old ((hO.trans hO12).mx [])) (by omega) ea ec (edgesR names needs i) (hI.row.old (Old.here _ [])) (by omega))
              cases he : (edgesR names needs i).all out.contains with
              | true =>
                rw [he] at ka hrd
                have hnx := next_of hi' hrd hall
                repeat first | simp -implicitDefEqProofs (disch := first | omega | with_reducible assumption | (simp only [zU, zC]; omega)) only [zT, zA, reduceCtorEq, zB, zC, zD, zE, zF, zG, zH, zI, zJ, zK, zL, reduceIte, ka, t0, t1, t6, t7, t8] | refine OrW.go ?_
                rw [LoopK_normal]; refine ⟨_, ?_, i + 1, i, M2, rfl, rfl, ?qm, ?q0, ?q1, ?q6, ?q7, ?q8, ?_⟩
                case qm | q0 | q1 | q6 | q7 | q8 => first | rfl | (simp -implicitDefEqProofs (disch := first | omega | with_reducible assumption | (simp only [zU, zC]; omega)) only [zT, zA, reduceCtorEq, zB, zC, zD, zE, zF, zG, zH, zI, zJ, zK, zL, reduceIte, t0, t1, t6, t7, t8]; first | done | rfl | (congr 1; omega))
                · omega
                · exact ⟨by omega, hO.trans hO12, .inr ⟨i, rfl, hnx⟩⟩
              | false =>
                rw [he] at ka hrd
                repeat first | simp -implicitDefEqProofs (disch := first | omega | with_reducible assumption | (simp only [zU, zC]; omega)) only [zT, zA, reduceCtorEq, zB, zC, zD, zE, zF, zG, zH, zI, zJ, zK, zL, reduceIte, ka, t0, t1, t6, t7, t8] | refine OrW.go ?_
                rw [LoopK_normal]; refine ⟨_, ?_, i + 1, -1, M2, rfl, rfl, ?qm, ?q0, ?q1, ?q6, ?q7, ?q8, ?_⟩
                case qm | q0 | q1 | q6 | q7 | q8 => first | rfl | (simp -implicitDefEqProofs (disch := first | omega | with_reducible assumption | (simp only [zU, zC]; omega)) only [zT, zA, reduceCtorEq, zB, zC, zD, zE, zF, zG, zH, zI, zJ, zK, zL, reduceIte, t0, t1, t6, t7, t8]; first | done | rfl | (congr 1; omega))
                · omega
                · refine ⟨by omega, hO.trans hO12, .inl ⟨rfl, fun j hj => ?_⟩⟩
                  rcases Nat.lt_or_ge j i with h | h
                  · exact hall j h
                  · obtain rfl : j = i := by omega
                    exact hrd
          · obtain rfl : i = names.length := by omega
            have hnone := next_none hall
            have hres := (p7 out (.stop hnone)).eq (by simp) names.length (by simp)
            have hso : sortO names needs = out := hres.symm
            have e : sortR names needs = ([], 240) := by
              unfold sortR; rw [if_pos hnd, hso, if_pos (by omega)]
            rw [e]
            have gm : (-1 : Int) < 0 := by omega
            repeat first | simp -implicitDefEqProofs (disch := first | omega | with_reducible assumption | (simp only [zU, zC]; omega)) only [zT, zA, reduceCtorEq, zB, zC, zD, zE, zF, zG, zH, zI, zJ, zK, zL, reduceIte, F23_l1, t0, t1, t6, t7, t8, gi, gm] | refine OrW.go ?_
            exact ⟨_, rfl, fun _ => ⟨(p1.trans hO).mx [], .slice none 0 0, rfl, .inl ⟨rfl, rfl⟩⟩⟩
        · have hx := next_some hk
          have hkd : k < done.length := by omega
          have h3 := ready_not hkd hx.2
          have h4 := count_set hkd h3
          have gm : ¬ (k : Int) < 0 := by omega
          obtain ⟨v', M4, happ, hI4, hk4, ho4⟩ := ((p2.old hO).old (Old.here M1 [.cells [iV k] 3 true .exact])).app (nb := M1.size) (k := k) (by omega) (by rw [mx_size]; simp) (mx_new0 _ _)
          rw [mx_mx, List.append_nil] at happ
          obtain ⟨av, cv, rfl⟩ := hI4.len
          simp only [iV] at happ
          have hs4 := hk4.1
          rw [mx_size] at hs4
          have hO1 := p1.trans hO
          have hOM4 : Old m M4 := ⟨by have := hO1.1; omega, fun y hy => by
            rw [hk4.2 y (by rw [mx_size]; have := hO1.1; omega) (fun h => by have := p3 y h; omega), mx_old (by have := hO1.1; omega)]; exact hO1.2 y hy⟩
          by_cases gi : (i : Int) < (names.length : Int)
          · repeat first | simp -implicitDefEqProofs (disch := first | omega | with_reducible assumption | (simp only [zU, zC]; omega)) only [zT, zA, reduceCtorEq, zB, zC, zD, zE, zF, zG, zH, zI, zJ, zK, zL, reduceIte, F23_l1, t0, t1, t6, t7, t8, gi, gm, stepOp_app_v, happ] | refine OrW.go ?_
            rw [LoopK_normal]; refine ⟨_, ?_, M4, av, cv, out ++ [k], done.set k true, rfl, rfl, ?qm, ?q0, ?q1, ?q6, ?_⟩
            case qm | q0 | q1 | q6 => first | rfl | (simp -implicitDefEqProofs (disch := first | omega | with_reducible assumption | (simp only [zU, zC]; omega)) only [zT, zA, reduceCtorEq, zB, zC, zD, zE, zF, zG, zH, zI, zJ, zK, zL, reduceIte, t0, t1, t6, t7, t8]; first | done | rfl | (congr 1; omega))
            · omega
            · exact ⟨hOM4, hI4, fun x hx => by have := ho4 x hx; rw [mx_size] at this; have := hO1.1; omega, by rw [List.length_set]; exact p4, by rw [List.length_append]; simp; omega, done_next p6 p4 hx.1, fun res hr => p7 res (.go hk hr)⟩
          · repeat first | simp -implicitDefEqProofs (disch := first | omega | with_reducible assumption | (simp only [zU, zC]; omega)) only [zT, zA, reduceCtorEq, zB, zC, zD, zE, zF, zG, zH, zI, zJ, zK, zL, reduceIte, F23_l1, t0, t1, t6, t7, t8, gi, gm, stepOp_app_v, happ] | refine OrW.go ?_
            rw [LoopK_normal]; refine ⟨_, ?_, M4, av, cv, out ++ [k], done.set k true, rfl, rfl, ?qm, ?q0, ?q1, ?q6, ?_⟩
            case qm | q0 | q1 | q6 => first | rfl | (simp -implicitDefEqProofs (disch := first | omega | with_reducible assumption | (simp only [zU, zC]; omega)) only [zT, zA, reduceCtorEq, zB, zC, zD, zE, zF, zG, zH, zI, zJ, zK, zL, reduceIte, t0, t1, t6, t7, t8]; first | done | rfl | (congr 1; omega))
            · omega
            · exact ⟨hOM4, hI4, fun x hx => by have := ho4 x hx; rw [mx_size] at this; have := hO1.1; omega, by rw [List.length_set]; exact p4, by rw [List.length_append]; simp; omega, done_next p6 p4 hx.1, fun res hr => p7 res (.go hk hr)⟩
    · have hnone : nextR names needs done = none := full_none p4 (by omega)
      have hres := (p7 out (.stop hnone)).eq (by simp) names.length (by simp)
      have hso : sortO names needs = out := hres.symm
      have e : sortR names needs = (out, 0) := by
        unfold sortR; rw [if_pos hnd, hso, if_neg (by omega)]
      rw [e]
      repeat first | simp -implicitDefEqProofs (disch := first | omega | with_reducible assumption | (simp only [zU, zC]; omega)) only [zT, zA, reduceCtorEq, zB, zC, zD, zE, zF, zG, zH, zI, zJ, zK, zL, reduceIte, F23_l0, t0, t1, t6, g] | refine OrW.go ?_
      exact ⟨_, rfl, fun _ => ⟨p1.mx [], _, rfl, p2.old (Old.here _ [])⟩⟩
end Go.Proofs.YtgkmlbkocgjmmaaDoor
namespace Go.Proofs.YtgkmlbkocgjmmaaDoor
open Go Go.AM
set_option linter.unusedVariables false
set_option linter.unusedSimpArgs false
set_option maxHeartbeats 2000000
set_option maxRecDepth 100000

theorem nodup_le : ∀ (n : Nat) (l : List Nat), l.Nodup → (∀ x ∈ l, x < n) → l.length ≤ n
  | 0, [], _, _ => Nat.le_refl _
  | 0, x :: l, _, h => absurd (h x (by simp)) (by omega)
  | n + 1, l, hn, h => by
    have h1 := nodup_le n (l.erase n) (hn.erase n) fun x hx => by
      rw [hn.mem_erase_iff] at hx
      have := h x hx.2; omega
    rw [List.length_erase] at h1
    split at h1 <;> omega
theorem Reach.lt {names : List (List UInt8)} {needs : List (List (List UInt8))} {roots : List (List UInt8)} {k : Nat} (h : Reach names needs roots k) : k < names.length := by
  cases h with
  | root _ hk => exact plR_lt hk
  | step _ _ hk => exact plR_lt hk
theorem IntB.lt {M : AMem} {v : Value} {ls : List Nat} (h : IntB M v ls) {x : Nat} (hx : ownV v x) : x < M.size := by
  obtain ⟨o, l, c, rfl⟩ := hx
  rcases h with ⟨_, h⟩ | ⟨b, h, h1, _⟩
  · cases h
  · cases h; exact h1
structure GInv (names : List (List UInt8)) (needs : List (List (List UInt8))) (roots : List (List UInt8)) (got : List Nat) (r i : Nat) : Prop where
  nd : got.Nodup
  sound : ∀ k ∈ got, Reach names needs roots k
  rts : ∀ j (h : j < roots.length), j < r → ∀ k, plR names roots[j] = some k → k ∈ got
  cl : ∀ j (h : j < got.length), j < i → ∀ k ∈ edgesR names needs got[j], k ∈ got
theorem GInv.len {names : List (List UInt8)} {needs : List (List (List UInt8))} {roots : List (List UInt8)} {got : List Nat} {r i : Nat} (h : GInv names needs roots got r i) : got.length ≤ names.length :=
  nodup_le _ _ h.nd fun x hx => (h.sound x hx).lt
theorem GInv.more {names : List (List UInt8)} {needs : List (List (List UInt8))} {roots : List (List UInt8)} {got : List Nat} {r i : Nat} (h : GInv names needs roots got r i) (hi : i ≤ got.length) {k : Nat} (hk : got.contains k = false) (hr : Reach names needs roots k) : GInv names needs roots (got ++ [k]) r i := by
  have hk' : k ∉ got := fun e => by rw [← List.contains_iff_mem] at e; rw [hk] at e; cases e
  refine ⟨?_, fun x hx => ?_, fun j hj hjr x hx => List.mem_append_left _ (h.rts j hj hjr x hx), fun j hj hji x hx => ?_⟩
  · rw [List.nodup_append]
    refine ⟨h.nd, by simp, fun x hx y hy e => ?_⟩
    rw [List.mem_singleton] at hy; subst hy; subst e; exact hk' hx
  · rcases List.mem_append.1 hx with h1 | h1
    · exact h.sound x h1
    · rw [List.mem_singleton] at h1; subst h1; exact hr
  · rw [List.getElem_append_left (by omega)] at hx
    exact List.mem_append_left _ (h.cl j (by omega) hji x hx)
theorem GInv.root {names : List (List UInt8)} {needs : List (List (List UInt8))} {roots : List (List UInt8)} {got : List Nat} {r i : Nat} (h : GInv names needs roots got r i) (hr : r < roots.length) (hg : ∀ k, plR names roots[r] = some k → k ∈ got) : GInv names needs roots got (r + 1) i :=
  ⟨h.nd, h.sound, fun j hj hjr => by
    rcases Nat.lt_or_ge j r with h1 | h1
    · exact h.rts j hj h1
    · obtain rfl : j = r := by omega
      exact hg, h.cl⟩
theorem GInv.step {names : List (List UInt8)} {needs : List (List (List UInt8))} {roots : List (List UInt8)} {got : List Nat} {r i : Nat} (h : GInv names needs roots got r i) (hi : i < got.length) (hg : ∀ k ∈ edgesR names needs got[i], k ∈ got) : GInv names needs roots got r (i + 1) :=
  ⟨h.nd, h.sound, h.rts, fun j hj hji => by
    rcases Nat.lt_or_ge j i with h1 | h1
    · exact h.cl j hj h1
    · obtain rfl : j = i := by omega
      exact hg⟩
theorem GInv.done {names : List (List UInt8)} {needs : List (List (List UInt8))} {roots : List (List UInt8)} {got : List Nat} (h : GInv names needs roots got roots.length got.length) (k : Nat) : k ∈ got ↔ Reach names needs roots k := by
  refine ⟨h.sound k, fun hr => ?_⟩
  induction hr with
  | root hs hk =>
    obtain ⟨j, hj, rfl⟩ := List.mem_iff_getElem.1 hs
    exact h.rts j hj hj _ hk
  | step _ hs hk ih =>
    obtain ⟨j, hj, rfl⟩ := List.mem_iff_getElem.1 ih
    exact h.cl j hj hj _ (List.mem_filterMap.2 ⟨_, hs, hk⟩)
open Classical in
theorem GInv.clos {names : List (List UInt8)} {needs : List (List (List UInt8))} {roots : List (List UInt8)} {got : List Nat} (h : GInv names needs roots got roots.length got.length) : closO names needs roots = (List.range names.length).filter got.contains := by
  unfold closO
  refine List.filter_congr fun i hi => ?_
  rw [Bool.eq_iff_iff, decide_eq_true_iff, List.contains_iff_mem]
  exact (h.done i).symm
structure Row (m M : AMem) (a : Option Addr) (c : Nat) (l : List Nat) : Prop where
  old : Old m M
  ints : IntB M (.slice a l.length c) l
  own : ∀ x, ownV (.slice a l.length c) x → m.size ≤ x
theorem Row.app {m M : AMem} {a : Option Addr} {c : Nat} {l : List Nat} (h : Row m M a c l) (hl : l.length ≤ 1000000) (k : Nat) :
    ∃ a' c' M', appV 3 1 8 [.int .i64 0] (.slice a l.length c) (.slice (some ⟨M.size, 0, none⟩) 1 1) (mx M [.cells [.int .i64 (k : Nat)] 3 true .exact]) = some (.slice a' (l ++ [k]).length c', mx M' []) ∧ Row m M' a' c' (l ++ [k]) ∧ Keep (ownV (.slice a l.length c)) M M' ∧ ∀ x, ownV (.slice a' (l ++ [k]).length c') x → M.size ≤ x := by
  obtain ⟨v', M4, happ, hI4, hk4, ho4⟩ := (h.ints.old (Old.here M [.cells [iV k] 3 true .exact])).app (nb := M.size) (k := k) (by omega) (by rw [mx_size]; simp) (mx_new0 _ _)
  rw [mx_mx, List.append_nil] at happ
  obtain ⟨av, cv, rfl⟩ := hI4.len
  have hs4 := hk4.1
  rw [mx_size] at hs4
  have hO := h.old
  have h5 : ∀ x, ownV (.slice av (l ++ [k]).length cv) x → M.size ≤ x := fun x hx => by have := ho4 x hx; rw [mx_size] at this; omega
  have hk5 : Keep (ownV (.slice a l.length c)) M M4 := ⟨by omega, fun y hy hno => by rw [hk4.2 y (by rw [mx_size]; omega) hno, mx_old hy]⟩
  exact ⟨av, cv, M4, happ, ⟨⟨by have := hO.1; omega, fun y hy => by rw [hk5.2 y (by have := hO.1; omega) (fun e => by have := h.own y e; omega)]; exact hO.2 y hy⟩, hI4, fun x hx => by have := h5 x hx; have := hO.1; omega⟩, hk5, h5⟩
theorem Row.nil (m : AMem) : Row m m none 0 [] := ⟨Old.refl _, .inl ⟨rfl, rfl⟩, fun x ⟨o, l, c, h⟩ => by cases h⟩
theorem Row.more {m M M' : AMem} {a : Option Addr} {c : Nat} {l : List Nat} (h : Row m M a c l) (ho : Old M M') : Row m M' a c l := ⟨h.old.trans ho, h.ints.old ho, h.own⟩
theorem refClosure_ok (m : AMem) (a : Option Addr) (c : Nat) (names : List (List UInt8)) (ha : StrR m a names) (hl : names.length ≤ 100000) (na : Option Addr) (nc : Nat) (needs : List (List (List UInt8))) (hN : NeedsR m na needs) (hnl : needs.length ≤ 1000000)
    (ra : Option Addr) (rc : Nat) (roots : List (List UInt8)) (hr : StrR m ra roots) (hrl : roots.length ≤ 1000000) (hrow : ∀ i, (rowOf needs i).length ≤ 1000) :
    RelC Tryd.prog 3 27 [.slice a names.length c, .slice na needs.length nc, .slice ra roots.length rc] m fun r m' => Old m m' ∧ ∃ v, r = .tuple #[v, .int .i64 (closR names needs roots).2] ∧ IntB m' v (closR names needs roots).1 := by
  refine rel_of_W (fn := Tryd.f27) rfl rfl F27_ok (by simp [F27]) ?_
  have kt := DetC.known (twice_ok (mx m []) a c names (ha.old (Old.here _ [])) (by omega))
  by_cases hnd : names.Nodup
  case neg =>
    have e : closR names needs roots = ([], 151) := if_neg hnd
    have e2 : (!decide names.Nodup) = true := by simp [hnd]
    rw [e2] at kt
    rw [e]
    repeat first | simp -implicitDefEqProofs (disch := first | omega | with_reducible assumption | (simp only [zU, zC]; omega)) only [zT, zA, reduceCtorEq, zB, zC, zD, zE, zF, zG, zH, zI, zJ, zK, zL, reduceIte, F27, kt] | refine OrW.go ?_
    exact ⟨_, rfl, fun _ => ⟨.slice none 0 0, rfl, .inl ⟨rfl, rfl⟩⟩⟩
  have e : closR names needs roots = (closO names needs roots, 0) := if_pos hnd
  have e2 : (!decide names.Nodup) = false := by simp [hnd]
  rw [e2] at kt
  rw [e]
  repeat first | simp -implicitDefEqProofs (disch := first | omega | with_reducible assumption | (simp only [zU, zC]; omega)) only [zT, zA, reduceCtorEq, zB, zC, zD, zE, zF, zG, zH, zI, zJ, zK, zL, reduceIte, F27, kt] | refine OrW.go ?_
  refine W_loop (fun N qs => ∃ (j : Nat) (M : AMem) (oa : Option Addr) (oc : Nat) (got : List Nat), N = roots.length - j ∧ qs.ds = [] ∧ qs.m = mx M [] ∧ qs.t 0 = .slice a names.length c ∧ qs.t 1 = .slice na needs.length nc ∧ qs.t 2 = .slice ra roots.length rc ∧ qs.t 8 = .slice oa got.length oc ∧ qs.t 9 = .int .i64 j ∧ j ≤ roots.length ∧ Row m M oa oc got ∧ GInv names needs roots got j 0) (roots.length - (0)) ⟨0, m, none, 0, [], rfl, rfl, ?qm, ?q0, ?q1, ?q2, ?q8, ?q9, ?_⟩ ?_
  case qm | q0 | q1 | q2 | q8 | q9 => first | rfl | (simp -implicitDefEqProofs (disch := first | omega | with_reducible assumption | (simp only [zU, zC]; omega)) only [zT, zA, reduceCtorEq, zB, zC, zD, zE, zF, zG, zH, zI, zJ, zK, zL, reduceIte]; first | done | rfl | (congr 1; omega))
  · exact ⟨by omega, Row.nil m, List.nodup_nil, fun k hk => (by cases hk), fun j h1 h2 => (by omega), fun j h1 h2 => (by omega)⟩
  · rintro N t m1 ds ⟨j, M, oa, oc, got, rfl, hds, hm, t0, t1, t2, t8, t9, hp⟩
    simp only at hds hm t0 t1 t2 t8 t9
    subst hds; replace hm := hm.symm; subst hm
    obtain ⟨hj, hR, hG⟩ := hp
    have hgl := hG.len
    by_cases g : (j : Int) < (roots.length : Int)
    · have hj' : j < roots.length := by omega
      obtain ⟨b2, o2, rfl, hb2, hr2⟩ := hr j hj'
      have hb2M : b2 < M.size := Nat.lt_of_lt_of_le hb2 hR.old.1
      have hr2M : rdO (M.get b2) (o2 + j) 1 = some [.string ⟨roots[j].toArray⟩] := by rw [hR.old.2 b2 hb2]; exact hr2
      have kp := DetC.known (place_ok (mx M []) a c names roots[j] (ha.old (hR.old.mx [])) (by omega))
      cases hpl : plR names roots[j] with
      | none =>
        have ez : plZ names roots[j] = -1 := by simp [plZ, hpl]
        have gz : ¬ (0 : Int) ≤ -1 := by omega
        rw [ez] at kp
        repeat first | simp -implicitDefEqProofs (disch := first | omega | with_reducible assumption | (simp only [zU, zC]; omega)) only [zT, zA, reduceCtorEq, zB, zC, zD, zE, zF, zG, zH, zI, zJ, zK, zL, reduceIte, F27_l0, t0, t1, t2, t8, t9, g, hr2M, kp, gz] | refine OrW.go ?_
        rw [LoopK_normal]; refine ⟨_, ?_, j + 1, M, oa, oc, got, rfl, rfl, ?qm, ?q0, ?q1, ?q2, ?q8, ?q9, ?_⟩
        case qm | q0 | q1 | q2 | q8 | q9 => first | rfl | (simp -implicitDefEqProofs (disch := first | omega | with_reducible assumption | (simp only [zU, zC]; omega)) only [zT, zA, reduceCtorEq, zB, zC, zD, zE, zF, zG, zH, zI, zJ, zK, zL, reduceIte, t0, t1, t2, t8, t9]; first | done | rfl | (congr 1; omega))
        · omega
        · exact ⟨by omega, hR, hG.root hj' fun k hk => by rw [hpl] at hk; cases hk⟩
      | some q =>
        have ez : plZ names roots[j] = (q : Nat) := by simp [plZ, hpl]
        have gz : (0 : Int) ≤ (q : Int) := by omega
        rw [ez] at kp
        have kh := DetC.known (has_ok (mx M []) oa oc got q (hR.ints.row.old (Old.here _ [])) (by omega))
        cases hc : got.contains q with
        | true =>
          rw [hc] at kh
          repeat first | simp -implicitDefEqProofs (disch := first | omega | with_reducible assumption | (simp only [zU, zC]; omega)) only [zT, zA, reduceCtorEq, zB, zC, zD, zE, zF, zG, zH, zI, zJ, zK, zL, reduceIte, F27_l0, t0, t1, t2, t8, t9, g, hr2M, kp, gz, kh] | refine OrW.go ?_
          rw [LoopK_normal]; refine ⟨_, ?_, j + 1, M, oa, oc, got, rfl, rfl, ?qm, ?q0, ?q1, ?q2, ?q8, ?q9, ?_⟩
          case qm | q0 | q1 | q2 | q8 | q9 => first | rfl | (simp -implicitDefEqProofs (disch := first | omega | with_reducible assumption | (simp only [zU, zC]; omega)) only [zT, zA, reduceCtorEq, zB, zC, zD, zE, zF, zG, zH, zI, zJ, zK, zL, reduceIte, t0, t1, t2, t8, t9]; first | done | rfl | (congr 1; omega))
          · omega
          · exact ⟨by omega, hR, hG.root hj' fun k hk => by rw [hpl] at hk; cases hk; exact List.contains_iff_mem.1 hc⟩
        | false =>
          rw [hc] at kh
          obtain ⟨a', c', M', happ, hR', -, -⟩ := hR.app (by omega) q
          repeat first | simp -implicitDefEqProofs (disch := first | omega | with_reducible assumption | (simp only [zU, zC]; omega)) only [zT, zA, reduceCtorEq, zB, zC, zD, zE, zF, zG, zH, zI, zJ, zK, zL, reduceIte, F27_l0, t0, t1, t2, t8, t9, g, hr2M, kp, gz, kh, stepOp_app_v, happ] | refine OrW.go ?_
          rw [LoopK_normal]; refine ⟨_, ?_, j + 1, M', a', c', got ++ [q], rfl, rfl, ?qm, ?q0, ?q1, ?q2, ?q8, ?q9, ?_⟩
          case qm | q0 | q1 | q2 | q8 | q9 => first | rfl | (simp -implicitDefEqProofs (disch := first | omega | with_reducible assumption | (simp only [zU, zC]; omega)) only [zT, zA, reduceCtorEq, zB, zC, zD, zE, zF, zG, zH, zI, zJ, zK, zL, reduceIte, t0, t1, t2, t8, t9]; first | done | rfl | (congr 1; omega))
          · omega
          · exact ⟨by omega, hR', (hG.more (by omega) hc (.root (List.getElem_mem hj') hpl)).root hj' fun k hk => by rw [hpl] at hk; cases hk; simp⟩
    · obtain rfl : j = roots.length := by omega
      repeat first | simp -implicitDefEqProofs (disch := first | omega | with_reducible assumption | (simp only [zU, zC]; omega)) only [zT, zA, reduceCtorEq, zB, zC, zD, zE, zF, zG, zH, zI, zJ, zK, zL, reduceIte, F27_l0, t0, t1, t2, t8, t9, g] | refine OrW.go ?_
      refine W_loop (fun N qs => ∃ (i : Nat) (M : AMem) (oa : Option Addr) (oc : Nat) (got : List Nat), N = names.length + 1 - i ∧ qs.ds = [] ∧ qs.m = mx M [] ∧ qs.t 0 = .slice a names.length c ∧ qs.t 1 = .slice na needs.length nc ∧ qs.t 8 = .slice oa got.length oc ∧ qs.t 11 = .int .i64 i ∧ i ≤ got.length ∧ Row m M oa oc got ∧ GInv names needs roots got roots.length i) (names.length + 1 - (0)) ⟨0, M, oa, oc, got, rfl, rfl, ?qm, ?q0, ?q1, ?q8, ?q11, ?_⟩ ?_
      case qm | q0 | q1 | q8 | q11 => first | rfl | (simp -implicitDefEqProofs (disch := first | omega | with_reducible assumption | (simp only [zU, zC]; omega)) only [zT, zA, reduceCtorEq, zB, zC, zD, zE, zF, zG, zH, zI, zJ, zK, zL, reduceIte, t0, t1, t2, t8, t9]; first | done | rfl | (congr 1; omega))
      · exact ⟨by omega, hR, hG⟩
      · rintro N t m1 ds ⟨i, M, oa, oc, got, rfl, hds, hm, t0, t1, t8, t11, hp⟩
        simp only at hds hm t0 t1 t8 t11
        subst hds; replace hm := hm.symm; subst hm
        obtain ⟨hi, hR, hG⟩ := hp
        have hgl := hG.len
        by_cases gi : (i : Int) < (got.length : Int)
        · have hi' : i < got.length := by omega
          obtain ⟨gb, go', rfl, hgb, hgr⟩ := hR.ints.row i hi'
          simp only [iV] at hgr
          have hilt := (hG.sound _ (List.getElem_mem hi')).lt
          have hed := edges_ok (mx M []) a c names (ha.old (hR.old.mx [])) (by omega) na nc needs (hN.old (hR.old.mx [])) hnl got[i] (by omega)
          repeat first | simp -implicitDefEqProofs (disch := first | omega | with_reducible assumption | (simp only [zU, zC]; omega)) only [zT, zA, reduceCtorEq, zB, zC, zD, zE, zF, zG, zH, zI, zJ, zK, zL, reduceIte, F27_l1, t0, t1, t8, t11, gi, hgr] | refine OrW.go ?_
          refine RelC.call hed ?_
          rintro v M2 ⟨hO2, hI, hown⟩
          have hO12 : Old M M2 := (Old.here M []).trans hO2
          obtain ⟨ea, ec, rfl⟩ := hI.len
          have hel : (edgesR names needs got[i]).length ≤ 1000 := by
            have := List.length_filterMap_le (plR names) (rowOf needs got[i]); have := hrow got[i]; unfold edgesR; omega
          have hR2 := hR.more hO12
          have hsub : ∀ k ∈ edgesR names needs got[i], Reach names needs roots k := fun k hk => by
            obtain ⟨s, hs, hk⟩ := List.mem_filterMap.1 hk
            exact .step (hG.sound _ (List.getElem_mem hi')) hs hk
          have hni : ∀ x, ownV (.slice (some ⟨gb, go', none⟩) got.length oc) x → ¬ ownV (.slice ea (edgesR names needs got[i]).length ec) x := fun x hx h2 => by
            have h3 := hR.ints.lt hx
            have h4 := hown x h2
            rw [mx_nil_size] at h4; omega
          generalize hL : edgesR names needs got[i] = L at *
          repeat first | simp -implicitDefEqProofs (disch := first | omega | with_reducible assumption | (simp only [zU, zC]; omega)) only [zT, zA, reduceCtorEq, zB, zC, zD, zE, zF, zG, zH, zI, zJ, zK, zL, reduceIte, t0, t1, t8, t11] | refine OrW.go ?_
          refine W_loop (fun N qs => ∃ (q : Nat) (M3 : AMem) (pa : Option Addr) (pc : Nat) (got' : List Nat), N = L.length - q ∧ qs.ds = [] ∧ qs.m = mx M3 [] ∧ qs.t 0 = .slice a names.length c ∧ qs.t 1 = .slice na needs.length nc ∧ qs.t 8 = .slice pa got'.length pc ∧ qs.t 11 = .int .i64 i ∧ qs.t 12 = .slice ea L.length ec ∧ qs.t 13 = .int .i64 q ∧ q ≤ L.length ∧ Row m M3 pa pc got' ∧ IntB M3 (.slice ea L.length ec) L ∧ (∀ x, ownV (.slice pa got'.length pc) x → ¬ ownV (.slice ea L.length ec) x) ∧ GInv names needs roots got' roots.length i ∧ (∃ h : i < got'.length, edgesR names needs got'[i] = L) ∧ ∀ j (h : j < L.length), j < q → L[j] ∈ got') (L.length - (0)) ⟨0, M2, some ⟨gb, go', none⟩, oc, got, rfl, rfl, ?qm, ?q0, ?q1, ?q8, ?q11, ?q12, ?q13, ?_⟩ ?_
          case qm | q0 | q1 | q8 | q11 | q12 | q13 => first | rfl | (simp -implicitDefEqProofs (disch := first | omega | with_reducible assumption | (simp only [zU, zC]; omega)) only [zT, zA, reduceCtorEq, zB, zC, zD, zE, zF, zG, zH, zI, zJ, zK, zL, reduceIte, t0, t1, t8, t11]; first | done | rfl | (congr 1; omega))
          · exact ⟨by omega, hR2, hI, hni, hG, ⟨hi', hL⟩, fun j h1 h2 => by omega⟩
          · rintro N t m1 ds ⟨q, M3, pa, pc, got', rfl, hds, hm, t0, t1, t8, t11, t12, t13, hp⟩
            simp only at hds hm t0 t1 t8 t11 t12 t13
            subst hds; replace hm := hm.symm; subst hm
            obtain ⟨hq, w1, w2, w3, w4, w5, w6⟩ := hp
            have hgl' := w4.len
            obtain ⟨hi5, hi6⟩ := w5
            by_cases gq : (q : Int) < (L.length : Int)
            · have hq' : q < L.length := by omega
              obtain ⟨lb, lo, rfl, hlb, hlr⟩ := w2.row q hq'
              simp only [iV] at hlr
              have kh := DetC.known (has_ok (mx M3 []) pa pc got' L[q] (w1.ints.row.old (Old.here _ [])) (by omega))
              cases hc : got'.contains L[q] with
              | true =>
                rw [hc] at kh
                repeat first | simp -implicitDefEqProofs (disch := first | omega | with_reducible assumption | (simp only [zU, zC]; omega)) only [zT, zA, reduceCtorEq, zB, zC, zD, zE, zF, zG, zH, zI, zJ, zK, zL, reduceIte, F27_l2, t0, t1, t8, t11, t12, t13, gq, hlr, kh] | refine OrW.go ?_
                rw [LoopK_normal]; refine ⟨_, ?_, q + 1, M3, pa, pc, got', rfl, rfl, ?qm, ?q0, ?q1, ?q8, ?q11, ?q12, ?q13, ?_⟩
                case qm | q0 | q1 | q8 | q11 | q12 | q13 => first | rfl | (simp -implicitDefEqProofs (disch := first | omega | with_reducible assumption | (simp only [zU, zC]; omega)) only [zT, zA, reduceCtorEq, zB, zC, zD, zE, zF, zG, zH, zI, zJ, zK, zL, reduceIte, t0, t1, t8, t11, t12, t13]; first | done | rfl | (congr 1; omega))
                · omega
                · refine ⟨by omega, w1, w2, w3, w4, ⟨hi5, hi6⟩, fun j h1 h2 => ?_⟩
                  rcases Nat.lt_or_ge j q with h | h
                  · exact w6 j h1 h
                  · obtain rfl : j = q := by omega
                    exact List.contains_iff_mem.1 hc
              | false =>
                rw [hc] at kh
                obtain ⟨a', c', M', happ, hR', hk', ho'⟩ := w1.app (by omega) L[q]
                have hw2' := w2.keep hk' fun x hx h => w3 x h hx
                repeat first | simp -implicitDefEqProofs (disch := first | omega | with_reducible assumption | (simp only [zU, zC]; omega)) only [zT, zA, reduceCtorEq, zB, zC, zD, zE, zF, zG, zH, zI, zJ, zK, zL, reduceIte, F27_l2, t0, t1, t8, t11, t12, t13, gq, hlr, kh, stepOp_app_v, happ] | refine OrW.go ?_
                rw [LoopK_normal]; refine ⟨_, ?_, q + 1, M', a', c', got' ++ [L[q]], rfl, rfl, ?qm, ?q0, ?q1, ?q8, ?q11, ?q12, ?q13, ?_⟩
                case qm | q0 | q1 | q8 | q11 | q12 | q13 => first | rfl | (simp -implicitDefEqProofs (disch := first | omega | with_reducible assumption | (simp only [zU, zC]; omega)) only [zT, zA, reduceCtorEq, zB, zC, zD, zE, zF, zG, zH, zI, zJ, zK, zL, reduceIte, t0, t1, t8, t11, t12, t13]; first | done | rfl | (congr 1; omega))
                · omega
                · refine ⟨by omega, hR', hw2', fun x hx h => ?_, w4.more (by omega) hc (hsub _ (List.getElem_mem hq')), ⟨by rw [List.length_append]; omega, by rw [List.getElem_append_left hi5]; exact hi6⟩, fun j h1 h2 => ?_⟩
                  · have := ho' x hx; have := w2.lt h; omega
                  · rcases Nat.lt_or_ge j q with h | h
                    · exact List.mem_append_left _ (w6 j h1 h)
                    · obtain rfl : j = q := by omega
                      simp
            · obtain rfl : q = L.length := by omega
              repeat first | simp -implicitDefEqProofs (disch := first | omega | with_reducible assumption | (simp only [zU, zC]; omega)) only [zT, zA, reduceCtorEq, zB, zC, zD, zE, zF, zG, zH, zI, zJ, zK, zL, reduceIte, F27_l2, t0, t1, t8, t11, t12, t13, gq] | refine OrW.go ?_
              rw [LoopK_normal]; refine ⟨_, ?_, i + 1, M3, pa, pc, got', rfl, rfl, ?qm, ?q0, ?q1, ?q8, ?q11, ?_⟩
              case qm | q0 | q1 | q8 | q11 => first | rfl | (simp -implicitDefEqProofs (disch := first | omega | with_reducible assumption | (simp only [zU, zC]; omega)) only [zT, zA, reduceCtorEq, zB, zC, zD, zE, zF, zG, zH, zI, zJ, zK, zL, reduceIte, t0, t1, t8, t11, t12, t13]; first | done | rfl | (congr 1; omega))
              · omega
              · refine ⟨by omega, w1, w4.step hi5 fun k hk => ?_⟩
                rw [hi6] at hk
                obtain ⟨j, hj, rfl⟩ := List.mem_iff_getElem.1 hk
                exact w6 j hj hj
        · obtain rfl : i = got.length := by omega
          rw [hG.clos]
          repeat first | simp -implicitDefEqProofs (disch := first | omega | with_reducible assumption | (simp only [zU, zC]; omega)) only [zT, zA, reduceCtorEq, zB, zC, zD, zE, zF, zG, zH, zI, zJ, zK, zL, reduceIte, F27_l1, t0, t1, t8, t11, gi] | refine OrW.go ?_
          refine W_loop (fun N qs => ∃ (q : Nat) (M3 : AMem) (pa : Option Addr) (pc : Nat), N = names.length - q ∧ qs.ds = [] ∧ qs.m = mx M3 [] ∧ qs.t 0 = .slice a names.length c ∧ qs.t 8 = .slice oa got.length oc ∧ qs.t 14 = .slice pa ((List.range q).filter got.contains).length pc ∧ qs.t 15 = .int .i64 q ∧ q ≤ names.length ∧ Old M M3 ∧ Row M M3 pa pc ((List.range q).filter got.contains)) (names.length - (0)) ⟨0, M, none, 0, rfl, rfl, ?qm, ?q0, ?q8, ?q14, ?q15, ?_⟩ ?_
          case qm | q0 | q8 | q14 | q15 => first | rfl | (simp -implicitDefEqProofs (disch := first | omega | with_reducible assumption | (simp only [zU, zC]; omega)) only [zT, zA, reduceCtorEq, zB, zC, zD, zE, zF, zG, zH, zI, zJ, zK, zL, reduceIte, t0, t8, List.range_zero, List.filter_nil]; first | done | rfl | (congr 1; omega))
          · exact ⟨by omega, Old.refl _, Row.nil M⟩
          · rintro N t m1 ds ⟨q, M3, pa, pc, rfl, hds, hm, t0, t8, t14, t15, hp⟩
            simp only at hds hm t0 t8 t14 t15
            subst hds; replace hm := hm.symm; subst hm
            obtain ⟨hq, hO3, hR3⟩ := hp
            have kh := DetC.known (has_ok (mx M3 []) oa oc got q (hR.ints.row.old (hO3.mx [])) (by omega))
            by_cases gq : (q : Int) < (names.length : Int)
            · have hq' : q < names.length := by omega
              have hsn : (List.range (q + 1)).filter got.contains = ((List.range q).filter got.contains) ++ (if got.contains q = true then [q] else []) := by
                rw [List.range_succ, List.filter_append]; congr 1
                simp only [List.filter_cons, List.filter_nil]
              have hll : ((List.range q).filter got.contains).length ≤ q := by have := List.length_filter_le got.contains (List.range q); rwa [List.length_range] at this
              cases hc : got.contains q with
              | false =>
                rw [hc] at kh hsn
                simp only [Bool.false_eq_true, if_false, List.append_nil] at hsn
                repeat first | simp -implicitDefEqProofs (disch := first | omega | with_reducible assumption | (simp only [zU, zC]; omega)) only [zT, zA, reduceCtorEq, zB, zC, zD, zE, zF, zG, zH, zI, zJ, zK, zL, reduceIte, F27_l3, t0, t8, t14, t15, gq, kh] | refine OrW.go ?_
                rw [LoopK_normal]; refine ⟨_, ?_, q + 1, M3, pa, pc, rfl, rfl, ?qm, ?q0, ?q8, ?q14, ?q15, ?_⟩
                case qm | q0 | q8 | q14 | q15 => first | rfl | (simp -implicitDefEqProofs (disch := first | omega | with_reducible assumption | (simp only [zU, zC]; omega)) only [zT, zA, reduceCtorEq, zB, zC, zD, zE, zF, zG, zH, zI, zJ, zK, zL, reduceIte, t0, t8, t14, t15, hsn]; first | done | rfl | (congr 1; omega))
                · omega
                · rw [hsn]; exact ⟨by omega, hO3, hR3⟩
              | true =>
                rw [hc] at kh hsn
                simp only [if_true] at hsn
                obtain ⟨a', c', M', happ, hR', -, -⟩ := hR3.app (by omega) q
                rw [← hsn] at hR' happ
                repeat first | simp -implicitDefEqProofs (disch := first | omega | with_reducible assumption | (simp only [zU, zC]; omega)) only [zT, zA, reduceCtorEq, zB, zC, zD, zE, zF, zG, zH, zI, zJ, zK, zL, reduceIte, F27_l3, t0, t8, t14, t15, gq, kh, stepOp_app_v, happ] | refine OrW.go ?_
                rw [LoopK_normal]; refine ⟨_, ?_, q + 1, M', a', c', rfl, rfl, ?qm, ?q0, ?q8, ?q14, ?q15, ?_⟩
                case qm | q0 | q8 | q14 | q15 => first | rfl | (simp -implicitDefEqProofs (disch := first | omega | with_reducible assumption | (simp only [zU, zC]; omega)) only [zT, zA, reduceCtorEq, zB, zC, zD, zE, zF, zG, zH, zI, zJ, zK, zL, reduceIte, t0, t8, t14, t15]; first | done | rfl | (congr 1; omega))
                · omega
                · exact ⟨by omega, hR'.old, hR'⟩
            · obtain rfl : q = names.length := by omega
              repeat first | simp -implicitDefEqProofs (disch := first | omega | with_reducible assumption | (simp only [zU, zC]; omega)) only [zT, zA, reduceCtorEq, zB, zC, zD, zE, zF, zG, zH, zI, zJ, zK, zL, reduceIte, F27_l3, t0, t8, t14, t15, gq] | refine OrW.go ?_
              exact ⟨_, rfl, fun _ => ⟨(hR.old.trans hO3).mx [], _, rfl, hR3.ints.old (Old.here _ [])⟩⟩
end Go.Proofs.YtgkmlbkocgjmmaaDoor
