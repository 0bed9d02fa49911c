/- Parts of a proof: contracts of functions. -/
import Derived.Test.YtidngakhkpodgaaDoorA4
import Derived.Test.YtidngakhkpodgaaDoorShaF
set_option linter.unusedVariables false
set_option linter.unusedSimpArgs false
set_option linter.unnecessarySimpa false
namespace Go.AM
set_option linter.unusedVariables false

/-- A word as a cell. -/
def w32 (x : UInt32) : Value := .int .u32 (x.toNat : Int)
theorem w32_def (x : UInt32) : w32 x = .int .u32 (x.toNat : Int) := rfl
theorem plain_w32 (x : UInt32) : Plain (w32 x) := .int _ _
def shrW (x : UInt32) (b : Nat) : UInt32 := UInt32.ofNat (x.toNat >>> b)
def shlW (x : UInt32) (b : Nat) : UInt32 := UInt32.ofNat (x.toNat <<< b)
def rotr (b : Nat) (x : UInt32) : UInt32 := shrW x b ||| shlW x (32 - b)

theorem wrap_u32n (n : Nat) : IntKind.u32.wrap (n : Int) = ((n % 2 ^ 32 : Nat) : Int) := by simp [IntKind.wrap, IntKind.bits, IntKind.signed]
theorem u32_le (x : UInt32) : (x.toNat : Int) ≤ IntKind.u32.max := by
  have := x.toNat_lt; rw [max_u32]; omega
theorem binV_addw (x y : UInt32) : binV .add (w32 x) (w32 y) = some (w32 (x + y)) := by
  rw [w32_def, w32_def, binV_add, w32_def, show (x.toNat : Int) + y.toNat = ((x.toNat + y.toNat : Nat) : Int) by push_cast; rfl, wrap_u32n, UInt32.toNat_add]
theorem binV_andw (x y : UInt32) : binV .and (w32 x) (w32 y) = some (w32 (x &&& y)) := by
  rw [w32_def, w32_def, binV_and, w32_def, ibits_and_nat (u32_le x) (u32_le y), UInt32.toNat_and]
theorem binV_orw (x y : UInt32) : binV .or (w32 x) (w32 y) = some (w32 (x ||| y)) := by
  rw [w32_def, w32_def, binV_or, w32_def, ibits_or_nat (u32_le x) (u32_le y), UInt32.toNat_or]
theorem binV_xorw (x y : UInt32) : binV .xor (w32 x) (w32 y) = some (w32 (x ^^^ y)) := by
  rw [w32_def, w32_def, binV_xor, w32_def, ibits_xor_nat (u32_le x) (u32_le y), UInt32.toNat_xor]
theorem ofInt_w (x : UInt32) : BitVec.ofInt IntKind.u32.bits (x.toNat : Int) = x.toBitVec := by
  apply BitVec.eq_of_toNat_eq
  rw [ofInt_nat (u32_le x)]; rfl
theorem ibits_andNotw (x y : UInt32) : ibits .andNot .u32 (x.toNat : Int) (y.toNat : Int) = ((x &&& ~~~y).toNat : Int) := by
  simp only [ibits, ofInt_w]
  have h : ((x.toBitVec &&& ~~~y.toBitVec).toNat : Int) ≤ IntKind.u32.max := by
    have := (x.toBitVec &&& ~~~y.toBitVec).isLt
    rw [max_u32]; omega
  exact (wrap_small h).trans rfl
theorem binV_andNotw (x y : UInt32) : binV .andNot (w32 x) (w32 y) = some (w32 (x &&& ~~~y)) := by
  rw [w32_def, w32_def, binV_andNot, w32_def, ibits_andNotw]
theorem binV_shrw {k : IntKind} {x : UInt32} {b : Nat} (h : b ≤ 32) : binV .shr (w32 x) (.int k (b : Int)) = some (w32 (shrW x b)) := by
  rw [w32_def, binV_shr _ _ (by omega), w32_def, shr_nat _ _ _ (by simpa [IntKind.bits] using h)]
  have h2 : x.toNat >>> b < 2 ^ 32 := Nat.lt_of_le_of_lt (Nat.shiftRight_le _ _) x.toNat_lt
  simp [shrW, Nat.mod_eq_of_lt h2]
theorem binV_shlw {k : IntKind} {x : UInt32} {b : Nat} (h : b ≤ 32) : binV .shl (w32 x) (.int k (b : Int)) = some (w32 (shlW x b)) := by
  rw [w32_def, binV_shl _ _ (by omega), w32_def]
  simp only [shl, Int.toNat_natCast, show min b IntKind.u32.bits = b by simp [IntKind.bits]; omega]
  rw [show (x.toNat : Int) * 2 ^ b = ((x.toNat * 2 ^ b : Nat) : Int) by push_cast; rfl, wrap_u32n]
  simp [shlW, Nat.shiftLeft_eq]
theorem not_w (x : UInt32) : unV .xor (w32 x) = some (w32 (~~~x)) := by
  have h := ibits_xor_nat (u32_le (0xFFFFFFFF : UInt32)) (u32_le x)
  have h1 : (((0xFFFFFFFF : UInt32).toNat : Nat) : Int) = 4294967295 := rfl
  rw [h1] at h
  have h2 : (~~~x).toNat = (0xFFFFFFFF : UInt32).toNat ^^^ x.toNat := by
    rw [← UInt32.toNat_xor]; congr 1
  rw [w32_def, w32_def, h2, ← h]; rfl
theorem ws_get {l : List UInt32} {i : Nat} (h : i < l.length) : (l.map w32)[i]? = some (w32 l[i]) := by simp [h]
theorem ws_set (l : List UInt32) (i : Nat) (x : UInt32) : (l.map w32).set i (w32 x) = (l.set i x).map w32 := by simp [List.map_set]
theorem cellsOf_w (x : UInt32) : cellsOf (w32 x) = some [w32 x] := rfl
theorem cellsOf_ws (l : List UInt32) : cellsOf (.agg (l.map w32).toArray) = some (l.map w32) := by
  simp [cellsOf, oneCell, w32]

theorem amW : type_of% @binV_addw ∧ type_of% @binV_andw ∧ type_of% @binV_orw ∧ type_of% @binV_xorw ∧ type_of% @binV_andNotw ∧ type_of% @not_w ∧ type_of% @ws_get ∧ type_of% @ws_set ∧ type_of% @cellsOf_w ∧ type_of% @cellsOf_ws :=
  ⟨@binV_addw, @binV_andw, @binV_orw, @binV_xorw, @binV_andNotw, @not_w, @ws_get, @ws_set, @cellsOf_w, @cellsOf_ws⟩
/-! Sums of bits. -/
theorem ch_eq (e f g : UInt32) : (e &&& f ||| g &&& ~~~e) = (e &&& f ^^^ ~~~e &&& g) := by
  apply UInt32.toBitVec_inj.1
  simp only [UInt32.toBitVec_and, UInt32.toBitVec_or, UInt32.toBitVec_xor, UInt32.toBitVec_not]
  ext i hi
  simp only [BitVec.getElem_and, BitVec.getElem_or, BitVec.getElem_xor, BitVec.getElem_not]
  cases e.toBitVec[i] <;> cases f.toBitVec[i] <;> cases g.toBitVec[i] <;> rfl
theorem maj_eq (a b c : UInt32) : (a &&& b ^^^ a &&& c ^^^ b &&& c) = (a &&& b ||| a &&& c ||| b &&& c) := by
  apply UInt32.toBitVec_inj.1
  simp only [UInt32.toBitVec_and, UInt32.toBitVec_or, UInt32.toBitVec_xor]
  ext i hi
  simp only [BitVec.getElem_and, BitVec.getElem_or, BitVec.getElem_xor]
  cases a.toBitVec[i] <;> cases b.toBitVec[i] <;> cases c.toBitVec[i] <;> rfl
theorem or_comm_w (a b : UInt32) : a ||| b = b ||| a := by
  apply UInt32.toNat_inj.1; rw [UInt32.toNat_or, UInt32.toNat_or, Nat.or_comm]

/-! ### The function, in plain words -/
def spl {α : Type} (R : List α) (o : Nat) (c : List α) : List α := R.take o ++ c ++ R.drop (o + c.length)
theorem splice_spl (R v : List Value) (o : Nat) : splice R o v = spl R o v := rfl
theorem spl_length {α : Type} {R c : List α} {o : Nat} (h : o + c.length ≤ R.length) : (spl R o c).length = R.length := by simp [spl]; omega
theorem spl_nil {α : Type} (R : List α) (o : Nat) : spl R o [] = R := by simp [spl]
theorem spl_map {α β : Type} (f : α → β) (R c : List α) (o : Nat) : (spl R o c).map f = spl (R.map f) o (c.map f) := by simp [spl, List.map_take, List.map_drop]
theorem spl_all {α : Type} {R c : List α} (h : c.length = R.length) : spl R 0 c = c := by simp [spl, h]
theorem spl_get {α : Type} {R c : List α} {o : Nat} (h : o + c.length ≤ R.length) (i : Nat) : (spl R o c)[i]? = if i < o then R[i]? else if i < o + c.length then c[i - o]? else R[i]? := by
  simp only [spl, List.append_assoc]
  by_cases h1 : i < o
  · rw [if_pos h1, List.getElem?_append_left (by simp; omega), List.getElem?_take_of_lt h1]
  · rw [if_neg h1, List.getElem?_append_right (by simp; omega)]
    have hl : (R.take o).length = o := by simp; omega
    rw [hl]
    by_cases h2 : i < o + c.length
    · rw [if_pos h2, List.getElem?_append_left (by omega)]
    · rw [if_neg h2, List.getElem?_append_right (by omega), List.getElem?_drop]; congr 1; omega
theorem spl_cons {α : Type} {R c : List α} {o : Nat} {x : α} (h : o + c.length < R.length) : spl R o (x :: c) = spl (R.set o x) (o + 1) c := by
  apply List.ext_getElem?
  intro i
  rw [spl_get (by simp; omega), spl_get (by simp; omega)]
  simp only [List.length_cons]
  by_cases h1 : i < o
  · rw [if_pos h1, if_pos (by omega), List.getElem?_set_ne (by omega)]
  · rw [if_neg h1]
    by_cases h2 : i = o
    · subst h2; rw [if_pos (by omega), if_pos (by omega), List.getElem?_set_self (by omega)]; simp
    · rw [if_neg (show ¬ i < o + 1 by omega)]
      by_cases h3 : i < o + (c.length + 1)
      · rw [if_pos h3, if_pos (by omega), show i - o = (i - (o + 1)) + 1 by omega, List.getElem?_cons_succ]
      · rw [if_neg h3, if_neg (by omega), List.getElem?_set_ne (by omega)]
theorem spl_snoc {α : Type} {R c : List α} {o k : Nat} {x : α} (hk : k = o + c.length) (h : k < R.length) : (spl R o c).set k x = spl R o (c ++ [x]) := by
  subst hk
  apply List.ext_getElem?
  intro i
  rw [spl_get (by simp; omega)]
  simp only [List.length_append, List.length_singleton]
  by_cases h2 : i = o + c.length
  · subst h2
    rw [List.getElem?_set_self (by rw [spl_length (by omega)]; omega), if_neg (by omega), if_pos (by omega), show o + c.length - o = c.length by omega]; simp
  · rw [List.getElem?_set_ne (by omega), spl_get (by omega)]
    by_cases h1 : i < o
    · rw [if_pos h1, if_pos h1]
    · rw [if_neg h1, if_neg h1]
      by_cases h3 : i < o + c.length
      · rw [if_pos h3, if_pos (by omega), List.getElem?_append_left (by omega)]
      · rw [if_neg h3, if_neg (by omega)]

def zip2 (a b : List UInt32) : List UInt32 := List.zipWith (· + ·) a b
theorem zip2_length {a b : List UInt32} {n : Nat} (ha : a.length = n) (hb : b.length = n) : (zip2 a b).length = n := by simp [zip2, ha, hb]
theorem zip2_assoc : ∀ (a b c : List UInt32), zip2 (zip2 a b) c = zip2 a (zip2 b c)
  | [], _, _ => by simp [zip2]
  | _ :: _, [], _ => by simp [zip2]
  | _ :: _, _ :: _, [] => by simp [zip2]
  | x :: a, y :: b, z :: c => by
    have := zip2_assoc a b c
    simp only [zip2, List.zipWith_cons_cons] at this ⊢
    rw [this, UInt32.add_assoc]
def beginW : List UInt32 := [1779033703, 3144134277, 1013904242, 2773480762, 1359893119, 2600822924, 528734635, 1541459225]
def movedW (x : UInt32) (k l m : Nat) : UInt32 := rotr k x ^^^ rotr l x ^^^ shrW x m
def turnedW (x : UInt32) (k l m : Nat) : UInt32 := rotr k x ^^^ rotr l x ^^^ rotr m x
def word4 (l : List UInt8) : UInt32 := l.foldl (fun a c => shlW a 8 ||| UInt32.ofNat c.toNat) 0
def wordAt (b : List UInt8) (W : List UInt32) (t : Nat) : UInt32 :=
  if t < 16 then word4 ((b.drop (4 * t)).take 4) else movedW (W.getD (t - 2) 0) 17 19 10 + W.getD (t - 7) 0 + movedW (W.getD (t - 15) 0) 7 18 3 + W.getD (t - 16) 0
def sched (b : List UInt8) : Nat → List UInt32
  | 0 => []
  | t + 1 => sched b t ++ [wordAt b (sched b t) t]
theorem sched_length (b : List UInt8) : ∀ t, (sched b t).length = t
  | 0 => rfl
  | t + 1 => by simp [sched, sched_length b t]
def roundW (v : List UInt32) (k w : UInt32) : List UInt32 := match v with
  | [a, b, c, d, e, f, g, h] =>
    [h + turnedW e 6 11 25 + (e &&& f ||| g &&& ~~~e) + k + w + (turnedW a 2 13 22 + (a &&& b ^^^ a &&& c ^^^ b &&& c)), a, b, c, d + (h + turnedW e 6 11 25 + (e &&& f ||| g &&& ~~~e) + k + w), e, f, g]
  | v => v
theorem roundW_length (v : List UInt32) (k w : UInt32) : (roundW v k w).length = v.length := by unfold roundW; split <;> rfl
def roundsW (K : List UInt32) (b : List UInt8) (v : List UInt32) : Nat → List UInt32
  | 0 => v
  | t + 1 => roundW (roundsW K b v t) (K.getD t 0) ((sched b 64).getD t 0)
theorem roundsW_length (K : List UInt32) (b : List UInt8) (v : List UInt32) : ∀ t, (roundsW K b v t).length = v.length
  | 0 => rfl
  | t + 1 => by rw [roundsW, roundW_length, roundsW_length K b v t]
def constW : List UInt32 := [1116352408, 1899447441, 3049323471, 3921009573, 961987163, 1508970993, 2453635748, 2870763221, 3624381080, 310598401, 607225278, 1426881987, 1925078388, 2162078206, 2614888103, 3248222580, 3835390401, 4022224774, 264347078, 604807628, 770255983, 1249150122, 1555081692, 1996064986, 2554220882, 2821834349, 2952996808, 3210313671, 3336571891, 3584528711, 113926993, 338241895, 666307205, 773529912, 1294757372, 1396182291, 1695183700, 1986661051, 2177026350, 2456956037, 2730485921, 2820302411, 3259730800, 3345764771, 3516065817, 3600352804, 4094571909, 275423344, 430227734, 506948616, 659060556, 883997877, 958139571, 1322822218, 1537002063, 1747873779, 1955562222, 2024104815, 2227730452, 2361852424, 2428436474, 2756734187, 3204031479, 3329325298]
/-- What a block adds. -/
def moreStep (M : List UInt32) (b : List UInt8) : List UInt32 := zip2 M (roundsW constW b (zip2 beginW M) 64)
theorem moreStep_length {M : List UInt32} {b : List UInt8} (h : M.length = 8) : (moreStep M b).length = 8 :=
  zip2_length h (by rw [roundsW_length]; exact zip2_length rfl h)

/-- The first k of one row, the others of another. -/
def mix {α : Type} (k : Nat) (X B : List α) : List α := X.take k ++ B.drop k
theorem mix_zero {α : Type} (X B : List α) : mix 0 X B = B := by simp [mix]
theorem mix_all {α : Type} {k : Nat} {X B : List α} (h : X.length = k) (h' : B.length = k) : mix k X B = X := by
  simp only [mix]; rw [List.take_of_length_le (by omega), List.drop_of_length_le (by omega), List.append_nil]
theorem mix_length {α : Type} {k : Nat} {X B : List α} (h : X.length = B.length) : (mix k X B).length = B.length := by simp [mix]; omega
theorem mix_get {α : Type} {k : Nat} {X B : List α} (h : X.length = B.length) (hk : k < B.length) : (mix k X B)[k]'(by rw [mix_length h]; exact hk) = B[k] := by
  simp only [mix]
  rw [List.getElem_append_right (by simp; omega)]
  simp [List.length_take, show min k X.length = k by omega]
theorem mix_set {α : Type} {k : Nat} {X B : List α} (h : X.length = B.length) (hk : k < X.length) : (mix k X B).set k X[k] = mix (k + 1) X B := by
  apply List.ext_getElem?
  intro i
  have hl : (X.take k).length = k := by simp; omega
  have hl' : (X.take (k + 1)).length = k + 1 := by simp; omega
  by_cases hi : i = k
  · subst hi
    rw [List.getElem?_set_self (by rw [mix_length h]; omega)]
    simp only [mix]
    rw [List.getElem?_append_left (by omega), List.getElem?_take_of_lt (by omega), List.getElem?_eq_getElem hk]
  · rw [List.getElem?_set_ne (by omega)]
    simp only [mix]
    by_cases h1 : i < k
    · rw [List.getElem?_append_left (by omega), List.getElem?_append_left (by omega), List.getElem?_take_of_lt h1, List.getElem?_take_of_lt (by omega)]
    · rw [List.getElem?_append_right (by omega), List.getElem?_append_right (by omega), List.getElem?_drop, List.getElem?_drop, hl, hl']
      congr 1; omega
theorem zip2_get {a b : List UInt32} {i : Nat} (ha : i < a.length) (hb : i < b.length) : (zip2 a b)[i]'(by simp [zip2]; omega) = a[i] + b[i] := by simp [zip2]

structure HS where
  M : List UInt32
  R : List UInt8
  n : Nat
def hs0 : HS := ⟨List.replicate 8 0, List.replicate 64 0, 0⟩
def HS.put1 (s : HS) (c : UInt8) : HS := ⟨if (s.n + 1) % 64 = 0 then moreStep s.M (s.R.set (s.n % 64) c) else s.M, s.R.set (s.n % 64) c, s.n + 1⟩
def HS.put (s : HS) (l : List UInt8) : HS := l.foldl HS.put1 s
theorem HS.put_append (s : HS) (a b : List UInt8) : s.put (a ++ b) = (s.put a).put b := by simp [HS.put]
theorem HS.put_nil (s : HS) : s.put [] = s := rfl
def HS.ok (s : HS) : Prop := s.M.length = 8 ∧ s.R.length = 64
theorem HS.put1_ok {s : HS} (h : s.ok) (c : UInt8) : (s.put1 c).ok := by
  refine ⟨?_, by simp [HS.put1, h.2]⟩
  simp only [HS.put1]; split
  · exact moreStep_length h.1
  · exact h.1
theorem HS.put_ok {s : HS} (h : s.ok) (l : List UInt8) : (s.put l).ok := by
  induction l generalizing s with
  | nil => exact h
  | cons c l ih => exact ih (HS.put1_ok h c)
theorem hs0_ok : hs0.ok := ⟨rfl, rfl⟩
theorem HS.put_n (s : HS) (l : List UInt8) : (s.put l).n = s.n + l.length := by
  induction l generalizing s with
  | nil => rfl
  | cons c l ih => rw [HS.put, List.foldl_cons]; have := ih (s.put1 c); rw [HS.put] at this; rw [this]; simp [HS.put1]; omega

/-- A piece that fits into the block. -/
theorem HS.put_fit {s : HS} (h : s.ok) {c : List UInt8} (hf : s.n % 64 + c.length < 64) : s.put c = ⟨s.M, spl s.R (s.n % 64) c, s.n + c.length⟩ := by
  induction c generalizing s with
  | nil => simp [HS.put, spl_nil]
  | cons x c ih =>
    have h1 : s.put1 x = ⟨s.M, s.R.set (s.n % 64) x, s.n + 1⟩ := by
      simp only [List.length_cons] at hf
      unfold HS.put1; rw [if_neg (by omega)]
    simp only [List.length_cons] at hf
    have h2 : (s.n + 1) % 64 = s.n % 64 + 1 := by omega
    show (s.put1 x).put c = _
    rw [ih (HS.put1_ok h x) (by rw [h1]; simp only; omega), h1]
    simp only [h2, List.length_cons]
    rw [spl_cons (by rw [h.2]; omega)]
    congr 1; omega
theorem HS.put_full {s : HS} (h : s.ok) {c : List UInt8} (hc : c ≠ []) (hf : s.n % 64 + c.length = 64) : s.put c = ⟨moreStep s.M (spl s.R (s.n % 64) c), spl s.R (s.n % 64) c, s.n + c.length⟩ := by
  obtain ⟨a, x, rfl⟩ : ∃ a x, c = a ++ [x] := ⟨c.dropLast, c.getLast hc, (List.dropLast_concat_getLast hc).symm⟩
  simp only [List.length_append, List.length_singleton] at hf
  rw [HS.put_append, HS.put_fit h (by omega)]
  simp only [HS.put, List.foldl_cons, List.foldl_nil, HS.put1]
  have h2 : (s.n + a.length) % 64 = 63 := by omega
  have h3 : (spl s.R (s.n % 64) a).set 63 x = spl s.R (s.n % 64) (a ++ [x]) := spl_snoc (by omega) (by rw [h.2]; omega)
  rw [if_pos (by omega), h2, h3]
  simp only [List.length_append, List.length_singleton, Nat.add_assoc]
/-- The state's cells. -/
def cH (s : HS) : List Value := s.M.map w32 ++ (s.R.map byteV ++ [.int .u64 (s.n : Int)])
theorem cH_length {s : HS} (h : s.ok) : (cH s).length = 73 := by simp [cH, h.1, h.2]
theorem cH_M {s : HS} (h : s.ok) : cutL (cH s) 0 8 = some (s.M.map w32) := by
  have := cH_length h
  simp only [cutL]; rw [if_pos (by omega)]
  have hl : (s.M.map w32).length = 8 := by simp [h.1]
  simp [cH, h.1]
theorem cH_all {s : HS} (h : s.ok) : cutL (cH s) 0 73 = some (cH s) := cutL_all (cH_length h)
theorem cH_n {s : HS} (h : s.ok) : (cH s)[72]? = some (.int .u64 (s.n : Int)) := by
  rw [cH, List.getElem?_append_right (by simp [h.1]), List.getElem?_append_right (by simp [h.1, h.2])]
  simp [h.1, h.2]
theorem cH_Mi {s : HS} (h : s.ok) {i : Nat} (hi : i < 8) : (cH s)[i]? = some (w32 (s.M[i]'(by rw [h.1]; exact hi))) := by
  rw [cH, List.getElem?_append_left (by simp [h.1]; exact hi), ws_get]
theorem cH_Ri {s : HS} (h : s.ok) {i : Nat} (hi : i < 64) : (cH s)[8 + i]? = some (byteV (s.R[i]'(by rw [h.2]; exact hi))) := by
  rw [cH, List.getElem?_append_right (by simp [h.1]), List.getElem?_append_left (by simp [h.1, h.2]; exact hi)]
  simp only [List.length_map, h.1, Nat.add_sub_cancel_left]
  rw [bytes_get]
theorem cH_setM {s : HS} (h : s.ok) {i : Nat} (hi : i < 8) (x : UInt32) : (cH s).set i (w32 x) = cH { s with M := s.M.set i x } := by
  simp only [cH]
  rw [List.set_append_left _ _ (by simp [h.1]; exact hi), ws_set]
theorem cH_setn {s : HS} (h : s.ok) (n : Nat) : (cH s).set 72 (.int .u64 (n : Int)) = cH { s with n := n } := by
  simp only [cH]
  rw [List.set_append_right _ _ (by simp [h.1]), List.set_append_right _ _ (by simp [h.1, h.2])]
  simp [h.1, h.2]
theorem spl_app {α : Type} {A B C c : List α} {o : Nat} (h : o + c.length ≤ B.length) : spl (A ++ (B ++ C)) (A.length + o) c = A ++ (spl B o c ++ C) := by
  have e1 : (A ++ (B ++ C)).take (A.length + o) = A ++ B.take o := by
    rw [List.take_append, List.take_of_length_le (by omega), show A.length + o - A.length = o by omega, List.take_append, show o - B.length = 0 by omega]; simp
  have e2 : (A ++ (B ++ C)).drop (A.length + o + c.length) = B.drop (o + c.length) ++ C := by
    rw [List.drop_append, List.drop_of_length_le (by omega), show A.length + o + c.length - A.length = o + c.length by omega, List.drop_append, show o + c.length - B.length = 0 by omega]; simp
  simp only [spl]; rw [e1, e2]; simp
theorem cH_R {s : HS} (h : s.ok) {at_ : Nat} {c : List UInt8} (hc : at_ + c.length ≤ 64) : splice (cH s) (8 + at_) (c.map byteV) = cH { s with R := spl s.R at_ c } := by
  have h8 : (s.M.map w32).length = 8 := by simp [h.1]
  have := spl_app (A := s.M.map w32) (B := s.R.map byteV) (C := [.int .u64 (s.n : Int)]) (c := c.map byteV) (o := at_) (by simp [h.2]; exact hc)
  rw [h8] at this
  rw [splice_spl, cH, cH, this, spl_map]
theorem plain_cH (s : HS) : ∀ v ∈ cH s, Plain v := fun v hv => by
  simp only [cH, List.mem_append, List.mem_map, List.mem_singleton] at hv
  rcases hv with ⟨x, _, rfl⟩ | ⟨x, _, rfl⟩ | rfl
  · exact plain_w32 _
  · exact .int _ _
  · exact .int _ _
theorem oneCell_w (x : UInt32) : oneCell (w32 x) = true := rfl
theorem len8 {l : List UInt32} (h : l.length = 8) : ∃ a b c d e f g i, l = [a, b, c, d, e, f, g, i] := by
  match l, h with
  | [a, b, c, d, e, f, g, i], _ => exact ⟨a, b, c, d, e, f, g, i, rfl⟩
end Go.AM
namespace Go.Proofs.YtidngakhkpodgaaDoor
open Go Go.AM
set_option linter.unusedVariables false
set_option linter.unusedSimpArgs false

theorem rot_ok (m : AMem) (x : UInt32) (k : Nat) (h1 : 1 ≤ k) (h2 : k ≤ 31) : PureC Tryd.prog 3 36 [w32 x, .int .i64 (0 - (k : Int))] m (w32 (rotr k x)) := by
  refine pure_of_W (fn := Tryd.f36) rfl rfl F36_ok (by simp [F36]) (plain_w32 _) ?_
  have e1 : ibits .and .u64 (IntKind.u64.wrap (0 - (k : Int))) 31 = ((32 - k : Nat) : Int) := by
    have : ∀ k : Fin 32, 1 ≤ k.val → ibits .and .u64 (IntKind.u64.wrap (0 - (k.val : Int))) 31 = ((32 - k.val : Nat) : Int) := by decide +kernel
    exact this ⟨k, by omega⟩ h1
  have e2 : IntKind.u64.wrap (32 - ((32 - k : Nat) : Int)) = (k : Int) := by rw [wrap_u64 (by omega) (by omega)]; omega
  simp (implicitDefEqProofs := false) (maxSteps := 1000000) (disch := first | omega | with_reducible assumption | (simp only [List.length_map, List.length_cons, List.length_nil, List.length_set, List.length_append, List.length_replicate, List.length_take, List.length_drop, mk_size, AMem.size_set, Nat.reduceAdd]; omega)) only [amT, cut, bnd, Nat.reduceBEq, reduceCtorEq, Nat.reduceEqDiff, Nat.reduceAdd, Nat.reduceMul, Nat.reduceSub, Int.reduceToNat, Int.reduceEq, Int.reduceLT, Int.reduceLE, Int.reduceAdd, Int.reduceSub, Int.reduceMul, reduceIte, resVs, resV, packV, initT, addr, F36, e1, e2, amW, binV_shrw, binV_shlw]
  rw [or_comm_w]; rfl
theorem r_ok (m : AMem) (x : UInt32) (k : Nat) (h1 : 1 ≤ k) (h2 : k ≤ 31) : PureC Tryd.prog 3 31 [.int .i64 (k : Int), w32 x] m (w32 (rotr k x)) := by
  refine pure_of_W (fn := Tryd.f31) rfl rfl F31_ok (by simp [F31]) (plain_w32 _) ?_
  have e2 : IntKind.i64.wrap (32 - (k : Int)) = ((32 - k : Nat) : Int) := by rw [wrap_i64 (by omega) (by omega)]; omega
  simp (implicitDefEqProofs := false) (maxSteps := 1000000) (disch := first | omega | with_reducible assumption | (simp only [List.length_map, List.length_cons, List.length_nil, List.length_set, List.length_append, List.length_replicate, List.length_take, List.length_drop, mk_size, AMem.size_set, Nat.reduceAdd]; omega)) only [amT, cut, bnd, Nat.reduceBEq, reduceCtorEq, Nat.reduceEqDiff, Nat.reduceAdd, Nat.reduceMul, Nat.reduceSub, Int.reduceToNat, Int.reduceEq, Int.reduceLT, Int.reduceLE, Int.reduceAdd, Int.reduceSub, Int.reduceMul, reduceIte, resVs, resV, packV, initT, addr, F31, e2, amW, binV_shrw, binV_shlw]
  rfl
theorem kRot {m : AMem} {x : UInt32} {k : Nat} (h1 : 1 ≤ k) (h2 : k ≤ 31) : type_of% (DetC.known (rot_ok m x k h1 h2)) := DetC.known (rot_ok m x k h1 h2)
theorem turned_ok (m : AMem) (x : UInt32) (k l n : Nat) (h1 : 1 ≤ k) (h2 : k ≤ 31) (h3 : 1 ≤ l) (h4 : l ≤ 31) (h5 : 1 ≤ n) (h6 : n ≤ 31) : PureC Tryd.prog 3 33 [w32 x, .int .i64 (k : Int), .int .i64 (l : Int), .int .i64 (n : Int)] m (w32 (turnedW x k l n)) := by
  refine pure_of_W (fn := Tryd.f33) rfl rfl F33_ok (by simp [F33]) (plain_w32 _) ?_
  simp (implicitDefEqProofs := false) (maxSteps := 1000000) (disch := first | omega | with_reducible assumption | (simp only [List.length_map, List.length_cons, List.length_nil, List.length_set, List.length_append, List.length_replicate, List.length_take, List.length_drop, mk_size, AMem.size_set, Nat.reduceAdd]; omega)) only [amT, cut, bnd, Nat.reduceBEq, reduceCtorEq, Nat.reduceEqDiff, Nat.reduceAdd, Nat.reduceMul, Nat.reduceSub, Int.reduceToNat, Int.reduceEq, Int.reduceLT, Int.reduceLE, Int.reduceAdd, Int.reduceSub, Int.reduceMul, reduceIte, resVs, resV, packV, initT, addr, F33, kRot, amW]
  repeat refine OrW.go ?_
  rfl
theorem moved_ok (m : AMem) (x : UInt32) (k l n : Nat) (h1 : 1 ≤ k) (h2 : k ≤ 31) (h3 : 1 ≤ l) (h4 : l ≤ 31) (h5 : 1 ≤ n) (h6 : n ≤ 31) : PureC Tryd.prog 3 32 [w32 x, .int .i64 (k : Int), .int .i64 (l : Int), .int .i64 (n : Int)] m (w32 (movedW x k l n)) := by
  refine pure_of_W (fn := Tryd.f32) rfl rfl F32_ok (by simp [F32]) (plain_w32 _) ?_
  simp (implicitDefEqProofs := false) (maxSteps := 1000000) (disch := first | omega | with_reducible assumption | (simp only [List.length_map, List.length_cons, List.length_nil, List.length_set, List.length_append, List.length_replicate, List.length_take, List.length_drop, mk_size, AMem.size_set, Nat.reduceAdd]; omega)) only [amT, cut, bnd, Nat.reduceBEq, reduceCtorEq, Nat.reduceEqDiff, Nat.reduceAdd, Nat.reduceMul, Nat.reduceSub, Int.reduceToNat, Int.reduceEq, Int.reduceLT, Int.reduceLE, Int.reduceAdd, Int.reduceSub, Int.reduceMul, reduceIte, resVs, resV, packV, initT, addr, F32, kRot, amW, binV_shrw]
  repeat refine OrW.go ?_
  rfl
theorem kTurned {m : AMem} {x : UInt32} {k l n : Nat} (h1 : 1 ≤ k) (h2 : k ≤ 31) (h3 : 1 ≤ l) (h4 : l ≤ 31) (h5 : 1 ≤ n) (h6 : n ≤ 31) : type_of% (DetC.known (turned_ok m x k l n h1 h2 h3 h4 h5 h6)) := DetC.known (turned_ok m x k l n h1 h2 h3 h4 h5 h6)
theorem kMoved {m : AMem} {x : UInt32} {k l n : Nat} (h1 : 1 ≤ k) (h2 : k ≤ 31) (h3 : 1 ≤ l) (h4 : l ≤ 31) (h5 : 1 ≤ n) (h6 : n ≤ 31) : type_of% (DetC.known (moved_ok m x k l n h1 h2 h3 h4 h5 h6)) := DetC.known (moved_ok m x k l n h1 h2 h3 h4 h5 h6)
end Go.Proofs.YtidngakhkpodgaaDoor
namespace Go.Proofs.YtidngakhkpodgaaDoor
open Go Go.AM
set_option linter.unusedVariables false
set_option linter.unusedSimpArgs false

theorem beginW_len : beginW.length = 8 := rfl
theorem zero8 : [Value.int .u32 0, .int .u32 0, .int .u32 0, .int .u32 0, .int .u32 0, .int .u32 0, .int .u32 0, .int .u32 0] = (List.replicate 8 (0 : UInt32)).map w32 := rfl
/-- The package's variables, as they are laid. -/
structure Glob (m : AMem) : Prop where
  k : ∃ e sp, m.get 0 = .cells (constW.map w32) e false sp
  b : ∃ e sp, m.get 1 = .cells (beginW.map w32) e false sp
  s : 2 < m.size
theorem Glob.old {m M : AMem} (h : Glob m) (ho : Old m M) : Glob M := ⟨by rw [ho.2 _ (by have := h.s; omega)]; exact h.k, by rw [ho.2 _ (by have := h.s; omega)]; exact h.b, by have := h.s; have := ho.1; omega⟩

theorem plain_ws (l : List UInt32) : Plain (.agg (l.map w32).toArray) := .agg fun v hv => by
  simp at hv; obtain ⟨x, _, rfl⟩ := hv; exact plain_w32 _

theorem state_ok (m : AMem) (b : Nat) (s : HS) (hg : Glob m) (hs : s.ok) (hb : b < m.size) (hm : m.get b = .cells (cH s) 35 true .exact) :
    PureC Tryd.prog 3 25 [.pointer (some ⟨b, 0, none⟩)] m (.agg ((zip2 beginW s.M).map w32).toArray) := by
  refine pure_of_W (fn := Tryd.f25) rfl rfl F25_ok (by simp [F25]) (plain_ws _) ?_
  obtain ⟨eb, spb, g1⟩ := hg.b
  have gs := hg.s
  have c8 := cH_M hs
  have m8 := hs.1
  have z8 : (zip2 beginW s.M).length = 8 := zip2_length rfl m8
  have hbl := beginW_len
  simp (implicitDefEqProofs := false) (maxSteps := 1000000) (disch := first | omega | with_reducible assumption | (simp only [List.length_map, List.length_cons, List.length_nil, List.length_set, List.length_append, List.length_replicate, List.length_take, List.length_drop, mk_size, AMem.size_set, Nat.reduceAdd]; omega)) only [amT, cut, bnd, Nat.reduceBEq, reduceCtorEq, Nat.reduceEqDiff, Nat.reduceAdd, Nat.reduceMul, Nat.reduceSub, Int.reduceToNat, Int.reduceEq, Int.reduceLT, Int.reduceLE, Int.reduceAdd, Int.reduceSub, Int.reduceMul, reduceIte, resVs, resV, packV, initT, addr, F25, g1, hm, c8, cutL_all, zero8, beginW_len, cellsOf_ws]
  refine W_loop (fun N qs => ∃ (i : Nat), N = 8 - i ∧ qs.ds = [] ∧ qs.m = mx m [.cells ((List.replicate 8 (0 : UInt32)).map w32) 31 true .exact, .cells ((mix i (zip2 beginW s.M) beginW).map w32) 31 true .exact] ∧ qs.t 2 = .pointer (some ⟨m.size, 0, none⟩) ∧ qs.t 3 = .pointer (some ⟨m.size + 1, 0, none⟩) ∧ qs.t 10 = .agg (s.M.map w32).toArray ∧ qs.t 11 = .int .i64 i ∧ i ≤ 8) (8 - (0)) ⟨0, rfl, rfl, by first | rfl | (simp (implicitDefEqProofs := false) (maxSteps := 1000000) (disch := first | omega | with_reducible assumption | (simp only [List.length_map, List.length_cons, List.length_nil, List.length_set, List.length_append, List.length_replicate, List.length_take, List.length_drop, mk_size, AMem.size_set, Nat.reduceAdd]; omega)) only [amT, cut, bnd, Nat.reduceBEq, reduceCtorEq, Nat.reduceEqDiff, Nat.reduceAdd, Nat.reduceMul, Nat.reduceSub, Int.reduceToNat, Int.reduceEq, Int.reduceLT, Int.reduceLE, Int.reduceAdd, Int.reduceSub, Int.reduceMul, reduceIte, resVs, resV, packV, initT, addr, mix_zero]; first | done | rfl | (congr 1; omega)), by first | rfl | (simp (implicitDefEqProofs := false) (maxSteps := 1000000) (disch := first | omega | with_reducible assumption | (simp only [List.length_map, List.length_cons, List.length_nil, List.length_set, List.length_append, List.length_replicate, List.length_take, List.length_drop, mk_size, AMem.size_set, Nat.reduceAdd]; omega)) only [amT, cut, bnd, Nat.reduceBEq, reduceCtorEq, Nat.reduceEqDiff, Nat.reduceAdd, Nat.reduceMul, Nat.reduceSub, Int.reduceToNat, Int.reduceEq, Int.reduceLT, Int.reduceLE, Int.reduceAdd, Int.reduceSub, Int.reduceMul, reduceIte, resVs, resV, packV, initT, addr, mix_zero]; first | done | rfl | (congr 1; omega)), by first | rfl | (simp (implicitDefEqProofs := false) (maxSteps := 1000000) (disch := first | omega | with_reducible assumption | (simp only [List.length_map, List.length_cons, List.length_nil, List.length_set, List.length_append, List.length_replicate, List.length_take, List.length_drop, mk_size, AMem.size_set, Nat.reduceAdd]; omega)) only [amT, cut, bnd, Nat.reduceBEq, reduceCtorEq, Nat.reduceEqDiff, Nat.reduceAdd, Nat.reduceMul, Nat.reduceSub, Int.reduceToNat, Int.reduceEq, Int.reduceLT, Int.reduceLE, Int.reduceAdd, Int.reduceSub, Int.reduceMul, reduceIte, resVs, resV, packV, initT, addr, mix_zero]; first | done | rfl | (congr 1; omega)), by first | rfl | (simp (implicitDefEqProofs := false) (maxSteps := 1000000) (disch := first | omega | with_reducible assumption | (simp only [List.length_map, List.length_cons, List.length_nil, List.length_set, List.length_append, List.length_replicate, List.length_take, List.length_drop, mk_size, AMem.size_set, Nat.reduceAdd]; omega)) only [amT, cut, bnd, Nat.reduceBEq, reduceCtorEq, Nat.reduceEqDiff, Nat.reduceAdd, Nat.reduceMul, Nat.reduceSub, Int.reduceToNat, Int.reduceEq, Int.reduceLT, Int.reduceLE, Int.reduceAdd, Int.reduceSub, Int.reduceMul, reduceIte, resVs, resV, packV, initT, addr, mix_zero]; first | done | rfl | (congr 1; omega)), by first | rfl | (simp (implicitDefEqProofs := false) (maxSteps := 1000000) (disch := first | omega | with_reducible assumption | (simp only [List.length_map, List.length_cons, List.length_nil, List.length_set, List.length_append, List.length_replicate, List.length_take, List.length_drop, mk_size, AMem.size_set, Nat.reduceAdd]; omega)) only [amT, cut, bnd, Nat.reduceBEq, reduceCtorEq, Nat.reduceEqDiff, Nat.reduceAdd, Nat.reduceMul, Nat.reduceSub, Int.reduceToNat, Int.reduceEq, Int.reduceLT, Int.reduceLE, Int.reduceAdd, Int.reduceSub, Int.reduceMul, reduceIte, resVs, resV, packV, initT, addr, mix_zero]; first | done | rfl | (congr 1; omega)), ?_⟩ ?_
  · omega
  · rintro N t m1 ds ⟨i, rfl, hds, hm, t2, t3, t10, t11, hp⟩
    simp only at hds hm t2 t3 t10 t11
    subst hds; replace hm := hm.symm; subst hm
    have hl := mix_length (k := i) (show (zip2 beginW s.M).length = beginW.length by rw [z8]; rfl)
    by_cases hi : (i : Int) < 8
    · have h1 := mix_get (k := i) (show (zip2 beginW s.M).length = beginW.length by rw [z8]; rfl) (by rw [beginW_len]; omega)
      have h2 := mix_set (k := i) (show (zip2 beginW s.M).length = beginW.length by rw [z8]; rfl) (by omega)
      have h3 := zip2_get (a := beginW) (b := s.M) (i := i) (by rw [beginW_len]; omega) (by omega)
      rw [h3] at h2
      simp (implicitDefEqProofs := false) (maxSteps := 1000000) (disch := first | omega | with_reducible assumption | (simp only [List.length_map, List.length_cons, List.length_nil, List.length_set, List.length_append, List.length_replicate, List.length_take, List.length_drop, mk_size, AMem.size_set, Nat.reduceAdd]; omega)) only [amT, cut, bnd, Nat.reduceBEq, reduceCtorEq, Nat.reduceEqDiff, Nat.reduceAdd, Nat.reduceMul, Nat.reduceSub, Int.reduceToNat, Int.reduceEq, Int.reduceLT, Int.reduceLE, Int.reduceAdd, Int.reduceSub, Int.reduceMul, reduceIte, resVs, resV, packV, initT, addr, F25_l0, t2, t3, t10, t11, hi, amW, h1, h2, hl, beginW_len]
      rw [LoopK_normal]; refine ⟨_, ?_, i + 1, rfl, rfl, by first | rfl | (simp (implicitDefEqProofs := false) (maxSteps := 1000000) (disch := first | omega | with_reducible assumption | (simp only [List.length_map, List.length_cons, List.length_nil, List.length_set, List.length_append, List.length_replicate, List.length_take, List.length_drop, mk_size, AMem.size_set, Nat.reduceAdd]; omega)) only [amT, cut, bnd, Nat.reduceBEq, reduceCtorEq, Nat.reduceEqDiff, Nat.reduceAdd, Nat.reduceMul, Nat.reduceSub, Int.reduceToNat, Int.reduceEq, Int.reduceLT, Int.reduceLE, Int.reduceAdd, Int.reduceSub, Int.reduceMul, reduceIte, resVs, resV, packV, initT, addr, t2, t3, t10, t11]; first | done | rfl | (congr 1; omega)), by first | rfl | (simp (implicitDefEqProofs := false) (maxSteps := 1000000) (disch := first | omega | with_reducible assumption | (simp only [List.length_map, List.length_cons, List.length_nil, List.length_set, List.length_append, List.length_replicate, List.length_take, List.length_drop, mk_size, AMem.size_set, Nat.reduceAdd]; omega)) only [amT, cut, bnd, Nat.reduceBEq, reduceCtorEq, Nat.reduceEqDiff, Nat.reduceAdd, Nat.reduceMul, Nat.reduceSub, Int.reduceToNat, Int.reduceEq, Int.reduceLT, Int.reduceLE, Int.reduceAdd, Int.reduceSub, Int.reduceMul, reduceIte, resVs, resV, packV, initT, addr, t2, t3, t10, t11]; first | done | rfl | (congr 1; omega)), by first | rfl | (simp (implicitDefEqProofs := false) (maxSteps := 1000000) (disch := first | omega | with_reducible assumption | (simp only [List.length_map, List.length_cons, List.length_nil, List.length_set, List.length_append, List.length_replicate, List.length_take, List.length_drop, mk_size, AMem.size_set, Nat.reduceAdd]; omega)) only [amT, cut, bnd, Nat.reduceBEq, reduceCtorEq, Nat.reduceEqDiff, Nat.reduceAdd, Nat.reduceMul, Nat.reduceSub, Int.reduceToNat, Int.reduceEq, Int.reduceLT, Int.reduceLE, Int.reduceAdd, Int.reduceSub, Int.reduceMul, reduceIte, resVs, resV, packV, initT, addr, t2, t3, t10, t11]; first | done | rfl | (congr 1; omega)), by first | rfl | (simp (implicitDefEqProofs := false) (maxSteps := 1000000) (disch := first | omega | with_reducible assumption | (simp only [List.length_map, List.length_cons, List.length_nil, List.length_set, List.length_append, List.length_replicate, List.length_take, List.length_drop, mk_size, AMem.size_set, Nat.reduceAdd]; omega)) only [amT, cut, bnd, Nat.reduceBEq, reduceCtorEq, Nat.reduceEqDiff, Nat.reduceAdd, Nat.reduceMul, Nat.reduceSub, Int.reduceToNat, Int.reduceEq, Int.reduceLT, Int.reduceLE, Int.reduceAdd, Int.reduceSub, Int.reduceMul, reduceIte, resVs, resV, packV, initT, addr, t2, t3, t10, t11]; first | done | rfl | (congr 1; omega)), by first | rfl | (simp (implicitDefEqProofs := false) (maxSteps := 1000000) (disch := first | omega | with_reducible assumption | (simp only [List.length_map, List.length_cons, List.length_nil, List.length_set, List.length_append, List.length_replicate, List.length_take, List.length_drop, mk_size, AMem.size_set, Nat.reduceAdd]; omega)) only [amT, cut, bnd, Nat.reduceBEq, reduceCtorEq, Nat.reduceEqDiff, Nat.reduceAdd, Nat.reduceMul, Nat.reduceSub, Int.reduceToNat, Int.reduceEq, Int.reduceLT, Int.reduceLE, Int.reduceAdd, Int.reduceSub, Int.reduceMul, reduceIte, resVs, resV, packV, initT, addr, t2, t3, t10, t11]; first | done | rfl | (congr 1; omega)), ?_⟩
      · omega
      · omega
    · have : i = 8 := by omega
      subst this
      have h4 := mix_all z8 beginW_len
      simp (implicitDefEqProofs := false) (maxSteps := 1000000) (disch := first | omega | with_reducible assumption | (simp only [List.length_map, List.length_cons, List.length_nil, List.length_set, List.length_append, List.length_replicate, List.length_take, List.length_drop, mk_size, AMem.size_set, Nat.reduceAdd]; omega)) only [amT, cut, bnd, Nat.reduceBEq, reduceCtorEq, Nat.reduceEqDiff, Nat.reduceAdd, Nat.reduceMul, Nat.reduceSub, Int.reduceToNat, Int.reduceEq, Int.reduceLT, Int.reduceLE, Int.reduceAdd, Int.reduceSub, Int.reduceMul, reduceIte, resVs, resV, packV, initT, addr, F25_l0, t2, t3, t10, t11, h4, cutL_all, z8, cellsOf_ws]
end Go.Proofs.YtidngakhkpodgaaDoor
namespace Go.Proofs.YtidngakhkpodgaaDoor
open Go Go.AM
set_option linter.unusedVariables false
set_option linter.unusedSimpArgs false

theorem kMovedA {m : AMem} {x : UInt32} : Known Tryd.prog 3 32 [w32 x, .int .i64 17, .int .i64 19, .int .i64 10] m (w32 (movedW x 17 19 10)) m := DetC.known (moved_ok m x 17 19 10 (by omega) (by omega) (by omega) (by omega) (by omega) (by omega))
theorem kMovedB {m : AMem} {x : UInt32} : Known Tryd.prog 3 32 [w32 x, .int .i64 7, .int .i64 18, .int .i64 3] m (w32 (movedW x 7 18 3)) m := DetC.known (moved_ok m x 7 18 3 (by omega) (by omega) (by omega) (by omega) (by omega) (by omega))
theorem kTurnedA {m : AMem} {x : UInt32} : Known Tryd.prog 3 33 [w32 x, .int .i64 6, .int .i64 11, .int .i64 25] m (w32 (turnedW x 6 11 25)) m := DetC.known (turned_ok m x 6 11 25 (by omega) (by omega) (by omega) (by omega) (by omega) (by omega))
theorem kTurnedB {m : AMem} {x : UInt32} : Known Tryd.prog 3 33 [w32 x, .int .i64 2, .int .i64 13, .int .i64 22] m (w32 (turnedW x 2 13 22)) m := DetC.known (turned_ok m x 2 13 22 (by omega) (by omega) (by omega) (by omega) (by omega) (by omega))
theorem kState {m : AMem} {b : Nat} {s : HS} (hg : Glob m) (hs : s.ok) (hb : b < m.size) (hm : m.get b = .cells (cH s) 35 true .exact) : type_of% (DetC.known (state_ok m b s hg hs hb hm)) := DetC.known (state_ok m b s hg hs hb hm)

theorem zero64 : [Value.int .u32 0, .int .u32 0, .int .u32 0, .int .u32 0, .int .u32 0, .int .u32 0, .int .u32 0, .int .u32 0, .int .u32 0, .int .u32 0, .int .u32 0, .int .u32 0, .int .u32 0, .int .u32 0, .int .u32 0, .int .u32 0, .int .u32 0, .int .u32 0, .int .u32 0, .int .u32 0, .int .u32 0, .int .u32 0, .int .u32 0, .int .u32 0, .int .u32 0, .int .u32 0, .int .u32 0, .int .u32 0, .int .u32 0, .int .u32 0, .int .u32 0, .int .u32 0, .int .u32 0, .int .u32 0, .int .u32 0, .int .u32 0, .int .u32 0, .int .u32 0, .int .u32 0, .int .u32 0, .int .u32 0, .int .u32 0, .int .u32 0, .int .u32 0, .int .u32 0, .int .u32 0, .int .u32 0, .int .u32 0, .int .u32 0, .int .u32 0, .int .u32 0, .int .u32 0, .int .u32 0, .int .u32 0, .int .u32 0, .int .u32 0, .int .u32 0, .int .u32 0, .int .u32 0, .int .u32 0, .int .u32 0, .int .u32 0, .int .u32 0, .int .u32 0] = (List.replicate 64 (0 : UInt32)).map w32 := rfl
/-- The words up to a place, behind them one, then nothing. -/
def wRow (R : List UInt8) (i : Nat) (x : UInt32) : List UInt32 := sched R i ++ (x :: List.replicate (63 - i) 0)
theorem wRow_length {R : List UInt8} {i : Nat} {x : UInt32} (h : i < 64) : (wRow R i x).length = 64 := by simp [wRow, sched_length]; omega
theorem wRow_zero (R : List UInt8) : wRow R 0 0 = List.replicate 64 0 := rfl
theorem wRow_next {R : List UInt8} {i : Nat} (h : i < 63) : wRow R i (wordAt R (sched R i) i) = wRow R (i + 1) 0 := by
  simp only [wRow, sched, List.append_assoc, List.singleton_append]
  rw [show 63 - i = (63 - (i + 1)) + 1 by omega, List.replicate_succ]
theorem wRow_set {R : List UInt8} {i : Nat} (x y : UInt32) : (wRow R i x).set i y = wRow R i y := by
  simp only [wRow]; rw [List.set_append_right _ _ (by rw [sched_length]; omega), sched_length]; simp
theorem wRow_at {R : List UInt8} {i : Nat} {x : UInt32} (h : i < (wRow R i x).length) : (wRow R i x)[i] = x := by
  simp only [wRow]; rw [List.getElem_append_right (by rw [sched_length]; omega)]; simp [sched_length]
theorem wRow_old {R : List UInt8} {i j : Nat} {x : UInt32} (hj : j < i) (h : j < (wRow R i x).length) : (wRow R i x)[j] = (sched R i).getD j 0 := by
  simp only [wRow]; rw [List.getElem_append_left (by rw [sched_length]; omega)]; simp [sched_length, hj]
theorem word4_next (l : List UInt8) (c : UInt8) : word4 (l ++ [c]) = shlW (word4 l) 8 ||| UInt32.ofNat c.toNat := by simp [word4]
theorem w32_of_byte (c : UInt8) : (Value.int .u32 (c.toNat : Int)) = w32 (UInt32.ofNat c.toNat) := by
  have := c.toNat_lt
  simp [w32]
theorem binV_shlw8 {k : IntKind} {x : UInt32} : binV .shl (w32 x) (.int k 8) = some (w32 (shlW x 8)) := binV_shlw (b := 8) (by omega)
def padW (R : List UInt8) (i : Nat) : List UInt32 := sched R i ++ List.replicate (64 - i) 0
theorem padW_zero (R : List UInt8) : padW R 0 = List.replicate 64 0 := rfl
theorem padW_lt {R : List UInt8} {i : Nat} (h : i < 64) : padW R i = wRow R i 0 := by
  simp only [padW, wRow]; rw [show 64 - i = (63 - i) + 1 by omega, List.replicate_succ]
theorem padW_next {R : List UInt8} {i : Nat} (h : i < 64) : wRow R i (wordAt R (sched R i) i) = padW R (i + 1) := by
  simp only [wRow, padW, sched, List.append_assoc, List.singleton_append]
  rw [show 64 - (i + 1) = 63 - i by omega]
theorem padW_all (R : List UInt8) : padW R 64 = sched R 64 := by simp [padW]

theorem sched_ok (m : AMem) (b : Nat) (s : HS) (hs : s.ok) (hb : b < m.size) (hm : m.get b = .cells (cH s) 35 true .exact) (t : Tmps) (Q : AExit → ASt → Prop)
    (t0 : t 0 = .pointer (some ⟨b, 0, none⟩)) (t2 : t 2 = .pointer (some ⟨m.size, 0, none⟩)) (t13 : t 13 = .int .i64 0)
    (h : ∀ t' : Tmps, t' 0 = .pointer (some ⟨b, 0, none⟩) → t' 2 = .pointer (some ⟨m.size, 0, none⟩) → Q (.exit 0) ⟨t', mx m [.cells ((sched s.R 64).map w32) 66 true .exact], []⟩) :
    W Tryd.prog 3 (.loop F24_l0) Q ⟨t, mx m [.cells ((List.replicate 64 (0 : UInt32)).map w32) 66 true .exact], []⟩ := by
  refine W_loop (fun N qs => ∃ (i : Nat), N = 64 - i ∧ qs.ds = [] ∧ qs.m = mx m [.cells ((padW s.R i).map w32) 66 true .exact] ∧ qs.t 0 = .pointer (some ⟨b, 0, none⟩) ∧ qs.t 2 = .pointer (some ⟨m.size, 0, none⟩) ∧ qs.t 13 = .int .i64 i ∧ i ≤ 64) (64 - (0)) ⟨0, rfl, rfl, by first | rfl | (simp (implicitDefEqProofs := false) (maxSteps := 1000000) (disch := first | omega | with_reducible assumption | (simp only [List.length_map, List.length_cons, List.length_nil, List.length_set, List.length_append, List.length_replicate, List.length_take, List.length_drop, mk_size, AMem.size_set, Nat.reduceAdd]; omega)) only [amT, cut, bnd, Nat.reduceBEq, reduceCtorEq, Nat.reduceEqDiff, Nat.reduceAdd, Nat.reduceMul, Nat.reduceSub, Int.reduceToNat, Int.reduceEq, Int.reduceLT, Int.reduceLE, Int.reduceAdd, Int.reduceSub, Int.reduceMul, reduceIte, resVs, resV, packV, initT, addr, padW_zero, t0, t2, t13]; first | done | rfl | (congr 1; omega)), by first | rfl | (simp (implicitDefEqProofs := false) (maxSteps := 1000000) (disch := first | omega | with_reducible assumption | (simp only [List.length_map, List.length_cons, List.length_nil, List.length_set, List.length_append, List.length_replicate, List.length_take, List.length_drop, mk_size, AMem.size_set, Nat.reduceAdd]; omega)) only [amT, cut, bnd, Nat.reduceBEq, reduceCtorEq, Nat.reduceEqDiff, Nat.reduceAdd, Nat.reduceMul, Nat.reduceSub, Int.reduceToNat, Int.reduceEq, Int.reduceLT, Int.reduceLE, Int.reduceAdd, Int.reduceSub, Int.reduceMul, reduceIte, resVs, resV, packV, initT, addr, padW_zero, t0, t2, t13]; first | done | rfl | (congr 1; omega)), by first | rfl | (simp (implicitDefEqProofs := false) (maxSteps := 1000000) (disch := first | omega | with_reducible assumption | (simp only [List.length_map, List.length_cons, List.length_nil, List.length_set, List.length_append, List.length_replicate, List.length_take, List.length_drop, mk_size, AMem.size_set, Nat.reduceAdd]; omega)) only [amT, cut, bnd, Nat.reduceBEq, reduceCtorEq, Nat.reduceEqDiff, Nat.reduceAdd, Nat.reduceMul, Nat.reduceSub, Int.reduceToNat, Int.reduceEq, Int.reduceLT, Int.reduceLE, Int.reduceAdd, Int.reduceSub, Int.reduceMul, reduceIte, resVs, resV, packV, initT, addr, padW_zero, t0, t2, t13]; first | done | rfl | (congr 1; omega)), by first | rfl | (simp (implicitDefEqProofs := false) (maxSteps := 1000000) (disch := first | omega | with_reducible assumption | (simp only [List.length_map, List.length_cons, List.length_nil, List.length_set, List.length_append, List.length_replicate, List.length_take, List.length_drop, mk_size, AMem.size_set, Nat.reduceAdd]; omega)) only [amT, cut, bnd, Nat.reduceBEq, reduceCtorEq, Nat.reduceEqDiff, Nat.reduceAdd, Nat.reduceMul, Nat.reduceSub, Int.reduceToNat, Int.reduceEq, Int.reduceLT, Int.reduceLE, Int.reduceAdd, Int.reduceSub, Int.reduceMul, reduceIte, resVs, resV, packV, initT, addr, padW_zero, t0, t2, t13]; first | done | rfl | (congr 1; omega)), ?_⟩ ?_
  · omega
  · clear t0 t2 t13
    rintro N t m1 ds ⟨i, rfl, hds, hm, t0, t2, t13, hp⟩
    simp only at hds hm t0 t2 t13
    subst hds; replace hm := hm.symm; subst hm
    by_cases hi : (i : Int) < 64
    · have hi' : i < 64 := by omega
      have hl := wRow_length (R := s.R) (x := 0) hi'
      have hn := padW_next (R := s.R) hi'
      by_cases h16 : (16 : Int) ≤ i
      · have e1 : (i : Int) - 2 = ((i - 2 : Nat) : Int) := by omega
        have e2 : (i : Int) - 7 = ((i - 7 : Nat) : Int) := by omega
        have e3 : (i : Int) - 15 = ((i - 15 : Nat) : Int) := by omega
        have e4 : (i : Int) - 16 = ((i - 16 : Nat) : Int) := by omega
        have hw : wordAt s.R (sched s.R i) i = movedW ((sched s.R i).getD (i - 2) 0) 17 19 10 + (sched s.R i).getD (i - 7) 0 + movedW ((sched s.R i).getD (i - 15) 0) 7 18 3 + (sched s.R i).getD (i - 16) 0 := by
          unfold wordAt; rw [if_neg (by omega)]
        rw [hw] at hn
        simp (implicitDefEqProofs := false) (maxSteps := 1000000) (disch := first | omega | with_reducible assumption | (simp only [List.length_map, List.length_cons, List.length_nil, List.length_set, List.length_append, List.length_replicate, List.length_take, List.length_drop, mk_size, AMem.size_set, Nat.reduceAdd]; omega)) only [amT, cut, bnd, Nat.reduceBEq, reduceCtorEq, Nat.reduceEqDiff, Nat.reduceAdd, Nat.reduceMul, Nat.reduceSub, Int.reduceToNat, Int.reduceEq, Int.reduceLT, Int.reduceLE, Int.reduceAdd, Int.reduceSub, Int.reduceMul, reduceIte, resVs, resV, packV, initT, addr, F24_l0, t0, t2, t13, hi, h16, padW_lt hi', e1, e2, e3, e4, amW, wRow_old, wRow_set, kMovedA, kMovedB]
        repeat refine OrW.go ?_
        rw [LoopK_normal]; refine ⟨_, ?_, i + 1, rfl, rfl, by first | rfl | (simp (implicitDefEqProofs := false) (maxSteps := 1000000) (disch := first | omega | with_reducible assumption | (simp only [List.length_map, List.length_cons, List.length_nil, List.length_set, List.length_append, List.length_replicate, List.length_take, List.length_drop, mk_size, AMem.size_set, Nat.reduceAdd]; omega)) only [amT, cut, bnd, Nat.reduceBEq, reduceCtorEq, Nat.reduceEqDiff, Nat.reduceAdd, Nat.reduceMul, Nat.reduceSub, Int.reduceToNat, Int.reduceEq, Int.reduceLT, Int.reduceLE, Int.reduceAdd, Int.reduceSub, Int.reduceMul, reduceIte, resVs, resV, packV, initT, addr, t0, t2, t13, hn]; first | done | rfl | (congr 1; omega)), by first | rfl | (simp (implicitDefEqProofs := false) (maxSteps := 1000000) (disch := first | omega | with_reducible assumption | (simp only [List.length_map, List.length_cons, List.length_nil, List.length_set, List.length_append, List.length_replicate, List.length_take, List.length_drop, mk_size, AMem.size_set, Nat.reduceAdd]; omega)) only [amT, cut, bnd, Nat.reduceBEq, reduceCtorEq, Nat.reduceEqDiff, Nat.reduceAdd, Nat.reduceMul, Nat.reduceSub, Int.reduceToNat, Int.reduceEq, Int.reduceLT, Int.reduceLE, Int.reduceAdd, Int.reduceSub, Int.reduceMul, reduceIte, resVs, resV, packV, initT, addr, t0, t2, t13, hn]; first | done | rfl | (congr 1; omega)), by first | rfl | (simp (implicitDefEqProofs := false) (maxSteps := 1000000) (disch := first | omega | with_reducible assumption | (simp only [List.length_map, List.length_cons, List.length_nil, List.length_set, List.length_append, List.length_replicate, List.length_take, List.length_drop, mk_size, AMem.size_set, Nat.reduceAdd]; omega)) only [amT, cut, bnd, Nat.reduceBEq, reduceCtorEq, Nat.reduceEqDiff, Nat.reduceAdd, Nat.reduceMul, Nat.reduceSub, Int.reduceToNat, Int.reduceEq, Int.reduceLT, Int.reduceLE, Int.reduceAdd, Int.reduceSub, Int.reduceMul, reduceIte, resVs, resV, packV, initT, addr, t0, t2, t13, hn]; first | done | rfl | (congr 1; omega)), by first | rfl | (simp (implicitDefEqProofs := false) (maxSteps := 1000000) (disch := first | omega | with_reducible assumption | (simp only [List.length_map, List.length_cons, List.length_nil, List.length_set, List.length_append, List.length_replicate, List.length_take, List.length_drop, mk_size, AMem.size_set, Nat.reduceAdd]; omega)) only [amT, cut, bnd, Nat.reduceBEq, reduceCtorEq, Nat.reduceEqDiff, Nat.reduceAdd, Nat.reduceMul, Nat.reduceSub, Int.reduceToNat, Int.reduceEq, Int.reduceLT, Int.reduceLE, Int.reduceAdd, Int.reduceSub, Int.reduceMul, reduceIte, resVs, resV, packV, initT, addr, t0, t2, t13, hn]; first | done | rfl | (congr 1; omega)), ?_⟩
        · omega
        · omega
      · have e1 : (4 : Int) * (i : Int) = ((4 * i : Nat) : Int) := by omega
        have e2 : ((4 * i : Nat) : Int) + 4 = ((4 * i + 4 : Nat) : Int) := by omega
        have hw : wordAt s.R (sched s.R i) i = word4 ((s.R.drop (4 * i)).take 4) := by
          unfold wordAt; rw [if_pos (by omega)]
        rw [hw] at hn
        have e3 : 4 * i + 4 - 4 * i = 4 := by omega
        simp (implicitDefEqProofs := false) (maxSteps := 1000000) (disch := first | omega | with_reducible assumption | (simp only [List.length_map, List.length_cons, List.length_nil, List.length_set, List.length_append, List.length_replicate, List.length_take, List.length_drop, mk_size, AMem.size_set, Nat.reduceAdd]; omega)) only [amT, cut, bnd, Nat.reduceBEq, reduceCtorEq, Nat.reduceEqDiff, Nat.reduceAdd, Nat.reduceMul, Nat.reduceSub, Int.reduceToNat, Int.reduceEq, Int.reduceLT, Int.reduceLE, Int.reduceAdd, Int.reduceSub, Int.reduceMul, reduceIte, resVs, resV, packV, initT, addr, F24_l0, t0, t2, t13, hi, h16, padW_lt hi', e1, e2]
        refine W_loop (fun N qs => ∃ (j : Nat), N = 4 - j ∧ qs.ds = [] ∧ qs.m = mx m [.cells ((wRow s.R i (word4 ((s.R.drop (4 * i)).take j))).map w32) 66 true .exact] ∧ qs.t 0 = .pointer (some ⟨b, 0, none⟩) ∧ qs.t 2 = .pointer (some ⟨m.size, 0, none⟩) ∧ qs.t 3 = .int .i64 i ∧ qs.t 13 = .int .i64 i ∧ qs.t 49 = .slice (some ⟨b, 8 + 4 * i, none⟩) 4 (64 - 4 * i) ∧ qs.t 50 = .int .i64 4 ∧ qs.t 51 = .int .i64 j ∧ j ≤ 4) (4 - (0)) ⟨0, rfl, rfl, by first | rfl | (simp (implicitDefEqProofs := false) (maxSteps := 1000000) (disch := first | omega | with_reducible assumption | (simp only [List.length_map, List.length_cons, List.length_nil, List.length_set, List.length_append, List.length_replicate, List.length_take, List.length_drop, mk_size, AMem.size_set, Nat.reduceAdd]; omega)) only [amT, cut, bnd, Nat.reduceBEq, reduceCtorEq, Nat.reduceEqDiff, Nat.reduceAdd, Nat.reduceMul, Nat.reduceSub, Int.reduceToNat, Int.reduceEq, Int.reduceLT, Int.reduceLE, Int.reduceAdd, Int.reduceSub, Int.reduceMul, reduceIte, resVs, resV, packV, initT, addr, t0, t2, t13, List.take_zero, e3]; first | done | rfl | (congr 1; omega)), by first | rfl | (simp (implicitDefEqProofs := false) (maxSteps := 1000000) (disch := first | omega | with_reducible assumption | (simp only [List.length_map, List.length_cons, List.length_nil, List.length_set, List.length_append, List.length_replicate, List.length_take, List.length_drop, mk_size, AMem.size_set, Nat.reduceAdd]; omega)) only [amT, cut, bnd, Nat.reduceBEq, reduceCtorEq, Nat.reduceEqDiff, Nat.reduceAdd, Nat.reduceMul, Nat.reduceSub, Int.reduceToNat, Int.reduceEq, Int.reduceLT, Int.reduceLE, Int.reduceAdd, Int.reduceSub, Int.reduceMul, reduceIte, resVs, resV, packV, initT, addr, t0, t2, t13, List.take_zero, e3]; first | done | rfl | (congr 1; omega)), by first | rfl | (simp (implicitDefEqProofs := false) (maxSteps := 1000000) (disch := first | omega | with_reducible assumption | (simp only [List.length_map, List.length_cons, List.length_nil, List.length_set, List.length_append, List.length_replicate, List.length_take, List.length_drop, mk_size, AMem.size_set, Nat.reduceAdd]; omega)) only [amT, cut, bnd, Nat.reduceBEq, reduceCtorEq, Nat.reduceEqDiff, Nat.reduceAdd, Nat.reduceMul, Nat.reduceSub, Int.reduceToNat, Int.reduceEq, Int.reduceLT, Int.reduceLE, Int.reduceAdd, Int.reduceSub, Int.reduceMul, reduceIte, resVs, resV, packV, initT, addr, t0, t2, t13, List.take_zero, e3]; first | done | rfl | (congr 1; omega)), by first | rfl | (simp (implicitDefEqProofs := false) (maxSteps := 1000000) (disch := first | omega | with_reducible assumption | (simp only [List.length_map, List.length_cons, List.length_nil, List.length_set, List.length_append, List.length_replicate, List.length_take, List.length_drop, mk_size, AMem.size_set, Nat.reduceAdd]; omega)) only [amT, cut, bnd, Nat.reduceBEq, reduceCtorEq, Nat.reduceEqDiff, Nat.reduceAdd, Nat.reduceMul, Nat.reduceSub, Int.reduceToNat, Int.reduceEq, Int.reduceLT, Int.reduceLE, Int.reduceAdd, Int.reduceSub, Int.reduceMul, reduceIte, resVs, resV, packV, initT, addr, t0, t2, t13, List.take_zero, e3]; first | done | rfl | (congr 1; omega)), by first | rfl | (simp (implicitDefEqProofs := false) (maxSteps := 1000000) (disch := first | omega | with_reducible assumption | (simp only [List.length_map, List.length_cons, List.length_nil, List.length_set, List.length_append, List.length_replicate, List.length_take, List.length_drop, mk_size, AMem.size_set, Nat.reduceAdd]; omega)) only [amT, cut, bnd, Nat.reduceBEq, reduceCtorEq, Nat.reduceEqDiff, Nat.reduceAdd, Nat.reduceMul, Nat.reduceSub, Int.reduceToNat, Int.reduceEq, Int.reduceLT, Int.reduceLE, Int.reduceAdd, Int.reduceSub, Int.reduceMul, reduceIte, resVs, resV, packV, initT, addr, t0, t2, t13, List.take_zero, e3]; first | done | rfl | (congr 1; omega)), by first | rfl | (simp (implicitDefEqProofs := false) (maxSteps := 1000000) (disch := first | omega | with_reducible assumption | (simp only [List.length_map, List.length_cons, List.length_nil, List.length_set, List.length_append, List.length_replicate, List.length_take, List.length_drop, mk_size, AMem.size_set, Nat.reduceAdd]; omega)) only [amT, cut, bnd, Nat.reduceBEq, reduceCtorEq, Nat.reduceEqDiff, Nat.reduceAdd, Nat.reduceMul, Nat.reduceSub, Int.reduceToNat, Int.reduceEq, Int.reduceLT, Int.reduceLE, Int.reduceAdd, Int.reduceSub, Int.reduceMul, reduceIte, resVs, resV, packV, initT, addr, t0, t2, t13, List.take_zero, e3]; first | done | rfl | (congr 1; omega)), by first | rfl | (simp (implicitDefEqProofs := false) (maxSteps := 1000000) (disch := first | omega | with_reducible assumption | (simp only [List.length_map, List.length_cons, List.length_nil, List.length_set, List.length_append, List.length_replicate, List.length_take, List.length_drop, mk_size, AMem.size_set, Nat.reduceAdd]; omega)) only [amT, cut, bnd, Nat.reduceBEq, reduceCtorEq, Nat.reduceEqDiff, Nat.reduceAdd, Nat.reduceMul, Nat.reduceSub, Int.reduceToNat, Int.reduceEq, Int.reduceLT, Int.reduceLE, Int.reduceAdd, Int.reduceSub, Int.reduceMul, reduceIte, resVs, resV, packV, initT, addr, t0, t2, t13, List.take_zero, e3]; first | done | rfl | (congr 1; omega)), by first | rfl | (simp (implicitDefEqProofs := false) (maxSteps := 1000000) (disch := first | omega | with_reducible assumption | (simp only [List.length_map, List.length_cons, List.length_nil, List.length_set, List.length_append, List.length_replicate, List.length_take, List.length_drop, mk_size, AMem.size_set, Nat.reduceAdd]; omega)) only [amT, cut, bnd, Nat.reduceBEq, reduceCtorEq, Nat.reduceEqDiff, Nat.reduceAdd, Nat.reduceMul, Nat.reduceSub, Int.reduceToNat, Int.reduceEq, Int.reduceLT, Int.reduceLE, Int.reduceAdd, Int.reduceSub, Int.reduceMul, reduceIte, resVs, resV, packV, initT, addr, t0, t2, t13, List.take_zero, e3]; first | done | rfl | (congr 1; omega)), ?_⟩ ?_
        · omega
        · clear t0 t2 t13
          rintro N t m1 ds ⟨j, rfl, hds, hm, t0, t2, t3, t13, t49, t50, t51, hp⟩
          simp only at hds hm t0 t2 t3 t13 t49 t50 t51
          subst hds; replace hm := hm.symm; subst hm
          by_cases hj : (j : Int) < 4
          · have hj' : j < 4 := by omega
            have hl2 := wRow_length (R := s.R) (x := word4 ((s.R.drop (4 * i)).take j)) hi'
            have hR : (cH s)[8 + 4 * i + j]? = some (byteV (s.R[4 * i + j]'(by rw [hs.2]; omega))) := by rw [Nat.add_assoc]; exact cH_Ri hs (by omega)
            have hb4 := (s.R[4 * i + j]'(by rw [hs.2]; omega)).toNat_lt
            have hw4 := word4_next ((s.R.drop (4 * i)).take j) (s.R[4 * i + j]'(by rw [hs.2]; omega))
            have hdl : j < (s.R.drop (4 * i)).length := by rw [List.length_drop, hs.2]; omega
            have ht := List.take_succ_eq_append_getElem hdl
            rw [List.getElem_drop] at ht
            rw [← ht] at hw4
            simp (implicitDefEqProofs := false) (maxSteps := 1000000) (disch := first | omega | with_reducible assumption | (simp only [List.length_map, List.length_cons, List.length_nil, List.length_set, List.length_append, List.length_replicate, List.length_take, List.length_drop, mk_size, AMem.size_set, Nat.reduceAdd]; omega)) only [amT, cut, bnd, Nat.reduceBEq, reduceCtorEq, Nat.reduceEqDiff, Nat.reduceAdd, Nat.reduceMul, Nat.reduceSub, Int.reduceToNat, Int.reduceEq, Int.reduceLT, Int.reduceLE, Int.reduceAdd, Int.reduceSub, Int.reduceMul, reduceIte, resVs, resV, packV, initT, addr, F24_l1, t0, t2, t3, t13, t49, t50, t51, hj, hm, hR, amW, wRow_at, byteV_def, w32_of_byte, binV_shlw8, wRow_set, ← hw4]
            rw [LoopK_normal]; refine ⟨_, ?_, j + 1, rfl, rfl, by first | rfl | (simp (implicitDefEqProofs := false) (maxSteps := 1000000) (disch := first | omega | with_reducible assumption | (simp only [List.length_map, List.length_cons, List.length_nil, List.length_set, List.length_append, List.length_replicate, List.length_take, List.length_drop, mk_size, AMem.size_set, Nat.reduceAdd]; omega)) only [amT, cut, bnd, Nat.reduceBEq, reduceCtorEq, Nat.reduceEqDiff, Nat.reduceAdd, Nat.reduceMul, Nat.reduceSub, Int.reduceToNat, Int.reduceEq, Int.reduceLT, Int.reduceLE, Int.reduceAdd, Int.reduceSub, Int.reduceMul, reduceIte, resVs, resV, packV, initT, addr, t0, t2, t3, t13, t49, t50, t51]; first | done | rfl | (congr 1; omega)), by first | rfl | (simp (implicitDefEqProofs := false) (maxSteps := 1000000) (disch := first | omega | with_reducible assumption | (simp only [List.length_map, List.length_cons, List.length_nil, List.length_set, List.length_append, List.length_replicate, List.length_take, List.length_drop, mk_size, AMem.size_set, Nat.reduceAdd]; omega)) only [amT, cut, bnd, Nat.reduceBEq, reduceCtorEq, Nat.reduceEqDiff, Nat.reduceAdd, Nat.reduceMul, Nat.reduceSub, Int.reduceToNat, Int.reduceEq, Int.reduceLT, Int.reduceLE, Int.reduceAdd, Int.reduceSub, Int.reduceMul, reduceIte, resVs, resV, packV, initT, addr, t0, t2, t3, t13, t49, t50, t51]; first | done | rfl | (congr 1; omega)), by first | rfl | (simp (implicitDefEqProofs := false) (maxSteps := 1000000) (disch := first | omega | with_reducible assumption | (simp only [List.length_map, List.length_cons, List.length_nil, List.length_set, List.length_append, List.length_replicate, List.length_take, List.length_drop, mk_size, AMem.size_set, Nat.reduceAdd]; omega)) only [amT, cut, bnd, Nat.reduceBEq, reduceCtorEq, Nat.reduceEqDiff, Nat.reduceAdd, Nat.reduceMul, Nat.reduceSub, Int.reduceToNat, Int.reduceEq, Int.reduceLT, Int.reduceLE, Int.reduceAdd, Int.reduceSub, Int.reduceMul, reduceIte, resVs, resV, packV, initT, addr, t0, t2, t3, t13, t49, t50, t51]; first | done | rfl | (congr 1; omega)), by first | rfl | (simp (implicitDefEqProofs := false) (maxSteps := 1000000) (disch := first | omega | with_reducible assumption | (simp only [List.length_map, List.length_cons, List.length_nil, List.length_set, List.length_append, List.length_replicate, List.length_take, List.length_drop, mk_size, AMem.size_set, Nat.reduceAdd]; omega)) only [amT, cut, bnd, Nat.reduceBEq, reduceCtorEq, Nat.reduceEqDiff, Nat.reduceAdd, Nat.reduceMul, Nat.reduceSub, Int.reduceToNat, Int.reduceEq, Int.reduceLT, Int.reduceLE, Int.reduceAdd, Int.reduceSub, Int.reduceMul, reduceIte, resVs, resV, packV, initT, addr, t0, t2, t3, t13, t49, t50, t51]; first | done | rfl | (congr 1; omega)), by first | rfl | (simp (implicitDefEqProofs := false) (maxSteps := 1000000) (disch := first | omega | with_reducible assumption | (simp only [List.length_map, List.length_cons, List.length_nil, List.length_set, List.length_append, List.length_replicate, List.length_take, List.length_drop, mk_size, AMem.size_set, Nat.reduceAdd]; omega)) only [amT, cut, bnd, Nat.reduceBEq, reduceCtorEq, Nat.reduceEqDiff, Nat.reduceAdd, Nat.reduceMul, Nat.reduceSub, Int.reduceToNat, Int.reduceEq, Int.reduceLT, Int.reduceLE, Int.reduceAdd, Int.reduceSub, Int.reduceMul, reduceIte, resVs, resV, packV, initT, addr, t0, t2, t3, t13, t49, t50, t51]; first | done | rfl | (congr 1; omega)), by first | rfl | (simp (implicitDefEqProofs := false) (maxSteps := 1000000) (disch := first | omega | with_reducible assumption | (simp only [List.length_map, List.length_cons, List.length_nil, List.length_set, List.length_append, List.length_replicate, List.length_take, List.length_drop, mk_size, AMem.size_set, Nat.reduceAdd]; omega)) only [amT, cut, bnd, Nat.reduceBEq, reduceCtorEq, Nat.reduceEqDiff, Nat.reduceAdd, Nat.reduceMul, Nat.reduceSub, Int.reduceToNat, Int.reduceEq, Int.reduceLT, Int.reduceLE, Int.reduceAdd, Int.reduceSub, Int.reduceMul, reduceIte, resVs, resV, packV, initT, addr, t0, t2, t3, t13, t49, t50, t51]; first | done | rfl | (congr 1; omega)), by first | rfl | (simp (implicitDefEqProofs := false) (maxSteps := 1000000) (disch := first | omega | with_reducible assumption | (simp only [List.length_map, List.length_cons, List.length_nil, List.length_set, List.length_append, List.length_replicate, List.length_take, List.length_drop, mk_size, AMem.size_set, Nat.reduceAdd]; omega)) only [amT, cut, bnd, Nat.reduceBEq, reduceCtorEq, Nat.reduceEqDiff, Nat.reduceAdd, Nat.reduceMul, Nat.reduceSub, Int.reduceToNat, Int.reduceEq, Int.reduceLT, Int.reduceLE, Int.reduceAdd, Int.reduceSub, Int.reduceMul, reduceIte, resVs, resV, packV, initT, addr, t0, t2, t3, t13, t49, t50, t51]; first | done | rfl | (congr 1; omega)), by first | rfl | (simp (implicitDefEqProofs := false) (maxSteps := 1000000) (disch := first | omega | with_reducible assumption | (simp only [List.length_map, List.length_cons, List.length_nil, List.length_set, List.length_append, List.length_replicate, List.length_take, List.length_drop, mk_size, AMem.size_set, Nat.reduceAdd]; omega)) only [amT, cut, bnd, Nat.reduceBEq, reduceCtorEq, Nat.reduceEqDiff, Nat.reduceAdd, Nat.reduceMul, Nat.reduceSub, Int.reduceToNat, Int.reduceEq, Int.reduceLT, Int.reduceLE, Int.reduceAdd, Int.reduceSub, Int.reduceMul, reduceIte, resVs, resV, packV, initT, addr, t0, t2, t3, t13, t49, t50, t51]; first | done | rfl | (congr 1; omega)), ?_⟩
            · omega
            · omega
          · have hj4 : j = 4 := by omega
            subst hj4
            simp (implicitDefEqProofs := false) (maxSteps := 1000000) (disch := first | omega | with_reducible assumption | (simp only [List.length_map, List.length_cons, List.length_nil, List.length_set, List.length_append, List.length_replicate, List.length_take, List.length_drop, mk_size, AMem.size_set, Nat.reduceAdd]; omega)) only [amT, cut, bnd, Nat.reduceBEq, reduceCtorEq, Nat.reduceEqDiff, Nat.reduceAdd, Nat.reduceMul, Nat.reduceSub, Int.reduceToNat, Int.reduceEq, Int.reduceLT, Int.reduceLE, Int.reduceAdd, Int.reduceSub, Int.reduceMul, reduceIte, resVs, resV, packV, initT, addr, F24_l1, t0, t2, t3, t13, t49, t50, t51]
            rw [LoopK_normal]; refine ⟨_, ?_, i + 1, rfl, rfl, by first | rfl | (simp (implicitDefEqProofs := false) (maxSteps := 1000000) (disch := first | omega | with_reducible assumption | (simp only [List.length_map, List.length_cons, List.length_nil, List.length_set, List.length_append, List.length_replicate, List.length_take, List.length_drop, mk_size, AMem.size_set, Nat.reduceAdd]; omega)) only [amT, cut, bnd, Nat.reduceBEq, reduceCtorEq, Nat.reduceEqDiff, Nat.reduceAdd, Nat.reduceMul, Nat.reduceSub, Int.reduceToNat, Int.reduceEq, Int.reduceLT, Int.reduceLE, Int.reduceAdd, Int.reduceSub, Int.reduceMul, reduceIte, resVs, resV, packV, initT, addr, t0, t2, t13, hn]; first | done | rfl | (congr 1; omega)), by first | rfl | (simp (implicitDefEqProofs := false) (maxSteps := 1000000) (disch := first | omega | with_reducible assumption | (simp only [List.length_map, List.length_cons, List.length_nil, List.length_set, List.length_append, List.length_replicate, List.length_take, List.length_drop, mk_size, AMem.size_set, Nat.reduceAdd]; omega)) only [amT, cut, bnd, Nat.reduceBEq, reduceCtorEq, Nat.reduceEqDiff, Nat.reduceAdd, Nat.reduceMul, Nat.reduceSub, Int.reduceToNat, Int.reduceEq, Int.reduceLT, Int.reduceLE, Int.reduceAdd, Int.reduceSub, Int.reduceMul, reduceIte, resVs, resV, packV, initT, addr, t0, t2, t13, hn]; first | done | rfl | (congr 1; omega)), by first | rfl | (simp (implicitDefEqProofs := false) (maxSteps := 1000000) (disch := first | omega | with_reducible assumption | (simp only [List.length_map, List.length_cons, List.length_nil, List.length_set, List.length_append, List.length_replicate, List.length_take, List.length_drop, mk_size, AMem.size_set, Nat.reduceAdd]; omega)) only [amT, cut, bnd, Nat.reduceBEq, reduceCtorEq, Nat.reduceEqDiff, Nat.reduceAdd, Nat.reduceMul, Nat.reduceSub, Int.reduceToNat, Int.reduceEq, Int.reduceLT, Int.reduceLE, Int.reduceAdd, Int.reduceSub, Int.reduceMul, reduceIte, resVs, resV, packV, initT, addr, t0, t2, t13, hn]; first | done | rfl | (congr 1; omega)), by first | rfl | (simp (implicitDefEqProofs := false) (maxSteps := 1000000) (disch := first | omega | with_reducible assumption | (simp only [List.length_map, List.length_cons, List.length_nil, List.length_set, List.length_append, List.length_replicate, List.length_take, List.length_drop, mk_size, AMem.size_set, Nat.reduceAdd]; omega)) only [amT, cut, bnd, Nat.reduceBEq, reduceCtorEq, Nat.reduceEqDiff, Nat.reduceAdd, Nat.reduceMul, Nat.reduceSub, Int.reduceToNat, Int.reduceEq, Int.reduceLT, Int.reduceLE, Int.reduceAdd, Int.reduceSub, Int.reduceMul, reduceIte, resVs, resV, packV, initT, addr, t0, t2, t13, hn]; first | done | rfl | (congr 1; omega)), ?_⟩
            · omega
            · omega
    · have h64 : i = 64 := by omega
      subst h64
      simp (implicitDefEqProofs := false) (maxSteps := 1000000) (disch := first | omega | with_reducible assumption | (simp only [List.length_map, List.length_cons, List.length_nil, List.length_set, List.length_append, List.length_replicate, List.length_take, List.length_drop, mk_size, AMem.size_set, Nat.reduceAdd]; omega)) only [amT, cut, bnd, Nat.reduceBEq, reduceCtorEq, Nat.reduceEqDiff, Nat.reduceAdd, Nat.reduceMul, Nat.reduceSub, Int.reduceToNat, Int.reduceEq, Int.reduceLT, Int.reduceLE, Int.reduceAdd, Int.reduceSub, Int.reduceMul, reduceIte, resVs, resV, packV, initT, addr, F24_l0, t0, t2, t13, padW_all]
      exact h _ (by simp (implicitDefEqProofs := false) (maxSteps := 1000000) (disch := first | omega | with_reducible assumption | (simp only [List.length_map, List.length_cons, List.length_nil, List.length_set, List.length_append, List.length_replicate, List.length_take, List.length_drop, mk_size, AMem.size_set, Nat.reduceAdd]; omega)) only [amT, cut, bnd, Nat.reduceBEq, reduceCtorEq, Nat.reduceEqDiff, Nat.reduceAdd, Nat.reduceMul, Nat.reduceSub, Int.reduceToNat, Int.reduceEq, Int.reduceLT, Int.reduceLE, Int.reduceAdd, Int.reduceSub, Int.reduceMul, reduceIte, resVs, resV, packV, initT, addr, t0, t2, t13]) (by simp (implicitDefEqProofs := false) (maxSteps := 1000000) (disch := first | omega | with_reducible assumption | (simp only [List.length_map, List.length_cons, List.length_nil, List.length_set, List.length_append, List.length_replicate, List.length_take, List.length_drop, mk_size, AMem.size_set, Nat.reduceAdd]; omega)) only [amT, cut, bnd, Nat.reduceBEq, reduceCtorEq, Nat.reduceEqDiff, Nat.reduceAdd, Nat.reduceMul, Nat.reduceSub, Int.reduceToNat, Int.reduceEq, Int.reduceLT, Int.reduceLE, Int.reduceAdd, Int.reduceSub, Int.reduceMul, reduceIte, resVs, resV, packV, initT, addr, t0, t2, t13])
end Go.Proofs.YtidngakhkpodgaaDoor
namespace Go.Proofs.YtidngakhkpodgaaDoor
open Go Go.AM
set_option linter.unusedVariables false
set_option linter.unusedSimpArgs false

theorem constW_len : constW.length = 64 := rfl
theorem block_ok (m : AMem) (b : Nat) (s : HS) (hg : Glob m) (hs : s.ok) (hb : b < m.size) (hb2 : 2 < b) (hm : m.get b = .cells (cH s) 35 true .exact) :
    DetC Tryd.prog 3 24 [.pointer (some ⟨b, 0, none⟩)] m (.tuple #[]) (mx (m.set b (.cells (cH { s with M := moreStep s.M s.R }) 35 true .exact)) []) := by
  refine set_of_W (fn := Tryd.f24) rfl rfl F24_ok (by simp [F24]) (.tuple (by simp)) (plain_cH _) ?_
  obtain ⟨ek, spk, g0⟩ := hg.k
  have gs := hg.s
  have hkl := constW_len
  have m8 := hs.1
  have z8 : (zip2 beginW s.M).length = 8 := zip2_length rfl m8
  have hsl := sched_length s.R 64
  have hst := @kState (mx m [.cells ((sched s.R 64).map w32) 66 true .exact]) b s (hg.old (Old.here _ _)) hs (by rw [mx_size]; omega) (by rw [mx_old hb]; exact hm)
  simp (implicitDefEqProofs := false) (maxSteps := 1000000) (disch := first | omega | with_reducible assumption | (simp only [List.length_map, List.length_cons, List.length_nil, List.length_set, List.length_append, List.length_replicate, List.length_take, List.length_drop, mk_size, AMem.size_set, Nat.reduceAdd]; omega)) only [amT, cut, bnd, Nat.reduceBEq, reduceCtorEq, Nat.reduceEqDiff, Nat.reduceAdd, Nat.reduceMul, Nat.reduceSub, Int.reduceToNat, Int.reduceEq, Int.reduceLT, Int.reduceLE, Int.reduceAdd, Int.reduceSub, Int.reduceMul, reduceIte, resVs, resV, packV, initT, addr, F24, zero64]
  refine sched_ok m b s hs hb hm _ _ (by simp (implicitDefEqProofs := false) (maxSteps := 1000000) (disch := first | omega | with_reducible assumption | (simp only [List.length_map, List.length_cons, List.length_nil, List.length_set, List.length_append, List.length_replicate, List.length_take, List.length_drop, mk_size, AMem.size_set, Nat.reduceAdd]; omega)) only [amT, cut, bnd, Nat.reduceBEq, reduceCtorEq, Nat.reduceEqDiff, Nat.reduceAdd, Nat.reduceMul, Nat.reduceSub, Int.reduceToNat, Int.reduceEq, Int.reduceLT, Int.reduceLE, Int.reduceAdd, Int.reduceSub, Int.reduceMul, reduceIte, resVs, resV, packV, initT, addr]) (by simp (implicitDefEqProofs := false) (maxSteps := 1000000) (disch := first | omega | with_reducible assumption | (simp only [List.length_map, List.length_cons, List.length_nil, List.length_set, List.length_append, List.length_replicate, List.length_take, List.length_drop, mk_size, AMem.size_set, Nat.reduceAdd]; omega)) only [amT, cut, bnd, Nat.reduceBEq, reduceCtorEq, Nat.reduceEqDiff, Nat.reduceAdd, Nat.reduceMul, Nat.reduceSub, Int.reduceToNat, Int.reduceEq, Int.reduceLT, Int.reduceLE, Int.reduceAdd, Int.reduceSub, Int.reduceMul, reduceIte, resVs, resV, packV, initT, addr]) (by simp (implicitDefEqProofs := false) (maxSteps := 1000000) (disch := first | omega | with_reducible assumption | (simp only [List.length_map, List.length_cons, List.length_nil, List.length_set, List.length_append, List.length_replicate, List.length_take, List.length_drop, mk_size, AMem.size_set, Nat.reduceAdd]; omega)) only [amT, cut, bnd, Nat.reduceBEq, reduceCtorEq, Nat.reduceEqDiff, Nat.reduceAdd, Nat.reduceMul, Nat.reduceSub, Int.reduceToNat, Int.reduceEq, Int.reduceLT, Int.reduceLE, Int.reduceAdd, Int.reduceSub, Int.reduceMul, reduceIte, resVs, resV, packV, initT, addr]) ?_
  intro t t0 t2
  simp (implicitDefEqProofs := false) (maxSteps := 1000000) (disch := first | omega | with_reducible assumption | (simp only [List.length_map, List.length_cons, List.length_nil, List.length_set, List.length_append, List.length_replicate, List.length_take, List.length_drop, mk_size, AMem.size_set, Nat.reduceAdd]; omega)) only [amT, cut, bnd, Nat.reduceBEq, reduceCtorEq, Nat.reduceEqDiff, Nat.reduceAdd, Nat.reduceMul, Nat.reduceSub, Int.reduceToNat, Int.reduceEq, Int.reduceLT, Int.reduceLE, Int.reduceAdd, Int.reduceSub, Int.reduceMul, reduceIte, resVs, resV, packV, initT, addr, t0, t2, hst, zero8, g0, cutL_all, amW]
  repeat refine OrW.go ?_
  refine W_loop (fun N qs => ∃ (i : Nat), N = 64 - i ∧ qs.ds = [] ∧ qs.m = mx m [.cells ((sched s.R 64).map w32) 66 true .exact, .cells ((roundsW constW s.R (zip2 beginW s.M) i).map w32) 31 true .exact] ∧ qs.t 0 = .pointer (some ⟨b, 0, none⟩) ∧ qs.t 2 = .pointer (some ⟨m.size, 0, none⟩) ∧ qs.t 6 = .pointer (some ⟨m.size + 1, 0, none⟩) ∧ qs.t 68 = .agg (constW.map w32).toArray ∧ qs.t 69 = .int .i64 i ∧ i ≤ 64) (64 - (0)) ⟨0, rfl, rfl, by first | rfl | (simp (implicitDefEqProofs := false) (maxSteps := 1000000) (disch := first | omega | with_reducible assumption | (simp only [List.length_map, List.length_cons, List.length_nil, List.length_set, List.length_append, List.length_replicate, List.length_take, List.length_drop, mk_size, AMem.size_set, Nat.reduceAdd]; omega)) only [amT, cut, bnd, Nat.reduceBEq, reduceCtorEq, Nat.reduceEqDiff, Nat.reduceAdd, Nat.reduceMul, Nat.reduceSub, Int.reduceToNat, Int.reduceEq, Int.reduceLT, Int.reduceLE, Int.reduceAdd, Int.reduceSub, Int.reduceMul, reduceIte, resVs, resV, packV, initT, addr, t0, t2, roundsW]; first | done | rfl | (congr 1; omega)), by first | rfl | (simp (implicitDefEqProofs := false) (maxSteps := 1000000) (disch := first | omega | with_reducible assumption | (simp only [List.length_map, List.length_cons, List.length_nil, List.length_set, List.length_append, List.length_replicate, List.length_take, List.length_drop, mk_size, AMem.size_set, Nat.reduceAdd]; omega)) only [amT, cut, bnd, Nat.reduceBEq, reduceCtorEq, Nat.reduceEqDiff, Nat.reduceAdd, Nat.reduceMul, Nat.reduceSub, Int.reduceToNat, Int.reduceEq, Int.reduceLT, Int.reduceLE, Int.reduceAdd, Int.reduceSub, Int.reduceMul, reduceIte, resVs, resV, packV, initT, addr, t0, t2, roundsW]; first | done | rfl | (congr 1; omega)), by first | rfl | (simp (implicitDefEqProofs := false) (maxSteps := 1000000) (disch := first | omega | with_reducible assumption | (simp only [List.length_map, List.length_cons, List.length_nil, List.length_set, List.length_append, List.length_replicate, List.length_take, List.length_drop, mk_size, AMem.size_set, Nat.reduceAdd]; omega)) only [amT, cut, bnd, Nat.reduceBEq, reduceCtorEq, Nat.reduceEqDiff, Nat.reduceAdd, Nat.reduceMul, Nat.reduceSub, Int.reduceToNat, Int.reduceEq, Int.reduceLT, Int.reduceLE, Int.reduceAdd, Int.reduceSub, Int.reduceMul, reduceIte, resVs, resV, packV, initT, addr, t0, t2, roundsW]; first | done | rfl | (congr 1; omega)), by first | rfl | (simp (implicitDefEqProofs := false) (maxSteps := 1000000) (disch := first | omega | with_reducible assumption | (simp only [List.length_map, List.length_cons, List.length_nil, List.length_set, List.length_append, List.length_replicate, List.length_take, List.length_drop, mk_size, AMem.size_set, Nat.reduceAdd]; omega)) only [amT, cut, bnd, Nat.reduceBEq, reduceCtorEq, Nat.reduceEqDiff, Nat.reduceAdd, Nat.reduceMul, Nat.reduceSub, Int.reduceToNat, Int.reduceEq, Int.reduceLT, Int.reduceLE, Int.reduceAdd, Int.reduceSub, Int.reduceMul, reduceIte, resVs, resV, packV, initT, addr, t0, t2, roundsW]; first | done | rfl | (congr 1; omega)), by first | rfl | (simp (implicitDefEqProofs := false) (maxSteps := 1000000) (disch := first | omega | with_reducible assumption | (simp only [List.length_map, List.length_cons, List.length_nil, List.length_set, List.length_append, List.length_replicate, List.length_take, List.length_drop, mk_size, AMem.size_set, Nat.reduceAdd]; omega)) only [amT, cut, bnd, Nat.reduceBEq, reduceCtorEq, Nat.reduceEqDiff, Nat.reduceAdd, Nat.reduceMul, Nat.reduceSub, Int.reduceToNat, Int.reduceEq, Int.reduceLT, Int.reduceLE, Int.reduceAdd, Int.reduceSub, Int.reduceMul, reduceIte, resVs, resV, packV, initT, addr, t0, t2, roundsW]; first | done | rfl | (congr 1; omega)), by first | rfl | (simp (implicitDefEqProofs := false) (maxSteps := 1000000) (disch := first | omega | with_reducible assumption | (simp only [List.length_map, List.length_cons, List.length_nil, List.length_set, List.length_append, List.length_replicate, List.length_take, List.length_drop, mk_size, AMem.size_set, Nat.reduceAdd]; omega)) only [amT, cut, bnd, Nat.reduceBEq, reduceCtorEq, Nat.reduceEqDiff, Nat.reduceAdd, Nat.reduceMul, Nat.reduceSub, Int.reduceToNat, Int.reduceEq, Int.reduceLT, Int.reduceLE, Int.reduceAdd, Int.reduceSub, Int.reduceMul, reduceIte, resVs, resV, packV, initT, addr, t0, t2, roundsW]; first | done | rfl | (congr 1; omega)), ?_⟩ ?_
  · omega
  · clear t0 t2
    rintro N t m1 ds ⟨i, rfl, hds, hm, t0, t2, t6, t68, t69, hp⟩
    simp only at hds hm t0 t2 t6 t68 t69
    subst hds; replace hm := hm.symm; subst hm
    by_cases hi : (i : Int) < 64
    · have hX : (roundsW constW s.R (zip2 beginW s.M) i).length = 8 := by rw [roundsW_length, z8]
      have hn : roundsW constW s.R (zip2 beginW s.M) (i + 1) = roundW (roundsW constW s.R (zip2 beginW s.M) i) (constW[i]'(by omega)) ((sched s.R 64)[i]'(by omega)) := by
        simp [roundsW, hkl, hsl, show i < 64 by omega]
      obtain ⟨x0, x1, x2, x3, x4, x5, x6, x7, hx⟩ := len8 hX
      rw [hx] at hn
      simp (implicitDefEqProofs := false) (maxSteps := 1000000) (disch := first | omega | with_reducible assumption | (simp only [List.length_map, List.length_cons, List.length_nil, List.length_set, List.length_append, List.length_replicate, List.length_take, List.length_drop, mk_size, AMem.size_set, Nat.reduceAdd]; omega)) only [amT, cut, bnd, Nat.reduceBEq, reduceCtorEq, Nat.reduceEqDiff, Nat.reduceAdd, Nat.reduceMul, Nat.reduceSub, Int.reduceToNat, Int.reduceEq, Int.reduceLT, Int.reduceLE, Int.reduceAdd, Int.reduceSub, Int.reduceMul, reduceIte, resVs, resV, packV, initT, addr, F24_l2, t0, t2, t6, t68, t69, hi, hx, amW, List.map_cons, List.map_nil, kTurnedA, kTurnedB]
      repeat refine OrW.go ?_
      simp (implicitDefEqProofs := false) (maxSteps := 1000000) (disch := first | omega | with_reducible assumption | (simp only [List.length_map, List.length_cons, List.length_nil, List.length_set, List.length_append, List.length_replicate, List.length_take, List.length_drop, mk_size, AMem.size_set, Nat.reduceAdd]; omega)) only [amT, cut, bnd, Nat.reduceBEq, reduceCtorEq, Nat.reduceEqDiff, Nat.reduceAdd, Nat.reduceMul, Nat.reduceSub, Int.reduceToNat, Int.reduceEq, Int.reduceLT, Int.reduceLE, Int.reduceAdd, Int.reduceSub, Int.reduceMul, reduceIte, resVs, resV, packV, initT, addr, stepOp_cpy, srcCells_slice, cutL, splice, List.take_succ_cons, List.take_zero, List.drop_succ_cons, List.drop_nil, List.all_cons, List.all_nil, oneCell_w, Nat.min_self, amW, List.map_cons, List.map_nil, t0, t2, t6, t68, t69]
      rw [LoopK_normal]; refine ⟨_, ?_, i + 1, rfl, rfl, by first | rfl | (simp (implicitDefEqProofs := false) (maxSteps := 1000000) (disch := first | omega | with_reducible assumption | (simp only [List.length_map, List.length_cons, List.length_nil, List.length_set, List.length_append, List.length_replicate, List.length_take, List.length_drop, mk_size, AMem.size_set, Nat.reduceAdd]; omega)) only [amT, cut, bnd, Nat.reduceBEq, reduceCtorEq, Nat.reduceEqDiff, Nat.reduceAdd, Nat.reduceMul, Nat.reduceSub, Int.reduceToNat, Int.reduceEq, Int.reduceLT, Int.reduceLE, Int.reduceAdd, Int.reduceSub, Int.reduceMul, reduceIte, resVs, resV, packV, initT, addr, t0, t2, t6, t68, t69, hn, roundW, List.map_cons, List.map_nil]; first | done | rfl | (congr 1; omega)), by first | rfl | (simp (implicitDefEqProofs := false) (maxSteps := 1000000) (disch := first | omega | with_reducible assumption | (simp only [List.length_map, List.length_cons, List.length_nil, List.length_set, List.length_append, List.length_replicate, List.length_take, List.length_drop, mk_size, AMem.size_set, Nat.reduceAdd]; omega)) only [amT, cut, bnd, Nat.reduceBEq, reduceCtorEq, Nat.reduceEqDiff, Nat.reduceAdd, Nat.reduceMul, Nat.reduceSub, Int.reduceToNat, Int.reduceEq, Int.reduceLT, Int.reduceLE, Int.reduceAdd, Int.reduceSub, Int.reduceMul, reduceIte, resVs, resV, packV, initT, addr, t0, t2, t6, t68, t69, hn, roundW, List.map_cons, List.map_nil]; first | done | rfl | (congr 1; omega)), by first | rfl | (simp (implicitDefEqProofs := false) (maxSteps := 1000000) (disch := first | omega | with_reducible assumption | (simp only [List.length_map, List.length_cons, List.length_nil, List.length_set, List.length_append, List.length_replicate, List.length_take, List.length_drop, mk_size, AMem.size_set, Nat.reduceAdd]; omega)) only [amT, cut, bnd, Nat.reduceBEq, reduceCtorEq, Nat.reduceEqDiff, Nat.reduceAdd, Nat.reduceMul, Nat.reduceSub, Int.reduceToNat, Int.reduceEq, Int.reduceLT, Int.reduceLE, Int.reduceAdd, Int.reduceSub, Int.reduceMul, reduceIte, resVs, resV, packV, initT, addr, t0, t2, t6, t68, t69, hn, roundW, List.map_cons, List.map_nil]; first | done | rfl | (congr 1; omega)), by first | rfl | (simp (implicitDefEqProofs := false) (maxSteps := 1000000) (disch := first | omega | with_reducible assumption | (simp only [List.length_map, List.length_cons, List.length_nil, List.length_set, List.length_append, List.length_replicate, List.length_take, List.length_drop, mk_size, AMem.size_set, Nat.reduceAdd]; omega)) only [amT, cut, bnd, Nat.reduceBEq, reduceCtorEq, Nat.reduceEqDiff, Nat.reduceAdd, Nat.reduceMul, Nat.reduceSub, Int.reduceToNat, Int.reduceEq, Int.reduceLT, Int.reduceLE, Int.reduceAdd, Int.reduceSub, Int.reduceMul, reduceIte, resVs, resV, packV, initT, addr, t0, t2, t6, t68, t69, hn, roundW, List.map_cons, List.map_nil]; first | done | rfl | (congr 1; omega)), by first | rfl | (simp (implicitDefEqProofs := false) (maxSteps := 1000000) (disch := first | omega | with_reducible assumption | (simp only [List.length_map, List.length_cons, List.length_nil, List.length_set, List.length_append, List.length_replicate, List.length_take, List.length_drop, mk_size, AMem.size_set, Nat.reduceAdd]; omega)) only [amT, cut, bnd, Nat.reduceBEq, reduceCtorEq, Nat.reduceEqDiff, Nat.reduceAdd, Nat.reduceMul, Nat.reduceSub, Int.reduceToNat, Int.reduceEq, Int.reduceLT, Int.reduceLE, Int.reduceAdd, Int.reduceSub, Int.reduceMul, reduceIte, resVs, resV, packV, initT, addr, t0, t2, t6, t68, t69, hn, roundW, List.map_cons, List.map_nil]; first | done | rfl | (congr 1; omega)), by first | rfl | (simp (implicitDefEqProofs := false) (maxSteps := 1000000) (disch := first | omega | with_reducible assumption | (simp only [List.length_map, List.length_cons, List.length_nil, List.length_set, List.length_append, List.length_replicate, List.length_take, List.length_drop, mk_size, AMem.size_set, Nat.reduceAdd]; omega)) only [amT, cut, bnd, Nat.reduceBEq, reduceCtorEq, Nat.reduceEqDiff, Nat.reduceAdd, Nat.reduceMul, Nat.reduceSub, Int.reduceToNat, Int.reduceEq, Int.reduceLT, Int.reduceLE, Int.reduceAdd, Int.reduceSub, Int.reduceMul, reduceIte, resVs, resV, packV, initT, addr, t0, t2, t6, t68, t69, hn, roundW, List.map_cons, List.map_nil]; first | done | rfl | (congr 1; omega)), ?_⟩
      · omega
      · omega
    · have h64 : i = 64 := by omega
      subst h64
      generalize hV : roundsW constW s.R (zip2 beginW s.M) 64 = V at *
      have hV8 : V.length = 8 := by rw [← hV, roundsW_length, z8]
      have hms : moreStep s.M s.R = zip2 s.M V := by rw [moreStep, hV]
      have hset : m.set b (.cells (cH ⟨s.M, s.R, s.n⟩) 35 true .exact) = m := AMem.set_same hm
      have hzl : (zip2 s.M V).length = s.M.length := by rw [zip2_length m8 hV8, m8]
      simp (implicitDefEqProofs := false) (maxSteps := 1000000) (disch := first | omega | with_reducible assumption | (simp only [List.length_map, List.length_cons, List.length_nil, List.length_set, List.length_append, List.length_replicate, List.length_take, List.length_drop, mk_size, AMem.size_set, Nat.reduceAdd]; omega)) only [amT, cut, bnd, Nat.reduceBEq, reduceCtorEq, Nat.reduceEqDiff, Nat.reduceAdd, Nat.reduceMul, Nat.reduceSub, Int.reduceToNat, Int.reduceEq, Int.reduceLT, Int.reduceLE, Int.reduceAdd, Int.reduceSub, Int.reduceMul, reduceIte, resVs, resV, packV, initT, addr, F24_l2, t0, t2, t6, t68, t69, cutL_all]
      refine W_loop (fun N qs => ∃ (i : Nat), N = 8 - i ∧ qs.ds = [] ∧ qs.m = mx (m.set b (.cells (cH ⟨mix i (zip2 s.M V) s.M, s.R, s.n⟩) 35 true .exact)) [.cells ((sched s.R 64).map w32) 66 true .exact, .cells (V.map w32) 31 true .exact] ∧ qs.t 0 = .pointer (some ⟨b, 0, none⟩) ∧ qs.t 131 = .agg (V.map w32).toArray ∧ qs.t 132 = .int .i64 i ∧ i ≤ 8) (8 - (0)) ⟨0, rfl, rfl, by first | rfl | (simp (implicitDefEqProofs := false) (maxSteps := 1000000) (disch := first | omega | with_reducible assumption | (simp only [List.length_map, List.length_cons, List.length_nil, List.length_set, List.length_append, List.length_replicate, List.length_take, List.length_drop, mk_size, AMem.size_set, Nat.reduceAdd]; omega)) only [amT, cut, bnd, Nat.reduceBEq, reduceCtorEq, Nat.reduceEqDiff, Nat.reduceAdd, Nat.reduceMul, Nat.reduceSub, Int.reduceToNat, Int.reduceEq, Int.reduceLT, Int.reduceLE, Int.reduceAdd, Int.reduceSub, Int.reduceMul, reduceIte, resVs, resV, packV, initT, addr, t0, t2, t6, t68, t69, mix_zero, hset]; first | done | rfl | (congr 1; omega)), by first | rfl | (simp (implicitDefEqProofs := false) (maxSteps := 1000000) (disch := first | omega | with_reducible assumption | (simp only [List.length_map, List.length_cons, List.length_nil, List.length_set, List.length_append, List.length_replicate, List.length_take, List.length_drop, mk_size, AMem.size_set, Nat.reduceAdd]; omega)) only [amT, cut, bnd, Nat.reduceBEq, reduceCtorEq, Nat.reduceEqDiff, Nat.reduceAdd, Nat.reduceMul, Nat.reduceSub, Int.reduceToNat, Int.reduceEq, Int.reduceLT, Int.reduceLE, Int.reduceAdd, Int.reduceSub, Int.reduceMul, reduceIte, resVs, resV, packV, initT, addr, t0, t2, t6, t68, t69, mix_zero, hset]; first | done | rfl | (congr 1; omega)), by first | rfl | (simp (implicitDefEqProofs := false) (maxSteps := 1000000) (disch := first | omega | with_reducible assumption | (simp only [List.length_map, List.length_cons, List.length_nil, List.length_set, List.length_append, List.length_replicate, List.length_take, List.length_drop, mk_size, AMem.size_set, Nat.reduceAdd]; omega)) only [amT, cut, bnd, Nat.reduceBEq, reduceCtorEq, Nat.reduceEqDiff, Nat.reduceAdd, Nat.reduceMul, Nat.reduceSub, Int.reduceToNat, Int.reduceEq, Int.reduceLT, Int.reduceLE, Int.reduceAdd, Int.reduceSub, Int.reduceMul, reduceIte, resVs, resV, packV, initT, addr, t0, t2, t6, t68, t69, mix_zero, hset]; first | done | rfl | (congr 1; omega)), by first | rfl | (simp (implicitDefEqProofs := false) (maxSteps := 1000000) (disch := first | omega | with_reducible assumption | (simp only [List.length_map, List.length_cons, List.length_nil, List.length_set, List.length_append, List.length_replicate, List.length_take, List.length_drop, mk_size, AMem.size_set, Nat.reduceAdd]; omega)) only [amT, cut, bnd, Nat.reduceBEq, reduceCtorEq, Nat.reduceEqDiff, Nat.reduceAdd, Nat.reduceMul, Nat.reduceSub, Int.reduceToNat, Int.reduceEq, Int.reduceLT, Int.reduceLE, Int.reduceAdd, Int.reduceSub, Int.reduceMul, reduceIte, resVs, resV, packV, initT, addr, t0, t2, t6, t68, t69, mix_zero, hset]; first | done | rfl | (congr 1; omega)), ?_⟩ ?_
      · omega
      · clear t0 t2 t6 t68 t69 hp hi
        rintro N t m1 ds ⟨i, rfl, hds, hm, t0, t131, t132, hp⟩
        simp only at hds hm t0 t131 t132
        subst hds; replace hm := hm.symm; subst hm
        have hok : HS.ok ⟨mix i (zip2 s.M V) s.M, s.R, s.n⟩ := ⟨by simp only; rw [mix_length hzl, m8], hs.2⟩
        have h73 := cH_length hok
        by_cases hi : (i : Int) < 8
        · have h1 := cH_Mi hok (i := i) (by omega)
          simp only at h1
          rw [mix_get hzl (by omega)] at h1
          have h2 := cH_setM hok (i := i) (by omega) (s.M[i]'(by omega) + V[i]'(by omega))
          simp only at h2
          rw [← zip2_get (by omega) (by omega), mix_set hzl (by omega)] at h2
          have h3 := zip2_get (a := s.M) (b := V) (i := i) (by omega) (by omega)
          simp (implicitDefEqProofs := false) (maxSteps := 1000000) (disch := first | omega | with_reducible assumption | (simp only [List.length_map, List.length_cons, List.length_nil, List.length_set, List.length_append, List.length_replicate, List.length_take, List.length_drop, mk_size, AMem.size_set, Nat.reduceAdd]; omega)) only [amT, cut, bnd, Nat.reduceBEq, reduceCtorEq, Nat.reduceEqDiff, Nat.reduceAdd, Nat.reduceMul, Nat.reduceSub, Int.reduceToNat, Int.reduceEq, Int.reduceLT, Int.reduceLE, Int.reduceAdd, Int.reduceSub, Int.reduceMul, reduceIte, resVs, resV, packV, initT, addr, F24_l3, t0, t131, t132, hi, amW, h1, ← h3, h2]
          rw [LoopK_normal]; refine ⟨_, ?_, i + 1, rfl, rfl, by first | rfl | (simp (implicitDefEqProofs := false) (maxSteps := 1000000) (disch := first | omega | with_reducible assumption | (simp only [List.length_map, List.length_cons, List.length_nil, List.length_set, List.length_append, List.length_replicate, List.length_take, List.length_drop, mk_size, AMem.size_set, Nat.reduceAdd]; omega)) only [amT, cut, bnd, Nat.reduceBEq, reduceCtorEq, Nat.reduceEqDiff, Nat.reduceAdd, Nat.reduceMul, Nat.reduceSub, Int.reduceToNat, Int.reduceEq, Int.reduceLT, Int.reduceLE, Int.reduceAdd, Int.reduceSub, Int.reduceMul, reduceIte, resVs, resV, packV, initT, addr, t0, t131, t132]; first | done | rfl | (congr 1; omega)), by first | rfl | (simp (implicitDefEqProofs := false) (maxSteps := 1000000) (disch := first | omega | with_reducible assumption | (simp only [List.length_map, List.length_cons, List.length_nil, List.length_set, List.length_append, List.length_replicate, List.length_take, List.length_drop, mk_size, AMem.size_set, Nat.reduceAdd]; omega)) only [amT, cut, bnd, Nat.reduceBEq, reduceCtorEq, Nat.reduceEqDiff, Nat.reduceAdd, Nat.reduceMul, Nat.reduceSub, Int.reduceToNat, Int.reduceEq, Int.reduceLT, Int.reduceLE, Int.reduceAdd, Int.reduceSub, Int.reduceMul, reduceIte, resVs, resV, packV, initT, addr, t0, t131, t132]; first | done | rfl | (congr 1; omega)), by first | rfl | (simp (implicitDefEqProofs := false) (maxSteps := 1000000) (disch := first | omega | with_reducible assumption | (simp only [List.length_map, List.length_cons, List.length_nil, List.length_set, List.length_append, List.length_replicate, List.length_take, List.length_drop, mk_size, AMem.size_set, Nat.reduceAdd]; omega)) only [amT, cut, bnd, Nat.reduceBEq, reduceCtorEq, Nat.reduceEqDiff, Nat.reduceAdd, Nat.reduceMul, Nat.reduceSub, Int.reduceToNat, Int.reduceEq, Int.reduceLT, Int.reduceLE, Int.reduceAdd, Int.reduceSub, Int.reduceMul, reduceIte, resVs, resV, packV, initT, addr, t0, t131, t132]; first | done | rfl | (congr 1; omega)), by first | rfl | (simp (implicitDefEqProofs := false) (maxSteps := 1000000) (disch := first | omega | with_reducible assumption | (simp only [List.length_map, List.length_cons, List.length_nil, List.length_set, List.length_append, List.length_replicate, List.length_take, List.length_drop, mk_size, AMem.size_set, Nat.reduceAdd]; omega)) only [amT, cut, bnd, Nat.reduceBEq, reduceCtorEq, Nat.reduceEqDiff, Nat.reduceAdd, Nat.reduceMul, Nat.reduceSub, Int.reduceToNat, Int.reduceEq, Int.reduceLT, Int.reduceLE, Int.reduceAdd, Int.reduceSub, Int.reduceMul, reduceIte, resVs, resV, packV, initT, addr, t0, t131, t132]; first | done | rfl | (congr 1; omega)), ?_⟩
          · omega
          · omega
        · have h8 : i = 8 := by omega
          subst h8
          simp (implicitDefEqProofs := false) (maxSteps := 1000000) (disch := first | omega | with_reducible assumption | (simp only [List.length_map, List.length_cons, List.length_nil, List.length_set, List.length_append, List.length_replicate, List.length_take, List.length_drop, mk_size, AMem.size_set, Nat.reduceAdd]; omega)) only [amT, cut, bnd, Nat.reduceBEq, reduceCtorEq, Nat.reduceEqDiff, Nat.reduceAdd, Nat.reduceMul, Nat.reduceSub, Int.reduceToNat, Int.reduceEq, Int.reduceLT, Int.reduceLE, Int.reduceAdd, Int.reduceSub, Int.reduceMul, reduceIte, resVs, resV, packV, initT, addr, F24_l3, t0, t131, t132, mix_all (show (zip2 s.M V).length = 8 by rw [hzl, m8]) m8, hms]
end Go.Proofs.YtidngakhkpodgaaDoor
namespace Go.Proofs.YtidngakhkpodgaaDoor
open Go Go.AM
set_option linter.unusedVariables false
set_option linter.unusedSimpArgs false

theorem put_nil (m : AMem) (v : Value) : PureC Tryd.prog 3 12 [.pointer none, v] m (.tuple #[]) := by
  refine pure_of_W (fn := Tryd.f12) rfl rfl F12_ok (by simp [F12]) (.tuple (by simp)) ?_
  simp (implicitDefEqProofs := false) (maxSteps := 1000000) (disch := first | omega | with_reducible assumption | (simp only [List.length_map, List.length_cons, List.length_nil, List.length_set, List.length_append, List.length_replicate, List.length_take, List.length_drop, mk_size, AMem.size_set, Nat.reduceAdd]; omega)) only [amT, cut, bnd, Nat.reduceBEq, reduceCtorEq, Nat.reduceEqDiff, Nat.reduceAdd, Nat.reduceMul, Nat.reduceSub, Int.reduceToNat, Int.reduceEq, Int.reduceLT, Int.reduceLE, Int.reduceAdd, Int.reduceSub, Int.reduceMul, reduceIte, resVs, resV, packV, initT, addr, F12]
  refine W_loop (fun N qs => ∃ (i : Nat), N = 0 ∧ qs.ds = [] ∧ qs.m = mx m [] ∧ qs.t 0 = .pointer none ∧ True) (0) ⟨0, rfl, rfl, by first | rfl | (simp (implicitDefEqProofs := false) (maxSteps := 1000000) (disch := first | omega | with_reducible assumption | (simp only [List.length_map, List.length_cons, List.length_nil, List.length_set, List.length_append, List.length_replicate, List.length_take, List.length_drop, mk_size, AMem.size_set, Nat.reduceAdd]; omega)) only [amT, cut, bnd, Nat.reduceBEq, reduceCtorEq, Nat.reduceEqDiff, Nat.reduceAdd, Nat.reduceMul, Nat.reduceSub, Int.reduceToNat, Int.reduceEq, Int.reduceLT, Int.reduceLE, Int.reduceAdd, Int.reduceSub, Int.reduceMul, reduceIte, resVs, resV, packV, initT, addr]; first | done | rfl | (congr 1; omega)), by first | rfl | (simp (implicitDefEqProofs := false) (maxSteps := 1000000) (disch := first | omega | with_reducible assumption | (simp only [List.length_map, List.length_cons, List.length_nil, List.length_set, List.length_append, List.length_replicate, List.length_take, List.length_drop, mk_size, AMem.size_set, Nat.reduceAdd]; omega)) only [amT, cut, bnd, Nat.reduceBEq, reduceCtorEq, Nat.reduceEqDiff, Nat.reduceAdd, Nat.reduceMul, Nat.reduceSub, Int.reduceToNat, Int.reduceEq, Int.reduceLT, Int.reduceLE, Int.reduceAdd, Int.reduceSub, Int.reduceMul, reduceIte, resVs, resV, packV, initT, addr]; first | done | rfl | (congr 1; omega)), ?_⟩ ?_
  · trivial
  · rintro N t m1 ds ⟨i, rfl, hds, hm, t0, hp⟩
    simp only at hds hm t0
    subst hds; replace hm := hm.symm; subst hm
    simp (implicitDefEqProofs := false) (maxSteps := 1000000) (disch := first | omega | with_reducible assumption | (simp only [List.length_map, List.length_cons, List.length_nil, List.length_set, List.length_append, List.length_replicate, List.length_take, List.length_drop, mk_size, AMem.size_set, Nat.reduceAdd]; omega)) only [amT, cut, bnd, Nat.reduceBEq, reduceCtorEq, Nat.reduceEqDiff, Nat.reduceAdd, Nat.reduceMul, Nat.reduceSub, Int.reduceToNat, Int.reduceEq, Int.reduceLT, Int.reduceLE, Int.reduceAdd, Int.reduceSub, Int.reduceMul, reduceIte, resVs, resV, packV, initT, addr, F12_l0, t0, eqV, Option.isNone]

theorem Glob.set {m : AMem} (h : Glob m) {b : Nat} (hb : 2 < b) (o : AObj) : Glob (m.set b o) :=
  ⟨by rw [AMem.get_set_ne _ _ (by omega)]; exact h.k, by rw [AMem.get_set_ne _ _ (by omega)]; exact h.b, h.s⟩
/-- The state at b. -/
abbrev hAt (m : AMem) (b : Nat) (s : HS) : AMem := m.set b (.cells (cH s) 35 true .exact)

theorem put_ok (m : AMem) (b : Nat) (s : HS) (hg : Glob m) (hs : s.ok) (hb : b < m.size) (hb2 : 2 < b) (hm : m.get b = .cells (cH s) 35 true .exact) (a : Option Addr) (cap : Nat) (c : List UInt8)
    (hc : BSl m a cap c) (hoff : Off a b) (hn : s.n + c.length < 2 ^ 60) :
    DetC Tryd.prog 3 12 [.pointer (some ⟨b, 0, none⟩), .slice a c.length cap] m (.tuple #[]) (mx (hAt m b (s.put c)) []) := by
  refine set_of_W (fn := Tryd.f12) rfl rfl F12_ok (by simp [F12]) (.tuple (by simp)) (plain_cH _) ?_
  have hset : m.set b (.cells (cH s) 35 true .exact) = m := AMem.set_same hm
  simp (implicitDefEqProofs := false) (maxSteps := 1000000) (disch := first | omega | with_reducible assumption | (simp only [List.length_map, List.length_cons, List.length_nil, List.length_set, List.length_append, List.length_replicate, List.length_take, List.length_drop, mk_size, AMem.size_set, Nat.reduceAdd]; omega)) only [amT, cut, bnd, Nat.reduceBEq, reduceCtorEq, Nat.reduceEqDiff, Nat.reduceAdd, Nat.reduceMul, Nat.reduceSub, Int.reduceToNat, Int.reduceEq, Int.reduceLT, Int.reduceLE, Int.reduceAdd, Int.reduceSub, Int.reduceMul, reduceIte, resVs, resV, packV, initT, addr, F12]
  refine W_loop (fun N qs => ∃ (k : Nat) (a' : Option Addr) (cap' : Nat), N = c.length - k ∧ qs.ds = [] ∧ qs.m = mx (hAt m b (s.put (c.take k))) [] ∧ qs.t 0 = .pointer (some ⟨b, 0, none⟩) ∧ qs.t 1 = .slice a' (c.drop k).length cap' ∧ k ≤ c.length ∧ BSl m a' cap' (c.drop k) ∧ Off a' b) (c.length - (0)) ⟨0, a, cap, rfl, rfl, by first | rfl | (simp (implicitDefEqProofs := false) (maxSteps := 1000000) (disch := first | omega | with_reducible assumption | (simp only [List.length_map, List.length_cons, List.length_nil, List.length_set, List.length_append, List.length_replicate, List.length_take, List.length_drop, mk_size, AMem.size_set, Nat.reduceAdd]; omega)) only [amT, cut, bnd, Nat.reduceBEq, reduceCtorEq, Nat.reduceEqDiff, Nat.reduceAdd, Nat.reduceMul, Nat.reduceSub, Int.reduceToNat, Int.reduceEq, Int.reduceLT, Int.reduceLE, Int.reduceAdd, Int.reduceSub, Int.reduceMul, reduceIte, resVs, resV, packV, initT, addr, List.take_zero, HS.put_nil, hset]; first | done | rfl | (congr 1; omega)), by first | rfl | (simp (implicitDefEqProofs := false) (maxSteps := 1000000) (disch := first | omega | with_reducible assumption | (simp only [List.length_map, List.length_cons, List.length_nil, List.length_set, List.length_append, List.length_replicate, List.length_take, List.length_drop, mk_size, AMem.size_set, Nat.reduceAdd]; omega)) only [amT, cut, bnd, Nat.reduceBEq, reduceCtorEq, Nat.reduceEqDiff, Nat.reduceAdd, Nat.reduceMul, Nat.reduceSub, Int.reduceToNat, Int.reduceEq, Int.reduceLT, Int.reduceLE, Int.reduceAdd, Int.reduceSub, Int.reduceMul, reduceIte, resVs, resV, packV, initT, addr, List.take_zero, HS.put_nil, hset]; first | done | rfl | (congr 1; omega)), by first | rfl | (simp (implicitDefEqProofs := false) (maxSteps := 1000000) (disch := first | omega | with_reducible assumption | (simp only [List.length_map, List.length_cons, List.length_nil, List.length_set, List.length_append, List.length_replicate, List.length_take, List.length_drop, mk_size, AMem.size_set, Nat.reduceAdd]; omega)) only [amT, cut, bnd, Nat.reduceBEq, reduceCtorEq, Nat.reduceEqDiff, Nat.reduceAdd, Nat.reduceMul, Nat.reduceSub, Int.reduceToNat, Int.reduceEq, Int.reduceLT, Int.reduceLE, Int.reduceAdd, Int.reduceSub, Int.reduceMul, reduceIte, resVs, resV, packV, initT, addr, List.take_zero, HS.put_nil, hset]; first | done | rfl | (congr 1; omega)), ?_⟩ ?_
  · exact ⟨by omega, hc, hoff⟩
  · rintro N t m1 ds ⟨k, a', cap', rfl, hds, hm, t0, t1, hp⟩
    simp only at hds hm t0 t1
    subst hds; replace hm := hm.symm; subst hm
    obtain ⟨hk, hc', hoff'⟩ := hp
    have hlen : (c.drop k).length = c.length - k := List.length_drop
    by_cases hz : k = c.length
    · subst hz
      simp (implicitDefEqProofs := false) (maxSteps := 1000000) (disch := first | omega | with_reducible assumption | (simp only [List.length_map, List.length_cons, List.length_nil, List.length_set, List.length_append, List.length_replicate, List.length_take, List.length_drop, mk_size, AMem.size_set, Nat.reduceAdd]; omega)) only [amT, cut, bnd, Nat.reduceBEq, reduceCtorEq, Nat.reduceEqDiff, Nat.reduceAdd, Nat.reduceMul, Nat.reduceSub, Int.reduceToNat, Int.reduceEq, Int.reduceLT, Int.reduceLE, Int.reduceAdd, Int.reduceSub, Int.reduceMul, reduceIte, resVs, resV, packV, initT, addr, F12_l0, t0, t1, eqV, Option.isNone, List.drop_length]
    · generalize hs1 : s.put (c.take k) = s1 at *
      have hok : s1.ok := by rw [← hs1]; exact HS.put_ok hs _
      have hn1 : s1.n = s.n + k := by rw [← hs1, HS.put_n]; simp; omega
      have hpos : (0 : Int) < ((c.drop k).length : Int) := by omega
      have e1 : (s1.n : Int).tmod 64 = ((s1.n % 64 : Nat) : Int) := tmod_nat _ 64
      have h72 := cH_n hok
      have h73 := cH_length hok
      have hd := hok.2
      obtain ⟨nn, hnn⟩ : ∃ nn, nn = min (c.drop k).length (64 - s1.n % 64) := ⟨_, rfl⟩
      have hbk : b < (hAt m b s1).size := by rw [AMem.size_set]; exact hb
      have hcp := BSl.cpy (m := mx (hAt m b s1) []) ((hc'.set hoff' (.cells (cH s1) 35 true .exact)).old (M := mx (hAt m b s1) []) (Old.here _ _)) (b := b) (o := 8 + s1.n % 64) (dl := 64 - s1.n % 64) (dc := 64 - s1.n % 64) (X := cH s1) (e := 35) (sp := .exact) ((mx_old hbk).trans (AMem.get_set_self _ _ _)) (by omega) (by omega)
      rw [← hnn] at hcp
      obtain ⟨c', hcd⟩ : ∃ c', c' = (c.drop k).take nn := ⟨_, rfl⟩
      rw [← hcd] at hcp
      have hcl : c'.length = nn := by rw [hcd, List.length_take]; omega
      have hR := cH_R hok (at_ := s1.n % 64) (c := c') (by rw [hcl]; omega)
      have hok2 : HS.ok ⟨s1.M, spl s1.R (s1.n % 64) c', s1.n⟩ := ⟨hok.1, by rw [spl_length (by rw [hcl, hd]; omega), hd]⟩
      have hn2 := cH_n hok2
      have h732 := cH_length hok2
      have hsn := cH_setn hok2 (s1.n + nn)
      simp only at hR hn2 hsn
      have e3 : (s1.n : Int) + (nn : Int) = ((s1.n + nn : Nat) : Int) := by omega
      have hdd : (c.drop k).drop nn = c.drop (k + nn) := by rw [List.drop_drop]
      have htk : c.take (k + nn) = c.take k ++ c' := by rw [List.take_add, hcd]
      have hop : (c.drop k).length < openCap := openCap_lt (by omega)
      have hsl := (BSl.tail (m := mx (hAt m b ⟨s1.M, spl s1.R (s1.n % 64) c', s1.n⟩) []) (((hc'.set hoff' _).old (Old.here _ _))) hop (k := nn) (by omega)).1
      have hc3 := (BSl.tail hc' hop (k := nn) (by omega)).2
      have hoff3 := hoff'.tail cap' nn
      rw [hdd] at hc3
      by_cases hfull : ((s1.n % 64 : Nat) : Int) + (nn : Int) = 64
      · have hput : s.put (c.take (k + nn)) = ⟨moreStep s1.M (spl s1.R (s1.n % 64) c'), spl s1.R (s1.n % 64) c', s1.n + nn⟩ := by
          rw [htk, HS.put_append, hs1, HS.put_full hok (by intro h; rw [h] at hcl; simp at hcl; omega) (by rw [hcl]; omega), hcl]
        have hput2 : c.length ≤ k + nn → s.put c = ⟨moreStep s1.M (spl s1.R (s1.n % 64) c'), spl s1.R (s1.n % 64) c', s1.n + nn⟩ := fun h => by rw [List.take_of_length_le h] at hput; exact hput
        have hkb := DetC.known (block_ok (mx (hAt m b ⟨s1.M, spl s1.R (s1.n % 64) c', s1.n + nn⟩) []) b ⟨s1.M, spl s1.R (s1.n % 64) c', s1.n + nn⟩ ((hg.set hb2 _).old (Old.here _ _)) hok2 (by rw [mx_size, AMem.size_set]; omega) hb2 (by rw [mx_old (by rw [AMem.size_set]; exact hb)]; exact AMem.get_set_self _ _ _))
        simp (implicitDefEqProofs := false) (maxSteps := 1000000) (disch := first | omega | with_reducible assumption | (simp only [List.length_map, List.length_cons, List.length_nil, List.length_set, List.length_append, List.length_replicate, List.length_take, List.length_drop, mk_size, AMem.size_set, Nat.reduceAdd]; omega)) only [amT, cut, bnd, Nat.reduceBEq, reduceCtorEq, Nat.reduceEqDiff, Nat.reduceAdd, Nat.reduceMul, Nat.reduceSub, Int.reduceToNat, Int.reduceEq, Int.reduceLT, Int.reduceLE, Int.reduceAdd, Int.reduceSub, Int.reduceMul, reduceIte, resVs, resV, packV, initT, addr, F12_l0, t0, t1, eqV, Option.isNone, hpos, e1, h72, stepOp_cpy_v, hcp, hR, hn2, stepOp_slV_v, Option.map_none, hsl, e3, hsn, hfull, hkb]
        repeat refine OrW.go ?_
        rw [LoopK_normal]; refine ⟨_, ?_, k + nn, tailA a' cap' nn, tailC cap' nn, rfl, rfl, by first | rfl | (simp (implicitDefEqProofs := false) (maxSteps := 1000000) (disch := first | omega | with_reducible assumption | (simp only [List.length_map, List.length_cons, List.length_nil, List.length_set, List.length_append, List.length_replicate, List.length_take, List.length_drop, mk_size, AMem.size_set, Nat.reduceAdd]; omega)) only [amT, cut, bnd, Nat.reduceBEq, reduceCtorEq, Nat.reduceEqDiff, Nat.reduceAdd, Nat.reduceMul, Nat.reduceSub, Int.reduceToNat, Int.reduceEq, Int.reduceLT, Int.reduceLE, Int.reduceAdd, Int.reduceSub, Int.reduceMul, reduceIte, resVs, resV, packV, initT, addr, t0, t1, hput, hput2, hdd]; first | done | rfl | (congr 1; omega)), by first | rfl | (simp (implicitDefEqProofs := false) (maxSteps := 1000000) (disch := first | omega | with_reducible assumption | (simp only [List.length_map, List.length_cons, List.length_nil, List.length_set, List.length_append, List.length_replicate, List.length_take, List.length_drop, mk_size, AMem.size_set, Nat.reduceAdd]; omega)) only [amT, cut, bnd, Nat.reduceBEq, reduceCtorEq, Nat.reduceEqDiff, Nat.reduceAdd, Nat.reduceMul, Nat.reduceSub, Int.reduceToNat, Int.reduceEq, Int.reduceLT, Int.reduceLE, Int.reduceAdd, Int.reduceSub, Int.reduceMul, reduceIte, resVs, resV, packV, initT, addr, t0, t1, hput, hput2, hdd]; first | done | rfl | (congr 1; omega)), by first | rfl | (simp (implicitDefEqProofs := false) (maxSteps := 1000000) (disch := first | omega | with_reducible assumption | (simp only [List.length_map, List.length_cons, List.length_nil, List.length_set, List.length_append, List.length_replicate, List.length_take, List.length_drop, mk_size, AMem.size_set, Nat.reduceAdd]; omega)) only [amT, cut, bnd, Nat.reduceBEq, reduceCtorEq, Nat.reduceEqDiff, Nat.reduceAdd, Nat.reduceMul, Nat.reduceSub, Int.reduceToNat, Int.reduceEq, Int.reduceLT, Int.reduceLE, Int.reduceAdd, Int.reduceSub, Int.reduceMul, reduceIte, resVs, resV, packV, initT, addr, t0, t1, hput, hput2, hdd]; first | done | rfl | (congr 1; omega)), ?_⟩
        · omega
        · exact ⟨by omega, hc3, hoff3⟩
      · have hput : s.put (c.take (k + nn)) = ⟨s1.M, spl s1.R (s1.n % 64) c', s1.n + nn⟩ := by
          rw [htk, HS.put_append, hs1, HS.put_fit hok (by rw [hcl]; omega), hcl]
        have hput2 : c.length ≤ k + nn → s.put c = ⟨s1.M, spl s1.R (s1.n % 64) c', s1.n + nn⟩ := fun h => by rw [List.take_of_length_le h] at hput; exact hput
        simp (implicitDefEqProofs := false) (maxSteps := 1000000) (disch := first | omega | with_reducible assumption | (simp only [List.length_map, List.length_cons, List.length_nil, List.length_set, List.length_append, List.length_replicate, List.length_take, List.length_drop, mk_size, AMem.size_set, Nat.reduceAdd]; omega)) only [amT, cut, bnd, Nat.reduceBEq, reduceCtorEq, Nat.reduceEqDiff, Nat.reduceAdd, Nat.reduceMul, Nat.reduceSub, Int.reduceToNat, Int.reduceEq, Int.reduceLT, Int.reduceLE, Int.reduceAdd, Int.reduceSub, Int.reduceMul, reduceIte, resVs, resV, packV, initT, addr, F12_l0, t0, t1, eqV, Option.isNone, hpos, e1, h72, stepOp_cpy_v, hcp, hR, hn2, stepOp_slV_v, Option.map_none, hsl, e3, hsn, hfull]
        rw [LoopK_normal]; refine ⟨_, ?_, k + nn, tailA a' cap' nn, tailC cap' nn, rfl, rfl, by first | rfl | (simp (implicitDefEqProofs := false) (maxSteps := 1000000) (disch := first | omega | with_reducible assumption | (simp only [List.length_map, List.length_cons, List.length_nil, List.length_set, List.length_append, List.length_replicate, List.length_take, List.length_drop, mk_size, AMem.size_set, Nat.reduceAdd]; omega)) only [amT, cut, bnd, Nat.reduceBEq, reduceCtorEq, Nat.reduceEqDiff, Nat.reduceAdd, Nat.reduceMul, Nat.reduceSub, Int.reduceToNat, Int.reduceEq, Int.reduceLT, Int.reduceLE, Int.reduceAdd, Int.reduceSub, Int.reduceMul, reduceIte, resVs, resV, packV, initT, addr, t0, t1, hput, hput2, hdd]; first | done | rfl | (congr 1; omega)), by first | rfl | (simp (implicitDefEqProofs := false) (maxSteps := 1000000) (disch := first | omega | with_reducible assumption | (simp only [List.length_map, List.length_cons, List.length_nil, List.length_set, List.length_append, List.length_replicate, List.length_take, List.length_drop, mk_size, AMem.size_set, Nat.reduceAdd]; omega)) only [amT, cut, bnd, Nat.reduceBEq, reduceCtorEq, Nat.reduceEqDiff, Nat.reduceAdd, Nat.reduceMul, Nat.reduceSub, Int.reduceToNat, Int.reduceEq, Int.reduceLT, Int.reduceLE, Int.reduceAdd, Int.reduceSub, Int.reduceMul, reduceIte, resVs, resV, packV, initT, addr, t0, t1, hput, hput2, hdd]; first | done | rfl | (congr 1; omega)), by first | rfl | (simp (implicitDefEqProofs := false) (maxSteps := 1000000) (disch := first | omega | with_reducible assumption | (simp only [List.length_map, List.length_cons, List.length_nil, List.length_set, List.length_append, List.length_replicate, List.length_take, List.length_drop, mk_size, AMem.size_set, Nat.reduceAdd]; omega)) only [amT, cut, bnd, Nat.reduceBEq, reduceCtorEq, Nat.reduceEqDiff, Nat.reduceAdd, Nat.reduceMul, Nat.reduceSub, Int.reduceToNat, Int.reduceEq, Int.reduceLT, Int.reduceLE, Int.reduceAdd, Int.reduceSub, Int.reduceMul, reduceIte, resVs, resV, packV, initT, addr, t0, t1, hput, hput2, hdd]; first | done | rfl | (congr 1; omega)), ?_⟩
        · omega
        · exact ⟨by omega, hc3, hoff3⟩
end Go.Proofs.YtidngakhkpodgaaDoor
namespace Go.Proofs.YtidngakhkpodgaaDoor
open Go Go.AM
set_option linter.unusedVariables false
set_option linter.unusedSimpArgs false

def zerosN (n : Nat) : Nat := (119 - n % 64) % 64
def lenB (n : Nat) : List UInt8 := (List.range 8).map fun k => UInt8.ofNat ((8 * n) >>> (56 - 8 * k))
theorem lenB_length (n : Nat) : (lenB n).length = 8 := by simp [lenB]
/-- The first j bytes behind the message, up to its length. -/
def padA (j : Nat) : List UInt8 := match j with | 0 => [] | j + 1 => 128 :: List.replicate j 0
theorem padA_succ (j : Nat) : padA (j + 1) = padA j ++ [if j = 0 then 128 else 0] := by
  cases j with
  | zero => rfl
  | succ j => simp only [padA]; rw [List.replicate_succ']; simp
theorem padA_length (j : Nat) : (padA j).length = j := by cases j <;> simp [padA]
def padB (n : Nat) : List UInt8 := padA (1 + zerosN n) ++ lenB n
/-- A state's bytes. -/
def dig (S : List UInt32) : List UInt8 := (List.range 32).map fun p => UInt8.ofNat ((S.getD (p / 4) 0).toNat >>> (24 - 8 * (p % 4)))
theorem dig_length (S : List UInt32) : (dig S).length = 32 := by simp [dig]
def sumOf (s : HS) : List UInt8 := dig (zip2 beginW (s.put (padB s.n)).M)
theorem sumOf_length (s : HS) : (sumOf s).length = 32 := dig_length _

theorem len_nil (m : AMem) : PureC Tryd.prog 3 13 [.pointer none] m (.int .u64 0) := by
  refine pure_of_W (fn := Tryd.f13) rfl rfl F13_ok (by simp [F13]) (.int _ _) ?_
  simp (implicitDefEqProofs := false) (maxSteps := 1000000) (disch := first | omega | with_reducible assumption | (simp only [List.length_map, List.length_cons, List.length_nil, List.length_set, List.length_append, List.length_replicate, List.length_take, List.length_drop, mk_size, AMem.size_set, Nat.reduceAdd]; omega)) only [amT, cut, bnd, Nat.reduceBEq, reduceCtorEq, Nat.reduceEqDiff, Nat.reduceAdd, Nat.reduceMul, Nat.reduceSub, Int.reduceToNat, Int.reduceEq, Int.reduceLT, Int.reduceLE, Int.reduceAdd, Int.reduceSub, Int.reduceMul, reduceIte, resVs, resV, packV, initT, addr, F13, eqV, Option.isNone]
theorem len_ok (m : AMem) (b : Nat) (s : HS) (hs : s.ok) (hb : b < m.size) (hm : m.get b = .cells (cH s) 35 true .exact) : PureC Tryd.prog 3 13 [.pointer (some ⟨b, 0, none⟩)] m (.int .u64 s.n) := by
  refine pure_of_W (fn := Tryd.f13) rfl rfl F13_ok (by simp [F13]) (.int _ _) ?_
  have h72 := cH_n hs
  simp (implicitDefEqProofs := false) (maxSteps := 1000000) (disch := first | omega | with_reducible assumption | (simp only [List.length_map, List.length_cons, List.length_nil, List.length_set, List.length_append, List.length_replicate, List.length_take, List.length_drop, mk_size, AMem.size_set, Nat.reduceAdd]; omega)) only [amT, cut, bnd, Nat.reduceBEq, reduceCtorEq, Nat.reduceEqDiff, Nat.reduceAdd, Nat.reduceMul, Nat.reduceSub, Int.reduceToNat, Int.reduceEq, Int.reduceLT, Int.reduceLE, Int.reduceAdd, Int.reduceSub, Int.reduceMul, reduceIte, resVs, resV, packV, initT, addr, F13, eqV, Option.isNone, hm, h72]
theorem copy_nil (m : AMem) : PureC Tryd.prog 3 16 [.pointer none] m (.pointer none) := by
  refine pure_of_W (fn := Tryd.f16) rfl rfl F16_ok (by simp [F16]) .nilPtr ?_
  simp (implicitDefEqProofs := false) (maxSteps := 1000000) (disch := first | omega | with_reducible assumption | (simp only [List.length_map, List.length_cons, List.length_nil, List.length_set, List.length_append, List.length_replicate, List.length_take, List.length_drop, mk_size, AMem.size_set, Nat.reduceAdd]; omega)) only [amT, cut, bnd, Nat.reduceBEq, reduceCtorEq, Nat.reduceEqDiff, Nat.reduceAdd, Nat.reduceMul, Nat.reduceSub, Int.reduceToNat, Int.reduceEq, Int.reduceLT, Int.reduceLE, Int.reduceAdd, Int.reduceSub, Int.reduceMul, reduceIte, resVs, resV, packV, initT, addr, F16, eqV, Option.isNone]
theorem zero73 : [Value.int .u32 0, .int .u32 0, .int .u32 0, .int .u32 0, .int .u32 0, .int .u32 0, .int .u32 0, .int .u32 0, .int .u8 0, .int .u8 0, .int .u8 0, .int .u8 0, .int .u8 0, .int .u8 0, .int .u8 0, .int .u8 0, .int .u8 0, .int .u8 0, .int .u8 0, .int .u8 0, .int .u8 0, .int .u8 0, .int .u8 0, .int .u8 0, .int .u8 0, .int .u8 0, .int .u8 0, .int .u8 0, .int .u8 0, .int .u8 0, .int .u8 0, .int .u8 0, .int .u8 0, .int .u8 0, .int .u8 0, .int .u8 0, .int .u8 0, .int .u8 0, .int .u8 0, .int .u8 0, .int .u8 0, .int .u8 0, .int .u8 0, .int .u8 0, .int .u8 0, .int .u8 0, .int .u8 0, .int .u8 0, .int .u8 0, .int .u8 0, .int .u8 0, .int .u8 0, .int .u8 0, .int .u8 0, .int .u8 0, .int .u8 0, .int .u8 0, .int .u8 0, .int .u8 0, .int .u8 0, .int .u8 0, .int .u8 0, .int .u8 0, .int .u8 0, .int .u8 0, .int .u8 0, .int .u8 0, .int .u8 0, .int .u8 0, .int .u8 0, .int .u8 0, .int .u8 0, .int .u64 0] = cH hs0 := rfl
theorem zero32 : [Value.int .u8 0, .int .u8 0, .int .u8 0, .int .u8 0, .int .u8 0, .int .u8 0, .int .u8 0, .int .u8 0, .int .u8 0, .int .u8 0, .int .u8 0, .int .u8 0, .int .u8 0, .int .u8 0, .int .u8 0, .int .u8 0, .int .u8 0, .int .u8 0, .int .u8 0, .int .u8 0, .int .u8 0, .int .u8 0, .int .u8 0, .int .u8 0, .int .u8 0, .int .u8 0, .int .u8 0, .int .u8 0, .int .u8 0, .int .u8 0, .int .u8 0, .int .u8 0] = (List.replicate 32 (0 : UInt8)).map byteV := rfl
theorem one_cH (s : HS) : (cH s).all oneCell = true := by simp [cH, oneCell, w32, byteV]
theorem cellsOf_cH (s : HS) : cellsOf (.agg (cH s).toArray) = some (cH s) := by
  simp only [cellsOf]; rw [if_pos (one_cH s)]
theorem copy_ok (m : AMem) (b : Nat) (s : HS) (hs : s.ok) (hb : b < m.size) (hm : m.get b = .cells (cH s) 35 true .exact) :
    DetC Tryd.prog 3 16 [.pointer (some ⟨b, 0, none⟩)] m (.pointer (some ⟨m.size, 0, none⟩)) (mx m [.cells (cH s) 35 true .exact]) := by
  refine det_of_W (fn := Tryd.f16) rfl rfl F16_ok (by simp [F16]) ?_
  have h73 := cH_all hs
  have hl := cH_length hs
  have hl0 := cH_length hs0_ok
  simp (implicitDefEqProofs := false) (maxSteps := 1000000) (disch := first | omega | with_reducible assumption | (simp only [List.length_map, List.length_cons, List.length_nil, List.length_set, List.length_append, List.length_replicate, List.length_take, List.length_drop, mk_size, AMem.size_set, Nat.reduceAdd]; omega)) only [amT, cut, bnd, Nat.reduceBEq, reduceCtorEq, Nat.reduceEqDiff, Nat.reduceAdd, Nat.reduceMul, Nat.reduceSub, Int.reduceToNat, Int.reduceEq, Int.reduceLT, Int.reduceLE, Int.reduceAdd, Int.reduceSub, Int.reduceMul, reduceIte, resVs, resV, packV, initT, addr, F16, eqV, Option.isNone, hm, h73, zero73, cellsOf_cH]
  exact fun _ => ⟨_, [m.size], m, _, rfl, Kept.one (Nat.le_refl _) (by simp (implicitDefEqProofs := false) (maxSteps := 1000000) (disch := first | omega | with_reducible assumption | (simp only [List.length_map, List.length_cons, List.length_nil, List.length_set, List.length_append, List.length_replicate, List.length_take, List.length_drop, mk_size, AMem.size_set, Nat.reduceAdd]; omega)) only [amT, cut, bnd, Nat.reduceBEq, reduceCtorEq, Nat.reduceEqDiff, Nat.reduceAdd, Nat.reduceMul, Nat.reduceSub, Int.reduceToNat, Int.reduceEq, Int.reduceLT, Int.reduceLE, Int.reduceAdd, Int.reduceSub, Int.reduceMul, reduceIte, resVs, resV, packV, initT, addr]) (plain_cH s) rfl (fun x hx => ⟨rfl, mx_old hx⟩), .ptr keepS_new0, rfl⟩

theorem put1_known (m : AMem) (d : AObj) (s : HS) (g : List AObj) (c : UInt8) (hg : Glob m) (hs : s.ok) (hn : s.n + 1 < 2 ^ 60) :
    Known Tryd.prog 3 12 [.pointer (some ⟨m.size + 1, 0, none⟩), .slice (some ⟨m.size + (g.length + 1 + 1), 0, none⟩) 1 1] (mx m (d :: .cells (cH s) 35 true .exact :: (g ++ [.cells [.int .u8 (c.toNat : Int)] 5 true .exact]))) (.tuple #[])
      (mx m (d :: .cells (cH (s.put [c])) 35 true .exact :: (g ++ [.cells [.int .u8 (c.toNat : Int)] 5 true .exact]))) := by
  have gs := hg.s
  have h := put_ok (mx m (d :: .cells (cH s) 35 true .exact :: (g ++ [.cells [.int .u8 (c.toNat : Int)] 5 true .exact]))) (m.size + 1) s (hg.old (Old.here _ _)) hs (by rw [mx_size]; simp) (by omega) (mx_new _ _ 1)
    (some ⟨m.size + (g.length + 1 + 1), 0, none⟩) 1 [c] (.inr ⟨_, _, [.int .u8 (c.toNat : Int)], 5, true, .exact, rfl, by rw [mx_size]; simp, by rw [mx_new]; simp, rfl, .inr ⟨openCap_lt (by omega), Nat.le_refl _⟩⟩)
    (fun x o hx => by cases hx; omega) hn
  have e : mx (hAt (mx m (d :: .cells (cH s) 35 true .exact :: (g ++ [.cells [.int .u8 (c.toNat : Int)] 5 true .exact]))) (m.size + 1) (s.put [c])) [] = mx m (d :: .cells (cH (s.put [c])) 35 true .exact :: (g ++ [.cells [.int .u8 (c.toNat : Int)] 5 true .exact])) := by
    simp (implicitDefEqProofs := false) (maxSteps := 1000000) (disch := first | omega | with_reducible assumption | (simp only [List.length_map, List.length_cons, List.length_nil, List.length_set, List.length_append, List.length_replicate, List.length_take, List.length_drop, mk_size, AMem.size_set, Nat.reduceAdd]; omega)) only [amT, cut, bnd, Nat.reduceBEq, reduceCtorEq, Nat.reduceEqDiff, Nat.reduceAdd, Nat.reduceMul, Nat.reduceSub, Int.reduceToNat, Int.reduceEq, Int.reduceLT, Int.reduceLE, Int.reduceAdd, Int.reduceSub, Int.reduceMul, reduceIte, resVs, resV, packV, initT, addr]
  rw [e] at h
  exact DetC.known h
end Go.Proofs.YtidngakhkpodgaaDoor
