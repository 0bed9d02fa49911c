/-
  Rewriting values: what the operations give of values of known shape.
-/
import Derived.Test.YtidngakhkpodgaaAmEq
set_option linter.unusedVariables false
set_option linter.unusedSimpArgs false
set_option linter.unnecessarySimpa false
namespace Go.AM
set_option linter.unusedVariables false

theorem ifp {α : Sort _} {p : Prop} [Decidable p] {a b : α} (h : p) : (if p then a else b) = a := if_pos h
theorem ifn {α : Sort _} {p : Prop} [Decidable p] {a b : α} (h : ¬ p) : (if p then a else b) = b := if_neg h

theorem tdiv_nat (a b : Nat) : (a : Int).tdiv (b : Int) = ((a / b : Nat) : Int) := (rfl)
theorem tmod_nat (a b : Nat) : (a : Int).tmod (b : Int) = ((a % b : Nat) : Int) := (rfl)

section
variable (k : IntKind) (a b : Int)
theorem binV_add : binV .add (.int k a) (.int k b) = some (.int k (k.wrap (a + b))) := by simp [binV, ibin]
theorem binV_sub : binV .sub (.int k a) (.int k b) = some (.int k (k.wrap (a - b))) := by simp [binV, ibin]
theorem binV_mul : binV .mul (.int k a) (.int k b) = some (.int k (k.wrap (a * b))) := by simp [binV, ibin]
theorem binV_and : binV .and (.int k a) (.int k b) = some (.int k (ibits .and k a b)) := by simp [binV, ibin]
theorem binV_or : binV .or (.int k a) (.int k b) = some (.int k (ibits .or k a b)) := by simp [binV, ibin]
theorem binV_xor : binV .xor (.int k a) (.int k b) = some (.int k (ibits .xor k a b)) := by simp [binV, ibin]
theorem binV_andNot : binV .andNot (.int k a) (.int k b) = some (.int k (ibits .andNot k a b)) := by simp [binV, ibin]
theorem binV_eql : binV .eql (.int k a) (.int k b) = some (.bool (decide (a = b))) := by simp [binV, ibin]; rfl
theorem binV_neq : binV .neq (.int k a) (.int k b) = some (.bool (!decide (a = b))) := by simp [binV, ibin]; rfl
theorem binV_lss : binV .lss (.int k a) (.int k b) = some (.bool (decide (a < b))) := by simp [binV, ibin]
theorem binV_leq : binV .leq (.int k a) (.int k b) = some (.bool (decide (a ≤ b))) := by simp [binV, ibin]
theorem binV_gtr : binV .gtr (.int k a) (.int k b) = some (.bool (decide (b < a))) := by simp [binV, ibin]
theorem binV_geq : binV .geq (.int k a) (.int k b) = some (.bool (decide (b ≤ a))) := by simp [binV, ibin]
theorem binV_quo {a b : Int} (h : b ≠ 0) : binV .quo (.int k a) (.int k b) = some (.int k (k.wrap (a.tdiv b))) := by simp [binV, ibin, h]
theorem binV_rem {a b : Int} (h : b ≠ 0) : binV .rem (.int k a) (.int k b) = some (.int k (a.tmod b)) := by simp [binV, ibin, h]
theorem binV_shl (k' : IntKind) {a b : Int} (h : 0 ≤ b) : binV .shl (.int k a) (.int k' b) = some (.int k (shl k a b)) := by simp [binV, h]
theorem binV_shr (k' : IntKind) {a b : Int} (h : 0 ≤ b) : binV .shr (.int k a) (.int k' b) = some (.int k (shr k a b)) := by simp [binV, h]
end
section
variable (x y : ByteArray)
theorem binV_sadd {x y : ByteArray} (h : x.size + y.size ≤ 9223372036854775807) : binV .add (.string x) (.string y) = some (.string (x ++ y)) := by simp [binV, sbin, h]
theorem binV_seql : binV .eql (.string x) (.string y) = some (.bool (strEq x y)) := by simp [binV, sbin]
theorem binV_sneq : binV .neq (.string x) (.string y) = some (.bool (!strEq x y)) := by simp [binV, sbin]
end
theorem unV_neg (k : IntKind) (n : Int) : unV .neg (.int k n) = some (.int k (k.wrap (0 - n))) := (rfl)
theorem unV_not (b : Bool) : unV .not (.bool b) = some (.bool !b) := (rfl)
theorem eqV_bool (a b : Bool) : eqV .bool (.bool a) (.bool b) = some (a == b) := (rfl)
theorem addr_ptr (b o : Nat) : addr (.pointer (some ⟨b, o, none⟩)) = some (b, o) := (rfl)

theorem shr_nat (k : IntKind) (a b : Nat) (h : b ≤ k.bits) : shr k a b = ((a >>> b : Nat) : Int) := by
  simp only [shr, Int.toNat_natCast, Nat.min_eq_left h, Nat.shiftRight_eq_div_pow]
  rw [Int.fdiv_eq_ediv_of_nonneg _ (by exact_mod_cast Nat.zero_le _)]
  norm_cast

theorem max_lt (k : IntKind) : k.max < 2 ^ k.bits := by cases k <;> decide
theorem wrap_small {k : IntKind} {n : Nat} (h : (n : Int) ≤ k.max) : k.wrap (n : Int) = n := by
  cases k <;> simp only [IntKind.wrap, IntKind.bits, IntKind.signed, IntKind.max] at h ⊢ <;> simp at h ⊢ <;> omega
theorem ofInt_nat {k : IntKind} {a : Nat} (ha : (a : Int) ≤ k.max) : (BitVec.ofInt k.bits (a : Int)).toNat = a := by
  have h2 := max_lt k
  have h3 : a < 2 ^ k.bits := by
    have : (a : Int) < ((2 ^ k.bits : Nat) : Int) := by push_cast; omega
    omega
  simp [Nat.mod_eq_of_lt h3]
theorem ibits_and_nat {k : IntKind} {a b : Nat} (ha : (a : Int) ≤ k.max) (hb : (b : Int) ≤ k.max) : ibits .and k a b = ((a &&& b : Nat) : Int) := by
  simp only [ibits, BitVec.toNat_and, ofInt_nat ha, ofInt_nat hb]
  have := Nat.and_le_left (n := a) (m := b)
  exact wrap_small (n := a &&& b) (by omega)
theorem max_pow (k : IntKind) : ∃ n, k.max = ((2 ^ n : Nat) : Int) - 1 := by
  cases k <;> first | exact ⟨7, rfl⟩ | exact ⟨8, rfl⟩ | exact ⟨15, rfl⟩ | exact ⟨16, rfl⟩ | exact ⟨31, rfl⟩ | exact ⟨32, rfl⟩ | exact ⟨63, rfl⟩ | exact ⟨64, rfl⟩
theorem ibits_or_nat {k : IntKind} {a b : Nat} (ha : (a : Int) ≤ k.max) (hb : (b : Int) ≤ k.max) : ibits .or k a b = ((a ||| b : Nat) : Int) := by
  simp only [ibits, BitVec.toNat_or, ofInt_nat ha, ofInt_nat hb]
  obtain ⟨n, hn⟩ := max_pow k
  have := Nat.or_lt_two_pow (x := a) (y := b) (n := n) (by omega) (by omega)
  exact wrap_small (n := a ||| b) (by omega)
theorem ibits_xor_nat {k : IntKind} {a b : Nat} (ha : (a : Int) ≤ k.max) (hb : (b : Int) ≤ k.max) : ibits .xor k a b = ((a ^^^ b : Nat) : Int) := by
  simp only [ibits, BitVec.toNat_xor, ofInt_nat ha, ofInt_nat hb]
  obtain ⟨n, hn⟩ := max_pow k
  have := Nat.xor_lt_two_pow (x := a) (y := b) (n := n) (by omega) (by omega)
  exact wrap_small (n := a ^^^ b) (by omega)
theorem max_u8 : IntKind.u8.max = 255 := rfl
theorem max_i64 : IntKind.i64.max = 9223372036854775807 := rfl
theorem max_u64 : IntKind.u64.max = 18446744073709551615 := rfl
theorem max_u32 : IntKind.u32.max = 4294967295 := rfl
theorem max_i32 : IntKind.i32.max = 2147483647 := rfl
theorem wrap_i32 {n : Int} (h0 : -2147483648 ≤ n) (h1 : n ≤ 2147483647) : IntKind.i32.wrap n = n := by
  simp [IntKind.wrap, IntKind.bits, IntKind.signed]; omega

/-! Memory. -/
theorem rd_one' {m : AMem} {b o : Nat} {c : List Value} {e : TypeId} {w : Bool} {sp : Spare} (h : m.get b = .cells c e w sp) : rd m b o 1 = (c[o]?).map ([·]) := by
  simp only [rd, h]
  split
  · rename_i hl
    rw [List.getElem?_eq_getElem (by omega)]
    show some (List.take 1 (List.drop o c)) = some [c[o]]
    rw [List.drop_eq_getElem_cons (show o < c.length by omega)]; rfl
  · rename_i hl
    rw [List.getElem?_eq_none (by omega)]; rfl
theorem rd_all {m : AMem} {b n : Nat} {c : List Value} {e : TypeId} {w : Bool} {sp : Spare} (h : m.get b = .cells c e w sp) (hn : c.length = n) : rd m b 0 n = some c := by
  subst hn; simp only [rd, h]; simp
theorem wr_at {m : AMem} {b o : Nat} {v : List Value} {c : List Value} {e : TypeId} {sp : Spare} (h : m.get b = .cells c e true sp) (hl : o + v.length ≤ c.length) : wr m b o v = some (m.set b (.cells (splice c o v) e true sp)) := by
  simp only [wr, h]; rw [if_pos hl]
theorem cellsOf_int (k : IntKind) (n : Int) : cellsOf (.int k n) = some [.int k n] := rfl
theorem cellsOf_bool (b : Bool) : cellsOf (.bool b) = some [.bool b] := rfl
theorem cellsOf_string (s : ByteArray) : cellsOf (.string s) = some [.string s] := rfl
theorem cellsOf_ptr (p : Option Addr) : cellsOf (.pointer p) = some [.pointer p] := rfl
theorem cellsOf_slice (p : Option Addr) (l c : Nat) : cellsOf (.slice p l c) = some [.slice p l c] := rfl
theorem cellsOf_bytes (l : List UInt8) : cellsOf (.agg (l.map byteV).toArray) = some (l.map byteV) := by
  simp [cellsOf, oneCell, byteV]
theorem map_ofNat_byteOf (l : List UInt8) : (l.map byteV).mapM byteOf = some l := by
  induction l with
  | nil => rfl
  | cons x r ih => simp [byteOf, byteV, ih]

/-- What a call leaves of the older blocks. -/
def Old (m m' : AMem) : Prop := m.size ≤ m'.size ∧ ∀ b, b < m.size → m'.get b = m.get b
theorem Old.refl (m : AMem) : Old m m := ⟨Nat.le_refl _, fun _ _ => rfl⟩
theorem Old.trans {a b c : AMem} (h : Old a b) (k : Old b c) : Old a c := ⟨Nat.le_trans h.1 k.1, fun i hi => (k.2 i (Nat.lt_of_lt_of_le hi h.1)).trans (h.2 i hi)⟩
theorem Old.push (m : AMem) (o : AObj) : Old m (m.push o) := ⟨by simp [AMem.push], fun b hb => AMem.get_push_ne m o (by omega)⟩

/-! What append makes. -/
theorem srcLen_slice (a : Option Addr) (n c : Nat) : srcLen (.slice a n c) = some n := rfl
theorem srcLen_string (s : ByteArray) : srcLen (.string s) = some s.size := rfl
theorem srcCells_slice {sz n l c b o : Nat} {m : AMem} (h : n ≤ l) : srcCells sz n (.slice (some ⟨b, o, none⟩) l c) m = rd m b o (n * sz) := by simp [srcCells, h]
theorem srcCells_nil {sz c : Nat} {m : AMem} (l : Nat) : srcCells sz 0 (.slice none l c) m = some [] := by simp [srcCells]
theorem srcCells_string {n : Nat} {s : ByteArray} {m : AMem} (h : n = s.size) : srcCells 1 n (.string s) m = some (s.data.toList.map byteV) := by
  subst h
  have : (s.data.toList.map byteV).take s.size = s.data.toList.map byteV := List.take_of_length_le (by simp)
  simp [srcCells, this]
theorem appendTo_nil {e : TypeId} {sz bytes : Nat} {z : List Value} {n : Nat} {news : List Value} {m : AMem} (h0 : 0 < n) (hb : 2 * n * bytes ≤ 281474976710656) (hn : n ≤ 9223372036854775807) :
    appendTo e sz bytes z (.slice none 0 0) n news m = some (.slice (some ⟨m.size, 0, none⟩) n openCap, m.push (.cells news e true (.room z))) := by
  have : n ≠ 0 := by omega
  simp [appendTo, this, hb, hn]
theorem eqPL_refl_int {k : IntKind} {n : Int} : eqPL [.int k n] [.int k n] = true := by simp [eqPL, eqP]
theorem appendTo_open {e : TypeId} {sz bytes : Nat} {z z' : List Value} {b l n : Nat} {x news : List Value} {m : AMem} (hm : m.get b = .cells x e true (.room z')) (hz : eqPL z' z = true) (hs : z'.length = sz) (h1 : 0 < sz) (hl : x.length = l * sz) (h0 : 0 < n)
    (hb : 2 * (l + n) * bytes ≤ 281474976710656) (hn : l + n ≤ 9223372036854775807) :
    appendTo e sz bytes z (.slice (some ⟨b, 0, none⟩) l openCap) n news m = some (.slice (some ⟨m.size, 0, none⟩) (l + n) openCap, (m.set b .dead).push (.cells (x ++ news) e true (.room z))) := by
  have h2 : ¬ 0 + (l + n) * sz ≤ x.length := by
    rw [hl, Nat.add_mul, Nat.zero_add]
    have : 0 < n * sz := Nat.mul_pos h0 h1
    omega
  have h3 : (x.drop 0).take (l * sz) = x := by simp [← hl]
  have h4 : 0 + l * sz ≤ x.length := by omega
  simp only [appendTo, if_true, hm, Spare.size, hs, if_neg h2, if_pos (show 0 + l * sz ≤ x.length ∧ 2 * (l + n) * bytes ≤ 281474976710656 ∧ l + n ≤ 9223372036854775807 from ⟨h4, hb, hn⟩), if_pos (show True ∧ 0 % sz = 0 ∧ True ∧ eqPL z' z = true from ⟨trivial, by simp, trivial, hz⟩), h3]
theorem fill_byte (k : IntKind) (d n : Int) : fill [.int k d] [(0, 1, .int k n)] = some [.int k n] := by simp [fill, cellsOf, splice]
theorem all_bytes (l : List UInt8) : (l.map byteV).all oneCell = true := by simp [byteV, oneCell]
theorem all_int (k : IntKind) (n : Int) : [Value.int k n].all oneCell = true := rfl
theorem rd_push {m : AMem} {c : List Value} {e : TypeId} {w : Bool} {sp : Spare} {n : Nat} (h : c.length = n) : rd (m.push (.cells c e w sp)) m.size 0 n = some c := rd_all (AMem.get_push_self _ _) h
theorem rd_push' {m : AMem} {c : List Value} {e : TypeId} {w : Bool} {sp : Spare} {n k : Nat} (hk : k = m.size) (h : c.length = n) : rd (m.push (.cells c e w sp)) k 0 n = some c := by subst hk; exact rd_push h
theorem rd_push_ne {m : AMem} {o : AObj} {b i n : Nat} (h : b ≠ m.size) : rd (m.push o) b i n = rd m b i n := by simp [rd, AMem.get_push_ne m o h]
theorem rd_set_ne {m : AMem} {o : AObj} {b x i n : Nat} (h : x ≠ b) : rd (m.set b o) x i n = rd m x i n := by simp [rd, AMem.get_set_ne m o h]
end Go.AM
