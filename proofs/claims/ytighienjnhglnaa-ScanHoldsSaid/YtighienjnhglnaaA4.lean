/-
  Rewriting values: what the operations give of values of known shape.
-/
import Derived.Test.YtighienjnhglnaaA3
import Derived.Laws.Externs
import Derived.Below
import Derived.WalkKit
import Derived.ProofKit
import Derived.OpenShut
import Derived.MakeChecks
import Derived.LaidLaws
import Derived.ChangeSlices
import Derived.Deep.Slices
set_option linter.unusedVariables false
set_option linter.unusedSimpArgs false
set_option linter.unnecessarySimpa false
namespace Go.AM
set_option linter.unusedVariables false

theorem ifp {α : Sort _} {p : Prop} [Decidable p] {a b : α} (h : p) : (if p then a else b) = a := if_pos h
theorem ifn {α : Sort _} {p : Prop} [Decidable p] {a b : α} (h : ¬ p) : (if p then a else b) = b := if_neg h

section
variable (k : IntKind) (a b : Int)
theorem binV_add : binV .add (.int k a) (.int k b) = some (.int k (k.wrap (a + b))) := by simp [binV, ibin]
theorem binV_sub : binV .sub (.int k a) (.int k b) = some (.int k (k.wrap (a - b))) := by simp [binV, ibin]
theorem binV_mul : binV .mul (.int k a) (.int k b) = some (.int k (k.wrap (a * b))) := by simp [binV, ibin]
theorem binV_and : binV .and (.int k a) (.int k b) = some (.int k (ibits .and k a b)) := by simp [binV, ibin]
theorem binV_or : binV .or (.int k a) (.int k b) = some (.int k (ibits .or k a b)) := by simp [binV, ibin]
theorem binV_xor : binV .xor (.int k a) (.int k b) = some (.int k (ibits .xor k a b)) := by simp [binV, ibin]
theorem binV_andNot : binV .andNot (.int k a) (.int k b) = some (.int k (ibits .andNot k a b)) := by simp [binV, ibin]
theorem binV_eql : binV .eql (.int k a) (.int k b) = some (.bool (decide (a = b))) := by simp [binV, ibin]; rfl
theorem binV_neq : binV .neq (.int k a) (.int k b) = some (.bool (!decide (a = b))) := by simp [binV, ibin]; rfl
theorem binV_lss : binV .lss (.int k a) (.int k b) = some (.bool (decide (a < b))) := by simp [binV, ibin]
theorem binV_leq : binV .leq (.int k a) (.int k b) = some (.bool (decide (a ≤ b))) := by simp [binV, ibin]
theorem binV_gtr : binV .gtr (.int k a) (.int k b) = some (.bool (decide (b < a))) := by simp [binV, ibin]
theorem binV_geq : binV .geq (.int k a) (.int k b) = some (.bool (decide (b ≤ a))) := by simp [binV, ibin]
theorem binV_quo {a b : Int} (h : b ≠ 0) : binV .quo (.int k a) (.int k b) = some (.int k (k.wrap (a.tdiv b))) := by simp [binV, ibin, h]
theorem binV_rem {a b : Int} (h : b ≠ 0) : binV .rem (.int k a) (.int k b) = some (.int k (a.tmod b)) := by simp [binV, ibin, h]
theorem binV_shl (k' : IntKind) {a b : Int} (h : 0 ≤ b) : binV .shl (.int k a) (.int k' b) = some (.int k (shl k a b)) := by simp [binV, h]
theorem binV_shr (k' : IntKind) {a b : Int} (h : 0 ≤ b) : binV .shr (.int k a) (.int k' b) = some (.int k (shr k a b)) := by simp [binV, h]
end
section
variable (x y : ByteArray)
theorem binV_sadd {x y : ByteArray} (h : x.size + y.size ≤ 9223372036854775807) : binV .add (.string x) (.string y) = some (.string (x ++ y)) := by simp [binV, sbin, h]
theorem binV_seql : binV .eql (.string x) (.string y) = some (.bool (strEq x y)) := by simp [binV, sbin]
theorem binV_sneq : binV .neq (.string x) (.string y) = some (.bool (!strEq x y)) := by simp [binV, sbin]
end
theorem unV_neg (k : IntKind) (n : Int) : unV .neg (.int k n) = some (.int k (k.wrap (0 - n))) := (rfl)
theorem unV_not (b : Bool) : unV .not (.bool b) = some (.bool !b) := (rfl)
theorem eqV_bool (a b : Bool) : eqV .bool (.bool a) (.bool b) = some (a == b) := (rfl)
theorem addr_ptr (b o : Nat) : addr (.pointer (some ⟨b, o, none⟩)) = some (b, o) := (rfl)

theorem shr_nat (k : IntKind) (a b : Nat) (h : b ≤ k.bits) : shr k a b = ((a >>> b : Nat) : Int) := by
  simp only [shr, Int.toNat_natCast, Nat.min_eq_left h, Nat.shiftRight_eq_div_pow]
  rw [Int.fdiv_eq_ediv_of_nonneg _ (by exact_mod_cast Nat.zero_le _)]
  norm_cast

theorem max_lt (k : IntKind) : k.max < 2 ^ k.bits := by cases k <;> decide
theorem wrap_small {k : IntKind} {n : Nat} (h : (n : Int) ≤ k.max) : k.wrap (n : Int) = n := by
  cases k <;> simp only [IntKind.wrap, IntKind.bits, IntKind.signed, IntKind.max] at h ⊢ <;> simp at h ⊢ <;> omega
theorem ofInt_nat {k : IntKind} {a : Nat} (ha : (a : Int) ≤ k.max) : (BitVec.ofInt k.bits (a : Int)).toNat = a := by
  have h2 := max_lt k
  have h3 : a < 2 ^ k.bits := by
    have : (a : Int) < ((2 ^ k.bits : Nat) : Int) := by push_cast; omega
    omega
  simp [Nat.mod_eq_of_lt h3]
theorem ibits_and_nat {k : IntKind} {a b : Nat} (ha : (a : Int) ≤ k.max) (hb : (b : Int) ≤ k.max) : ibits .and k a b = ((a &&& b : Nat) : Int) := by
  simp only [ibits, BitVec.toNat_and, ofInt_nat ha, ofInt_nat hb]
  have := Nat.and_le_left (n := a) (m := b)
  exact wrap_small (n := a &&& b) (by omega)
theorem max_pow (k : IntKind) : ∃ n, k.max = ((2 ^ n : Nat) : Int) - 1 := by
  cases k <;> first | exact ⟨7, rfl⟩ | exact ⟨8, rfl⟩ | exact ⟨15, rfl⟩ | exact ⟨16, rfl⟩ | exact ⟨31, rfl⟩ | exact ⟨32, rfl⟩ | exact ⟨63, rfl⟩ | exact ⟨64, rfl⟩
theorem ibits_or_nat {k : IntKind} {a b : Nat} (ha : (a : Int) ≤ k.max) (hb : (b : Int) ≤ k.max) : ibits .or k a b = ((a ||| b : Nat) : Int) := by
  simp only [ibits, BitVec.toNat_or, ofInt_nat ha, ofInt_nat hb]
  obtain ⟨n, hn⟩ := max_pow k
  have := Nat.or_lt_two_pow (x := a) (y := b) (n := n) (by omega) (by omega)
  exact wrap_small (n := a ||| b) (by omega)
theorem max_u64 : IntKind.u64.max = 18446744073709551615 := rfl
theorem wrap_i32 {n : Int} (h0 : -2147483648 ≤ n) (h1 : n ≤ 2147483647) : IntKind.i32.wrap n = n := by
  simp [IntKind.wrap, IntKind.bits, IntKind.signed]; omega

/-! Memory. -/
theorem rd_one' {m : AMem} {b o : Nat} {c : List Value} {e : TypeId} {w : Bool} {sp : Spare} (h : m.get b = .cells c e w sp) : rd m b o 1 = (c[o]?).map ([·]) := by
  simp only [rd, h]
  split
  · rename_i hl
    rw [List.getElem?_eq_getElem (by omega)]
    show some (List.take 1 (List.drop o c)) = some [c[o]]
    rw [List.drop_eq_getElem_cons (show o < c.length by omega)]; rfl
  · rename_i hl
    rw [List.getElem?_eq_none (by omega)]; rfl
theorem rd_all {m : AMem} {b n : Nat} {c : List Value} {e : TypeId} {w : Bool} {sp : Spare} (h : m.get b = .cells c e w sp) (hn : c.length = n) : rd m b 0 n = some c := by
  subst hn; simp only [rd, h]; simp
theorem wr_at {m : AMem} {b o : Nat} {v : List Value} {c : List Value} {e : TypeId} {sp : Spare} (h : m.get b = .cells c e true sp) (hl : o + v.length ≤ c.length) : wr m b o v = some (m.set b (.cells (splice c o v) e true sp)) := by
  simp only [wr, h]; rw [if_pos hl]
theorem cellsOf_int (k : IntKind) (n : Int) : cellsOf (.int k n) = some [.int k n] := rfl
theorem cellsOf_bool (b : Bool) : cellsOf (.bool b) = some [.bool b] := rfl
theorem cellsOf_string (s : ByteArray) : cellsOf (.string s) = some [.string s] := rfl
theorem cellsOf_ptr (p : Option Addr) : cellsOf (.pointer p) = some [.pointer p] := rfl
theorem cellsOf_slice (p : Option Addr) (l c : Nat) : cellsOf (.slice p l c) = some [.slice p l c] := rfl
theorem cellsOf_bytes (l : List UInt8) : cellsOf (.agg (l.map byteV).toArray) = some (l.map byteV) := by
  simp [cellsOf, oneCell, byteV]
theorem map_ofNat_byteOf (l : List UInt8) : (l.map byteV).mapM byteOf = some l := by
  induction l with
  | nil => rfl
  | cons x r ih => simp [byteOf, byteV, ih]

/-- What a call leaves of the older blocks. -/
def Old (m m' : AMem) : Prop := m.size ≤ m'.size ∧ ∀ b, b < m.size → m'.get b = m.get b
theorem Old.refl (m : AMem) : Old m m := ⟨Nat.le_refl _, fun _ _ => rfl⟩
theorem Old.trans {a b c : AMem} (h : Old a b) (k : Old b c) : Old a c := ⟨Nat.le_trans h.1 k.1, fun i hi => (k.2 i (Nat.lt_of_lt_of_le hi h.1)).trans (h.2 i hi)⟩
theorem Old.push (m : AMem) (o : AObj) : Old m (m.push o) := ⟨by simp [AMem.push], fun b hb => AMem.get_push_ne m o (by omega)⟩

/-! What append makes. -/
theorem srcLen_slice (a : Option Addr) (n c : Nat) : srcLen (.slice a n c) = some n := rfl
theorem srcLen_string (s : ByteArray) : srcLen (.string s) = some s.size := rfl
theorem srcCells_slice {sz n l c b o : Nat} {m : AMem} (h : n ≤ l) : srcCells sz n (.slice (some ⟨b, o, none⟩) l c) m = rd m b o (n * sz) := by simp [srcCells, h]
theorem srcCells_nil {sz c : Nat} {m : AMem} (l : Nat) : srcCells sz 0 (.slice none l c) m = some [] := by simp [srcCells]
theorem srcCells_string {n : Nat} {s : ByteArray} {m : AMem} (h : n = s.size) : srcCells 1 n (.string s) m = some (s.data.toList.map byteV) := by
  subst h
  have : (s.data.toList.map byteV).take s.size = s.data.toList.map byteV := List.take_of_length_le (by simp)
  simp [srcCells, this]
theorem appendTo_nil {e : TypeId} {sz bytes : Nat} {z : List Value} {n : Nat} {news : List Value} {m : AMem} (h0 : 0 < n) (hb : 2 * n * bytes ≤ 281474976710656) (hn : n ≤ 9223372036854775807) :
    appendTo e sz bytes z (.slice none 0 0) n news m = some (.slice (some ⟨m.size, 0, none⟩) n openCap, m.push (.cells news e true (.room z))) := by
  have : n ≠ 0 := by omega
  simp [appendTo, this, hb, hn]
theorem eqPL_refl_int {k : IntKind} {n : Int} : eqPL [.int k n] [.int k n] = true := by simp [eqPL, eqP]
theorem appendTo_open {e : TypeId} {sz bytes : Nat} {z z' : List Value} {b l n : Nat} {x news : List Value} {m : AMem} (hm : m.get b = .cells x e true (.room z')) (hz : eqPL z' z = true) (hs : z'.length = sz) (h1 : 0 < sz) (hl : x.length = l * sz) (h0 : 0 < n)
    (hb : 2 * (l + n) * bytes ≤ 281474976710656) (hn : l + n ≤ 9223372036854775807) :
    appendTo e sz bytes z (.slice (some ⟨b, 0, none⟩) l openCap) n news m = some (.slice (some ⟨m.size, 0, none⟩) (l + n) openCap, (m.set b .dead).push (.cells (x ++ news) e true (.room z))) := by
  have h2 : ¬ 0 + (l + n) * sz ≤ x.length := by
    rw [hl, Nat.add_mul, Nat.zero_add]
    have : 0 < n * sz := Nat.mul_pos h0 h1
    omega
  have h3 : (x.drop 0).take (l * sz) = x := by simp [← hl]
  have h4 : 0 + l * sz ≤ x.length := by omega
  simp only [appendTo, if_true, hm, Spare.size, hs, if_neg h2, if_pos (show 0 + l * sz ≤ x.length ∧ 2 * (l + n) * bytes ≤ 281474976710656 ∧ l + n ≤ 9223372036854775807 from ⟨h4, hb, hn⟩), if_pos (show True ∧ 0 % sz = 0 ∧ True ∧ eqPL z' z = true from ⟨trivial, by simp, trivial, hz⟩), h3]
theorem fill_byte (k : IntKind) (d n : Int) : fill [.int k d] [(0, 1, .int k n)] = some [.int k n] := by simp [fill, cellsOf, splice]
theorem all_bytes (l : List UInt8) : (l.map byteV).all oneCell = true := by simp [byteV, oneCell]
theorem all_int (k : IntKind) (n : Int) : [Value.int k n].all oneCell = true := rfl
theorem rd_push {m : AMem} {c : List Value} {e : TypeId} {w : Bool} {sp : Spare} {n : Nat} (h : c.length = n) : rd (m.push (.cells c e w sp)) m.size 0 n = some c := rd_all (AMem.get_push_self _ _) h
end Go.AM
namespace Go.AM
set_option linter.unusedVariables false

section
variable {P : Program} {G : Nat} {m : AMem} {ρ ρ' : Ren} {w w' : World}

/-- What a call made for itself may be forgotten. -/
theorem ACall.forget {f : FuncId} {args : List Value} {Q Q' : AEnd → AMem → Prop} (h : ACall P G f args m Q)
    (hq : ∀ r m', Q r m' → (∃ v, r = .ret v ∧ Plain v) ∧ (∀ b, b < m.size → m'.get b = m.get b) ∧ Q' r m) : ACall P G f args m Q' := by
  intro ρ w args' hR hA
  have main : ∀ e w', (∃ ρ' m' r, Q r m' ∧ EndRel ρ' r e ∧ Rep G m' ρ' w' ∧ Ext m ρ w m' ρ' w') → ∃ ρ' m' r, Q' r m' ∧ EndRel ρ' r e ∧ Rep G m' ρ' w' ∧ Ext m ρ w m' ρ' w' := by
    rintro e w' ⟨ρ', m', r, h1, h2, h3, h4⟩
    obtain ⟨⟨v, rfl, hv⟩, h5, h6⟩ := hq r m' h1
    refine ⟨ρ, m, .ret v, h6, ?_, ⟨hR.dom, fun b L hb => ?_, hR.sep, hR.glob⟩, ⟨.refl ρ, h4.os, h4.tape, h4.output, h4.size, h4.keep, fun _ _ h => h, fun _ _ => rfl, Nat.le_refl _⟩⟩
    · cases h2 with
      | ret h => exact .ret ((hv ρ).back h4.ren h)
    · have := h3.obj b L (h4.ren b L hb)
      rw [h5 b (hR.dom b L hb)] at this
      exact (hR.obj b L hb).back h4.ren this
  have := h ρ w args' hR hA
  split at this
  · exact this.mono fun e w' h => main e w' h
  · exact main _ _ this
  · exact this

/-- A function without a body. -/
theorem ACall_ext {f : FuncId} {fn : Func} {e : Array Value → Sem Value} (hf : P.funcs[f]? = some fn) (hname : (fn.name == "runtime.NumGoroutine") = false)
    (hb : fn.body.isNone = true) (hn : Extern.findNext fn = none) (he : Extern.find fn = some e) {args : List Value} {Q : AEnd → AMem → Prop}
    (h : ∀ ρ w args', Rep G m ρ w → LRel ρ args args'.toList → ∃ v v', (e args').run P w = .ok v' w ∧ VRel ρ v v' ∧ Q (.ret v) m) : ACall P G f args m Q := by
  intro ρ w args' hR hA
  obtain ⟨v, v', h1, h2, h3⟩ := h ρ w args' hR hA
  rw [run_callFunc_extern hf hname hb hn he args' w, h1]
  exact ⟨ρ, m, .ret v, h3, .ret h2, hR, Ext.refl _ _ _⟩

end
end Go.AM
namespace Go.AM
theorem amS : type_of% @W_skip ∧ type_of% @W_seq ∧ type_of% @W_reg ∧ type_of% @W_block ∧ type_of% @W_exit ∧ type_of% @W_ret ∧ type_of% @W_cond ∧ type_of% @W_draw ∧ type_of% @WI_nil ∧ type_of% @WI_op ∧ type_of% @WI_opg ∧ type_of% @WI_call ∧ type_of% @WI_callg ∧ type_of% @DW_call ∧ type_of% @DW_callg ∧ type_of% @OpI_some ∧ type_of% @OpG_some ∧ type_of% @OpG_true ∧ type_of% @OpG_false ∧ type_of% @BoolW_true ∧ type_of% @BoolW_false ∧ type_of% @GrdW_true ∧ type_of% @GrdW_false ∧ type_of% @SeqK_normal ∧ type_of% @SeqK_exit ∧ type_of% @SeqK_ret ∧ type_of% @SeqK_pan ∧ type_of% @BlockK_normal ∧ type_of% @BlockK_exit ∧ type_of% @BlockK_ret ∧ type_of% @BlockK_pan ∧ type_of% @LoopK_exit ∧ type_of% @LoopK_ret ∧ type_of% @LoopK_pan ∧ type_of% @CallK_ret ∧ type_of% @CallK_pan ∧ type_of% @RetK_ret ∧ type_of% @RetK_normal ∧ type_of% @RetK_pan ∧ type_of% @ResW_some ∧ type_of% @DW_nil ∧ type_of% @DW_f ∧ type_of% @DW_bop ∧ type_of% @FltW_some ∧ type_of% @FltG_some ∧ type_of% @fstO_some ∧ type_of% @valF_op ∧ type_of% @valF_opg ∧ type_of% @dst_op ∧ type_of% @dst_call ∧ type_of% @BarK_nil ∧ type_of% @OpB_some ∧ type_of% @gv_true ∧ type_of% @gv_false ∧ type_of% @sel2_true ∧ type_of% @sel2_false ∧ type_of% @sel2_and ∧ type_of% @sel2_or ∧ type_of% @beq_true ∧ type_of% @beq_false ∧ type_of% @updO_some ∧ type_of% @updO_none ∧ type_of% @upd_apply ∧ type_of% @sel_true ∧ type_of% @sel_false ∧ type_of% @ev_t ∧ type_of% @ev_c ∧ type_of% @wanted_some ∧ type_of% @List.getD_cons_zero.{0} ∧ type_of% @List.getD_cons_succ.{0} ∧ type_of% @stepOp_mov ∧ type_of% @stepOp_pick' ∧ type_of% @pickV_bool ∧ type_of% @stepOp_new ∧ type_of% @stepOp_box ∧ type_of% @stepOp_ld1 ∧ type_of% @stepOp_ldn ∧ type_of% @stepOp_st ∧ type_of% @stepOp_nchk ∧ type_of% @stepOp_bin ∧ type_of% @stepOp_eql ∧ type_of% @stepOp_un ∧ type_of% @stepOp_cvt ∧ type_of% @stepOp_idc ∧ type_of% @stepOp_slA ∧ type_of% @stepOp_fad ∧ type_of% @stepOp_iadA ∧ type_of% @stepOp_iadV ∧ type_of% @stepOp_ixS ∧ type_of% @stepOp_ext ∧ type_of% @stepOp_lenS ∧ type_of% @stepOp_lenV ∧ type_of% @stepOp_lenN ∧ type_of% @stepOp_toU ∧ type_of% @stepOp_frU ∧ type_of% @binV_add ∧ type_of% @binV_sub ∧ type_of% @binV_mul ∧ type_of% @binV_and ∧ type_of% @binV_or ∧ type_of% @binV_xor ∧ type_of% @binV_andNot ∧ type_of% @binV_eql ∧ type_of% @binV_neq ∧ type_of% @binV_lss ∧ type_of% @binV_leq ∧ type_of% @binV_gtr ∧ type_of% @binV_geq ∧ type_of% @binV_quo ∧ type_of% @binV_rem ∧ type_of% @binV_shl ∧ type_of% @binV_shr ∧ type_of% @binV_seql ∧ type_of% @binV_sneq ∧ type_of% @binV_sadd ∧ type_of% @unV_neg ∧ type_of% @unV_not ∧ type_of% @eqV_bool ∧ type_of% @addr_ptr ∧ type_of% @cellsOf_int ∧ type_of% @cellsOf_bool ∧ type_of% @cellsOf_string ∧ type_of% @cellsOf_ptr ∧ type_of% @cellsOf_slice ∧ type_of% @cellsOf_bytes ∧ type_of% @AMem.size_push ∧ type_of% @AMem.size_set ∧ type_of% @AMem.get_push ∧ type_of% @AMem.get_set ∧ type_of% @ifp.{1} ∧ type_of% @ifn.{1} ∧ type_of% @wrap_i64 ∧ type_of% @wrap_u64 ∧ type_of% @wrap_u8 ∧ type_of% @wrap_i32 ∧ type_of% @Option.map_some.{0, 0} ∧ type_of% @Option.some.injEq.{0} ∧ type_of% @if_true.{1} ∧ type_of% @if_false.{1} ∧ type_of% @eq_self.{1} ∧ type_of% @true_and ∧ type_of% @and_true ∧ type_of% @Bool.true_and ∧ type_of% @Bool.and_true ∧ type_of% @Bool.false_or ∧ type_of% @Bool.or_false ∧ type_of% @Bool.not_true ∧ type_of% @Bool.not_false ∧ type_of% @beq_self_eq_true.{0} ∧ type_of% @Bool.false_and ∧ type_of% @Bool.and_false ∧ type_of% @Bool.true_or ∧ type_of% @Bool.or_true ∧ type_of% @Nat.mul_one ∧ type_of% @Nat.add_zero ∧ type_of% @Nat.zero_add ∧ type_of% @Nat.zero_mul ∧ type_of% @Int.toNat_natCast ∧ type_of% @ne_eq.{1} ∧ type_of% @not_false_eq_true ∧ type_of% @List.map_cons.{0, 0} ∧ type_of% @List.map_nil.{0, 0} ∧ type_of% @decide_true ∧ type_of% @decide_false ∧ type_of% @decide_eq_true_eq :=
  ⟨@W_skip, @W_seq, @W_reg, @W_block, @W_exit, @W_ret, @W_cond, @W_draw, @WI_nil, @WI_op, @WI_opg, @WI_call, @WI_callg, @DW_call, @DW_callg, @OpI_some, @OpG_some, @OpG_true, @OpG_false, @BoolW_true, @BoolW_false, @GrdW_true, @GrdW_false, @SeqK_normal, @SeqK_exit, @SeqK_ret, @SeqK_pan, @BlockK_normal, @BlockK_exit, @BlockK_ret, @BlockK_pan, @LoopK_exit, @LoopK_ret, @LoopK_pan, @CallK_ret, @CallK_pan, @RetK_ret, @RetK_normal, @RetK_pan, @ResW_some, @DW_nil, @DW_f, @DW_bop, @FltW_some, @FltG_some, @fstO_some, @valF_op, @valF_opg, @dst_op, @dst_call, @BarK_nil, @OpB_some, @gv_true, @gv_false, @sel2_true, @sel2_false, @sel2_and, @sel2_or, @beq_true, @beq_false, @updO_some, @updO_none, @upd_apply, @sel_true, @sel_false, @ev_t, @ev_c, @wanted_some, @List.getD_cons_zero.{0}, @List.getD_cons_succ.{0}, @stepOp_mov, @stepOp_pick', @pickV_bool, @stepOp_new, @stepOp_box, @stepOp_ld1, @stepOp_ldn, @stepOp_st, @stepOp_nchk, @stepOp_bin, @stepOp_eql, @stepOp_un, @stepOp_cvt, @stepOp_idc, @stepOp_slA, @stepOp_fad, @stepOp_iadA, @stepOp_iadV, @stepOp_ixS, @stepOp_ext, @stepOp_lenS, @stepOp_lenV, @stepOp_lenN, @stepOp_toU, @stepOp_frU, @binV_add, @binV_sub, @binV_mul, @binV_and, @binV_or, @binV_xor, @binV_andNot, @binV_eql, @binV_neq, @binV_lss, @binV_leq, @binV_gtr, @binV_geq, @binV_quo, @binV_rem, @binV_shl, @binV_shr, @binV_seql, @binV_sneq, @binV_sadd, @unV_neg, @unV_not, @eqV_bool, @addr_ptr, @cellsOf_int, @cellsOf_bool, @cellsOf_string, @cellsOf_ptr, @cellsOf_slice, @cellsOf_bytes, @AMem.size_push, @AMem.size_set, @AMem.get_push, @AMem.get_set, @ifp.{1}, @ifn.{1}, @wrap_i64, @wrap_u64, @wrap_u8, @wrap_i32, @Option.map_some.{0, 0}, @Option.some.injEq.{0}, @if_true.{1}, @if_false.{1}, @eq_self.{1}, @true_and, @and_true, @Bool.true_and, @Bool.and_true, @Bool.false_or, @Bool.or_false, @Bool.not_true, @Bool.not_false, @beq_self_eq_true.{0}, @Bool.false_and, @Bool.and_false, @Bool.true_or, @Bool.or_true, @Nat.mul_one, @Nat.add_zero, @Nat.zero_add, @Nat.zero_mul, @Int.toNat_natCast, @ne_eq.{1}, @not_false_eq_true, @List.map_cons.{0, 0}, @List.map_nil.{0, 0}, @decide_true, @decide_false, @decide_eq_true_eq⟩
end Go.AM
namespace Go.AM
set_option linter.unusedVariables false

section
variable {P : Program} {G : Nat}

/-- Memory of which nothing is known. -/
def AMem.none (G : Nat) : AMem := ⟨G, fun _ => .dead⟩

theorem Rep.none (G : Nat) (w : World) : Rep G (.none G) (fun b => if b < G then some ⟨b, 0, 0, 1⟩ else Option.none) w where
  dom := fun b L h => by
    by_cases hb : b < G
    · exact hb
    · rw [if_neg hb] at h; cases h
  obj := fun b L h => trivial
  sep := fun b b' L L' h h' hne ha => by simp [AMem.none, AObj.alive] at ha
  glob := fun g hg => ⟨⟨g, 0, 0, 1⟩, by simp [hg], rfl, rfl⟩

theorem run_enter {f : FuncId} {fn : Func} {c : Code} (hf : P.funcs[f]? = some fn) (hname : (fn.name == "runtime.NumGoroutine") = false) (hb : fn.body = some c) (args : Array Value) (w : World) :
    (callFunc f args).run P w = .ok (.enter f args) w := by
  have h1 : fn.name ≠ "runtime.NumGoroutine" := by simpa using hname
  simp [callFunc, hf, h1, hb]

theorem mapM_some_get {α β : Type} {f : α → Option β} : ∀ {l : List α} {r : List β}, l.mapM f = some r → ∀ i (h : i < l.length), ∃ y, f l[i] = some y
  | x :: l, r, h, i, hi => by
    simp only [List.mapM_cons, Option.bind_eq_bind, Option.bind_eq_some_iff] at h
    obtain ⟨y, h1, ys, h2, h3⟩ := h
    cases i with
    | zero => exact ⟨y, h1⟩
    | succ i => exact mapM_some_get h2 i (by simpa using hi)

theorem wf_u8 {n : Int} (h : (Lit.int .u8 n).wf = true) : 0 ≤ n ∧ n ≤ 255 := by
  simp [Lit.wf, IntKind.min, IntKind.max, IntKind.signed, IntKind.bits] at h
  omega

theorem trod_one {H : Type} {enc : TypeId × Value → H} {w : World} {base : Nat} {sp : Nat → Bool} {hd : Bool} {e : TypeId} {k : IntKind} {fuel : Nat} {v : Value} {y : DataW H × List MemPlace}
    (he : P.underlying e = some (.int k)) (h : DataW.trod enc P w base sp hd fuel e [v] = some y) : ∃ n, v = .int k n ∧ (Lit.int k n).wf = true := by
  cases fuel with
  | zero => simp [DataW.trod] at h
  | succ fuel =>
    cases v <;> simp [DataW.trod, he] at h
    obtain ⟨⟨rfl, h1⟩, _⟩ := h
    exact ⟨_, rfl, h1⟩

/-- An argument that is a row of bytes. -/
theorem open_byteArr {H : Type} {enc : TypeId × Value → H} {w : World} {base : Nat} {sp : Nat → Bool} {hd : Bool} {r : Reach} {b0 : Nat} {t e : TypeId} {n : Nat} {v : Value} {d : DataW H} {ps : List MemPlace}
    (ht : P.underlying t = some (.array n e)) (he : P.underlying e = some (.int .u8)) (hct : P.cellsOf t = n) (hc : P.cellsOf e = 1)
    (hval : Value.okWide P w r b0 t v) (hd' : DataW.Trod enc P w base sp hd t v d ps) : ∃ l : List UInt8, l.length = n ∧ v = .agg (l.map byteV).toArray := by
  simp only [Value.okWide, ht] at hval
  obtain ⟨cs, rfl, hcs, _⟩ := hval
  obtain ⟨fuel, hf⟩ := hd'
  cases fuel with
  | zero => simp [DataW.trod] at hf
  | succ fuel =>
    simp only [DataW.trod, ht, Value.cells] at hf
    split at hf <;> try (simp at hf; done)
    rename_i hlen
    simp only [Option.map_eq_some_iff] at hf
    obtain ⟨xs, hxs, _⟩ := hf
    have key : ∀ i (hi : i < cs.size), ∃ k : UInt8, cs[i] = byteV k := by
      intro i hi
      obtain ⟨y, hy⟩ := mapM_some_get hxs i (by simp; omega)
      simp only [List.getElem_range, hc, Nat.mul_one] at hy
      have h1 : (cs.toList.drop i).take 1 = [cs[i]] := by
        rw [List.drop_eq_getElem_cons (by simpa using hi)]
        simp
      rw [h1] at hy
      obtain ⟨k, hk, hwf⟩ := trod_one he hy
      have := wf_u8 hwf
      refine ⟨UInt8.ofNat k.toNat, ?_⟩
      rw [hk]
      simp only [byteV]
      congr 1
      have h2 : (UInt8.ofNat k.toNat).toNat = k.toNat := by simp; omega
      rw [h2]; omega
    refine ⟨(List.range cs.size).map fun i => if h : i < cs.size then Classical.choose (key i h) else 0, by simp [hcs, hct], ?_⟩
    congr 1
    apply Array.ext
    · simp
    · intro i h1 h2
      simp [h1]
      exact Classical.choose_spec (key i h1)

theorem plain_bytes (l : List UInt8) : Plain (.agg (l.map byteV).toArray) := by
  refine Plain.agg fun v hv => ?_
  simp at hv
  obtain ⟨x, _, rfl⟩ := hv
  exact Plain.int _ _

end
end Go.AM
namespace Go.AM
set_option linter.unusedVariables false

section
variable {P : Program} {G : Nat} {m : AMem} {ρ ρ' : Ren} {w w' : World}

/-- What is known of a value everywhere is so elsewhere. -/
theorem Plain.of_rel {v c : Value} (hv : Plain v) (h : VRel ρ v c) (ρ'' : Ren) : VRel ρ'' v c := by
  have h0 : VRel (fun _ => none) v v := hv _
  exact (h0.back (ρ' := ρ) (fun b L h => by cases h) h).mono (fun b L h => by cases h)

/-! ### Blocks under other names -/
abbrev Sig := Nat → Option Nat
def Sig.comp (σ : Sig) (ρ : Ren) : Ren := fun b => (σ b).bind ρ
theorem Sig.comp_some {σ : Sig} {ρ : Ren} {b x : Nat} {L : Loc} (h : σ b = some x) (k : ρ x = some L) : σ.comp ρ b = some L := by simp [Sig.comp, h, k]

/-- A value under other names. -/
def RenV (σ : Sig) (v2 v : Value) : Prop := ∀ ρ c, VRel ρ v c → VRel (σ.comp ρ) v2 c

theorem RenV.plain {σ : Sig} {v : Value} (h : Plain v) : RenV σ v v := fun ρ c k => h.of_rel k _
theorem RenV.int {σ : Sig} (k : IntKind) (n : Int) : RenV σ (.int k n) (.int k n) := .plain (.int _ _)
theorem RenV.bool {σ : Sig} (b : Bool) : RenV σ (.bool b) (.bool b) := .plain (.bool _)
theorem RenV.string {σ : Sig} (b : ByteArray) : RenV σ (.string b) (.string b) := .plain (.string _)
theorem RenV.nilSlice {σ : Sig} (l c : Nat) : RenV σ (.slice none l c) (.slice none l c) := .plain (.nilSlice _ _)
theorem RenV.ptr {σ : Sig} {b2 b o : Nat} (h : σ b2 = some b) : RenV σ (.pointer (some ⟨b2, o, none⟩)) (.pointer (some ⟨b, o, none⟩)) := by
  intro ρ c k
  cases k with
  | ptr hb => exact .ptr (Sig.comp_some h hb)
theorem RenV.slice {σ : Sig} {b2 b o l c : Nat} (h : σ b2 = some b) : RenV σ (.slice (some ⟨b2, o, none⟩) l c) (.slice (some ⟨b, o, none⟩) l c) := by
  intro ρ x k
  cases k with
  | slice hb hc => exact .slice (Sig.comp_some h hb) hc
  | sliceOpen hb hc hs => exact .sliceOpen (Sig.comp_some h hb) hc hs
  | sliceEnd hb hc => exact .sliceEnd (Sig.comp_some h hb) hc
theorem RenV.map {σ : Sig} {b2 b : Nat} (h : σ b2 = some b) : RenV σ (.map (some b2)) (.map (some b)) := by
  intro ρ c k
  cases k with
  | map hb => exact .map (Sig.comp_some h hb)
theorem RenV.iface {σ : Sig} {t : TypeId} {v2 v : Value} (h : RenV σ v2 v) : RenV σ (.iface t v2) (.iface t v) := by
  intro ρ c k
  cases k with
  | iface _ k => exact .iface t (h _ _ k)
theorem RenV.agg {σ : Sig} {x y : Array Value} (hs : x.size = y.size) (h : ∀ i (h : i < x.size) (h' : i < y.size), RenV σ x[i] y[i]) : RenV σ (.agg x) (.agg y) := by
  intro ρ c k
  cases k with
  | agg _ z hz k => exact .agg _ _ (hs.trans hz) fun i a b => h i a (by omega) _ _ (k i (by omega) b)
theorem RenV.tuple {σ : Sig} {x y : Array Value} (hs : x.size = y.size) (h : ∀ i (h : i < x.size) (h' : i < y.size), RenV σ x[i] y[i]) : RenV σ (.tuple x) (.tuple y) := by
  intro ρ c k
  cases k with
  | tuple _ z hz k => exact .tuple _ _ (hs.trans hz) fun i a b => h i a (by omega) _ _ (k i (by omega) b)
/-- A block under other names; or forgotten. -/
inductive RenObj (σ : Sig) : AObj → AObj → Prop
  | forget (o : AObj) : RenObj σ .dead o
  | cells {c2 c : List Value} {e : TypeId} {wr : Bool} {sp : Spare} (hl : c2.length = c.length) (h : ∀ i (h : i < c2.length) (h' : i < c.length), RenV σ c2[i] c[i]) : RenObj σ (.cells c2 e wr sp) (.cells c e wr sp)
  | iter (s : ByteArray) (pos : Nat) : RenObj σ (.iter s pos) (.iter s pos)
  | map (es : Array MapEntry) (clock : Nat) : RenObj σ (.map es clock) (.map es clock)

theorem RenObj.plain {σ : Sig} {c : List Value} {e : TypeId} {wr : Bool} {sp : Spare} (h : ∀ v ∈ c, Plain v) : RenObj σ (.cells c e wr sp) (.cells c e wr sp) :=
  .cells rfl fun i a b => .plain (h _ (List.getElem_mem a))

theorem RenObj.rel {σ : Sig} {o2 o : AObj} (h : RenObj σ o2 o) {L : Loc} (k : ObjRel ρ o L w) : ObjRel (σ.comp ρ) o2 L w := by
  cases h with
  | forget => trivial
  | cells hl h =>
    obtain ⟨carr, frz, h1, h2, h3, h4, h8, h5, h6, h7⟩ := k
    refine ⟨carr, frz, h1, h2, by omega, fun z => ?_, fun z hz => ?_, fun j hj => h j hj (by omega) _ _ (h5 j (by omega)), fun z hz => ?_, h7⟩
    · have := h4 z; exact ⟨by omega, this.2⟩
    · have := h8 z hz; exact ⟨by omega, this.2⟩
    · have := h6 z hz; rw [hl]; exact this
  | iter => exact k
  | map => exact k

theorem RenObj.wrt {σ : Sig} {o2 o : AObj} (h : RenObj σ o2 o) (k : o2.wrt = true) : o.wrt = true := by
  cases h <;> simp_all [AObj.wrt]
theorem RenObj.alive {σ : Sig} {o2 o : AObj} (h : RenObj σ o2 o) (k : o2.alive = true) : o.alive = true := by
  cases h <;> simp_all [AObj.alive]

/-- How m2 is a part of m', under other names; the blocks of m keep theirs. -/
structure Gather (m m' m2 : AMem) (σ : Sig) : Prop where
  old : ∀ b, b < m.size → σ b = some b
  new : ∀ b x, σ b = some x → m.size ≤ b → m.size ≤ x
  dom : ∀ b x, σ b = some x → b < m2.size
  inj : ∀ b b' x, σ b = some x → σ b' = some x → b = b'
  obj : ∀ b x, σ b = some x → (b < m.size ∧ m2.get b = m.get b ∧ m'.get b = m.get b) ∨ RenObj σ (m2.get b) (m'.get x)
  grow : m.size ≤ m2.size

/-- What a call leaves behind, gathered. -/
theorem ACall.gather {f : FuncId} {args : List Value} {Q Q' : AEnd → AMem → Prop} (h : ACall P G f args m Q)
    (hq : ∀ r m', Q r m' → m.size ≤ m'.size → ∃ v v2 m2 σ, r = .ret v ∧ Gather m m' m2 σ ∧ RenV σ v2 v ∧ Q' (.ret v2) m2) : ACall P G f args m Q' := by
  intro ρ w args' hR hA
  have main : ∀ e w', (∃ ρ' m' r, Q r m' ∧ EndRel ρ' r e ∧ Rep G m' ρ' w' ∧ Ext m ρ w m' ρ' w') → ∃ ρ' m' r, Q' r m' ∧ EndRel ρ' r e ∧ Rep G m' ρ' w' ∧ Ext m ρ w m' ρ' w' := by
    rintro e w' ⟨ρ', m', r, h1, h2, h3, h4⟩
    obtain ⟨v, v2, m2, σ, rfl, hg, hv, h6⟩ := hq r m' h1 h4.grow
    have hcomp : ∀ b L, σ.comp ρ' b = some L → ∃ x, σ b = some x ∧ ρ' x = some L := fun b L h => by
      simp only [Sig.comp, Option.bind_eq_some_iff] at h; exact h
    have hren : ρ.le (σ.comp ρ') := fun b L hb => Sig.comp_some (hg.old b (hR.dom b L hb)) (h4.ren b L hb)
    have hlate : ∀ b, b < m.size → σ.comp ρ' b = ρ b := fun b hb => by
      simp only [Sig.comp, hg.old b hb, Option.bind_some]; exact h4.late b hb
    -- an old block that stayed as it was
    have hold : ∀ b L x, σ b = some x → b < m.size → ρ' x = some L → m'.get b = m.get b → ObjRel (σ.comp ρ') (m.get b) L w' := fun b L x hx hb hL hm => by
      have hxb : x = b := by have := hg.old b hb; rw [hx] at this; exact Option.some.inj this
      subst hxb
      have h0 : ρ x = some L := by rw [← h4.late x hb]; exact hL
      have h1 := h3.obj x L hL
      rw [hm] at h1
      exact ((hR.obj x L h0).back h4.ren h1).mono hren
    have halive : ∀ b x, σ b = some x → ((m2.get b).alive = true → (m'.get x).alive = true) ∧ ((m2.get b).wrt = true → (m'.get x).wrt = true) := fun b x hx => by
      rcases hg.obj b x hx with ⟨hb, e1, e2⟩ | h
      · have hxb : x = b := by have := hg.old b hb; rw [hx] at this; exact Option.some.inj this
        subst hxb
        rw [e1, e2]; exact ⟨id, id⟩
      · exact ⟨h.alive, h.wrt⟩
    refine ⟨σ.comp ρ', m2, .ret v2, h6, ?_, ⟨fun b L hb => ?_, fun b L hb => ?_, fun b b' L L' hb hb' hne h1 h2 h3' => ?_, fun g hgG => ?_⟩, ⟨hren, h4.os, h4.tape, h4.output, h4.size, h4.keep, fun i hi hI => ?_, hlate, hg.grow⟩⟩
    · cases h2 with
      | ret h => exact .ret (hv _ _ h)
    · obtain ⟨x, hx, _⟩ := hcomp b L hb; exact hg.dom b x hx
    · obtain ⟨x, hx, hL⟩ := hcomp b L hb
      rcases hg.obj b x hx with ⟨hb, e1, e2⟩ | h
      · rw [e1]; exact hold b L x hx hb hL e2
      · exact h.rel (h3.obj x L hL)
    · obtain ⟨x, hx, hL⟩ := hcomp b L hb
      obtain ⟨x', hx', hL'⟩ := hcomp b' L' hb'
      exact h3.sep x x' L L' hL hL' (fun e => hne (hg.inj b b' x hx (e ▸ hx'))) ((halive b x hx).1 h1) ((halive b' x' hx').1 h2) ((halive b x hx).2 h3')
    · obtain ⟨L, hL, k⟩ := hR.glob g hgG
      exact ⟨L, hren g L hL, k⟩
    · obtain ⟨b, L, hb, hw, hc⟩ := hI
      obtain ⟨x, hx, hL⟩ := hcomp b L hb
      exact h4.img i hi ⟨x, L, hL, (halive b x hx).2 hw, hc⟩
  have := h ρ w args' hR hA
  split at this
  · exact this.mono fun e w' h => main e w' h
  · exact main _ _ this
  · exact this

/-! ### Memory: a base, and new blocks behind it -/
def mx (m : AMem) (l : List AObj) : AMem := ⟨m.size + l.length, fun x => if x < m.size then m.get x else l.getD (x - m.size) .dead⟩
theorem mx_size (m : AMem) (l : List AObj) : (mx m l).size = m.size + l.length := (rfl)
theorem mx_get (m : AMem) (l : List AObj) (x : Nat) : (mx m l).get x = if x < m.size then m.get x else l.getD (x - m.size) .dead := (rfl)
theorem mx_old {m : AMem} {l : List AObj} {x : Nat} (h : x < m.size) : (mx m l).get x = m.get x := by rw [mx_get, if_pos h]
theorem mx_new (m : AMem) (l : List AObj) (k : Nat) : (mx m l).get (m.size + k) = l.getD k .dead := by
  rw [mx_get, if_neg (by omega)]; congr 1; omega
theorem mx_new0 (m : AMem) (l : List AObj) : (mx m l).get m.size = l.getD 0 .dead := mx_new m l 0
theorem mx_push (m : AMem) (l : List AObj) (o : AObj) : (mx m l).push o = mx m (l ++ [o]) := by
  refine AMem.ext' ?_ fun x => ?_
  · rw [AMem.size_push, mx_size, mx_size]; simp; omega
  · rw [AMem.get_push, mx_get, mx_get, mx_size]
    by_cases h1 : x < m.size
    · simp only [h1, if_true]; rw [if_neg (by omega)]
    · simp only [h1, if_false]
      by_cases h2 : x = m.size + l.length
      · subst h2; simp
      · rw [if_neg h2]
        by_cases h3 : x - m.size < l.length
        · simp [List.getD, List.getElem?_append_left h3]
        · simp only [List.getD]
          rw [List.getElem?_eq_none (by omega), List.getElem?_eq_none (by simp; omega)]
theorem mx_set (m : AMem) (l : List AObj) (k : Nat) (o : AObj) (hk : k < l.length) : (mx m l).set (m.size + k) o = mx m (l.set k o) := by
  refine AMem.ext' ?_ fun x => ?_
  · rw [AMem.size_set, mx_size, mx_size]; simp
  · rw [AMem.get_set, mx_get, mx_get]
    by_cases h1 : x < m.size
    · simp only [h1, if_true]; rw [if_neg (by omega)]
    · simp only [h1, if_false]
      by_cases h2 : x = m.size + k
      · subst h2; simp [List.getD, hk]
      · rw [if_neg h2]; simp only [List.getD]; rw [List.getElem?_set_ne (by omega)]
theorem mx_set0 (m : AMem) (l : List AObj) (o : AObj) (hk : 0 < l.length) : (mx m l).set m.size o = mx m (l.set 0 o) := mx_set m l 0 o hk
theorem mx_set_old {m : AMem} {l : List AObj} {b : Nat} {o : AObj} (h : b < m.size) : (mx m l).set b o = mx (m.set b o) l := by
  refine AMem.ext' rfl fun x => ?_
  rw [AMem.get_set, mx_get, mx_get, AMem.get_set, AMem.size_set]
  by_cases h2 : x = b
  · subst h2; simp [h]
  · simp [h2]
theorem mx_mx (m : AMem) (l l' : List AObj) : mx (mx m l) l' = mx m (l ++ l') := by
  refine AMem.ext' ?_ fun x => ?_
  · simp only [mx_size, List.length_append]; omega
  · rw [mx_get, mx_get, mx_get, mx_size]
    by_cases h1 : x < m.size
    · rw [if_pos (by omega), if_pos h1, if_pos h1]
    · rw [if_neg h1, if_neg h1]
      by_cases h2 : x < m.size + l.length
      · rw [if_pos h2]; simp only [List.getD]; rw [List.getElem?_append_left (by omega)]
      · rw [if_neg h2]; simp only [List.getD]; rw [List.getElem?_append_right (by omega)]; congr 2; omega

/-- The call from a memory that is the same as far as there are blocks. -/
theorem ACall.eqv {f : FuncId} {args : List Value} {m1 m : AMem} {Q : AEnd → AMem → Prop} (hs : m1.size = m.size) (hg : ∀ b, b < m.size → m1.get b = m.get b) (h : ACall P G f args m1 Q) : ACall P G f args m Q := by
  intro ρ w args' hR hL
  have hE : ∀ b L, ρ b = some L → m1.get b = m.get b := fun b L hb => hg b (hR.dom b L hb)
  have hR' : Rep G m1 ρ w := ⟨fun b L hb => by rw [hs]; exact hR.dom b L hb, fun b L hb => by rw [hE b L hb]; exact hR.obj b L hb,
    fun b b' L L' hb hb' hne h1 h2 h3 => by rw [hE b L hb] at h1 h3; rw [hE b' L' hb'] at h2; exact hR.sep b b' L L' hb hb' hne h1 h2 h3, hR.glob⟩
  have himg : ∀ i, Img m1 ρ i ↔ Img m ρ i := fun i => ⟨fun ⟨b, L, hb, hw, hc⟩ => ⟨b, L, hb, by rw [hE b L hb] at hw; exact hw, hc⟩, fun ⟨b, L, hb, hw, hc⟩ => ⟨b, L, hb, by rw [hE b L hb]; exact hw, hc⟩⟩
  have main : ∀ {ρ' : Ren} {m' : AMem} {w' : World}, Ext m1 ρ w m' ρ' w' → Ext m ρ w m' ρ' w' := fun h4 =>
    ⟨h4.ren, h4.os, h4.tape, h4.output, h4.size, fun i hi hn => h4.keep i hi (fun k => hn ((himg i).1 k)), fun i hi k => (himg i).1 (h4.img i hi k), fun b hb => h4.late b (by omega), by have := h4.grow; omega⟩
  have := h ρ w args' hR' hL
  split at this
  · exact this.mono fun e w' ⟨ρ', m', r, h1, h2, h3, h4⟩ => ⟨ρ', m', r, h1, h2, h3, main h4⟩
  · obtain ⟨ρ', m', r, h1, h2, h3, h4⟩ := this
    exact ⟨ρ', m', r, h1, h2, h3, main h4⟩
  · exact this

/-- There are never fewer blocks than there were. -/
theorem ACall.grow {f : FuncId} {args : List Value} {m : AMem} {Q : AEnd → AMem → Prop} (h : ACall P G f args m Q) : ACall P G f args m fun r m' => Q r m' ∧ m.size ≤ m'.size := by
  intro ρ w args' hR hL
  have := h ρ w args' hR hL
  split at this
  · exact this.mono fun e w' ⟨ρ', m', r, h1, h2, h3, h4⟩ => ⟨ρ', m', r, ⟨h1, h4.grow⟩, h2, h3, h4⟩
  · obtain ⟨ρ', m', r, h1, h2, h3, h4⟩ := this
    exact ⟨ρ', m', r, ⟨h1, h4.grow⟩, h2, h3, h4⟩
  · exact this

/-! ### Known answers -/
/-- The call gives v, and leaves m2 (as far as there are blocks). -/
def DetC (P : Program) (G : Nat) (f : FuncId) (args : List Value) (m : AMem) (v : Value) (m2 : AMem) : Prop :=
  ACall P G f args m fun r m' => r = .ret v ∧ m' = m2
/-- The call gives v, and leaves what there was. -/
abbrev PureC (P : Program) (G : Nat) (f : FuncId) (args : List Value) (m : AMem) (v : Value) : Prop := DetC P G f args m v m

theorem DetC.mono {f : FuncId} {args : List Value} {m : AMem} {v : Value} {m2 : AMem} (h : DetC P G f args m v m2) {Q : AEnd → AMem → Prop} (hq : Q (.ret v) m2) : ACall P G f args m Q :=
  ACall.mono h fun r m' ⟨h1, h2⟩ => by subst h1 h2; exact hq

/-- A statement in a box: simp doesn't look into it. -/
class Box where
  p : Prop
/-- A known call, and the rest: as good as the call. -/
def OrW (A : Prop) [b : Box] : Prop := A ∨ b.p
theorem OrW.go {A : Prop} {b : Box} (h : A) : @OrW A b := .inl h
theorem OrW_true (b : Box) : @OrW True b = True := by simp [OrW]
theorem DetC.call {f : FuncId} {args : List Value} {m : AMem} {v : Value} {m2 : AMem} (h : DetC P G f args m v m2) {d : Option Nat} {t : Tmps} {ds : List Deferred} {K : ASt → Prop} {Q : AExit → ASt → Prop} :
    ACall P G f args m (CallK d ⟨t, m, ds⟩ K Q) = @OrW (K ⟨updO t d v, m2, ds⟩) ⟨ACall P G f args m (CallK d ⟨t, m, ds⟩ K Q)⟩ :=
  propext ⟨fun k => .inr k, fun k => k.elim (fun k => DetC.mono h k) id⟩

/-- The same, whatever comes behind. -/
abbrev Known (P : Program) (G : Nat) (f : FuncId) (args : List Value) (m : AMem) (v : Value) (m2 : AMem) : Prop :=
  ∀ (d : Option Nat) (t : Tmps) (ds : List Deferred) (K : ASt → Prop) (Q : AExit → ASt → Prop),
    ACall P G f args m (CallK d ⟨t, m, ds⟩ K Q) = @OrW (K ⟨updO t d v, m2, ds⟩) ⟨ACall P G f args m (CallK d ⟨t, m, ds⟩ K Q)⟩
theorem DetC.known {f : FuncId} {args : List Value} {m : AMem} {v : Value} {m2 : AMem} (h : DetC P G f args m v m2) : Known P G f args m v m2 := fun _ _ _ _ _ => h.call
/-- The new names of what is kept: block i of the list gets the name m.size + i. -/
def keepS (m : AMem) (ks : List Nat) : Sig := fun b => if b < m.size then some b else ks[b - m.size]?
theorem keepS_old {m : AMem} {ks : List Nat} {b : Nat} (h : b < m.size) : keepS m ks b = some b := if_pos h
theorem keepS_new {m : AMem} {ks : List Nat} {i x : Nat} (h : ks[i]? = some x) : keepS m ks (m.size + i) = some x := by
  simp only [keepS]; rw [if_neg (by omega), show m.size + i - m.size = i by omega]; exact h
theorem keepS_new0 {m : AMem} {ks : List Nat} {x : Nat} : keepS m (x :: ks) m.size = some x := keepS_new (i := 0) rfl

/-- What is left of a memory: the old blocks (in m0, as they are by then), and some new ones, as objs. -/
structure Kept (m m' m0 : AMem) (ks : List Nat) (objs : List AObj) : Prop where
  len : objs.length = ks.length
  size : m0.size = m.size
  old : ∀ b, b < m.size → (m0.get b = m.get b ∧ m'.get b = m.get b) ∨ RenObj (keepS m ks) (m0.get b) (m'.get b)
  fresh : ∀ x ∈ ks, m.size ≤ x
  nodup : ks.Nodup
  obj : ∀ i (h : i < ks.length) (h' : i < objs.length), RenObj (keepS m ks) objs[i] (m'.get ks[i])

theorem Kept.gather {m m' m0 : AMem} {ks : List Nat} {objs : List AObj} (h : Kept m m' m0 ks objs) : Gather m m' (mx m0 objs) (keepS m ks) where
  old := fun b hb => keepS_old hb
  new := fun b x hx hb => by
    simp only [keepS] at hx; rw [if_neg (by omega)] at hx
    exact h.fresh x (List.mem_of_getElem? hx)
  dom := fun b x hx => by
    rw [mx_size, h.size]
    simp only [keepS] at hx
    split at hx
    · omega
    · have := (List.getElem?_eq_some_iff.1 hx).1
      have := h.len
      omega
  inj := fun b b' x h1 h2 => by
    simp only [keepS] at h1 h2
    split at h1 <;> split at h2
    · simp at h1 h2; omega
    · simp at h1; subst h1
      have := h.fresh b (List.mem_of_getElem? h2); omega
    · simp at h2; subst h2
      have := h.fresh b' (List.mem_of_getElem? h1); omega
    · obtain ⟨a1, a2⟩ := List.getElem?_eq_some_iff.1 h1
      obtain ⟨b1, b2⟩ := List.getElem?_eq_some_iff.1 h2
      have hp := List.pairwise_iff_getElem.1 h.nodup
      rcases Nat.lt_trichotomy (b - m.size) (b' - m.size) with hlt | heq | hgt
      · exact absurd (a2.trans b2.symm) (hp _ _ a1 b1 hlt)
      · omega
      · exact absurd (b2.trans a2.symm) (hp _ _ b1 a1 hgt)
  obj := fun b x hx => by
    simp only [keepS] at hx
    split at hx
    · rename_i hb
      simp at hx; subst hx
      rw [mx_old (by rw [h.size]; exact hb)]
      rcases h.old b hb with ⟨h1, h2⟩ | h1
      · exact .inl ⟨hb, h1, h2⟩
      · exact .inr h1
    · rename_i hb
      obtain ⟨a1, a2⟩ := List.getElem?_eq_some_iff.1 hx
      subst a2
      have hl := h.len
      have := h.obj (b - m.size) a1 (by omega)
      refine .inr ?_
      have hget : (mx m0 objs).get b = objs[b - m.size]'(by omega) := by
        rw [mx_get, if_neg (by rw [h.size]; exact hb), h.size]
        simp [List.getD, show b - m.size < objs.length by omega]
      rw [hget]; exact this
  grow := by rw [mx_size, h.size]; omega

/-- A function that leaves no trace but its answer. -/
theorem pure_of_W {f : FuncId} {fn : Func} {A : AFun} (hf : P.funcs[f]? = some fn) (hn : (fn.name == "runtime.NumGoroutine") = false) (hA : compFun P G fn = some A) {args : List Value} (hlen : args.length ≤ A.n) {m : AMem} {v : Value}
    (hv : Plain v) (h : W P G A.code (RetK A.res fun r m' => r = .ret v ∧ Old m m') ⟨initT args, mx m [], []⟩) : PureC P G f args m v := by
  refine ACall.gather (Q := fun r m' => r = .ret v ∧ Old m m') (ACall.eqv (m1 := mx m []) rfl (fun b hb => mx_old hb) (ACall_of_W hf hn hA hlen h)) ?_
  rintro r m' ⟨rfl, _, ho⟩ hg
  refine ⟨v, v, m, fun b => if b < m.size then some b else none, rfl, ⟨fun b hb => if_pos hb, fun b x hx hb => ?_, fun b x hx => ?_, fun b b' x h1 h2 => ?_, fun b x hx => ?_, Nat.le_refl _⟩, .plain hv, rfl, rfl⟩
  · rw [if_neg (by omega)] at hx; cases hx
  · by_cases hb : b < m.size
    · exact hb
    · rw [if_neg hb] at hx; cases hx
  · split at h1 <;> simp at h1
    split at h2 <;> simp at h2
    omega
  · split at hx <;> simp at hx
    subst hx
    rename_i hb
    exact .inl ⟨hb, rfl, ho b hb⟩

theorem Old.set {m M : AMem} (h : Old m M) {b : Nat} (hb : m.size ≤ b) (o : AObj) : Old m (M.set b o) :=
  ⟨h.1, fun x hx => by rw [AMem.get_set_ne _ _ (by omega)]; exact h.2 x hx⟩
theorem Old.here (m : AMem) (l : List AObj) : Old m (Go.AM.mx m l) := ⟨by rw [mx_size]; omega, fun b hb => mx_old hb⟩
theorem old_mx (m : AMem) (l : List AObj) : Old m (mx m l) = True := by
  simp only [eq_iff_iff, iff_true]; exact ⟨by rw [mx_size]; omega, fun b hb => mx_old hb⟩
theorem Old.mx {m M : AMem} (h : Old m M) (l : List AObj) : Old m (mx M l) := ⟨by rw [mx_size]; have := h.1; omega, fun b hb => by rw [mx_old (by have := h.1; omega)]; exact h.2 b hb⟩
/-- A memory that holds m's blocks as they were; what else there is, is not said. -/
def Gb (m X : AMem) : Prop := ∃ M l, X = mx M l ∧ Old m (mx M l)
theorem Gb.mk {m M : AMem} (h : Old m M) (l : List AObj) : Gb m (mx M l) := ⟨M, l, rfl, h.mx l⟩
theorem Gb.base {m X : AMem} (h : Gb m X) : ∃ M, X = mx M [] ∧ Old m M := by
  obtain ⟨M, l, rfl, h⟩ := h
  exact ⟨mx M l, by rw [mx_mx, List.append_nil], h⟩
theorem mx_frame (m : AMem) (l : List AObj) : (∀ x, x < m.size → (mx m l).get x = m.get x) = True := by
  simp only [eq_iff_iff, iff_true]; exact fun x hx => mx_old hx
theorem Plain.bytes (l : List UInt8) : Plain (.agg (l.map byteV).toArray) := .agg fun v hv => by
  simp at hv; obtain ⟨x, _, rfl⟩ := hv; exact .int _ _
theorem AMem.set_set (m : AMem) (b : Nat) (o o' : AObj) : (m.set b o).set b o' = m.set b o' := by
  refine AMem.ext' rfl fun x => ?_
  simp only [AMem.get_set]; split <;> rfl
/-- One new block, of plain cells, and a slice of it. -/
theorem Kept.one {m m' m0 : AMem} {b : Nat} {c : List Value} {e : TypeId} {wr : Bool} {sp : Spare} (hb : m.size ≤ b) (hm : m'.get b = .cells c e wr sp) (hc : ∀ v ∈ c, Plain v)
    (h0 : m0.size = m.size) (ho : ∀ x, x < m.size → m0.get x = m.get x ∧ m'.get x = m.get x) : Kept m m' m0 [b] [.cells c e wr sp] where
  len := rfl
  size := h0
  old := fun x hx => .inl (ho x hx)
  fresh := fun x hx => by simp at hx; omega
  nodup := by simp
  obj := fun i h h' => by
    have : i = 0 := by simp at h; omega
    subst this
    simp only [List.getElem_cons_zero]
    rw [hm]; exact .plain hc
theorem Kept.none {m m' : AMem} (ho : ∀ x, x < m.size → m'.get x = m.get x) : Kept m m' m [] [] where
  len := rfl
  size := rfl
  old := fun x hx => .inl ⟨rfl, ho x hx⟩
  fresh := fun x hx => by simp at hx
  nodup := by simp
  obj := fun i h h' => by simp at h
theorem plain_byteV (l : List UInt8) : ∀ v ∈ l.map byteV, Plain v := fun v hv => by
  simp at hv; obtain ⟨x, _, rfl⟩ := hv; exact .int _ _
end
end Go.AM
namespace Go.AM
set_option linter.unusedVariables false

/-- Some cells of a row. -/
def cutL (c : List Value) (o n : Nat) : Option (List Value) := if o + n ≤ c.length then some ((c.drop o).take n) else none
def rdO (b : AObj) (o n : Nat) : Option (List Value) := match b with | .cells c _ _ _ => cutL c o n | _ => none
def wrO (m : AMem) (b o : Nat) (v : List Value) (x : AObj) : Option AMem := match x with
  | .cells c e true sp => if o + v.length ≤ c.length then some (m.set b (.cells (splice c o v) e true sp)) else none
  | _ => none
theorem rd_def (m : AMem) (b o n : Nat) : rd m b o n = rdO (m.get b) o n := by
  unfold rd rdO cutL; cases m.get b <;> rfl
theorem wr_def (m : AMem) (b o : Nat) (v : List Value) : wr m b o v = wrO m b o v (m.get b) := by
  unfold wr wrO
  cases m.get b with
  | cells c e w sp => cases w <;> rfl
  | _ => rfl
theorem rdO_cells (c : List Value) (e : TypeId) (w : Bool) (sp : Spare) (o n : Nat) : rdO (.cells c e w sp) o n = cutL c o n := (rfl)
theorem wrO_cells {m : AMem} {b o : Nat} {v c : List Value} {e : TypeId} {sp : Spare} (h : o + v.length ≤ c.length) : wrO m b o v (.cells c e true sp) = some (m.set b (.cells (splice c o v) e true sp)) := by
  simp [wrO, h]
theorem cutL_one (c : List Value) (o : Nat) : cutL c o 1 = (c[o]?).map ([·]) := by
  unfold cutL
  split
  · rename_i hl
    rw [List.getElem?_eq_getElem (by omega), List.drop_eq_getElem_cons (show o < c.length by omega)]
    rfl
  · rename_i hl
    rw [List.getElem?_eq_none (by omega)]; rfl
theorem cutL_all {c : List Value} {n : Nat} (h : c.length = n) : cutL c 0 n = some c := by subst h; simp [cutL]
theorem splice_all {c v : List Value} (h : v.length = c.length) : splice c 0 v = v := by simp [splice, h]
theorem splice_one {c : List Value} {o : Nat} {v : Value} (h : o < c.length) : splice c o [v] = c.set o v := by
  rw [splice, List.set_eq_take_append_cons_drop, if_pos h]; simp
theorem bytes_get {l : List UInt8} {i : Nat} (h : i < l.length) : (l.map byteV)[i]? = some (byteV l[i]) := by simp [h]
theorem cutL_bytes {l : List UInt8} {o n : Nat} (h : o + n ≤ l.length) : cutL (l.map byteV) o n = some (((l.drop o).take n).map byteV) := by
  simp [cutL, h, List.map_take, List.map_drop]
theorem arr1_0 (a : Value) : #[a][0]? = some a := rfl
theorem arr2_0 (a b : Value) : #[a, b][0]? = some a := rfl
theorem arr2_1 (a b : Value) : #[a, b][1]? = some b := rfl
theorem arr3_0 (a b c : Value) : #[a, b, c][0]? = some a := rfl
theorem arr3_1 (a b c : Value) : #[a, b, c][1]? = some b := rfl
theorem arr3_2 (a b c : Value) : #[a, b, c][2]? = some c := rfl
theorem arr4_0 (a b c d : Value) : #[a, b, c, d][0]? = some a := rfl
theorem arr4_1 (a b c d : Value) : #[a, b, c, d][1]? = some b := rfl
theorem arr4_2 (a b c d : Value) : #[a, b, c, d][2]? = some c := rfl
theorem arr4_3 (a b c d : Value) : #[a, b, c, d][3]? = some d := rfl
theorem strEq_self (s : ByteArray) : strEq s s = true := by simp [strEq]
theorem mk_size (l : List UInt8) : (⟨l.toArray⟩ : ByteArray).size = l.length := by
  show l.toArray.size = _
  simp
theorem mk_get {l : List UInt8} {i : Nat} (h : i < l.length) : (⟨l.toArray⟩ : ByteArray)[i]? = some l[i] := by
  have hs : i < (⟨l.toArray⟩ : ByteArray).size := by rw [mk_size]; exact h
  rw [getElem?_pos (⟨l.toArray⟩ : ByteArray) i hs]
  rfl
theorem mk_extract (l : List UInt8) (a b : Nat) : (⟨l.toArray⟩ : ByteArray).extract a b = ⟨((l.take b).drop a).toArray⟩ := by
  apply ByteArray.ext
  simp [List.extract_eq_take_drop, List.drop_take]
theorem mk_app (a b : List UInt8) : (⟨a.toArray⟩ : ByteArray) ++ ⟨b.toArray⟩ = ⟨(a ++ b).toArray⟩ := by
  apply ByteArray.ext
  simp
theorem mk_data (l : List UInt8) : (⟨l.toArray⟩ : ByteArray).data.toList = l := by simp
theorem strEq_mk (a b : List UInt8) : strEq ⟨a.toArray⟩ ⟨b.toArray⟩ = decide (a = b) := by
  have h : ∀ l : List UInt8, (⟨l.toArray⟩ : ByteArray).toList = l := fun l => by simp
  simp only [strEq, h]
  by_cases e : a = b
  · subst e; simp
  · simp [e]
theorem mapM_byteOf (l : List UInt8) : (l.map byteV).mapM byteOf = some l := map_ofNat_byteOf l
/-- The first place of a byte. -/
theorem firstIdx_iff (l : List UInt8) (c : UInt8) (n : Nat) : firstIdx ⟨l.toArray⟩ c = (n : Int) ↔ l[n]? = some c ∧ ∀ j, j < n → l[j]? ≠ some c := by
  have hp : ∀ i, i < l.length → (((⟨l.toArray⟩ : ByteArray)[i]! == c) = true ↔ l[i]? = some c) := fun i hi => by
    have hs : i < (⟨l.toArray⟩ : ByteArray).size := by rw [mk_size]; exact hi
    rw [getElem!_pos (⟨l.toArray⟩ : ByteArray) i hs, List.getElem?_eq_getElem hi]
    simp only [beq_iff_eq, Option.some.injEq]
    exact Iff.rfl
  unfold firstIdx
  rw [mk_size]
  constructor
  · intro h
    split at h
    · rename_i i hi
      have : i = n := by omega
      subst this
      rw [List.find?_range_eq_some] at hi
      obtain ⟨h1, h2, h3⟩ := hi
      have hl : i < l.length := by simpa using h2
      refine ⟨(hp i hl).1 h1, fun j hj hc => ?_⟩
      have := h3 j hj
      rw [(hp j (by omega)).2 hc] at this
      cases this
    · omega
  · rintro ⟨h1, h2⟩
    have hl : n < l.length := by
      rcases Nat.lt_or_ge n l.length with h | h
      · exact h
      · rw [List.getElem?_eq_none h] at h1; cases h1
    have : (List.range l.length).find? (fun i => (⟨l.toArray⟩ : ByteArray)[i]! == c) = some n := by
      rw [List.find?_range_eq_some]
      refine ⟨(hp n hl).2 h1, by simpa using hl, fun j hj => ?_⟩
      have := h2 j hj
      cases hb : ((⟨l.toArray⟩ : ByteArray)[j]! == c) with
      | false => rfl
      | true => exact absurd ((hp j (by omega)).1 hb) this
    rw [this]
theorem FltG_true (o : Option Value) : FltG true o = o := rfl
theorem FltG_false (o : Option Value) : FltG false o = some undef := rfl
theorem fill_nil (z : List Value) : fill z [] = some z := (rfl)
theorem fill_one {z : List Value} {o : Nat} {v : Value} {r : List (Nat × Nat × Value)} (hv : cellsOf v = some [v]) (h : o < z.length) : fill z ((o, 1, v) :: r) = fill (z.set o v) r := by
  simp only [fill, hv]
  rw [if_pos ⟨rfl, by omega⟩, splice_one h]
theorem fill_int {z : List Value} {o : Nat} {r : List (Nat × Nat × Value)} (k : IntKind) (n : Int) (h : o < z.length) : fill z ((o, 1, .int k n) :: r) = fill (z.set o (.int k n)) r := fill_one rfl h
theorem fill_bool {z : List Value} {o : Nat} {r : List (Nat × Nat × Value)} (b : Bool) (h : o < z.length) : fill z ((o, 1, .bool b) :: r) = fill (z.set o (.bool b)) r := fill_one rfl h
theorem fill_string {z : List Value} {o : Nat} {r : List (Nat × Nat × Value)} (x : ByteArray) (h : o < z.length) : fill z ((o, 1, .string x) :: r) = fill (z.set o (.string x)) r := fill_one rfl h
theorem fill_ptr {z : List Value} {o : Nat} {r : List (Nat × Nat × Value)} (a : Option Addr) (h : o < z.length) : fill z ((o, 1, .pointer a) :: r) = fill (z.set o (.pointer a)) r := fill_one rfl h
theorem fill_slice {z : List Value} {o : Nat} {r : List (Nat × Nat × Value)} (a : Option Addr) (l c : Nat) (h : o < z.length) : fill z ((o, 1, .slice a l c) :: r) = fill (z.set o (.slice a l c)) r := fill_one rfl h
theorem fill_map {z : List Value} {o : Nat} {r : List (Nat × Nat × Value)} (a : Option Nat) (h : o < z.length) : fill z ((o, 1, .map a) :: r) = fill (z.set o (.map a)) r := fill_one rfl h
theorem fill_nilFunc {z : List Value} {o : Nat} {r : List (Nat × Nat × Value)}  (h : o < z.length) : fill z ((o, 1, .nilFunc) :: r) = fill (z.set o (.nilFunc)) r := fill_one rfl h
theorem fill_iface {z : List Value} {o : Nat} {r : List (Nat × Nat × Value)} (T : TypeId) (v : Value) (h : o < z.length) : fill z ((o, 1, .iface T v) :: r) = fill (z.set o (.iface T v)) r := fill_one rfl h
theorem fill_nilIface {z : List Value} {o : Nat} {r : List (Nat × Nat × Value)}  (h : o < z.length) : fill z ((o, 1, .nilIface) :: r) = fill (z.set o (.nilIface)) r := fill_one rfl h
theorem fill_bytes {z : List Value} {o n : Nat} {r : List (Nat × Nat × Value)} {l : List UInt8} (hl : l.length = n) (h : o + n ≤ z.length) : fill z ((o, n, .agg (l.map byteV).toArray) :: r) = fill (splice z o (l.map byteV)) r := by
  simp only [fill, cellsOf_bytes]
  rw [if_pos ⟨by simpa using hl, h⟩]
theorem getD_snoc {α : Type} (g : List α) (o d : α) : (g ++ [o]).getD g.length d = o := by simp
theorem set_snoc {α : Type} (g : List α) (o x : α) : (g ++ [o]).set g.length x = g ++ [x] := by simp
theorem byteOf_one {v : Nat} : ([.int .u8 (v : Int)] : List Value).mapM byteOf = some [UInt8.ofNat v] := by simp [byteOf]
/-- What a bar is told again. -/
theorem BarK_some {P : Program} {G : Nat} {c : AIns} {chk : List AIns} {r : List DItem} {Q : AExit → ASt → Prop} {t : Tmps} {m : AMem} {ds : List Deferred} {d : Nat} (hd : c.dst = some d) :
    BarK P G (c :: chk) r Q ⟨t, m, ds⟩ = (valF c t m = some (t d) ∧ BarK P G chk r Q ⟨t, m, ds⟩) := by
  simp only [BarK, chkOk, hd]
  exact propext ⟨fun ⟨⟨a, b⟩, c⟩ => ⟨a, b, c⟩, fun ⟨a, b, c⟩ => ⟨⟨a, b⟩, c⟩⟩
theorem BarK_op {P : Program} {G : Nat} {g : Option (Nat × Bool)} {d : Nat} {o : AOp} {chk : List AIns} {r : List DItem} {Q : AExit → ASt → Prop} {t : Tmps} {m : AMem} {ds : List Deferred} :
    BarK P G (.op g (some d) o :: chk) r Q ⟨t, m, ds⟩ = (valF (.op g (some d) o) t m = some (t d) ∧ BarK P G chk r Q ⟨t, m, ds⟩) := BarK_some rfl
end Go.AM
namespace Go.AM
set_option linter.unusedVariables false
set_option linter.unusedSimpArgs false

def deads : Nat → List AObj
  | 0 => []
  | k + 1 => .dead :: deads k
theorem deads_len (k : Nat) : (deads k).length = k := by induction k with | zero => rfl | succ k ih => simp [deads, ih]
theorem deads_get (k i : Nat) : (deads k).getD i .dead = .dead := by
  induction k generalizing i with
  | zero => simp [deads]
  | succ k ih => cases i with
    | zero => rfl
    | succ i => simpa [deads] using ih i
theorem mx_reserve (m : AMem) (l : List AObj) (k : Nat) : (mx m l).reserve k = mx m (l ++ deads k) := by
  refine AMem.ext' ?_ fun x => ?_
  · simp only [AMem.reserve, mx_size, List.length_append, deads_len]; omega
  · simp only [AMem.reserve, mx_get, mx_size]
    by_cases h1 : x < m.size
    · rw [if_pos (by omega), if_pos h1, if_pos h1]
    · rw [if_neg h1, if_neg h1]
      by_cases h2 : x < m.size + l.length
      · rw [if_pos h2]; simp only [List.getD]; rw [List.getElem?_append_left (by omega)]
      · rw [if_neg h2]
        have := deads_get k (x - m.size - l.length)
        simp only [List.getD] at this ⊢
        rw [List.getElem?_append_right (by omega)]; exact this.symm
theorem deads_1 : deads 1 = [.dead] := rfl
theorem deads_2 : deads 2 = [.dead, .dead] := rfl
theorem deads_3 : deads 3 = [.dead, .dead, .dead] := rfl
theorem deads_4 : deads 4 = [.dead, .dead, .dead, .dead] := rfl
theorem deads_5 : deads 5 = [.dead, .dead, .dead, .dead, .dead] := rfl
theorem deads_6 : deads 6 = [.dead, .dead, .dead, .dead, .dead, .dead] := rfl
theorem deads_7 : deads 7 = [.dead, .dead, .dead, .dead, .dead, .dead, .dead] := rfl
theorem deads_8 : deads 8 = [.dead, .dead, .dead, .dead, .dead, .dead, .dead, .dead] := rfl
theorem deads_9 : deads 9 = [.dead, .dead, .dead, .dead, .dead, .dead, .dead, .dead, .dead] := rfl
theorem deads_10 : deads 10 = [.dead, .dead, .dead, .dead, .dead, .dead, .dead, .dead, .dead, .dead] := rfl

/-- The place number j, from base on. -/
def slotAt (base j : Nat) : Nat := base + j
theorem slotAt_add (x a j : Nat) : slotAt (x + a) j = x + (a + j) := Nat.add_assoc _ _ _
theorem slotAt_0 (m : AMem) (j : Nat) : slotAt m.size j = m.size + j := rfl

section
variable {P : Program} {G base : Nat} {Q : AExit → ASt → Prop} {K : ASt → Prop} {t : Tmps} {m : AMem} {ds : List Deferred} {s : ASt}

@[congr] theorem DWA_congr {c : List AItem} {b b' : Nat} {s s' : ASt} (hb : b = b') (h : s = s') : DWA P G b c Q s = DWA P G b' c Q s' := by rw [hb, h]
theorem W_drawA (k : Nat) (is : List AItem) : W P G (.drawA k is) Q ⟨t, m, ds⟩ = DWA P G m.size is Q ⟨t, m.reserve k, ds⟩ := rfl
theorem DWA_nil : DWA P G base [] Q s = Q .normal s := rfl
def FltA (P : Program) (G base : Nat) (o : Option Value) (d : Option Nat) (r : List AItem) (Q : AExit → ASt → Prop) (t : Tmps) (m : AMem) (ds : List Deferred) : Prop :=
  match o with | some v => DWA P G base r Q ⟨updO t d v, m, ds⟩ | none => False
@[congr] theorem FltA_congr {o o' : Option Value} {d : Option Nat} {r : List AItem} (h : o = o') : FltA P G base o d r Q t m ds = FltA P G base o' d r Q t m ds := by rw [h]
theorem FltA_some (v : Value) (d : Option Nat) (r : List AItem) : FltA P G base (some v) d r Q t m ds = DWA P G base r Q ⟨updO t d v, m, ds⟩ := rfl
theorem DWA_f (i : AIns) (r : List AItem) : DWA P G base (.f i :: r) Q ⟨t, m, ds⟩ = FltA P G base (valF i t m) i.dst r Q t m ds := by
  simp only [DWA, FltA]
  cases valF i t m <;> simp
/-- A new block under a guard. -/
def gob (b : Bool) (o : AObj) : AObj := if b then o else .dead
theorem gob_true (o : AObj) : gob true o = o := rfl
theorem gob_false (o : AObj) : gob false o = .dead := rfl
@[congr] theorem gob_congr {b b' : Bool} {o o' : AObj} (h : b = b') (ho : b' = true → o = o') : gob b o = gob b' o' := by
  subst h; cases b <;> simp_all [gob]
def NewA (P : Program) (G base : Nat) (b : Bool) (x : AObj) (j : Nat) (o : Option (Value × AObj)) (d : Option Nat) (r : List AItem) (Q : AExit → ASt → Prop) (t : Tmps) (m : AMem) (ds : List Deferred) : Prop :=
  x = .dead ∧ if b then (match o with | some (v, ob) => DWA P G base r Q ⟨updO t d v, m.set (slotAt base j) ob, ds⟩ | none => False) else DWA P G base r Q ⟨updO t d undef, m, ds⟩
@[congr] theorem NewA_congr {b b' : Bool} {x x' : AObj} {j : Nat} {o o' : Option (Value × AObj)} {d : Option Nat} {r : List AItem} (h : b = b') (hx : x = x') (ho : b' = true → o = o') : NewA P G base b x j o d r Q t m ds = NewA P G base b' x' j o' d r Q t m ds := by
  subst h hx; cases b <;> simp_all [NewA]
theorem DWA_a (d : Option Nat) (o : AOp) (j : Nat) (r : List AItem) : DWA P G base (.a (.op none d o) j :: r) Q ⟨t, m, ds⟩ = NewA P G base true (m.get (slotAt base j)) j (allocV o t (slotAt base j)) d r Q t m ds := by
  simp only [DWA, NewA, slotAt, wanted, AIns.guard, allocI, AIns.dst, if_true]
  rcases allocV o t (base + j) with _ | ⟨v, ob⟩
  · simp
  · simp
    try (intro _; constructor
         · rintro ⟨v', o', ⟨rfl, rfl⟩, h⟩; exact h
         · intro h; exact ⟨v, ob, ⟨rfl, rfl⟩, h⟩)
theorem DWA_ag (g : Nat × Bool) (d : Option Nat) (o : AOp) (j : Nat) (r : List AItem) : DWA P G base (.a (.op (some g) d o) j :: r) Q ⟨t, m, ds⟩ = NewA P G base (wanted (some g) t) (m.get (slotAt base j)) j (allocV o t (slotAt base j)) d r Q t m ds := by
  change (m.get (base + j) = .dead ∧ if wanted (some g) t = true then (∃ v ob, allocV o t (base + j) = some (v, ob) ∧ DWA P G base r Q ⟨updO t d v, m.set (base + j) ob, ds⟩) else DWA P G base r Q ⟨updO t d undef, m, ds⟩) =
    (m.get (base + j) = .dead ∧ if wanted (some g) t = true then (match allocV o t (base + j) with | some (v, ob) => DWA P G base r Q ⟨updO t d v, m.set (base + j) ob, ds⟩ | none => False) else DWA P G base r Q ⟨updO t d undef, m, ds⟩)
  rcases allocV o t (base + j) with _ | ⟨v, ob⟩
  · simp
  · by_cases h : wanted (some g) t = true
    · rw [if_pos h, if_pos h]
      refine propext (and_congr_right fun _ => ⟨?_, fun h => ⟨v, ob, rfl, h⟩⟩)
      rintro ⟨v', o', he, h⟩; cases he; exact h
    · rw [if_neg h, if_neg h]
theorem NewA_true (j : Nat) (v : Value) (ob : AObj) (d : Option Nat) (r : List AItem) : NewA P G base true .dead j (some (v, ob)) d r Q t m ds = DWA P G base r Q ⟨updO t d v, m.set (slotAt base j) ob, ds⟩ := by simp [NewA]
theorem NewA_false (j : Nat) (o : Option (Value × AObj)) (d : Option Nat) (r : List AItem) : NewA P G base false .dead j o d r Q t m ds = DWA P G base r Q ⟨updO t d undef, m, ds⟩ := by simp [NewA]
theorem allocV_new (b : Nat) (e : TypeId) (z : List Value) : allocV (.new e z) t b = some (.pointer (some ⟨b, 0, none⟩), .cells z e true .exact) := rfl
def boxO (e : TypeId) (b : Nat) (c : Option (List Value)) : Option (Value × AObj) := match c with | some c => some (.pointer (some ⟨b, 0, none⟩), .cells c e true .exact) | none => none
theorem boxO_some (e : TypeId) (b : Nat) (c : List Value) : boxO e b (some c) = some (.pointer (some ⟨b, 0, none⟩), .cells c e true .exact) := rfl
theorem allocV_box (b : Nat) (e : TypeId) (x : AOpd) : allocV (.box e x) t b = boxO e b (cellsOf (x.ev t)) := rfl
def rowO (e : TypeId) (len b : Nat) (c : Option (List Value)) : Option (Value × AObj) := match c with | some c => some (.slice (some ⟨b, 0, none⟩) len len, .cells c e true .exact) | none => none
theorem rowO_some (e : TypeId) (len b : Nat) (c : List Value) : rowO e len b (some c) = some (.slice (some ⟨b, 0, none⟩) len len, .cells c e true .exact) := rfl
theorem allocV_bldSl (b : Nat) (e : TypeId) (len : Nat) (z : List Value) (ps : List (Nat × Nat × AOpd)) : allocV (.bldSl e len z ps) t b = rowO e len b (fill z (ps.map fun p => (p.1, p.2.1, p.2.2.ev t))) := rfl
def s2bO (e : TypeId) (b : Nat) (v : Value) : Option (Value × AObj) := match v with
    | .string s => if s.size ≤ 9223372036854775807 then some (.slice (some ⟨b, 0, none⟩) s.size openCap, .cells (s.data.toList.map byteV) e true (.room [.int .u8 0])) else none
    | _ => none
theorem s2bO_some (e : TypeId) (b : Nat) {s : ByteArray} (h : s.size ≤ 9223372036854775807) : s2bO e b (.string s) = some (.slice (some ⟨b, 0, none⟩) s.size openCap, .cells (s.data.toList.map byteV) e true (.room [.int .u8 0])) := by simp [s2bO, h]
theorem allocV_s2b (b : Nat) (e : TypeId) (x : AOpd) : allocV (.s2b e x) t b = s2bO e b (x.ev t) := rfl
theorem allocV_mkM (b : Nat) : allocV .mkM t b = some (.map (some b), .map #[] 0) := rfl
def mkSlO (e : TypeId) (sz : Nat) (z : List Value) (bytes b : Nat) (l c : Value) : Option (Value × AObj) := match l, c with
    | .int _ l, .int _ c => if 0 ≤ l ∧ l ≤ c ∧ bytes * c ≤ 281474976710656 ∧ c ≤ 281474976710656 ∧ z.length = sz then
        some (.slice (some ⟨b, 0, none⟩) l.toNat c.toNat, .cells (rep z c.toNat) e true .exact) else none
    | _, _ => none
theorem mkSlO_some (e : TypeId) (sz : Nat) (z : List Value) (bytes b : Nat) (k k' : IntKind) {l c : Int} (h : 0 ≤ l ∧ l ≤ c ∧ bytes * c ≤ 281474976710656 ∧ c ≤ 281474976710656 ∧ z.length = sz) :
    mkSlO e sz z bytes b (.int k l) (.int k' c) = some (.slice (some ⟨b, 0, none⟩) l.toNat c.toNat, .cells (rep z c.toNat) e true .exact) := by simp only [mkSlO, if_pos h]
theorem allocV_mkSl (b : Nat) (e : TypeId) (sz : Nat) (z : List Value) (bytes : Nat) (l c : AOpd) : allocV (.mkSl e sz z bytes l c) t b = mkSlO e sz z bytes b (l.ev t) (c.ev t) := rfl

/-- Behind a bar. -/
def BarA (P : Program) (G base : Nat) (m : AMem) (chk : List AIns) (sl : List Nat) (r : List AItem) (Q : AExit → ASt → Prop) : ASt → Prop := fun s' => slOk base m s'.m sl ∧ chkOk s' chk ∧ DWA P G base r Q s'
theorem BarA_nil (r : List AItem) : BarA P G base m [] [] r Q s = DWA P G base r Q s := by simp [BarA, chkOk, slOk]
theorem BarA_sl {m' : AMem} (j : Nat) (chk : List AIns) (sl : List Nat) (r : List AItem) : BarA P G base m chk (j :: sl) r Q ⟨t, m', ds⟩ = (m'.get (slotAt base j) = m.get (slotAt base j) ∧ BarA P G base m chk sl r Q ⟨t, m', ds⟩) := by
  simp only [BarA, slOk, slotAt, and_assoc]
theorem BarA_op {m' : AMem} {g : Option (Nat × Bool)} {d : Nat} {o : AOp} {chk : List AIns} {r : List AItem} : BarA P G base m (.op g (some d) o :: chk) [] r Q ⟨t, m', ds⟩ = (valF (.op g (some d) o) t m' = some (t d) ∧ BarA P G base m chk [] r Q ⟨t, m', ds⟩) := by
  simp only [BarA, slOk, true_and, chkOk, AIns.dst, and_assoc]
theorem DWA_bop (d : Option Nat) (o : AOp) (chk : List AIns) (sl : List Nat) (r : List AItem) : DWA P G base (.b (.op none d o) chk sl :: r) Q ⟨t, m, ds⟩ = OpB (stepOp o t m) d (BarA P G base m chk sl r Q) t ds := rfl
theorem DWA_bopg (g : Nat × Bool) (d : Option Nat) (o : AOp) (chk : List AIns) (sl : List Nat) (r : List AItem) : DWA P G base (.b (.op (some g) d o) chk sl :: r) Q ⟨t, m, ds⟩ =
    GrdW (wanted (some g) t) (OpB (stepOp o t m) d (BarA P G base m chk sl r Q) t ds) (BarA P G base m chk sl r Q ⟨updO t d undef, m, ds⟩) := rfl
theorem DWA_call (d : Option Nat) (f : FuncId) (as : List AOpd) (chk : List AIns) (sl : List Nat) (r : List AItem) : DWA P G base (.b (.call none d f as) chk sl :: r) Q ⟨t, m, ds⟩ =
    ACall P G f (as.map (·.ev t)) m (CallK d ⟨t, m, ds⟩ (BarA P G base m chk sl r Q) (PanAny Q)) := rfl
theorem DWA_callg (g : Nat × Bool) (d : Option Nat) (f : FuncId) (as : List AOpd) (chk : List AIns) (sl : List Nat) (r : List AItem) : DWA P G base (.b (.call (some g) d f as) chk sl :: r) Q ⟨t, m, ds⟩ =
    GrdW (wanted (some g) t) (ACall P G f (as.map (·.ev t)) m (CallK d ⟨t, m, ds⟩ (BarA P G base m chk sl r Q) (PanAny Q))) (BarA P G base m chk sl r Q ⟨updO t d undef, m, ds⟩) := rfl

/-- A call of a function value. -/
def CallvW (P : Program) (G : Nat) (v : Value) (args : List Value) (m : AMem) (R : AEnd → AMem → Prop) : Prop :=
  match v with | .func (.func f) first captured => ACall P G f (first.toList ++ args ++ captured.toList) m R | .func (.yield l) _ _ => AYield P G l args m R | _ => False
@[congr] theorem CallvW_congr {v v' : Value} {as as' : List Value} {m m' : AMem} {R : AEnd → AMem → Prop} (h : v = v') (k : as = as') (l : m = m') : CallvW P G v as m R = CallvW P G v' as' m' R := by rw [h, k, l]
theorem CallvW_func (f : FuncId) (a b : List Value) (as : List Value) (m : AMem) (R : AEnd → AMem → Prop) : CallvW P G (.func (.func f) a.toArray b.toArray) as m R = ACall P G f (a ++ as ++ b) m R := by
  simp only [CallvW]
theorem CallvW_yield (l : Nat) (a b : Array Value) (as : List Value) (m : AMem) (R : AEnd → AMem → Prop) : CallvW P G (.func (.yield l) a b) as m R = AYield P G l as m R := rfl
theorem WI_callv (d : Option Nat) (x : AOpd) (as : List AOpd) (r : List AIns) : WI P G (.callv none d x as :: r) Q ⟨t, m, ds⟩ =
    CallvW P G (x.ev t) (as.map (·.ev t)) m (CallK d ⟨t, m, ds⟩ (WI P G r Q) Q) := rfl
theorem WI_callvg (g : Nat × Bool) (d : Option Nat) (x : AOpd) (as : List AOpd) (r : List AIns) : WI P G (.callv (some g) d x as :: r) Q ⟨t, m, ds⟩ =
    GrdW (wanted (some g) t) (CallvW P G (x.ev t) (as.map (·.ev t)) m (CallK d ⟨t, m, ds⟩ (WI P G r Q) Q)) (WI P G r Q ⟨updO t d undef, m, ds⟩) := rfl
theorem DW_callv (d : Option Nat) (x : AOpd) (as : List AOpd) (chk : List AIns) (r : List DItem) : DW P G (.b (.callv none d x as) chk :: r) Q ⟨t, m, ds⟩ =
    CallvW P G (x.ev t) (as.map (·.ev t)) m (CallK d ⟨t, m, ds⟩ (BarK P G chk r Q) (PanAny Q)) := rfl
theorem DW_callvg (g : Nat × Bool) (d : Option Nat) (x : AOpd) (as : List AOpd) (chk : List AIns) (r : List DItem) : DW P G (.b (.callv (some g) d x as) chk :: r) Q ⟨t, m, ds⟩ =
    GrdW (wanted (some g) t) (CallvW P G (x.ev t) (as.map (·.ev t)) m (CallK d ⟨t, m, ds⟩ (BarK P G chk r Q) (PanAny Q))) (BarK P G chk r Q ⟨updO t d undef, m, ds⟩) := rfl
theorem DWA_callv (d : Option Nat) (x : AOpd) (as : List AOpd) (chk : List AIns) (sl : List Nat) (r : List AItem) : DWA P G base (.b (.callv none d x as) chk sl :: r) Q ⟨t, m, ds⟩ =
    CallvW P G (x.ev t) (as.map (·.ev t)) m (CallK d ⟨t, m, ds⟩ (BarA P G base m chk sl r Q) (PanAny Q)) := rfl
theorem DWA_callvg (g : Nat × Bool) (d : Option Nat) (x : AOpd) (as : List AOpd) (chk : List AIns) (sl : List Nat) (r : List AItem) : DWA P G base (.b (.callv (some g) d x as) chk sl :: r) Q ⟨t, m, ds⟩ =
    GrdW (wanted (some g) t) (CallvW P G (x.ev t) (as.map (·.ev t)) m (CallK d ⟨t, m, ds⟩ (BarA P G base m chk sl r Q) (PanAny Q))) (BarA P G base m chk sl r Q ⟨updO t d undef, m, ds⟩) := rfl

/-- A capacity, asked for. -/
@[congr] theorem capW_congr {sz : Nat} {v v' : Value} {m m' : AMem} {K : Value → AMem → Prop} (h : v = v') (k : m = m') : capW sz v m K = capW sz v' m' K := by rw [h, k]
theorem WI_cap (d : Option Nat) (sz : Nat) (x : AOpd) (r : List AIns) : WI P G (.cap none d sz x :: r) Q ⟨t, m, ds⟩ = capW sz (x.ev t) m fun v m' => WI P G r Q ⟨updO t d v, m', ds⟩ := rfl
theorem capW_nil0 (sz : Nat) (m : AMem) (K : Value → AMem → Prop) : capW sz (.slice none 0 0) m K = K (.int .i64 0) m := by
  simp only [capW, eq_iff_iff]
  exact ⟨fun h => h.2, fun h => ⟨Nat.ne_of_lt (openCap_lt (by omega)), h⟩⟩
end
end Go.AM
namespace Go.AM
set_option maxRecDepth 100000
theorem amT : type_of% @W_skip ∧ type_of% @W_seq ∧ type_of% @W_reg ∧ type_of% @W_block ∧ type_of% @W_exit ∧ type_of% @W_ret ∧ type_of% @W_cond ∧ type_of% @W_draw ∧ type_of% @WI_nil ∧ type_of% @WI_op ∧ type_of% @WI_opg ∧ type_of% @WI_call ∧ type_of% @WI_callg ∧ type_of% @DW_call ∧ type_of% @DW_callg ∧ type_of% @OpI_some ∧ type_of% @OpG_some ∧ type_of% @OpG_true ∧ type_of% @OpG_false ∧ type_of% @BoolW_true ∧ type_of% @BoolW_false ∧ type_of% @GrdW_true ∧ type_of% @GrdW_false ∧ type_of% @SeqK_normal ∧ type_of% @SeqK_exit ∧ type_of% @SeqK_ret ∧ type_of% @SeqK_pan ∧ type_of% @BlockK_normal ∧ type_of% @BlockK_exit ∧ type_of% @BlockK_ret ∧ type_of% @BlockK_pan ∧ type_of% @LoopK_exit ∧ type_of% @LoopK_ret ∧ type_of% @LoopK_pan ∧ type_of% @CallK_ret ∧ type_of% @CallK_pan ∧ type_of% @RetK_ret ∧ type_of% @RetK_normal ∧ type_of% @RetK_pan ∧ type_of% @ResW_some ∧ type_of% @DW_nil ∧ type_of% @DW_f ∧ type_of% @DW_bop ∧ type_of% @FltW_some ∧ type_of% @FltG_some ∧ type_of% @fstO_some ∧ type_of% @valF_op ∧ type_of% @valF_opg ∧ type_of% @dst_op ∧ type_of% @dst_call ∧ type_of% @BarK_nil ∧ type_of% @OpB_some ∧ type_of% @gv_true ∧ type_of% @gv_false ∧ type_of% @sel2_true ∧ type_of% @sel2_false ∧ type_of% @sel2_and ∧ type_of% @sel2_or ∧ type_of% @beq_true ∧ type_of% @beq_false ∧ type_of% @updO_some ∧ type_of% @updO_none ∧ type_of% @upd_apply ∧ type_of% @sel_true ∧ type_of% @sel_false ∧ type_of% @ev_t ∧ type_of% @ev_c ∧ type_of% @wanted_some ∧ type_of% @List.getD_cons_zero.{0} ∧ type_of% @List.getD_cons_succ.{0} ∧ type_of% @stepOp_mov ∧ type_of% @stepOp_pick' ∧ type_of% @pickV_bool ∧ type_of% @stepOp_new ∧ type_of% @stepOp_box ∧ type_of% @stepOp_ld1 ∧ type_of% @stepOp_ldn ∧ type_of% @stepOp_st ∧ type_of% @stepOp_nchk ∧ type_of% @stepOp_bin ∧ type_of% @stepOp_eql ∧ type_of% @stepOp_un ∧ type_of% @stepOp_cvt ∧ type_of% @stepOp_idc ∧ type_of% @stepOp_slA ∧ type_of% @stepOp_fad ∧ type_of% @stepOp_iadA ∧ type_of% @stepOp_iadV ∧ type_of% @stepOp_ixS ∧ type_of% @stepOp_ext ∧ type_of% @stepOp_lenS ∧ type_of% @stepOp_lenV ∧ type_of% @stepOp_lenN ∧ type_of% @stepOp_toU ∧ type_of% @stepOp_frU ∧ type_of% @binV_add ∧ type_of% @binV_sub ∧ type_of% @binV_mul ∧ type_of% @binV_and ∧ type_of% @binV_or ∧ type_of% @binV_xor ∧ type_of% @binV_andNot ∧ type_of% @binV_eql ∧ type_of% @binV_neq ∧ type_of% @binV_lss ∧ type_of% @binV_leq ∧ type_of% @binV_gtr ∧ type_of% @binV_geq ∧ type_of% @binV_quo ∧ type_of% @binV_rem ∧ type_of% @binV_shl ∧ type_of% @binV_shr ∧ type_of% @binV_seql ∧ type_of% @binV_sneq ∧ type_of% @binV_sadd ∧ type_of% @unV_neg ∧ type_of% @unV_not ∧ type_of% @eqV_bool ∧ type_of% @addr_ptr ∧ type_of% @cellsOf_int ∧ type_of% @cellsOf_bool ∧ type_of% @cellsOf_string ∧ type_of% @cellsOf_ptr ∧ type_of% @cellsOf_slice ∧ type_of% @cellsOf_bytes ∧ type_of% @AMem.size_set ∧ type_of% @ifp.{1} ∧ type_of% @ifn.{1} ∧ type_of% @wrap_i64 ∧ type_of% @wrap_u64 ∧ type_of% @wrap_u8 ∧ type_of% @wrap_i32 ∧ type_of% @Option.map_some.{0, 0} ∧ type_of% @Option.some.injEq.{0} ∧ type_of% @if_true.{1} ∧ type_of% @if_false.{1} ∧ type_of% @eq_self.{1} ∧ type_of% @true_and ∧ type_of% @and_true ∧ type_of% @Bool.true_and ∧ type_of% @Bool.and_true ∧ type_of% @Bool.false_or ∧ type_of% @Bool.or_false ∧ type_of% @Bool.not_true ∧ type_of% @Bool.not_false ∧ type_of% @beq_self_eq_true.{0} ∧ type_of% @Bool.false_and ∧ type_of% @Bool.and_false ∧ type_of% @Bool.true_or ∧ type_of% @Bool.or_true ∧ type_of% @Nat.mul_one ∧ type_of% @Nat.add_zero ∧ type_of% @Nat.zero_add ∧ type_of% @Nat.zero_mul ∧ type_of% @Int.toNat_natCast ∧ type_of% @ne_eq.{1} ∧ type_of% @not_false_eq_true ∧ type_of% @List.map_cons.{0, 0} ∧ type_of% @List.map_nil.{0, 0} ∧ type_of% @decide_true ∧ type_of% @decide_false ∧ type_of% @decide_eq_true_eq ∧ type_of% @W_label ∧ type_of% @W_goto ∧ type_of% @SeqK_goto ∧ type_of% @BlockK_goto ∧ type_of% @LoopK_goto ∧ type_of% @JumpK_normal ∧ type_of% @JumpK_exit ∧ type_of% @JumpK_ret ∧ type_of% @JumpK_pan ∧ type_of% @JumpK_goto ∧ type_of% @mx_reserve ∧ type_of% @deads_1 ∧ type_of% @deads_2 ∧ type_of% @deads_3 ∧ type_of% @deads_4 ∧ type_of% @deads_5 ∧ type_of% @deads_6 ∧ type_of% @deads_7 ∧ type_of% @deads_8 ∧ type_of% @deads_9 ∧ type_of% @deads_10 ∧ type_of% @Option.map_none.{0, 0} ∧ type_of% @slotAt_add ∧ type_of% @slotAt_0 ∧ type_of% @W_drawA ∧ type_of% @DWA_nil ∧ type_of% @FltA_some ∧ type_of% @DWA_f ∧ type_of% @gob_true ∧ type_of% @gob_false ∧ type_of% @DWA_a ∧ type_of% @DWA_ag ∧ type_of% @NewA_true ∧ type_of% @NewA_false ∧ type_of% @allocV_new ∧ type_of% @boxO_some ∧ type_of% @allocV_box ∧ type_of% @rowO_some ∧ type_of% @allocV_bldSl ∧ type_of% @s2bO_some ∧ type_of% @allocV_s2b ∧ type_of% @allocV_mkM ∧ type_of% @mkSlO_some ∧ type_of% @allocV_mkSl ∧ type_of% @BarA_nil ∧ type_of% @BarA_sl ∧ type_of% @BarA_op ∧ type_of% @DWA_bop ∧ type_of% @DWA_bopg ∧ type_of% @DW_bopg ∧ type_of% @DWA_call ∧ type_of% @DWA_callg ∧ type_of% @CallvW_func ∧ type_of% @WI_callv ∧ type_of% @WI_callvg ∧ type_of% @DW_callv ∧ type_of% @DW_callvg ∧ type_of% @DWA_callv ∧ type_of% @DWA_callvg ∧ type_of% @stepOp_mkF ∧ type_of% @List.toList_toArray.{0} ∧ type_of% @WI_cap ∧ type_of% @capW_nil0 ∧ type_of% @stepOp_s2s ∧ type_of% @stepOp_mkSl ∧ type_of% @stepOp_s2b ∧ type_of% @getD_snoc ∧ type_of% @set_snoc ∧ type_of% @AMem.set_set ∧ type_of% @AMem.get_set_self ∧ type_of% @AMem.get_set_ne ∧ type_of% @wrap_u32 ∧ type_of% @stepOp_ixA ∧ type_of% @List.getElem?_toArray.{0} ∧ type_of% @byteOf_one ∧ type_of% @mapM_byteOf ∧ type_of% @List.length_replicate.{0} ∧ type_of% @FltG_true ∧ type_of% @FltG_false ∧ type_of% @Int.cast_ofNat_Int ∧ type_of% @old_mx ∧ type_of% @mx_mx ∧ type_of% @List.append_nil.{0} ∧ type_of% @mx_frame ∧ type_of% @BarK_op ∧ type_of% @mx_push ∧ type_of% @mx_size ∧ type_of% @mx_new ∧ type_of% @mx_new0 ∧ type_of% @mx_set ∧ type_of% @mx_set0 ∧ type_of% @mx_old ∧ type_of% @mx_set_old ∧ type_of% @rd_def ∧ type_of% @wr_def ∧ type_of% @rdO_cells ∧ type_of% @wrO_cells ∧ type_of% @cutL_one ∧ type_of% @cutL_bytes ∧ type_of% @List.cons_append.{0} ∧ type_of% @List.nil_append.{0} ∧ type_of% @List.set_cons_zero.{0} ∧ type_of% @List.set_cons_succ.{0} ∧ type_of% @List.getElem?_cons_zero.{0} ∧ type_of% @List.getElem?_cons_succ.{0} ∧ type_of% @List.length_cons.{0} ∧ type_of% @List.length_nil.{0} ∧ type_of% @List.length_map.{0, 0} ∧ type_of% @List.length_set.{0} ∧ type_of% @List.length_append.{0} ∧ type_of% @List.take_length.{0} ∧ type_of% @List.take_of_length_le.{0} ∧ type_of% @List.drop_zero.{0} ∧ type_of% @arr1_0 ∧ type_of% @arr2_0 ∧ type_of% @arr2_1 ∧ type_of% @arr3_0 ∧ type_of% @arr3_1 ∧ type_of% @arr3_2 ∧ type_of% @arr4_0 ∧ type_of% @arr4_1 ∧ type_of% @arr4_2 ∧ type_of% @arr4_3 ∧ type_of% @strEq_self ∧ type_of% @OrW_true ∧ type_of% @stepOp_slS ∧ type_of% @stepOp_bld ∧ type_of% @fill_nil ∧ type_of% @fill_int ∧ type_of% @fill_bool ∧ type_of% @fill_string ∧ type_of% @fill_ptr ∧ type_of% @fill_slice ∧ type_of% @fill_map ∧ type_of% @fill_nilFunc ∧ type_of% @fill_iface ∧ type_of% @fill_nilIface ∧ type_of% @fill_bytes ∧ type_of% @stepOp_arrAt ∧ type_of% @stepOp_bldSl ∧ type_of% @splice_one ∧ type_of% @splice_all ∧ type_of% @bytes_get ∧ type_of% @mk_size ∧ type_of% @mk_get ∧ type_of% @mk_extract ∧ type_of% @mk_app ∧ type_of% @mk_data ∧ type_of% @srcLen_slice ∧ type_of% @srcLen_string :=
  ⟨@W_skip, @W_seq, @W_reg, @W_block, @W_exit, @W_ret, @W_cond, @W_draw, @WI_nil, @WI_op, @WI_opg, @WI_call, @WI_callg, @DW_call, @DW_callg, @OpI_some, @OpG_some, @OpG_true, @OpG_false, @BoolW_true, @BoolW_false, @GrdW_true, @GrdW_false, @SeqK_normal, @SeqK_exit, @SeqK_ret, @SeqK_pan, @BlockK_normal, @BlockK_exit, @BlockK_ret, @BlockK_pan, @LoopK_exit, @LoopK_ret, @LoopK_pan, @CallK_ret, @CallK_pan, @RetK_ret, @RetK_normal, @RetK_pan, @ResW_some, @DW_nil, @DW_f, @DW_bop, @FltW_some, @FltG_some, @fstO_some, @valF_op, @valF_opg, @dst_op, @dst_call, @BarK_nil, @OpB_some, @gv_true, @gv_false, @sel2_true, @sel2_false, @sel2_and, @sel2_or, @beq_true, @beq_false, @updO_some, @updO_none, @upd_apply, @sel_true, @sel_false, @ev_t, @ev_c, @wanted_some, @List.getD_cons_zero.{0}, @List.getD_cons_succ.{0}, @stepOp_mov, @stepOp_pick', @pickV_bool, @stepOp_new, @stepOp_box, @stepOp_ld1, @stepOp_ldn, @stepOp_st, @stepOp_nchk, @stepOp_bin, @stepOp_eql, @stepOp_un, @stepOp_cvt, @stepOp_idc, @stepOp_slA, @stepOp_fad, @stepOp_iadA, @stepOp_iadV, @stepOp_ixS, @stepOp_ext, @stepOp_lenS, @stepOp_lenV, @stepOp_lenN, @stepOp_toU, @stepOp_frU, @binV_add, @binV_sub, @binV_mul, @binV_and, @binV_or, @binV_xor, @binV_andNot, @binV_eql, @binV_neq, @binV_lss, @binV_leq, @binV_gtr, @binV_geq, @binV_quo, @binV_rem, @binV_shl, @binV_shr, @binV_seql, @binV_sneq, @binV_sadd, @unV_neg, @unV_not, @eqV_bool, @addr_ptr, @cellsOf_int, @cellsOf_bool, @cellsOf_string, @cellsOf_ptr, @cellsOf_slice, @cellsOf_bytes, @AMem.size_set, @ifp.{1}, @ifn.{1}, @wrap_i64, @wrap_u64, @wrap_u8, @wrap_i32, @Option.map_some.{0, 0}, @Option.some.injEq.{0}, @if_true.{1}, @if_false.{1}, @eq_self.{1}, @true_and, @and_true, @Bool.true_and, @Bool.and_true, @Bool.false_or, @Bool.or_false, @Bool.not_true, @Bool.not_false, @beq_self_eq_true.{0}, @Bool.false_and, @Bool.and_false, @Bool.true_or, @Bool.or_true, @Nat.mul_one, @Nat.add_zero, @Nat.zero_add, @Nat.zero_mul, @Int.toNat_natCast, @ne_eq.{1}, @not_false_eq_true, @List.map_cons.{0, 0}, @List.map_nil.{0, 0}, @decide_true, @decide_false, @decide_eq_true_eq, @W_label, @W_goto, @SeqK_goto, @BlockK_goto, @LoopK_goto, @JumpK_normal, @JumpK_exit, @JumpK_ret, @JumpK_pan, @JumpK_goto, @mx_reserve, @deads_1, @deads_2, @deads_3, @deads_4, @deads_5, @deads_6, @deads_7, @deads_8, @deads_9, @deads_10, @Option.map_none.{0, 0}, @slotAt_add, @slotAt_0, @W_drawA, @DWA_nil, @FltA_some, @DWA_f, @gob_true, @gob_false, @DWA_a, @DWA_ag, @NewA_true, @NewA_false, @allocV_new, @boxO_some, @allocV_box, @rowO_some, @allocV_bldSl, @s2bO_some, @allocV_s2b, @allocV_mkM, @mkSlO_some, @allocV_mkSl, @BarA_nil, @BarA_sl, @BarA_op, @DWA_bop, @DWA_bopg, @DW_bopg, @DWA_call, @DWA_callg, @CallvW_func, @WI_callv, @WI_callvg, @DW_callv, @DW_callvg, @DWA_callv, @DWA_callvg, @stepOp_mkF, @List.toList_toArray.{0}, @WI_cap, @capW_nil0, @stepOp_s2s, @stepOp_mkSl, @stepOp_s2b, @getD_snoc, @set_snoc, @AMem.set_set, @AMem.get_set_self, @AMem.get_set_ne, @wrap_u32, @stepOp_ixA, @List.getElem?_toArray.{0}, @byteOf_one, @mapM_byteOf, @List.length_replicate.{0}, @FltG_true, @FltG_false, @Int.cast_ofNat_Int, @old_mx, @mx_mx, @List.append_nil.{0}, @mx_frame, @BarK_op, @mx_push, @mx_size, @mx_new, @mx_new0, @mx_set, @mx_set0, @mx_old, @mx_set_old, @rd_def, @wr_def, @rdO_cells, @wrO_cells, @cutL_one, @cutL_bytes, @List.cons_append.{0}, @List.nil_append.{0}, @List.set_cons_zero.{0}, @List.set_cons_succ.{0}, @List.getElem?_cons_zero.{0}, @List.getElem?_cons_succ.{0}, @List.length_cons.{0}, @List.length_nil.{0}, @List.length_map.{0, 0}, @List.length_set.{0}, @List.length_append.{0}, @List.take_length.{0}, @List.take_of_length_le.{0}, @List.drop_zero.{0}, @arr1_0, @arr2_0, @arr2_1, @arr3_0, @arr3_1, @arr3_2, @arr4_0, @arr4_1, @arr4_2, @arr4_3, @strEq_self, @OrW_true, @stepOp_slS, @stepOp_bld, @fill_nil, @fill_int, @fill_bool, @fill_string, @fill_ptr, @fill_slice, @fill_map, @fill_nilFunc, @fill_iface, @fill_nilIface, @fill_bytes, @stepOp_arrAt, @stepOp_bldSl, @splice_one, @splice_all, @bytes_get, @mk_size, @mk_get, @mk_extract, @mk_app, @mk_data, @srcLen_slice, @srcLen_string⟩
theorem lenT : type_of% @List.length_map.{0,0} ∧ type_of% @List.length_cons.{0} ∧ type_of% @List.length_nil.{0} ∧ type_of% @List.length_set.{0} ∧ type_of% @List.length_append.{0} ∧ type_of% @List.length_replicate.{0} ∧ type_of% @List.length_take.{0} ∧ type_of% @List.length_drop.{0} ∧ type_of% @mk_size ∧ type_of% @AMem.size_set :=
  ⟨@List.length_map.{0,0}, @List.length_cons.{0}, @List.length_nil.{0}, @List.length_set.{0}, @List.length_append.{0}, @List.length_replicate.{0}, @List.length_take.{0}, @List.length_drop.{0}, @mk_size, @AMem.size_set⟩
end Go.AM
namespace Go.AM
set_option linter.unusedVariables false

def cutV (len cap : Nat) (lo hi mx : Option Value) : Option (Nat × Nat × Nat) :=
  let f := fun (x : Option Value) (d : Nat) => match x with | none => some (d : Int) | some (.int _ i) => some i | _ => none
  match f mx cap, f hi len, f lo 0 with
  | some m, some h, some l => if 0 ≤ l ∧ l ≤ h ∧ h ≤ m ∧ m ≤ cap then some (l.toNat, h.toNat, m.toNat) else none
  | _, _, _ => none
def slVv (sz : Nat) (x : Value) (lo hi mx : Option Value) (m : AMem) : Option (Value × AMem) :=
  match x with
  | .slice a l c =>
    if c = openCap then
      match a with
      | some ⟨b, o, none⟩ => match m.get b with
        | .cells x _ _ sp =>
          if sp.size = sz ∧ l ≤ (x.length - o) / sz then
            match cutV l ((x.length - o) / sz) lo hi mx with
            | some (i, h, k) =>
              match mx with
              | none => some (.slice (some ⟨b, o + i * sz, none⟩) (h - i) openCap, m)
              | some _ => if k ≤ 9223372036854775807 then some (.slice (some ⟨b, if k = i then o else o + i * sz, none⟩) (h - i) (k - i), m) else none
            | none => none
          else none
        | _ => none
      | _ => none
    else match cutV l c lo hi mx with
      | some (i, h, k) => match a with
        | none => some (.slice none (h - i) (k - i), m)
        | some ⟨b, o, none⟩ => some (.slice (some ⟨b, if k = i then o else o + i * sz, none⟩) (h - i) (k - i), m)
        | _ => none
      | none => none
  | _ => none
def cpyV (sz : Nat) (x y : Value) (m : AMem) : Option (Value × AMem) := match x, srcLen y with
  | .slice a dl _, some n => match srcCells sz (min n dl) y m with
    | some c => if c.length = min n dl * sz ∧ c.all oneCell = true then
        match a with
        | none => if min n dl = 0 then some (.int .i64 0, m) else none
        | some ⟨b, o, none⟩ => if min n dl = 0 then some (.int .i64 0, m) else (wr m b o c).map fun m' => (.int .i64 (min n dl : Nat), m')
        | _ => none
      else none
    | none => none
  | _, _ => none
def appV (e : TypeId) (sz bytes : Nat) (z : List Value) (x y : Value) (m : AMem) : Option (Value × AMem) := match srcLen y with
  | some n => match srcCells sz n y m with
    | some news => if z.length = sz ∧ 0 < sz ∧ news.all oneCell = true ∧ news.length = n * sz then appendTo e sz bytes z x n news m else none
    | none => none
  | none => none
theorem stepOp_app_v (e : TypeId) (sz bytes : Nat) (z : List Value) (x y : AOpd) (t : Tmps) (m : AMem) : stepOp (.app e sz bytes z x y) t m = appV e sz bytes z (x.ev t) (y.ev t) m := (rfl)
def b2sV (x : Value) (m : AMem) : Option (Value × AMem) := match x with
  | .slice none _ _ => some (.string .empty, m)
  | .slice (some ⟨b, o, none⟩) l _ => if l = 0 then some (.string .empty, m) else match rd m b o l with
    | some c => (c.mapM byteOf).map fun l => (.string ⟨l.toArray⟩, m)
    | none => none
  | _ => none
theorem stepOp_b2s_v (x : AOpd) (t : Tmps) (m : AMem) : stepOp (.b2s x) t m = b2sV (x.ev t) m := (rfl)

theorem zeroCap_lt : (0 : Nat) < openCap := openCap_lt (by omega)
theorem cutL_take {X : List Value} {o n k : Nat} {c : List Value} (h : cutL X o n = some c) (hk : k ≤ n) : cutL X o k = some (c.take k) := by
  unfold cutL at h ⊢
  split at h <;> simp at h
  rw [if_pos (by omega), ← h, List.take_take, Nat.min_eq_left hk]
theorem cutL_drop {X : List Value} {o n k : Nat} {c : List Value} (h : cutL X o n = some c) (hk : k ≤ n) : cutL X (o + k) (n - k) = some (c.drop k) := by
  unfold cutL at h ⊢
  split at h <;> simp at h
  rw [if_pos (by omega), ← h, List.drop_take, List.drop_drop]
theorem cutL_le {X : List Value} {o n : Nat} {c : List Value} (h : cutL X o n = some c) : o + n ≤ X.length := by
  unfold cutL at h; split at h <;> simp at h; assumption
theorem cutL_zero {X : List Value} {o : Nat} (h : o ≤ X.length) : cutL X o 0 = some [] := by unfold cutL; rw [if_pos (by omega)]; simp

/-- The slice of a, with a capacity, holds the bytes c. -/
def BSl (m : AMem) (a : Option Addr) (cap : Nat) (c : List UInt8) : Prop :=
  (a = none ∧ cap = 0 ∧ c = []) ∨ ∃ b o X e w sp, a = some ⟨b, o, none⟩ ∧ b < m.size ∧ m.get b = .cells X e w sp ∧ cutL X o c.length = some (c.map byteV) ∧ (cap = openCap ∧ sp.size = 1 ∨ cap < openCap ∧ c.length ≤ cap)
/-- It lies not in block b. -/
def Off (a : Option Addr) (b : Nat) : Prop := ∀ x o, a = some ⟨x, o, none⟩ → x ≠ b

theorem BSl.old {m M : AMem} {a : Option Addr} {cap : Nat} {c : List UInt8} (h : BSl m a cap c) (ho : Old m M) : BSl M a cap c := by
  rcases h with h | ⟨b, o, X, e, w, sp, h1, h2, h3, h4⟩
  · exact .inl h
  · exact .inr ⟨b, o, X, e, w, sp, h1, by have := ho.1; omega, by rw [ho.2 b h2]; exact h3, h4⟩
theorem BSl.set {m : AMem} {a : Option Addr} {cap : Nat} {c : List UInt8} (h : BSl m a cap c) {b : Nat} (hb : Off a b) (o : AObj) : BSl (m.set b o) a cap c := by
  rcases h with h | ⟨x, o', X, e, w, sp, h1, h2, h3, h4⟩
  · exact .inl h
  · exact .inr ⟨x, o', X, e, w, sp, h1, by rw [AMem.size_set]; exact h2, by rw [AMem.get_set_ne _ _ (hb x o' h1)]; exact h3, h4⟩
theorem srcCells_b {n l cap b o : Nat} {m : AMem} {X : List Value} {e : TypeId} {w : Bool} {sp : Spare} (h : n ≤ l) (hm : m.get b = .cells X e w sp) : srcCells 1 n (.slice (some ⟨b, o, none⟩) l cap) m = cutL X o n := by
  rw [srcCells_slice h, rd_def, hm, rdO_cells, Nat.mul_one]
theorem BSl.src {m : AMem} {a : Option Addr} {cap : Nat} {c : List UInt8} (h : BSl m a cap c) {n : Nat} (hn : n ≤ c.length) : srcCells 1 n (.slice a c.length cap) m = some ((c.take n).map byteV) := by
  rcases h with ⟨rfl, rfl, rfl⟩ | ⟨b, o, X, e, w, sp, rfl, h2, h3, h4, h5⟩
  · have : n = 0 := by simpa using hn
    subst this; rw [List.length_nil, srcCells_nil]; rfl
  · rw [srcCells_b hn h3, cutL_take h4 hn, List.map_take]
/-- Bytes copied into cells. -/
theorem BSl.cpy {m : AMem} {a : Option Addr} {cap : Nat} {c : List UInt8} (h : BSl m a cap c) {b o dl dc : Nat} {X : List Value} {e : TypeId} {sp : Spare} (hm : m.get b = .cells X e true sp) (hk : 0 < min c.length dl) (ho : o + min c.length dl ≤ X.length) :
    cpyV 1 (.slice (some ⟨b, o, none⟩) dl dc) (.slice a c.length cap) m = some (.int .i64 (min c.length dl : Nat), m.set b (.cells (splice X o ((c.take (min c.length dl)).map byteV)) e true sp)) := by
  simp only [cpyV, srcLen_slice]
  rw [h.src (Nat.min_le_left _ _)]
  simp only
  rw [if_pos ⟨by simp, all_bytes _⟩, if_neg (by omega), wr_at hm (by simp; omega)]
  rfl
/-! Maps of strings. -/
def lkV (z : Value) (ok : Bool) (x i : Value) (m : AMem) : Option (Value × AMem) := match x, i with
  | .map none, .string _ => some (lkRes z ok none, m)
  | .map (some r), .string s => match m.get r with
    | .map es _ => match Instr.findNow .string (.string s) es.toList 0 with
      | some o => some (lkRes z ok (o.map (·.2)), m)
      | none => none
    | _ => none
  | _, _ => none
theorem stepOp_lkp_v (z : Value) (ok : Bool) (x i : AOpd) (t : Tmps) (m : AMem) : stepOp (.lkp z ok x i) t m = lkV z ok (x.ev t) (i.ev t) m := (rfl)
def mupV (x k v : Value) (m : AMem) : Option (Value × AMem) := match x, k with
  | .map (some r), .string s => if simpleB v = true then
      match m.get r with
      | .map es c => match Instr.findNow .string (.string s) es.toList 0 with
        | some (some (i, _)) => some (undef, m.set r (.map (es.modify i fun e => { e with key := .string s, val := v }) c))
        | some none => some (undef, m.set r (.map (es.push { key := .string s, val := v, born := c }) (c + 1)))
        | none => none
      | _ => none
    else none
  | _, _ => none
theorem stepOp_mup_v (x k v : AOpd) (t : Tmps) (m : AMem) : stepOp (.mup x k v) t m = mupV (x.ev t) (k.ev t) (v.ev t) m := (rfl)
theorem lkRes_one (z : Value) (o : Option Value) : lkRes z false o = o.getD z := rfl

def keyIs (s : List UInt8) (e : MapEntry) : Bool := match e.key with | .string k => k.data.toList == s | _ => false
theorem keyIs_of {e : MapEntry} {k : ByteArray} (h : e.key = .string k) (s : List UInt8) : keyIs s e = (k.data.toList == s) := by simp only [keyIs, h]
/-- The block r is a map that tells f. -/
def MapAt (m : AMem) (r : Nat) (f : List UInt8 → Option Value) : Prop := r < m.size ∧ ∃ es c, m.get r = .map es c ∧ (∀ e ∈ es.toList, ∃ k : ByteArray, e.key = .string k) ∧ ∀ s : List UInt8, ((es.toList.find? (keyIs s)).map (·.val)) = f s
theorem bytes_beq (k : ByteArray) (s : List UInt8) : ((⟨s.toArray⟩ : ByteArray) == k) = (k.data.toList == s) := by
  rw [ba_beq]
  rw [Bool.eq_iff_iff]
  simp only [beq_iff_eq]
  constructor
  · intro h; rw [← h]
  · intro h; rw [← h]
theorem find_now (s : List UInt8) : ∀ (es : List MapEntry) (j : Nat), (∀ e ∈ es, ∃ k : ByteArray, e.key = .string k) →
    ∃ o, Instr.findNow .string (.string ⟨s.toArray⟩) es j = some o ∧ o.map (·.2) = (es.find? (keyIs s)).map (·.val)
  | [], j, _ => ⟨none, rfl, rfl⟩
  | e :: es, j, h => by
    obtain ⟨k, hk⟩ := h e (by simp)
    simp only [Instr.findNow, hk, Instr.sameNow, bytes_beq]
    cases hb : (k.data.toList == s) with
    | true => exact ⟨some (j, e.val), rfl, by simp [List.find?_cons, keyIs_of hk, hb]⟩
    | false =>
      obtain ⟨o, h1, h2⟩ := find_now s es (j + 1) (fun e he => h e (by simp [he]))
      exact ⟨o, h1, by rw [h2]; simp [List.find?_cons, keyIs_of hk, hb]⟩
theorem MapAt.look {m : AMem} {r : Nat} {f : List UInt8 → Option Value} (h : MapAt m r f) (z : Value) (ok : Bool) (s : List UInt8) : lkV z ok (.map (some r)) (.string ⟨s.toArray⟩) m = some (lkRes z ok (f s), m) := by
  obtain ⟨_, es, c, h1, h2, h3⟩ := h
  obtain ⟨o, h4, h5⟩ := find_now s es.toList 0 h2
  simp only [lkV, h1, h4]
  rw [h5, h3]
theorem find_append (s : List UInt8) (es : List MapEntry) (k : List UInt8) (v : Value) (c : Nat) :
    ((es ++ [({ key := .string ⟨k.toArray⟩, val := v, born := c } : MapEntry)]).find? (keyIs s)).map (·.val) = ((es.find? (keyIs s)).map (·.val)).or (if k = s then some v else none) := by
  rw [List.find?_append]
  cases es.find? (keyIs s) with
  | some e => rfl
  | none => by_cases h : k = s <;> simp [h, List.find?_cons, keyIs]
theorem find_modify {s : List UInt8} {v : Value} : ∀ (es : List MapEntry) (j i : Nat) (u : Value), (∀ e ∈ es, ∃ k : ByteArray, e.key = .string k) → Instr.findNow .string (.string ⟨s.toArray⟩) es j = some (some (i, u)) → ∀ x : List UInt8,
    ((es.modify (i - j) fun e => { e with key := .string ⟨s.toArray⟩, val := v }).find? (keyIs x)).map (·.val) = if x = s then some v else (es.find? (keyIs x)).map (·.val)
  | [], j, i, u, _, hf, x => by simp [Instr.findNow] at hf
  | e :: es, j, i, u, h, hf, x => by
    obtain ⟨k, hk⟩ := h e (by simp)
    simp only [Instr.findNow, hk, Instr.sameNow, bytes_beq] at hf
    cases hb : (k.data.toList == s) with
    | true =>
      rw [hb] at hf
      simp at hf
      obtain ⟨rfl, rfl⟩ := hf
      have hks : k.data.toList = s := by simpa using hb
      rw [Nat.sub_self, List.modify_zero_cons]
      by_cases hx : x = s
      · subst hx; simp [List.find?_cons, keyIs]
      · have hx2 : ¬ s = x := fun e => hx e.symm
        simp [List.find?_cons, keyIs, hx, hk, hks, hx2]
    | false =>
      rw [hb] at hf
      simp only at hf
      have hj : j + 1 ≤ i := by obtain ⟨_, h1, _⟩ := findNow_at _ _ hf; exact h1
      rw [show i - j = (i - (j + 1)) + 1 by omega, List.modify_succ_cons]
      have ih := find_modify (v := v) es (j + 1) i u (fun e he => h e (by simp [he])) hf x
      simp only [List.find?_cons, keyIs_of hk]
      cases hx : (k.data.toList == x) with
      | true =>
        have : ¬ x = s := fun e => by subst e; rw [hb] at hx; cases hx
        simp [this]
      | false => simpa using ih
theorem find_none {s : List UInt8} {es : List MapEntry} {j : Nat} (h : ∀ e ∈ es, ∃ k : ByteArray, e.key = .string k) (hf : Instr.findNow .string (.string ⟨s.toArray⟩) es j = some none) : (es.find? (keyIs s)).map (·.val) = none := by
  obtain ⟨o, h1, h2⟩ := find_now s es j h
  rw [hf] at h1; cases h1
  exact h2.symm
/-- A value is written. -/
theorem MapAt.put {m : AMem} {r : Nat} {f : List UInt8 → Option Value} (h : MapAt m r f) (s : List UInt8) {v : Value} (hv : simpleB v = true) :
    ∃ o, mupV (.map (some r)) (.string ⟨s.toArray⟩) v m = some (undef, m.set r o) ∧ MapAt (m.set r o) r fun x => if x = s then some v else f x := by
  obtain ⟨h0, es, c, h1, h2, h3⟩ := h
  obtain ⟨o, h4, h5⟩ := find_now s es.toList 0 h2
  cases o with
  | some q =>
    obtain ⟨i, u⟩ := q
    refine ⟨.map (es.modify i fun e => { e with key := .string ⟨s.toArray⟩, val := v }) c, by simp only [mupV, hv, if_true, h1, h4], h0, _, _, AMem.get_set_self _ _ _, ?_, fun x => ?_⟩
    · intro e he
      rw [Array.toList_modify] at he
      obtain ⟨j, hj, rfl⟩ := List.mem_iff_getElem.1 he
      rw [List.getElem_modify]
      split
      · exact ⟨_, rfl⟩
      · exact h2 _ (List.getElem_mem _)
    · have := find_modify es.toList 0 i u (v := v) h2 h4 x
      rw [Nat.sub_zero] at this
      rw [Array.toList_modify, this, h3]
  | none =>
    refine ⟨.map (es.push { key := .string ⟨s.toArray⟩, val := v, born := c }) (c + 1), by simp only [mupV, hv, if_true, h1, h4], h0, _, _, AMem.get_set_self _ _ _, ?_, fun x => ?_⟩
    · intro e he
      rw [Array.toList_push] at he
      rcases List.mem_append.1 he with h | h
      · exact h2 e h
      · rw [List.mem_singleton] at h; subst h; exact ⟨_, rfl⟩
    · rw [Array.toList_push, find_append, h3]
      by_cases hx : x = s
      · subst hx
        have := find_none h2 h4
        rw [h3] at this
        simp [this]
      · have hx2 : ¬ s = x := fun e => hx e.symm
        show (f x).or (if s = x then some v else none) = if x = s then some v else f x
        rw [if_neg hx, if_neg hx2]
        cases f x <;> rfl
theorem MapAt.keep {m m' : AMem} {r : Nat} {f : List UInt8 → Option Value} (h : MapAt m r f) (hs : m.size ≤ m'.size) (hg : m'.get r = m.get r) : MapAt m' r f := by
  obtain ⟨h0, es, c, h1, h2⟩ := h
  exact ⟨Nat.lt_of_lt_of_le h0 hs, es, c, hg.trans h1, h2⟩
theorem MapAt.old {m m' : AMem} {r : Nat} {f : List UInt8 → Option Value} (h : MapAt m r f) (ho : Old m m') : MapAt m' r f := h.keep ho.1 (ho.2 r h.1)
theorem MapAt.new {m : AMem} {r : Nat} (hr : r < m.size) (h : m.get r = .map #[] 0) : MapAt m r fun _ => none := ⟨hr, _, _, h, by simp, by simp⟩
end Go.AM
namespace Go.AM
set_option linter.unusedVariables false

/-- v is a slice that holds the cells c, in a block of its own (none of m's), or nil. -/
def Buf (m M : AMem) (v : Value) (c : List Value) (e : TypeId) (z : Value) : Prop :=
  (c = [] ∧ v = .slice none 0 0) ∨ ∃ b, m.size ≤ b ∧ b < M.size ∧ v = .slice (some ⟨b, 0, none⟩) c.length openCap ∧ M.get b = .cells c e true (.room [z])
theorem Buf.nil (m M : AMem) (e : TypeId) (z : Value) : Buf m M (.slice none 0 0) [] e z := .inl ⟨rfl, rfl⟩
theorem Buf.len {m M : AMem} {v : Value} {c : List Value} {e : TypeId} {z : Value} (h : Buf m M v c e z) : ∃ a cap, v = .slice a c.length cap := by
  rcases h with ⟨rfl, rfl⟩ | ⟨b, _, _, rfl, _⟩
  · exact ⟨_, _, rfl⟩
  · exact ⟨_, _, rfl⟩
/-- A row that grew out of nothing has no block of m's. -/
theorem Buf.new {m M : AMem} {v : Value} {c : List Value} {e : TypeId} {z : Value} (h : Buf m M v c e z) : ∀ x o l k, x < m.size → v ≠ .slice (some ⟨x, o, none⟩) l k := by
  intro x o l k hx hv
  rcases h with ⟨rfl, rfl⟩ | ⟨b, h1, h2, rfl, h4⟩
  · cases hv
  · cases hv; omega
theorem BSl.off {m : AMem} {a : Option Addr} {cap : Nat} {c : List UInt8} (h : BSl m a cap c) {b : Nat} (hb : m.size ≤ b) : Off a b := by
  intro x o hx
  rcases h with ⟨rfl, _⟩ | ⟨y, p, X, e, w, sp, rfl, h2, _⟩
  · cases hx
  · cases hx; omega
theorem Buf.blk {m M : AMem} {a : Option Addr} {n cap : Nat} {c : List Value} {e : TypeId} {z : Value} (h : Buf m M (.slice a n cap) c e z) (hc : c ≠ []) : ∃ b, m.size ≤ b ∧ b < M.size ∧ a = some ⟨b, 0, none⟩ ∧ n = c.length ∧ cap = openCap ∧ M.get b = .cells c e true (.room [z]) := by
  rcases h with ⟨h, _⟩ | ⟨b, h1, h2, h3, h4⟩
  · exact absurd h hc
  · cases h3; exact ⟨b, h1, h2, rfl, rfl, rfl, h4⟩

/-- The bytes of a slice as a text. -/
theorem BSl.str {m : AMem} {a : Option Addr} {cap : Nat} {c : List UInt8} (h : BSl m a cap c) : b2sV (.slice a c.length cap) m = some (.string ⟨c.toArray⟩, m) := by
  rcases h with ⟨rfl, rfl, rfl⟩ | ⟨b, o, X, e, w, sp, rfl, h2, h3, h4, h5⟩
  · rfl
  · simp only [b2sV]
    by_cases h0 : c.length = 0
    · rw [if_pos h0, List.eq_nil_of_length_eq_zero h0]; rfl
    · rw [if_neg h0, rd_def, h3, rdO_cells, h4]; simp only [mapM_byteOf]; rfl
theorem BSl.get {m : AMem} {a : Option Addr} {cap : Nat} {c : List UInt8} (h : BSl m a cap c) {i : Nat} (hi : i < c.length) : ∃ b o, a = some ⟨b, o, none⟩ ∧ rd m b (o + i) 1 = some [byteV c[i]] := by
  rcases h with ⟨rfl, rfl, rfl⟩ | ⟨b, o, X, e, w, sp, rfl, h2, h3, h4, h5⟩
  · simp at hi
  · refine ⟨b, o, rfl, ?_⟩
    rw [rd_def, h3, rdO_cells]
    have := cutL_take (cutL_drop h4 (Nat.le_of_lt hi)) (k := 1) (by omega)
    rw [this, ← List.map_drop, ← List.map_take, List.drop_eq_getElem_cons hi]; rfl
/-- A row of bytes that grew is a slice of bytes. -/
theorem Buf.bsl {m M : AMem} {a : Option Addr} {n cap : Nat} {c : List UInt8} {e : TypeId} {z : Value} (h : Buf m M (.slice a n cap) (c.map byteV) e z) : n = c.length ∧ BSl M a cap c := by
  rcases h with ⟨h, h2⟩ | ⟨b, h1, h2, h3, h4⟩
  · cases h2
    obtain rfl : c = [] := by simpa using h
    exact ⟨rfl, .inl ⟨rfl, rfl, rfl⟩⟩
  · rw [List.length_map] at h3
    cases h3
    exact ⟨rfl, .inr ⟨b, 0, _, _, _, _, rfl, h2, h4, by rw [← List.length_map (f := byteV)]; exact cutL_all rfl, .inl ⟨rfl, rfl⟩⟩⟩
/-- A slice of slices of bytes. -/
def BSS (m : AMem) (a : Option Addr) (ls : List (List UInt8)) : Prop :=
  (a = none ∧ ls = []) ∨ ∃ b o X e w sp, a = some ⟨b, o, none⟩ ∧ b < m.size ∧ m.get b = .cells X e w sp ∧ ∀ i (h : i < ls.length), ∃ a' cap', X[o + i]? = some (.slice a' ls[i].length cap') ∧ BSl m a' cap' ls[i]
theorem BSS.old {m M : AMem} {a : Option Addr} {ls : List (List UInt8)} (h : BSS m a ls) (ho : Old m M) : BSS M a ls := by
  rcases h with h | ⟨b, o, X, e, w, sp, h1, h2, h3, h4⟩
  · exact .inl h
  · refine .inr ⟨b, o, X, e, w, sp, h1, Nat.lt_of_lt_of_le h2 ho.1, by rw [ho.2 b h2]; exact h3, fun i hi => ?_⟩
    obtain ⟨a', cap', h5, h6⟩ := h4 i hi
    exact ⟨a', cap', h5, h6.old ho⟩
/-- Its i-th one. -/
theorem BSS.get {m : AMem} {a : Option Addr} {ls : List (List UInt8)} (h : BSS m a ls) {i : Nat} (hi : i < ls.length) :
    ∃ b o a' cap', a = some ⟨b, o, none⟩ ∧ b < m.size ∧ rd m b (o + i) 1 = some [.slice a' ls[i].length cap'] ∧ BSl m a' cap' ls[i] := by
  rcases h with ⟨_, rfl⟩ | ⟨b, o, X, e, w, sp, h1, h2, h3, h4⟩
  · simp at hi
  · obtain ⟨a', cap', h5, h6⟩ := h4 i hi
    exact ⟨b, o, a', cap', h1, h2, by rw [rd_def, h3, rdO_cells, cutL_one, h5]; rfl, h6⟩
end Go.AM
namespace Go.AM
set_option linter.unusedVariables false

/-- The parts of code one behind the other. -/
def ACode.hd : ACode → ACode
  | .seq a _ => a
  | _ => .skip
section
variable {P : Program} {G : Nat}

/-- The call gives a value, and leaves a memory, so that R. -/
def RelC (P : Program) (G : Nat) (f : FuncId) (args : List Value) (m : AMem) (R : Value → AMem → Prop) : Prop :=
  ACall P G f args m fun r m' => ∃ v, r = .ret v ∧ R v m'

theorem RelC.mono {f : FuncId} {args : List Value} {m : AMem} {R R' : Value → AMem → Prop} (h : RelC P G f args m R) (k : ∀ v m', R v m' → R' v m') : RelC P G f args m R' :=
  ACall.mono h fun r m' ⟨v, h1, h2⟩ => ⟨v, h1, k v m' h2⟩

theorem mx_nil_get (m : AMem) {b : Nat} (h : b < m.size) : (mx m []).get b = m.get b := mx_old h
theorem mx_nil_size (m : AMem) : (mx m []).size = m.size := by rw [mx_size]; rfl

theorem Rep.agree {m m2 : AMem} {ρ : Ren} {w : World} (hR : Rep G m ρ w) (hs : m2.size = m.size) (hg : ∀ b, b < m.size → m2.get b = m.get b) : Rep G m2 ρ w := by
  have e : ∀ {b L}, ρ b = some L → m2.get b = m.get b := fun {b L} h => hg b (hR.dom b L h)
  refine ⟨fun b L h => by rw [hs]; exact hR.dom b L h, fun b L h => by rw [e h]; exact hR.obj b L h, fun b b' L L' h1 h2 hne k1 k2 k3 => ?_, hR.glob⟩
  rw [e h1] at k1 k3; rw [e h2] at k2
  exact hR.sep b b' L L' h1 h2 hne k1 k2 k3
theorem Ext.agree {m m2 m0 : AMem} {ρ ρ0 : Ren} {w w0 : World} (hE : Ext m0 ρ0 w0 m ρ w) (hR : Rep G m ρ w) (hs : m2.size = m.size) (hg : ∀ b, b < m.size → m2.get b = m.get b) : Ext m0 ρ0 w0 m2 ρ w := by
  refine ⟨hE.ren, hE.os, hE.tape, hE.output, hE.size, hE.keep, fun i hi ⟨b, L, h1, h2, h3⟩ => hE.img i hi ⟨b, L, h1, ?_, h3⟩, hE.late, by rw [hs]; exact hE.grow⟩
  rw [hg b (hR.dom b L h1)] at h2; exact h2

/-- Behind a call: what is said of a memory may be said of it without what lies past its end. -/
theorem ACall.norm {f : FuncId} {args : List Value} {m : AMem} {Q : AEnd → AMem → Prop} (h : ACall P G f args m Q) : ACall P G f args m fun r m' => ∃ M, m' = mx M [] ∧ Q r M := by
  intro ρ w args' hR hA
  have main : ∀ {e w'}, (∃ ρ' m' r, Q r m' ∧ EndRel ρ' r e ∧ Rep G m' ρ' w' ∧ Ext m ρ w m' ρ' w') → ∃ ρ' m' r, (∃ M, m' = mx M [] ∧ Q r M) ∧ EndRel ρ' r e ∧ Rep G m' ρ' w' ∧ Ext m ρ w m' ρ' w' := by
    rintro e w' ⟨ρ', m', r, h1, h2, h3, h4⟩
    exact ⟨ρ', mx m' [], r, ⟨m', rfl, h1⟩, h2, h3.agree (mx_nil_size m') (fun b hb => mx_nil_get m' hb), h4.agree h3 (mx_nil_size m') (fun b hb => mx_nil_get m' hb)⟩
  have := h ρ w args' hR hA
  split at this
  · exact this.mono fun e w' h => main h
  · exact main this
  · exact this

theorem RelC.call {f : FuncId} {args : List Value} {m : AMem} {R : Value → AMem → Prop} (h : RelC P G f args m R) {d : Option Nat} {t : Tmps} {ds : List Deferred} {K : ASt → Prop} {Q : AExit → ASt → Prop}
    (hK : ∀ v M, R v M → K ⟨updO t d v, mx M [], ds⟩) : ACall P G f args m (CallK d ⟨t, m, ds⟩ K Q) := by
  refine ACall.mono (ACall.norm h) ?_
  rintro r m' ⟨M, rfl, v, rfl, hR⟩
  exact hK v M hR

theorem RelC.at {f : FuncId} {args : List Value} {m : AMem} {R : Value → AMem → Prop} (h : RelC P G f args m R) : RelC P G f args (mx m []) R :=
  ACall.eqv (mx_nil_size m).symm (fun b hb => (mx_nil_get m (by rwa [mx_nil_size] at hb)).symm) h

/-- A function, by its code. -/
theorem rel_of_W {f : FuncId} {fn : Func} {A : AFun} (hf : P.funcs[f]? = some fn) (hn : (fn.name == "runtime.NumGoroutine") = false) (hA : compFun P G fn = some A) {args : List Value} (hlen : args.length ≤ A.n) {m : AMem} {R : Value → AMem → Prop}
    (h : W P G A.code (RetK A.res fun r m' => ∃ v, r = .ret v ∧ (m.size ≤ m'.size → R v m')) ⟨initT args, mx m [], []⟩) : RelC P G f args m R := by
  refine ACall.mono (ACall.grow (ACall.eqv (m1 := mx m []) (mx_nil_size m) (fun b hb => mx_old hb) (ACall_of_W hf hn hA hlen h))) ?_
  rintro r m' ⟨⟨v, rfl, h1⟩, h2⟩
  exact ⟨v, rfl, h1 h2⟩

/-- A function that leaves no new blocks behind. -/
theorem det_exact {f : FuncId} {fn : Func} {A : AFun} (hf : P.funcs[f]? = some fn) (hn : (fn.name == "runtime.NumGoroutine") = false) (hA : compFun P G fn = some A) {args : List Value} (hlen : args.length ≤ A.n) {m : AMem} {v : Value} {m2 : AMem}
    (h : W P G A.code (RetK A.res fun r m' => r = .ret v ∧ m' = m2) ⟨initT args, mx m [], []⟩) : DetC P G f args m v m2 :=
  ACall.eqv (m1 := mx m []) (mx_nil_size m) (fun b hb => mx_old hb) (ACall_of_W hf hn hA hlen h)

theorem DetC.rel {f : FuncId} {args : List Value} {m : AMem} {v : Value} {m2 : AMem} (h : DetC P G f args m v m2) : RelC P G f args m fun v' m' => v' = v ∧ m' = m2 :=
  ACall.mono h fun r m' ⟨h1, h2⟩ => ⟨v, h1, rfl, h2⟩
end

/-! ### What may change -/
/-- All blocks of m, but for those in O, are as they were. -/
def Keep (O : Nat → Prop) (m m' : AMem) : Prop := m.size ≤ m'.size ∧ ∀ x, x < m.size → ¬ O x → m'.get x = m.get x

theorem Keep.refl (O : Nat → Prop) (m : AMem) : Keep O m m := ⟨Nat.le_refl _, fun _ _ _ => rfl⟩
theorem Old.keep {m m' : AMem} (h : Old m m') (O : Nat → Prop) : Keep O m m' := ⟨h.1, fun x hx _ => h.2 x hx⟩
theorem Keep.old {m m' : AMem} (h : Keep (fun _ => False) m m') : Old m m' := ⟨h.1, fun x hx => h.2 x hx id⟩
theorem Keep.trans {O O1 : Nat → Prop} {m m1 m2 : AMem} (h : Keep O m m1) (k : Keep O1 m1 m2) (ho : ∀ x, x < m.size → O1 x → O x) : Keep O m m2 :=
  ⟨Nat.le_trans h.1 k.1, fun x hx hn => (k.2 x (Nat.lt_of_lt_of_le hx h.1) fun hc => hn (ho x hx hc)).trans (h.2 x hx hn)⟩
theorem Keep.set {O : Nat → Prop} {m m' : AMem} (h : Keep O m m') {b : Nat} (hb : b < m.size → O b) (o : AObj) : Keep O m (m'.set b o) :=
  ⟨h.1, fun x hx hn => by
    have : x ≠ b := fun e => hn (e ▸ hb (e ▸ hx))
    rw [AMem.get_set_ne _ _ this]; exact h.2 x hx hn⟩
theorem Keep.mx {O : Nat → Prop} {m m' : AMem} (h : Keep O m m') (l : List AObj) : Keep O m (mx m' l) := ⟨by rw [mx_size]; have := h.1; omega, fun x hx hn => by rw [mx_old (Nat.lt_of_lt_of_le hx h.1)]; exact h.2 x hx hn⟩
/-- A block in which no bytes lie. -/
class Ex where
  x : Nat

/-- v is a slice of the bytes c, that lie in a block of bytes (of type e). -/
def ByV [Ex] (e : TypeId) (m : AMem) (v : Value) (c : List UInt8) : Prop :=
  (c = [] ∧ v = .slice none 0 0) ∨ ∃ b o cap X w sp, v = .slice (some ⟨b, o, none⟩) c.length cap ∧ b < m.size ∧ m.get b = .cells X e w sp ∧ cutL X o c.length = some (c.map byteV) ∧ (cap = openCap ∧ sp.size = 1 ∨ cap < openCap ∧ c.length ≤ cap) ∧ b ≠ Ex.x

theorem ByV.nil [Ex] (e : TypeId) (m : AMem) : ByV e m (.slice none 0 0) [] := .inl ⟨rfl, rfl⟩
theorem ByV.bsl [Ex] {e : TypeId} {m : AMem} {v : Value} {c : List UInt8} (h : ByV e m v c) : ∃ a cap, v = .slice a c.length cap ∧ BSl m a cap c := by
  rcases h with ⟨rfl, rfl⟩ | ⟨b, o, cap, X, w, sp, rfl, h1, h2, h3, h4, -⟩
  · exact ⟨none, 0, rfl, .inl ⟨rfl, rfl, rfl⟩⟩
  · exact ⟨_, _, rfl, .inr ⟨b, o, X, e, w, sp, rfl, h1, h2, h3, h4⟩⟩
theorem ByV.keep [Ex] {e : TypeId} {m m' : AMem} {v : Value} {c : List UInt8} (h : ByV e m v c) {O : Nat → Prop} (hk : Keep O m m') (ho : ∀ x X w sp, m.get x = .cells X e w sp → ¬ O x) : ByV e m' v c := by
  rcases h with h | ⟨b, o, cap, X, w, sp, h0, h1, h2, h3, h4⟩
  · exact .inl h
  · exact .inr ⟨b, o, cap, X, w, sp, h0, Nat.lt_of_lt_of_le h1 hk.1, by rw [hk.2 b h1 (ho b X w sp h2)]; exact h2, h3, h4⟩
theorem ByV.old [Ex] {e : TypeId} {m m' : AMem} {v : Value} {c : List UInt8} (h : ByV e m v c) (hk : Old m m') : ByV e m' v c := h.keep (hk.keep fun _ => False) fun _ _ _ _ _ h => h
theorem ByV.len [Ex] {e : TypeId} {m : AMem} {v : Value} {c : List UInt8} (h : ByV e m v c) : ∃ a cap, v = .slice a c.length cap := by
  obtain ⟨a, cap, h, _⟩ := h.bsl; exact ⟨a, cap, h⟩
end Go.AM
namespace Go.AM
set_option linter.unusedVariables false
set_option linter.unusedSimpArgs false
section
variable {P : Program} {G : Nat}

/-- The loops' blocks are shut. -/
def takeD : List Deferred → AMem → Option AMem
  | [], m => some m
  | d :: r, m => match d.target with
    | .collected b => match m.get b with | .defd => takeD r (m.set b .dead) | _ => none
    | _ => none
/-- The end of a function that holds a loop over a function. -/
def RetKD (res : List ARes) (Q : AEnd → AMem → Prop) : AExit → ASt → Prop
  | .normal, s | .ret, s => ∃ m', takeD s.ds s.m = some m' ∧ match resVs res s.t m' with | some l => Q (.ret (packV l)) m' | none => False
  | _, _ => False

theorem leaves_takeD {N : Nat} {fn : Func} {res : List ARes} (hres : compRes P fn.results.toList = some res) {m0 : AMem} {ρ0 : Ren} {w0 : World} {Q : AEnd → AMem → Prop} {t : Tmps} {tmps : Array Value} {m' : AMem}
    (hq : match resVs res t m' with | some l => Q (.ret (packV l)) m' | none => False) : ∀ (ds ds' : List Deferred) (m : AMem) (ρ : Ren) (w : World), DsRel ρ ds ds' → tmps.size = N → (∀ i, VRel ρ (t i) (tmps.getD i undef)) → Rep G m ρ w → Ext m0 ρ0 w0 m ρ w →
    takeD ds m = some m' → LeavesInM Fence.wide 0 P fn tmps (fun e w' => ∃ ρ' m' r, Q r m' ∧ EndRel ρ' r e ∧ Rep G m' ρ' w' ∧ Ext m0 ρ0 w0 m' ρ' w') ds' .returning w
  | [], [], m, ρ, w, hd, hs, ht, hR, hE, h => by
    cases h
    split at hq
    · rename_i l hl
      obtain ⟨v', k1, k2⟩ := results_run (s := ⟨t, m', []⟩) (a := ⟨tmps, []⟩) hres hR ⟨hs, ht, DsRel.nil _⟩ hl
      exact ⟨v', k2, ρ, _, _, hq, .ret k1, hR, hE⟩
    · exact hq.elim
  | [], d :: ds', m, ρ, w, hd, hs, ht, hR, hE, h => by have := hd.1; simp at this
  | d :: ds, [], m, ρ, w, hd, hs, ht, hR, hE, h => by have := hd.1; simp at this
  | d :: ds, d' :: ds', m, ρ, w, hd, hs, ht, hR, hE, h => by
    refine ⟨(fun h => by cases h), .inl ?_⟩
    unfold takeD at h
    split at h <;> try (cases h; done)
    rename_i b hb
    split at h <;> try (cases h; done)
    rename_i hm
    have h0 := hd.2 0 (by simp) (by simp)
    simp only [List.getElem_cons_zero] at h0
    rcases h0 with ⟨_, f, c, c', e, _⟩ | ⟨b', L, e1, e2, e3⟩
    · rw [hb] at e; cases e
    · rw [hb] at e1; cases e1
      have hO := hR.obj _ _ e3
      rw [hm] at hO
      obtain ⟨hR2, hE2⟩ := putObj_rep hR e3 (o := .dead) (ob := .deferred none) (by rw [hm]; rfl) (by rw [hm]; rfl) (fun h => by cases h) trivial
      refine ⟨L.cb, _, e2, run_takeDeferred hO.1, ?_⟩
      exact leaves_takeD hres hq ds ds' _ ρ _ ⟨by have := hd.1; simpa using this, fun i h1 h2 => by have := hd.2 (i + 1) (by simpa using h1) (by simpa using h2); simpa using this⟩ hs ht hR2 (hE.trans hE2) h

/-- A call, out of what the transformer says of the function's code. -/
theorem ACall_of_WD {f : FuncId} {fn : Func} {A : AFun} (hf : P.funcs[f]? = some fn) (hn : (fn.name == "runtime.NumGoroutine") = false) (hA : compFun P G fn = some A) {args : List Value} (hlen : args.length ≤ A.n) {m : AMem}
    {Q : AEnd → AMem → Prop} (h : W P G A.code (RetKD A.res Q) { t := initT args, m := m, ds := [] }) : ACall P G f args m Q := by
  intro ρ w args' hR hL
  unfold compFun at hA
  split at hA <;> try (simp at hA; done)
  rename_i c hbody
  split at hA <;> simp at hA
  rename_i ac res hac hres
  subst hA
  have hn' : ¬ fn.name = "runtime.NumGoroutine" := by simpa using hn
  have hrun : (callFunc f args').run P w = .ok (.enter f args') w := by simp [callFunc, hf, hn', hbody]
  rw [hrun]
  simp only
  refine (callsIn_wide (n := 0)).1 (callsIn_of_wp_marks hf hbody trivial ?_)
  have hl := hL.1
  simp at hl
  have hS : SRel fn.ntmps ρ { t := initT args, m := m, ds := [] } { tmps := args' ++ Array.replicate (fn.ntmps - args'.size) undef, defers := [] } := by
    refine ⟨by simp at hlen ⊢; omega, fun i => ?_, DsRel.nil ρ⟩
    simp only [initT]
    by_cases hi : i < args.length
    · have h2 := hL.2 i hi (by simp; omega)
      simp at h2
      have hi' : i < args'.size := by omega
      simp [List.getD_eq_getElem?_getD, hi, Array.getD_eq_getD_getElem?, Array.getElem?_append, hi']
      exact h2
    · have hi' : ¬ i < args'.size := by omega
      simp [List.getD_eq_getElem?_getD, List.getElem?_eq_none (Nat.le_of_not_lt hi), Array.getD_eq_getD_getElem?, Array.getElem?_append, hi']
      have : ((Array.replicate (fn.ntmps - args'.size) undef)[i - args'.size]?).getD undef = undef := by
        rw [Array.getElem?_replicate]; split <;> rfl
      rw [Array.getElem?_replicate] at this
      first
        | (rw [this]; exact Plain.undef ρ)
        | (simp only [Array.getElem?_replicate]; rw [this]; exact Plain.undef ρ)
  refine wpIn_mono (W_ok c ac hac _ m ρ w _ _ ρ w hR hS (Ext.refl _ _ _) h) fun e a' w' hh => ?_
  obtain ⟨ρ', s', e', h1, h2, h3, h4, h5⟩ := hh
  cases h2 with
  | normal => obtain ⟨m', k1, k2⟩ := h1; exact leaves_takeD hres k2 _ _ _ ρ' _ h3.ds h3.size h3.tmps h4 h5 k1
  | exit id => exact h1.elim
  | goto l => exact h1.elim
  | ret => obtain ⟨m', k1, k2⟩ := h1; exact leaves_takeD hres k2 _ _ _ ρ' _ h3.ds h3.size h3.tmps h4 h5 k1
  | pan hp => exact h1.elim

theorem rel_of_WD {f : FuncId} {fn : Func} {A : AFun} (hf : P.funcs[f]? = some fn) (hn : (fn.name == "runtime.NumGoroutine") = false) (hA : compFun P G fn = some A) {args : List Value} (hlen : args.length ≤ A.n) {m : AMem} {R : Value → AMem → Prop}
    (h : W P G A.code (RetKD A.res fun r m' => ∃ v, r = .ret v ∧ (m.size ≤ m'.size → R v m')) ⟨initT args, mx m [], []⟩) : RelC P G f args m R := by
  refine ACall.mono (ACall.grow (ACall.eqv (m1 := mx m []) (mx_nil_size m) (fun b hb => mx_old hb) (ACall_of_WD hf hn hA hlen h))) ?_
  rintro r m' ⟨⟨v, rfl, h1⟩, h2⟩
  exact ⟨v, rfl, h1 h2⟩
end
end Go.AM
namespace Go.AM
section
variable {P : Program} {G : Nat}
theorem AYield.norm {l : Nat} {args : List Value} {m : AMem} {Q : AEnd → AMem → Prop} (h : AYield P G l args m Q) : AYield P G l args m fun r m' => ∃ M, m' = mx M [] ∧ Q r M := by
  intro ρ w args' L hR hA hL
  obtain ⟨f, tmps, as, body, h1, h2⟩ := h ρ w args' L hR hA hL
  refine ⟨f, tmps, as, body, h1, h2.mono fun e w' ⟨ρ', m', r, k1, k2, k3, k4⟩ => ?_⟩
  exact ⟨ρ', mx m' [], r, ⟨m', rfl, k1⟩, k2, k3.agree (mx_nil_size m') (fun b hb => mx_nil_get m' hb), k4.agree k3 (mx_nil_size m') (fun b hb => mx_nil_get m' hb)⟩
theorem AYield.call {l : Nat} {args : List Value} {m : AMem} {R : AEnd → AMem → Prop} (h : AYield P G l args m R) {d : Option Nat} {t : Tmps} {m0 : AMem} {ds : List Deferred} {K : ASt → Prop} {Q : AExit → ASt → Prop}
    (hK : ∀ r M, R r M → CallK d ⟨t, m0, ds⟩ K Q r (mx M [])) : AYield P G l args m (CallK d ⟨t, m0, ds⟩ K Q) := by
  refine h.norm.mono ?_
  rintro r m' ⟨M, rfl, hR⟩
  exact hK r M hR
/-- A function that gives the values vs, one row behind the other, to the yield that it is handed; it leaves alone what it did not make. J i M: i of them have been given, and memory is mx M []. -/
def IterC (P : Program) (G : Nat) (gf : FuncId) (first captured : List Value) (I : AMem → Prop) (vs : List (List Value)) : Prop :=
  ∀ (l : Nat) (J : Nat → AMem → Prop) (X : AMem → Prop) (M : AMem), (∀ i M, J i M → I M) →
    (∀ i M (h : i < vs.length), J i M → AYield P G l vs[i] (mx M []) fun r M' => (r = .ret (.bool true) ∧ J (i + 1) M') ∨ (r = .ret (.bool false) ∧ X M')) → J 0 M →
    ACall P G gf (first ++ [.func (.yield l) #[] #[]] ++ captured) (mx M []) fun r M' => ∃ v M1, r = .ret v ∧ M' = mx M1 [] ∧ (J vs.length M1 ∨ X M1)
/-- A loop over such a function, each of whose rounds comes to its end. J i M: i rounds have been, and memory is mx M []. -/
theorem W_rangeT {f : AOpd} {ps : List Nat} {a b : ACode} {Q : AExit → ASt → Prop} {t : Tmps} {m : AMem} {objs : List AObj} {ds : List Deferred} {gf : FuncId} {first captured : Array Value} {vs : List (List Value)}
    (hf : f.ev t = .func (.func gf) first captured) (hfn : ∃ fn c, P.funcs[gf]? = some fn ∧ (fn.name == "runtime.NumGoroutine") = false ∧ fn.body = some c)
    {I : AMem → Prop} (hI : IterC P G gf first.toList captured.toList I vs) (hvs : ∀ x ∈ vs, x.length = ps.length) (J : Loop → Nat → AMem → Prop) (D l : Nat) (hD : (mx m objs).size = D) (hl : l = D + 1)
    (h0 : ∀ rec, J rec 0 (mx m (objs ++ [.defd, .loop .ready none t rec]))) (hJ : ∀ rec i M, J rec i M → l < M.size ∧ M.get l = .loop .ready none t rec ∧ I M)
    (hround : ∀ rec i M (h : i < vs.length), J rec i M → W P G a (AssignK l t rec fun s' => W P G b (RoundK l t rec fun r M' => r = .ret (.bool true) ∧ J rec (i + 1) M') s') ⟨roundT t ps vs[i], mx M [], []⟩)
    (hdone : ∀ rec M, J rec vs.length M → Q .normal ⟨t, mx (M.set l .dead) [], ⟨.collected D, #[]⟩ :: ds⟩) : W P G (.rangeF f ps a b) Q ⟨t, mx m objs, ds⟩ := by
  subst hl
  simp only [W, hf]
  refine ⟨hfn, fun rec hy => ?_⟩
  rw [hD] at hy ⊢
  have e : ((mx m objs).push .defd).push (.loop .ready none t rec) = mx (mx m (objs ++ [.defd, .loop .ready none t rec])) [] := by
    rw [mx_push, mx_push, mx_mx, List.append_nil, List.append_assoc]; rfl
  rw [e]
  refine (hI (D + 1) (J rec) (fun _ => False) (mx m (objs ++ [.defd, .loop .ready none t rec])) (fun i M h => (hJ rec i M h).2.2) (fun i M h hj => ?_) (h0 rec)).mono ?_
  · have hg := hJ rec i M hj
    refine (hy vs[i] (mx M []) (fun r M' => r = .ret (.bool true) ∧ J rec (i + 1) M') (hvs _ (List.getElem_mem h)) ?_ (hround rec i M h hj)).mono fun r M' h => .inl h
    rw [mx_old hg.1]; exact hg.2.1
  · rintro r m' ⟨v, M, rfl, rfl, hj | hj⟩
    · have hg := hJ rec _ M hj
      refine ⟨.ready, none, by rw [mx_old hg.1]; exact hg.2.1, by simp, ?_⟩
      have := hdone rec M hj
      rw [← mx_set_old hg.1] at this
      exact this
    · exact hj.elim
end
end Go.AM
namespace Go.AM
set_option linter.unusedVariables false

section
variable {P : Program} {G : Nat}

/-- A law, from a memory of which nothing is written. -/
theorem calls_of_ACall_mem {f : FuncId} {fn : Func} {c : Code} (hf : P.funcs[f]? = some fn) (hname : (fn.name == "runtime.NumGoroutine") = false) (hb : fn.body = some c) {args : List Value} {args' : Array Value} {m : AMem} {ρ : Ren} {w : World}
    (hR : Rep G m ρ w) (hL : LRel ρ args args'.toList) (hw : ∀ b, (m.get b).wrt = false)
    (h : ACall P G f args m fun r _ => r = .ret (.bool true)) : Calls P f args' w fun e w' => e = .returned (.bool true) ∧ RowKit.Below w.heap.size w w' := by
  have := h _ w args' hR hL
  rw [run_enter hf hname hb args' w] at this
  refine this.mono fun e w' hh => ?_
  obtain ⟨ρ', m', r, rfl, h2, h3, h4⟩ := hh
  cases h2 with
  | ret hv =>
    cases hv
    refine ⟨rfl, h4.os, h4.tape, h4.output, h4.size, fun k hk => h4.keep k hk ?_⟩
    rintro ⟨b, L, _, hwr, _⟩
    rw [hw b] at hwr; cases hwr

/-- Blocks in a row, each where it lies; none is written. -/
def memOf (os : List (AObj × Loc)) : AMem := ⟨os.length, fun b => match os[b]? with | some x => x.1 | none => .dead⟩
def renOf (os : List (AObj × Loc)) : Ren := fun b => os[b]?.map (·.2)
theorem Rep.of {w : World} (os : List (AObj × Loc)) (hG : ∀ g, g < G → ∃ x, os[g]? = some x ∧ x.2.cb = g ∧ x.2.co = 0)
    (ho : ∀ x ∈ os, ObjRel (renOf os) x.1 x.2 w) (hw : ∀ x ∈ os, x.1.wrt = false) : Rep G (memOf os) (renOf os) w where
  dom := fun b L hb => by
    simp only [renOf, Option.map_eq_some_iff] at hb
    obtain ⟨x, hx, _⟩ := hb
    exact (List.getElem?_eq_some_iff.1 hx).1
  obj := fun b L hb => by
    simp only [renOf, Option.map_eq_some_iff] at hb
    obtain ⟨x, hx, rfl⟩ := hb
    simp only [memOf, hx]
    exact ho x (List.mem_of_getElem? hx)
  sep := fun b b' L L' hb hb' hne h1 h2 h3 => by
    simp only [renOf, Option.map_eq_some_iff] at hb
    obtain ⟨x, hx, rfl⟩ := hb
    simp only [memOf, hx, hw x (List.mem_of_getElem? hx)] at h3
    cases h3
  glob := fun g hg => by
    obtain ⟨x, hx, h1, h2⟩ := hG g hg
    exact ⟨x.2, by simp only [renOf, hx, Option.map_some], h1, h2⟩
theorem memOf_wrt {os : List (AObj × Loc)} (hw : ∀ x ∈ os, x.1.wrt = false) (b : Nat) : ((memOf os).get b).wrt = false := by
  simp only [memOf]
  split
  · rename_i x hx; exact hw x (List.mem_of_getElem? hx)
  · rfl

/-- Plain cells that lie in a block, from a place on. -/
theorem ObjRel.plain {w : World} {ρ : Ren} {c : List Value} {e : TypeId} {b o : Nat} {carr : Array Value} {frz : Nat × Nat} (h : w.heap[b]? = some (.cells carr e frz)) (hl : o + c.length ≤ carr.size)
    (hc : ∀ j (h : j < c.length), carr.getD (o + j) undef = c[j]) (hp : ∀ v ∈ c, Plain v) (sz : Nat) (hsz : 0 < sz) : ObjRel ρ (.cells c e false (.full sz)) ⟨b, o, c.length, sz⟩ w :=
  ⟨carr, frz, h, hl, Nat.le_refl _, (fun h => by cases h), (fun k h => by cases h; exact ⟨rfl, rfl, hsz⟩), (fun j hj => by rw [hc j hj]; exact hp _ (List.getElem_mem hj) ρ), (fun z h => by cases h), fun h => by cases h⟩

/-- What a slice of bytes is, in a world: nil; nothing at all, somewhere; or bytes in a block. -/
inductive SlB (w : World) : Value → Prop
  | nil : SlB w (.slice none 0 0)
  | none (a : Addr) : SlB w (.slice (some a) 0 0)
  | some (b o cap : Nat) (c : List UInt8) (carr : Array Value) (ty : TypeId) (frz : Nat × Nat) (hh : w.heap[b]? = some (.cells carr ty frz)) (hl : o + c.length ≤ carr.size)
      (hc : ∀ j (h : j < c.length), carr.getD (o + j) undef = byteV c[j]) (hcap : cap ≤ 9223372036854775807) (hle : c.length ≤ cap) : SlB w (.slice (some ⟨b, o, Option.none⟩) c.length cap)

theorem open_bytes {H : Type} {enc : TypeId × Value → H} {w : World} {base : Nat} {hd : Bool} {t e : TypeId} {cs : List Value} {x : DataW H × List MemPlace} {fuel : Nat}
    (ht : P.underlying t = some (.slice e)) (he : P.underlying e = some (.int .u8)) (hc : P.cellsOf e = 1)
    (h : DataW.trod enc P w base (fun _ => true) hd fuel t cs = some x) : ∃ v, cs = [v] ∧ SlB w v := by
  rcases Go.ChangeShapes.open_ints ht he hc h with ⟨rfl, _⟩ | ⟨a, len, cap, zs, rfl, _, hle, hmax, hlen, _, hcell, hwf⟩
  · exact ⟨_, rfl, .nil⟩
  · refine ⟨_, rfl, ?_⟩
    simp only [if_true] at hlen
    by_cases h0 : cap = 0
    · subst h0
      obtain rfl : len = 0 := by omega
      exact .none a
    · have hc0 := hcell 0 (by omega)
      have ha0 : a.add 0 = a := by simp [Addr.add]
      rw [ha0] at hc0
      obtain ⟨b, o, sp⟩ := a
      simp only [World.cell?] at hc0
      split at hc0 <;> try (simp at hc0; done)
      rename_i carr ty frz hh
      split at hc0 <;> try (simp at hc0; done)
      rename_i hsp
      obtain rfl : sp = Option.none := by cases sp <;> simp_all
      have hall : ∀ i, i < zs.length → carr[o + i]? = some (.int .u8 (zs.getD i 0)) := fun i hi => by
        have := hcell i hi
        by_cases hi0 : i = 0
        · subst hi0; rw [ha0] at this; simpa [World.cell?, hh] using this
        · simpa [World.cell?, Addr.add, hi0, hh] using this
      have hu8 : ∀ i, i < zs.length → 0 ≤ zs.getD i 0 ∧ zs.getD i 0 ≤ 255 := fun i hi => by
        have : zs.getD i 0 ∈ zs := by simp [List.getD, List.getElem?_eq_getElem hi]
        exact wf_u8 (hwf _ this)
      have hcl : ((zs.take len).map fun z => UInt8.ofNat z.toNat).length = len := by simp; omega
      have := SlB.some (w := w) b o cap ((zs.take len).map fun z => UInt8.ofNat z.toNat) carr ty frz hh (by
          rw [hcl]
          by_cases hl0 : len = 0
          · have := (Array.getElem?_eq_some_iff.1 (hall 0 (by omega))).1; omega
          · have := (Array.getElem?_eq_some_iff.1 (hall (len - 1) (by omega))).1; omega) (fun j hj => by
          rw [hcl] at hj
          have h1 := hall j (by omega)
          have h4 := hu8 j (by omega)
          have h5 : carr.getD (o + j) undef = .int .u8 (zs.getD j 0) := by
            simp only [Array.getD_eq_getD_getElem?, h1, Option.getD_some]
          rw [h5]
          simp only [List.getElem_map, List.getElem_take, byteV]
          simp only [List.getD, List.getElem?_eq_getElem (show j < zs.length by omega), Option.getD_some] at h4 ⊢
          congr 1
          simp; omega) hmax (by omega)
      rw [hcl] at this
      exact this
end
end Go.AM
namespace Go.AM
set_option linter.unusedVariables false

/-- What a slice of values of one cell is, in a world. -/
inductive SlP (w : World) (c : List Value) : Value → Prop
  | nil (h : c = []) : SlP w c (.slice none 0 0)
  | none (a : Addr) (h : c = []) : SlP w c (.slice (some a) 0 0)
  | some (b o cap : Nat) (carr : Array Value) (ty : TypeId) (frz : Nat × Nat) (hh : w.heap[b]? = some (.cells carr ty frz)) (hl : o + c.length ≤ carr.size)
      (hc : ∀ j (h : j < c.length), carr.getD (o + j) undef = c[j]) (hcap : cap ≤ 9223372036854775807) (hle : c.length ≤ cap) : SlP w c (.slice (some ⟨b, o, Option.none⟩) c.length cap)

theorem open_row {α : Type} [Inhabited α] (emb : α → Value) (prop : α → Prop) {P : Program} {H : Type} {enc : TypeId × Value → H} {w : World} {base : Nat} {hd : Bool} {t e : TypeId} {cs : List Value} {x : DataW H × List MemPlace} {fuel : Nat}
    (ht : P.underlying t = some (.slice e)) (ce : P.cellsOf e = 1)
    (hel : ∀ {fuel : Nat} {V : Value} {y : DataW H × List MemPlace}, DataW.trod enc P w base (fun _ => true) hd fuel e [V] = some y → ∃ z, V = emb z ∧ prop z)
    (h : DataW.trod enc P w base (fun _ => true) hd fuel t cs = some x) : ∃ (v : Value) (l : List α), cs = [v] ∧ SlP w (l.map emb) v ∧ (∀ y ∈ l, prop y) ∧ l.length ≤ 9223372036854775807 := by
  rcases Go.Deep.open_slice1 ht ce h with ⟨rfl, _⟩ | ⟨a, len, cap, m, n, V, D, Pl, rfl, _, hle, hmax, hm, _, hx⟩
  · exact ⟨_, [], rfl, .nil rfl, by simp, by simp⟩
  · simp only [if_true] at hm
    subst hm
    by_cases h0 : m = 0
    · subst h0
      obtain rfl : len = 0 := by omega
      exact ⟨_, [], rfl, .none a rfl, by simp, by simp⟩
    · have hc0 := (hx 0 (by omega)).1
      have ha0 : a.add 0 = a := by simp [Addr.add]
      rw [ha0] at hc0
      obtain ⟨b, o, sp⟩ := a
      simp only [World.cell?] at hc0
      split at hc0 <;> try (simp at hc0; done)
      rename_i carr ty frz hh
      split at hc0 <;> try (simp at hc0; done)
      rename_i hsp
      obtain rfl : sp = Option.none := by cases sp <;> simp_all
      have hall : ∀ i, i < m → carr[o + i]? = some (V i) := fun i hi => by
        have := (hx i hi).1
        by_cases hi0 : i = 0
        · subst hi0; rw [ha0] at this; simpa [World.cell?, hh] using this
        · simpa [World.cell?, Addr.add, hi0, hh] using this
      obtain ⟨y, hy⟩ := Go.Deep.choose_lt (α := α) (n := len) (fun i hi => hel (hx i (by omega)).2)
      have hlen : (((List.range len).map y).map emb).length = len := by simp
      have key : SlP w (((List.range len).map y).map emb) (.slice (some ⟨b, o, Option.none⟩) (((List.range len).map y).map emb).length m) := by
        refine .some b o m carr ty frz hh ?_ (fun j hj => ?_) hmax (by rw [hlen]; exact hle)
        · rw [hlen]
          by_cases hl0 : len = 0
          · have := (Array.getElem?_eq_some_iff.1 (hall 0 (by omega))).1; omega
          · have := (Array.getElem?_eq_some_iff.1 (hall (len - 1) (by omega))).1; omega
        · have hj' : j < len := by rw [hlen] at hj; exact hj
          simp only [Array.getD_eq_getD_getElem?, hall j (by omega), Option.getD_some]
          simpa using (hy j hj').1
      rw [hlen] at key
      refine ⟨_, (List.range len).map y, rfl, key, fun z hz => ?_, by rw [List.length_map, List.length_range]; exact Nat.le_trans hle hmax⟩
      simp only [List.mem_map, List.mem_range] at hz
      obtain ⟨i, hi, rfl⟩ := hz
      exact (hy i hi).2

theorem LRel.nil' (ρ : Ren) : LRel ρ [] [] := ⟨rfl, fun i h => absurd h (Nat.not_lt_zero i)⟩
theorem LRel.cons' {ρ : Ren} {v v' : Value} {vs vs' : List Value} (hv : VRel ρ v v') (h : LRel ρ vs vs') : LRel ρ (v :: vs) (v' :: vs') :=
  ⟨by rw [List.length_cons, List.length_cons, h.1], fun i h1 h2 => by
    cases i with
    | zero => exact hv
    | succ i => exact h.2 i (by simpa using h1) (by simpa using h2)⟩
/-- The memory of which a law speaks: what the arguments lead to. -/
def os0 (l : List (AObj × Loc)) : List (AObj × Loc) := (.dead, ⟨0, 0, 0, 1⟩) :: l
theorem os0_at {l : List (AObj × Loc)} {k : Nat} {x : AObj × Loc} (h : l[k]? = some x) : (os0 l)[1 + k]? = some x := by rw [Nat.add_comm]; exact h
theorem get0_at {l : List (AObj × Loc)} {k : Nat} {x : AObj × Loc} (h : l[k]? = some x) : (memOf (os0 l)).get (1 + k) = x.1 := by simp only [memOf, os0_at h]
theorem ren0_at {l : List (AObj × Loc)} {k : Nat} {x : AObj × Loc} (h : l[k]? = some x) : renOf (os0 l) (1 + k) = some x.2 := by simp only [renOf, os0_at h, Option.map_some]
theorem lt0_at {l : List (AObj × Loc)} {k : Nat} {x : AObj × Loc} (h : l[k]? = some x) : 1 + k < (memOf (os0 l)).size := by
  have := (List.getElem?_eq_some_iff.1 h).1
  show 1 + k < l.length + 1; omega
theorem wrt0 {l : List (AObj × Loc)} (hl : ∀ x ∈ l, x.1.wrt = false) : ∀ x ∈ os0 l, x.1.wrt = false := fun x hx => by
  simp only [os0, List.mem_cons] at hx
  rcases hx with rfl | hx
  · rfl
  · exact hl x hx
theorem open_ints {P : Program} {H : Type} {enc : TypeId × Value → H} {w : World} {base : Nat} {hd : Bool} {t e : TypeId} {cs : List Value} {x : DataW H × List MemPlace} {fuel : Nat}
    (ht : P.underlying t = some (.slice e)) (he : P.underlying e = some (.int .i64)) (ce : P.cellsOf e = 1)
    (h : DataW.trod enc P w base (fun _ => true) hd fuel t cs = some x) : ∃ (v : Value) (l : List Int), cs = [v] ∧ SlP w (l.map fun n => .int .i64 n) v ∧ (∀ y ∈ l, -9223372036854775808 ≤ y ∧ y ≤ 9223372036854775807) ∧ l.length ≤ 9223372036854775807 :=
  open_row (fun n => .int .i64 n) _ ht ce (fun h => by
    obtain ⟨n, rfl, hw⟩ := trod_one he h
    refine ⟨n, rfl, ?_⟩
    have h2 : IntKind.i64.min ≤ n ∧ n ≤ 9223372036854775807 := by simpa [Lit.wf] using hw
    exact h2) h
theorem slice_of {P : Program} {W : World} {base : Nat} {r : Reach} {t e : TypeId} {v w : Value} (ht : P.underlying t = some (.slice e)) (hx : Value.okWide P W r base t v) (h : v.cells.toList = [w]) : v = w := by
  simp only [Value.okWide, ht] at hx
  cases v with
  | agg cs => simp [Cell.okWide, ht, Cell.ok] at hx
  | _ => simpa [Value.cells] using h
end Go.AM
