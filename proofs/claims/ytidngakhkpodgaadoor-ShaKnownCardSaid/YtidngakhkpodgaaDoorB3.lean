/- Parts of a proof: contracts of functions. -/
import Derived.Test.YtidngakhkpodgaaDoorB2
set_option linter.unusedVariables false
set_option linter.unusedSimpArgs false
set_option linter.unnecessarySimpa false
namespace Go.Proofs.YtidngakhkpodgaaDoor
open Go Go.AM
set_option linter.unusedVariables false
set_option linter.unusedSimpArgs false

theorem noEscape_ok (m : AMem) (v : Value) : ACall Tryd.prog 3 37 [v] m fun r m' => r = .ret v ∧ m' = m := by
  refine ACall_ext (fn := Tryd.f37) (e := Extern.AbiNoEscape.same) rfl rfl rfl rfl rfl ?_
  intro ρ w args' hR hA
  obtain ⟨args'⟩ := args'
  match args', hA with
  | [v'], hA => exact ⟨v, v', rfl, hA.2 0 (by simp) (by simp), rfl, rfl⟩
  | [], hA => simp [LRel] at hA
  | _ :: _ :: _, hA => simp [LRel] at hA

theorem indexByteString_ok (m : AMem) (s : ByteArray) (c : UInt8) : ACall Tryd.prog 3 38 [.string s, byteV c] m fun r m' => r = .ret (.int .i64 (firstIdx s c)) ∧ m' = m := by
  refine ACall_ext (fn := Tryd.f38) (e := Extern.BytealgIndexByte.indexByte) rfl rfl rfl rfl rfl ?_
  intro ρ w args' hR hA
  obtain ⟨args'⟩ := args'
  match args', hA with
  | [a, b], hA =>
    have h1 : VRel ρ (.string s) a := hA.2 0 (by simp) (by simp)
    have h2 : VRel ρ (.int .u8 c.toNat) b := hA.2 1 (by simp) (by simp)
    obtain rfl := h1.string_inv
    obtain rfl := h2.int_inv
    refine ⟨.int .i64 (firstIdx s c), _, run_indexByte_string s c.toNat w, ?_, rfl, rfl⟩
    have : ((c.toNat : Int).toNat).toUInt8 = c := by simp
    rw [this]
    exact .int _ _
  | [], hA => simp [LRel] at hA
  | [_], hA => simp [LRel] at hA
  | _ :: _ :: _ :: _, hA => simp [LRel] at hA

theorem indexByte33_ok (m : AMem) (s : ByteArray) (c : UInt8) : ACall Tryd.prog 3 35 [.string s, byteV c] m fun r m' => r = .ret (.int .i64 (firstIdx s c)) ∧ m' = m := by
  refine ACall_of_W (fn := Tryd.f35) rfl rfl F35_ok (by simp [F35]) ?_
  simp (implicitDefEqProofs := false) (disch := omega) only [amS, Nat.reduceBEq, reduceCtorEq, Nat.reduceEqDiff, Nat.reduceAdd, Nat.reduceMul, Nat.reduceSub, Int.reduceToNat, Int.reduceEq, Int.reduceLT, Int.reduceLE, Int.reduceAdd, Int.reduceSub, Int.reduceMul, reduceIte, resVs, resV, packV, initT, addr, F35]
  refine (indexByteString_ok m s c).mono ?_
  rintro r m' ⟨rfl, rfl⟩
  simp (implicitDefEqProofs := false) (disch := omega) only [amS, Nat.reduceBEq, reduceCtorEq, Nat.reduceEqDiff, Nat.reduceAdd, Nat.reduceMul, Nat.reduceSub, Int.reduceToNat, Int.reduceEq, Int.reduceLT, Int.reduceLE, Int.reduceAdd, Int.reduceSub, Int.reduceMul, reduceIte, resVs, resV, packV, initT, addr]

theorem indexByte_ok (m : AMem) (s : ByteArray) (c : UInt8) : ACall Tryd.prog 3 28 [.string s, byteV c] m fun r m' => r = .ret (.int .i64 (firstIdx s c)) ∧ m' = m := by
  refine ACall_of_W (fn := Tryd.f28) rfl rfl F28_ok (by simp [F28]) ?_
  simp (implicitDefEqProofs := false) (disch := omega) only [amS, Nat.reduceBEq, reduceCtorEq, Nat.reduceEqDiff, Nat.reduceAdd, Nat.reduceMul, Nat.reduceSub, Int.reduceToNat, Int.reduceEq, Int.reduceLT, Int.reduceLE, Int.reduceAdd, Int.reduceSub, Int.reduceMul, reduceIte, resVs, resV, packV, initT, addr, F28]
  refine (indexByte33_ok m s c).mono ?_
  rintro r m' ⟨rfl, rfl⟩
  simp (implicitDefEqProofs := false) (disch := omega) only [amS, Nat.reduceBEq, reduceCtorEq, Nat.reduceEqDiff, Nat.reduceAdd, Nat.reduceMul, Nat.reduceSub, Int.reduceToNat, Int.reduceEq, Int.reduceLT, Int.reduceLE, Int.reduceAdd, Int.reduceSub, Int.reduceMul, reduceIte, resVs, resV, packV, initT, addr]

/-- A strings.Builder in block b that holds the bytes l; its buffer is among the blocks from B on. -/
def Bld (m : AMem) (B b : Nat) (l : List UInt8) : Prop :=
  b < m.size ∧ B ≤ m.size ∧ ((m.get b = .cells [.pointer none, .slice none 0 0] 56 true .exact ∧ l = []) ∨
    ∃ b', B ≤ b' ∧ b' < m.size ∧ b' ≠ b ∧ l ≠ [] ∧ m.get b = .cells [.pointer (some ⟨b, 0, none⟩), .slice (some ⟨b', 0, none⟩) l.length openCap] 56 true .exact ∧
      m.get b' = .cells (l.map byteV) 5 true (.room [.int .u8 0]))

theorem copyCheck_fresh (m : AMem) (b : Nat) (v : Value) (h : m.get b = .cells [.pointer none, v] 56 true .exact) :
    ACall Tryd.prog 3 34 [.pointer (some ⟨b, 0, none⟩)] m fun r m' => r = .ret (.tuple #[]) ∧ m' = m.set b (.cells [.pointer (some ⟨b, 0, none⟩), v] 56 true .exact) := by
  refine ACall_of_W (fn := Tryd.f34) rfl rfl F34_ok (by simp [F34]) ?_
  have h1 : rd m b 0 1 = some [.pointer none] := by rw [rd_one' h]; rfl
  have h2 : ∀ x, wr m b 0 [x] = some (m.set b (.cells [x, v] 56 true .exact)) := fun x => by rw [wr_at h (by simp)]; rfl
  simp (implicitDefEqProofs := false) (disch := omega) only [amS, Nat.reduceBEq, reduceCtorEq, Nat.reduceEqDiff, Nat.reduceAdd, Nat.reduceMul, Nat.reduceSub, Int.reduceToNat, Int.reduceEq, Int.reduceLT, Int.reduceLE, Int.reduceAdd, Int.reduceSub, Int.reduceMul, reduceIte, resVs, resV, packV, initT, addr, F34, h1, h, eqV, Option.isNone, List.length_cons, List.length_nil]
  refine (noEscape_ok m _).mono ?_
  rintro r m' ⟨rfl, rfl⟩
  simp (implicitDefEqProofs := false) (disch := omega) only [amS, Nat.reduceBEq, reduceCtorEq, Nat.reduceEqDiff, Nat.reduceAdd, Nat.reduceMul, Nat.reduceSub, Int.reduceToNat, Int.reduceEq, Int.reduceLT, Int.reduceLE, Int.reduceAdd, Int.reduceSub, Int.reduceMul, reduceIte, resVs, resV, packV, initT, addr, h1, h2, h, List.length_cons, List.length_nil]

theorem copyCheck_used (m : AMem) (b : Nat) (v : Value) (h : m.get b = .cells [.pointer (some ⟨b, 0, none⟩), v] 56 true .exact) :
    ACall Tryd.prog 3 34 [.pointer (some ⟨b, 0, none⟩)] m fun r m' => r = .ret (.tuple #[]) ∧ m' = m := by
  refine ACall_of_W (fn := Tryd.f34) rfl rfl F34_ok (by simp [F34]) ?_
  have h1 : rd m b 0 1 = some [.pointer (some ⟨b, 0, none⟩)] := by rw [rd_one' h]; rfl
  simp (implicitDefEqProofs := false) (disch := omega) only [amS, Nat.reduceBEq, reduceCtorEq, Nat.reduceEqDiff, Nat.reduceAdd, Nat.reduceMul, Nat.reduceSub, Int.reduceToNat, Int.reduceEq, Int.reduceLT, Int.reduceLE, Int.reduceAdd, Int.reduceSub, Int.reduceMul, reduceIte, resVs, resV, packV, initT, addr, F34, h1, eqV, Option.isNone]

theorem writeByte_ok (m : AMem) (B b : Nat) (l : List UInt8) (c : UInt8) (h : Bld m B b l) (hl : l.length ≤ 100000) :
    ACall Tryd.prog 3 26 [.pointer (some ⟨b, 0, none⟩), byteV c] m fun r m' => r = .ret .nilIface ∧ Bld m' B b (l ++ [c]) ∧ m.size ≤ m'.size ∧ ∀ x, x < B → x ≠ b → m'.get x = m.get x := by
  refine ACall_of_W (fn := Tryd.f26) rfl rfl F26_ok (by simp [F26]) ?_
  obtain ⟨hb, hB, ⟨hm, rfl⟩ | ⟨b', hb1, hb2, hne, hnil, hm, hm'⟩⟩ := h
  · simp (implicitDefEqProofs := false) (disch := omega) only [amS, Nat.reduceBEq, reduceCtorEq, Nat.reduceEqDiff, Nat.reduceAdd, Nat.reduceMul, Nat.reduceSub, Int.reduceToNat, Int.reduceEq, Int.reduceLT, Int.reduceLE, Int.reduceAdd, Int.reduceSub, Int.reduceMul, reduceIte, resVs, resV, packV, initT, addr, F26]
    refine (copyCheck_fresh m b _ hm).mono ?_
    rintro r m' ⟨rfl, rfl⟩
    simp (implicitDefEqProofs := false) (disch := omega) only [amS, Nat.reduceBEq, reduceCtorEq, Nat.reduceEqDiff, Nat.reduceAdd, Nat.reduceMul, Nat.reduceSub, Int.reduceToNat, Int.reduceEq, Int.reduceLT, Int.reduceLE, Int.reduceAdd, Int.reduceSub, Int.reduceMul, reduceIte, resVs, resV, packV, initT, addr, rd, wr, splice, List.length_cons, List.length_nil, List.length_map, List.length_append, List.take_succ_cons, List.take_zero, List.drop_succ_cons, List.drop_zero, List.drop_nil, List.cons_append, List.nil_append, List.append_nil, fill_byte, srcLen_slice, srcLen_string, srcCells_slice, srcCells_string, all_int, all_bytes, stepOp_bldSl, stepOp_app, stepOp_lenV, byteV, appendTo_nil]
    refine ⟨⟨by simp (implicitDefEqProofs := false) (disch := omega) only [amS, Nat.reduceBEq, reduceCtorEq, Nat.reduceEqDiff, Nat.reduceAdd, Nat.reduceMul, Nat.reduceSub, Int.reduceToNat, Int.reduceEq, Int.reduceLT, Int.reduceLE, Int.reduceAdd, Int.reduceSub, Int.reduceMul, reduceIte, resVs, resV, packV, initT, addr]; omega, by simp (implicitDefEqProofs := false) (disch := omega) only [amS, Nat.reduceBEq, reduceCtorEq, Nat.reduceEqDiff, Nat.reduceAdd, Nat.reduceMul, Nat.reduceSub, Int.reduceToNat, Int.reduceEq, Int.reduceLT, Int.reduceLE, Int.reduceAdd, Int.reduceSub, Int.reduceMul, reduceIte, resVs, resV, packV, initT, addr]; omega, .inr ⟨m.size + 1, by omega, by simp (implicitDefEqProofs := false) (disch := omega) only [amS, Nat.reduceBEq, reduceCtorEq, Nat.reduceEqDiff, Nat.reduceAdd, Nat.reduceMul, Nat.reduceSub, Int.reduceToNat, Int.reduceEq, Int.reduceLT, Int.reduceLE, Int.reduceAdd, Int.reduceSub, Int.reduceMul, reduceIte, resVs, resV, packV, initT, addr]; omega, by omega, by simp, by simp (implicitDefEqProofs := false) (disch := omega) only [amS, Nat.reduceBEq, reduceCtorEq, Nat.reduceEqDiff, Nat.reduceAdd, Nat.reduceMul, Nat.reduceSub, Int.reduceToNat, Int.reduceEq, Int.reduceLT, Int.reduceLE, Int.reduceAdd, Int.reduceSub, Int.reduceMul, reduceIte, resVs, resV, packV, initT, addr]; rfl, by simp (implicitDefEqProofs := false) (disch := omega) only [amS, Nat.reduceBEq, reduceCtorEq, Nat.reduceEqDiff, Nat.reduceAdd, Nat.reduceMul, Nat.reduceSub, Int.reduceToNat, Int.reduceEq, Int.reduceLT, Int.reduceLE, Int.reduceAdd, Int.reduceSub, Int.reduceMul, reduceIte, resVs, resV, packV, initT, addr]; rfl⟩⟩, by omega, fun x hx hxb => ?_⟩
    simp (implicitDefEqProofs := false) (disch := omega) only [amS, Nat.reduceBEq, reduceCtorEq, Nat.reduceEqDiff, Nat.reduceAdd, Nat.reduceMul, Nat.reduceSub, Int.reduceToNat, Int.reduceEq, Int.reduceLT, Int.reduceLE, Int.reduceAdd, Int.reduceSub, Int.reduceMul, reduceIte, resVs, resV, packV, initT, addr]
  · simp (implicitDefEqProofs := false) (disch := omega) only [amS, Nat.reduceBEq, reduceCtorEq, Nat.reduceEqDiff, Nat.reduceAdd, Nat.reduceMul, Nat.reduceSub, Int.reduceToNat, Int.reduceEq, Int.reduceLT, Int.reduceLE, Int.reduceAdd, Int.reduceSub, Int.reduceMul, reduceIte, resVs, resV, packV, initT, addr, F26]
    refine (copyCheck_used m b _ hm).mono ?_
    rintro r m' ⟨rfl, rfl⟩
    have ha : ∀ (M : AMem), M.get b' = .cells (l.map byteV) 5 true (.room [.int .u8 0]) → appendTo 5 1 1 [.int .u8 0] (.slice (some ⟨b', 0, none⟩) l.length openCap) 1 [.int .u8 c.toNat] M =
        some (.slice (some ⟨M.size, 0, none⟩) (l.length + 1) openCap, (M.set b' .dead).push (.cells (l.map byteV ++ [.int .u8 c.toNat]) 5 true (.room [.int .u8 0]))) := fun M hM =>
      appendTo_open hM eqPL_refl_int rfl (by omega) (by simp) (by omega) (by omega) (by omega)
    have hg : (m'.push (.cells [.int .u8 c.toNat] 5 true .exact)).get b' = .cells (l.map byteV) 5 true (.room [.int .u8 0]) := by simp (implicitDefEqProofs := false) (disch := omega) only [amS, Nat.reduceBEq, reduceCtorEq, Nat.reduceEqDiff, Nat.reduceAdd, Nat.reduceMul, Nat.reduceSub, Int.reduceToNat, Int.reduceEq, Int.reduceLT, Int.reduceLE, Int.reduceAdd, Int.reduceSub, Int.reduceMul, reduceIte, resVs, resV, packV, initT, addr, hm']
    simp (implicitDefEqProofs := false) (disch := omega) only [amS, Nat.reduceBEq, reduceCtorEq, Nat.reduceEqDiff, Nat.reduceAdd, Nat.reduceMul, Nat.reduceSub, Int.reduceToNat, Int.reduceEq, Int.reduceLT, Int.reduceLE, Int.reduceAdd, Int.reduceSub, Int.reduceMul, reduceIte, resVs, resV, packV, initT, addr, rd, wr, splice, List.length_cons, List.length_nil, List.length_map, List.length_append, List.take_succ_cons, List.take_zero, List.drop_succ_cons, List.drop_zero, List.drop_nil, List.cons_append, List.nil_append, List.append_nil, fill_byte, srcLen_slice, srcLen_string, srcCells_slice, srcCells_string, all_int, all_bytes, stepOp_bldSl, stepOp_app, stepOp_lenV, byteV, hm, ha _ hg]
    refine ⟨⟨by simp (implicitDefEqProofs := false) (disch := omega) only [amS, Nat.reduceBEq, reduceCtorEq, Nat.reduceEqDiff, Nat.reduceAdd, Nat.reduceMul, Nat.reduceSub, Int.reduceToNat, Int.reduceEq, Int.reduceLT, Int.reduceLE, Int.reduceAdd, Int.reduceSub, Int.reduceMul, reduceIte, resVs, resV, packV, initT, addr]; omega, by simp (implicitDefEqProofs := false) (disch := omega) only [amS, Nat.reduceBEq, reduceCtorEq, Nat.reduceEqDiff, Nat.reduceAdd, Nat.reduceMul, Nat.reduceSub, Int.reduceToNat, Int.reduceEq, Int.reduceLT, Int.reduceLE, Int.reduceAdd, Int.reduceSub, Int.reduceMul, reduceIte, resVs, resV, packV, initT, addr]; omega, .inr ⟨m'.size + 1, by omega, by simp (implicitDefEqProofs := false) (disch := omega) only [amS, Nat.reduceBEq, reduceCtorEq, Nat.reduceEqDiff, Nat.reduceAdd, Nat.reduceMul, Nat.reduceSub, Int.reduceToNat, Int.reduceEq, Int.reduceLT, Int.reduceLE, Int.reduceAdd, Int.reduceSub, Int.reduceMul, reduceIte, resVs, resV, packV, initT, addr]; omega, by omega, by simp, by simp (implicitDefEqProofs := false) (disch := omega) only [amS, Nat.reduceBEq, reduceCtorEq, Nat.reduceEqDiff, Nat.reduceAdd, Nat.reduceMul, Nat.reduceSub, Int.reduceToNat, Int.reduceEq, Int.reduceLT, Int.reduceLE, Int.reduceAdd, Int.reduceSub, Int.reduceMul, reduceIte, resVs, resV, packV, initT, addr, List.length_append, List.length_cons, List.length_nil], by simp (implicitDefEqProofs := false) (disch := omega) only [amS, Nat.reduceBEq, reduceCtorEq, Nat.reduceEqDiff, Nat.reduceAdd, Nat.reduceMul, Nat.reduceSub, Int.reduceToNat, Int.reduceEq, Int.reduceLT, Int.reduceLE, Int.reduceAdd, Int.reduceSub, Int.reduceMul, reduceIte, resVs, resV, packV, initT, addr, List.map_append, byteV]⟩⟩, by omega, fun x hx hxb => ?_⟩
    simp (implicitDefEqProofs := false) (disch := omega) only [amS, Nat.reduceBEq, reduceCtorEq, Nat.reduceEqDiff, Nat.reduceAdd, Nat.reduceMul, Nat.reduceSub, Int.reduceToNat, Int.reduceEq, Int.reduceLT, Int.reduceLE, Int.reduceAdd, Int.reduceSub, Int.reduceMul, reduceIte, resVs, resV, packV, initT, addr]

theorem bldString_ok (m : AMem) (B b : Nat) (l : List UInt8) (h : Bld m B b l) (hl : l.length ≤ 100000) :
    ACall Tryd.prog 3 27 [.pointer (some ⟨b, 0, none⟩)] m fun r m' => r = .ret (.string ⟨l.toArray⟩) ∧ m.size ≤ m'.size ∧ ∀ x, x < B → x ≠ b → m'.get x = m.get x := by
  refine ACall_of_W (fn := Tryd.f27) rfl rfl F27_ok (by simp [F27]) ?_
  obtain ⟨hb, hB, ⟨hm, rfl⟩ | ⟨b', hb1, hb2, hne, hnil, hm, hm'⟩⟩ := h
  · simp (implicitDefEqProofs := false) (disch := omega) only [amS, Nat.reduceBEq, reduceCtorEq, Nat.reduceEqDiff, Nat.reduceAdd, Nat.reduceMul, Nat.reduceSub, Int.reduceToNat, Int.reduceEq, Int.reduceLT, Int.reduceLE, Int.reduceAdd, Int.reduceSub, Int.reduceMul, reduceIte, resVs, resV, packV, initT, addr, rd, wr, splice, List.length_cons, List.length_nil, List.length_map, List.length_append, List.take_succ_cons, List.take_zero, List.drop_succ_cons, List.drop_zero, List.drop_nil, List.cons_append, List.nil_append, List.append_nil, fill_byte, srcLen_slice, srcLen_string, srcCells_slice, srcCells_string, all_int, all_bytes, stepOp_bldSl, stepOp_app, stepOp_lenV, byteV, F27, hm, stepOp_sdat, stepOp_ustr]
    exact ⟨rfl, Nat.le_refl _, fun _ _ _ => trivial⟩
  · have h0 : 0 < l.length := List.length_pos_iff.2 hnil
    have e1 : ¬ l.length = 0 := by omega
    have e2 : (List.map byteV l).take l.length = l.map byteV := List.take_of_length_le (by simp)
    have e3 := map_ofNat_byteOf l
    simp (implicitDefEqProofs := false) (disch := omega) only [W_skip, W_seq, W_reg, W_block, W_exit, W_ret, W_cond, W_draw, WI_nil, WI_op, WI_opg, WI_call, WI_callg, DW_call, DW_callg, OpI_some, OpG_some, OpG_true, OpG_false, BoolW_true, BoolW_false, GrdW_true, GrdW_false, SeqK_normal, SeqK_exit, SeqK_ret, SeqK_pan, BlockK_normal, BlockK_exit, BlockK_ret, BlockK_pan, LoopK_exit, LoopK_ret, LoopK_pan, CallK_ret, CallK_pan, RetK_ret, RetK_normal, RetK_pan, ResW_some, resVs, resV, packV, DW_nil, DW_f, DW_bop, FltW_some, FltG_some, fstO_some, valF_op, valF_opg, dst_op, dst_call, BarK_nil, OpB_some, gv_true, gv_false, sel2_true, sel2_false, sel2_and, sel2_or, beq_true, beq_false, updO_some, updO_none, upd_apply, sel_true, sel_false, Nat.reduceBEq, ev_t, ev_c, wanted_some, initT, List.getD_cons_zero, List.getD_cons_succ, stepOp_mov, stepOp_pick', pickV_bool, stepOp_new, stepOp_box, stepOp_ld1, stepOp_ldn, stepOp_st, stepOp_nchk, stepOp_bin, stepOp_eql, stepOp_un, stepOp_cvt, stepOp_idc, stepOp_slA, stepOp_fad, stepOp_iadA, stepOp_iadV, stepOp_ixS, stepOp_ext, stepOp_lenS, stepOp_lenV, stepOp_lenN, stepOp_toU, stepOp_frU, binV_add, binV_sub, binV_mul, binV_and, binV_or, binV_xor, binV_andNot, binV_eql, binV_neq, binV_lss, binV_leq, binV_gtr, binV_geq, binV_quo, binV_rem, binV_shl, binV_shr, binV_seql, binV_sneq, binV_sadd, unV_neg, unV_not, eqV_bool, addr_ptr, addr, cellsOf_int, cellsOf_bool, cellsOf_string, cellsOf_ptr, cellsOf_slice, cellsOf_bytes, AMem.size_push, AMem.size_set, AMem.get_push, AMem.get_set, ifp, ifn, wrap_i64, wrap_u64, wrap_u8, wrap_i32, Option.map_some, Option.some.injEq, reduceCtorEq, if_true, if_false, eq_self, true_and, and_true, Bool.true_and, Bool.and_true, Bool.false_or, Bool.or_false, Bool.not_true, Bool.not_false, beq_self_eq_true, Bool.false_and, Bool.and_false, Bool.true_or, Bool.or_true, Nat.reduceEqDiff, Nat.reduceAdd, Nat.reduceMul, Nat.reduceSub, Nat.mul_one, Nat.add_zero, Nat.zero_add, Nat.zero_mul, Int.toNat_natCast, Int.reduceToNat, Int.reduceEq, Int.reduceLT, Int.reduceLE, Int.reduceAdd, Int.reduceSub, Int.reduceMul, ne_eq, not_false_eq_true, List.map_cons, List.map_nil, decide_true, decide_false, decide_eq_true_eq, rd, wr, splice, List.length_cons, List.length_nil, List.length_map, List.length_append, List.take_succ_cons, List.take_zero, List.drop_succ_cons, List.drop_zero, List.drop_nil, List.cons_append, List.nil_append, List.append_nil, fill_byte, srcLen_slice, srcLen_string, srcCells_slice, srcCells_string, all_int, all_bytes, stepOp_bldSl, stepOp_app, stepOp_lenV, F27, hm, hm', stepOp_sdat, stepOp_ustr, e2, e3]
    refine ⟨Nat.le_refl _, fun x hx hxb => ?_⟩
    simp (implicitDefEqProofs := false) (disch := omega) only [amS, Nat.reduceBEq, reduceCtorEq, Nat.reduceEqDiff, Nat.reduceAdd, Nat.reduceMul, Nat.reduceSub, Int.reduceToNat, Int.reduceEq, Int.reduceLT, Int.reduceLE, Int.reduceAdd, Int.reduceSub, Int.reduceMul, reduceIte, resVs, resV, packV, initT, addr]
end Go.Proofs.YtidngakhkpodgaaDoor
namespace Go.Proofs.YtidngakhkpodgaaDoor
open Go Go.AM
set_option linter.unusedVariables false
set_option linter.unusedSimpArgs false

theorem hexs_len : hexs.length = 16 := rfl
def hex2 (c : UInt8) : List UInt8 := [hexs.getD (c.toNat / 16) 0, hexs.getD (c.toNat % 16) 0]
def hexR (d : List UInt8) : List UInt8 := d.flatMap hex2
theorem hexR_length (d : List UInt8) : (hexR d).length = 2 * d.length := by
  induction d with
  | nil => rfl
  | cons c d ih => rw [hexR, List.flatMap_cons, List.length_append]; have := ih; rw [hexR] at this; rw [this]; simp [hex2]; omega
theorem hexR_snoc (d : List UInt8) (c : UInt8) : hexR (d ++ [c]) = hexR d ++ [hexs.getD (c.toNat / 16) 0] ++ [hexs.getD (c.toNat % 16) 0] := by
  simp [hexR, hex2]
theorem hexs_at' (i : Nat) (h : i < 16) : (⟨#[48, 49, 50, 51, 52, 53, 54, 55, 56, 57, 97, 98, 99, 100, 101, 102]⟩ : ByteArray)[i]? = some (hexs.getD i 0) := by
  rw [hexs_at i h]; simp [List.getD, List.getElem?_eq_getElem (show i < hexs.length by rw [hexs_len]; exact h)]; rfl

theorem hex_ok (m : AMem) (d : List UInt8) (hd : d.length = 32) : PureC Tryd.prog 3 17 [.agg (d.map byteV).toArray] m (.string ⟨(hexR d).toArray⟩) := by
  refine pure_of_W (fn := Tryd.f17) rfl rfl F17_ok (by simp [F17]) (.string _) ?_
  simp (implicitDefEqProofs := false) (maxSteps := 1000000) (disch := first | omega | with_reducible assumption | (simp only [List.length_map, List.length_cons, List.length_nil, List.length_set, List.length_append, List.length_replicate, List.length_take, List.length_drop, mk_size, AMem.size_set, Nat.reduceAdd]; omega)) only [amT, cut, bnd, Nat.reduceBEq, reduceCtorEq, Nat.reduceEqDiff, Nat.reduceAdd, Nat.reduceMul, Nat.reduceSub, Int.reduceToNat, Int.reduceEq, Int.reduceLT, Int.reduceLE, Int.reduceAdd, Int.reduceSub, Int.reduceMul, reduceIte, resVs, resV, packV, initT, addr, F17, cutL_all]
  refine W_loop (fun N qs => ∃ (i : Nat) (M : AMem), N = 32 - i ∧ qs.ds = [] ∧ qs.m = M ∧ qs.t 3 = .pointer (some ⟨m.size + 1, 0, none⟩) ∧ qs.t 6 = .agg (d.map byteV).toArray ∧ qs.t 7 = .int .i64 i ∧ i ≤ 32 ∧ Bld M (m.size + 2) (m.size + 1) (hexR (d.take i)) ∧ Old m M) (32 - (0)) ⟨0, mx m [.cells (d.map byteV) 25 true .exact, .cells [.pointer none, .slice none 0 0] 56 true .exact], rfl, rfl, by first | rfl | (simp (implicitDefEqProofs := false) (maxSteps := 1000000) (disch := first | omega | with_reducible assumption | (simp only [List.length_map, List.length_cons, List.length_nil, List.length_set, List.length_append, List.length_replicate, List.length_take, List.length_drop, mk_size, AMem.size_set, Nat.reduceAdd]; omega)) only [amT, cut, bnd, Nat.reduceBEq, reduceCtorEq, Nat.reduceEqDiff, Nat.reduceAdd, Nat.reduceMul, Nat.reduceSub, Int.reduceToNat, Int.reduceEq, Int.reduceLT, Int.reduceLE, Int.reduceAdd, Int.reduceSub, Int.reduceMul, reduceIte, resVs, resV, packV, initT, addr]; first | done | rfl | (congr 1; omega)), by first | rfl | (simp (implicitDefEqProofs := false) (maxSteps := 1000000) (disch := first | omega | with_reducible assumption | (simp only [List.length_map, List.length_cons, List.length_nil, List.length_set, List.length_append, List.length_replicate, List.length_take, List.length_drop, mk_size, AMem.size_set, Nat.reduceAdd]; omega)) only [amT, cut, bnd, Nat.reduceBEq, reduceCtorEq, Nat.reduceEqDiff, Nat.reduceAdd, Nat.reduceMul, Nat.reduceSub, Int.reduceToNat, Int.reduceEq, Int.reduceLT, Int.reduceLE, Int.reduceAdd, Int.reduceSub, Int.reduceMul, reduceIte, resVs, resV, packV, initT, addr]; first | done | rfl | (congr 1; omega)), by first | rfl | (simp (implicitDefEqProofs := false) (maxSteps := 1000000) (disch := first | omega | with_reducible assumption | (simp only [List.length_map, List.length_cons, List.length_nil, List.length_set, List.length_append, List.length_replicate, List.length_take, List.length_drop, mk_size, AMem.size_set, Nat.reduceAdd]; omega)) only [amT, cut, bnd, Nat.reduceBEq, reduceCtorEq, Nat.reduceEqDiff, Nat.reduceAdd, Nat.reduceMul, Nat.reduceSub, Int.reduceToNat, Int.reduceEq, Int.reduceLT, Int.reduceLE, Int.reduceAdd, Int.reduceSub, Int.reduceMul, reduceIte, resVs, resV, packV, initT, addr]; first | done | rfl | (congr 1; omega)), by first | rfl | (simp (implicitDefEqProofs := false) (maxSteps := 1000000) (disch := first | omega | with_reducible assumption | (simp only [List.length_map, List.length_cons, List.length_nil, List.length_set, List.length_append, List.length_replicate, List.length_take, List.length_drop, mk_size, AMem.size_set, Nat.reduceAdd]; omega)) only [amT, cut, bnd, Nat.reduceBEq, reduceCtorEq, Nat.reduceEqDiff, Nat.reduceAdd, Nat.reduceMul, Nat.reduceSub, Int.reduceToNat, Int.reduceEq, Int.reduceLT, Int.reduceLE, Int.reduceAdd, Int.reduceSub, Int.reduceMul, reduceIte, resVs, resV, packV, initT, addr]; first | done | rfl | (congr 1; omega)), ?_⟩ ?_
  · exact ⟨by omega, ⟨by rw [mx_size]; simp, by rw [mx_size]; simp, .inl ⟨mx_new _ _ 1, rfl⟩⟩, Old.here _ _⟩
  · rintro N t m1 ds ⟨i, M, rfl, hds, hm, t3, t6, t7, hp⟩
    simp only at hds hm t3 t6 t7
    subst hds; replace hm := hm.symm; subst hm
    obtain ⟨hi32, hB, hO⟩ := hp
    have hlen : ∀ j, j ≤ 32 → (hexR (d.take j)).length = 2 * j := fun j hj => by rw [hexR_length, List.length_take]; omega
    by_cases hi : (i : Int) < 32
    · have hi' : i < 32 := by omega
      obtain ⟨c, hc⟩ : ∃ c, c = d[i]'(by omega) := ⟨_, rfl⟩
      have hg : (d.map byteV)[i]? = some (byteV c) := by rw [bytes_get (by omega), hc]
      have hcl := c.toNat_lt
      have e1 : (c.toNat : Int).tdiv 16 = ((c.toNat / 16 : Nat) : Int) := tdiv_nat _ 16
      have e2 : (c.toNat : Int).tmod 16 = ((c.toNat % 16 : Nat) : Int) := tmod_nat _ 16
      have h1 := hexs_at' (c.toNat / 16) (by omega)
      have h2 := hexs_at' (c.toNat % 16) (by omega)
      have hnx : hexR (d.take i) ++ [hexs.getD (c.toNat / 16) 0] ++ [hexs.getD (c.toNat % 16) 0] = hexR (d.take (i + 1)) := by
        rw [List.take_succ_eq_append_getElem (by omega), ← hc, hexR_snoc]
      simp (implicitDefEqProofs := false) (maxSteps := 1000000) (disch := first | omega | with_reducible assumption | (simp only [List.length_map, List.length_cons, List.length_nil, List.length_set, List.length_append, List.length_replicate, List.length_take, List.length_drop, mk_size, AMem.size_set, Nat.reduceAdd]; omega)) only [amT, cut, bnd, Nat.reduceBEq, reduceCtorEq, Nat.reduceEqDiff, Nat.reduceAdd, Nat.reduceMul, Nat.reduceSub, Int.reduceToNat, Int.reduceEq, Int.reduceLT, Int.reduceLE, Int.reduceAdd, Int.reduceSub, Int.reduceMul, reduceIte, resVs, resV, packV, initT, addr, F17_l0, t3, t6, t7, hi, hg, byteV_def, e1, h1]
      refine ACall.mono (writeByte_ok M (m.size + 2) (m.size + 1) (hexR (d.take i)) (hexs.getD (c.toNat / 16) 0) hB (by rw [hlen i hi32]; omega)) ?_
      rintro r M1 ⟨rfl, hB1, hs1, ho1⟩
      simp (implicitDefEqProofs := false) (maxSteps := 1000000) (disch := first | omega | with_reducible assumption | (simp only [List.length_map, List.length_cons, List.length_nil, List.length_set, List.length_append, List.length_replicate, List.length_take, List.length_drop, mk_size, AMem.size_set, Nat.reduceAdd]; omega)) only [amT, cut, bnd, Nat.reduceBEq, reduceCtorEq, Nat.reduceEqDiff, Nat.reduceAdd, Nat.reduceMul, Nat.reduceSub, Int.reduceToNat, Int.reduceEq, Int.reduceLT, Int.reduceLE, Int.reduceAdd, Int.reduceSub, Int.reduceMul, reduceIte, resVs, resV, packV, initT, addr, t3, t6, t7, e2, h2]
      refine ACall.mono (writeByte_ok M1 (m.size + 2) (m.size + 1) _ (hexs.getD (c.toNat % 16) 0) hB1 (by rw [List.length_append, hlen i hi32]; simp; omega)) ?_
      rintro r M2 ⟨rfl, hB2, hs2, ho2⟩
      rw [hnx] at hB2
      simp (implicitDefEqProofs := false) (maxSteps := 1000000) (disch := first | omega | with_reducible assumption | (simp only [List.length_map, List.length_cons, List.length_nil, List.length_set, List.length_append, List.length_replicate, List.length_take, List.length_drop, mk_size, AMem.size_set, Nat.reduceAdd]; omega)) only [amT, cut, bnd, Nat.reduceBEq, reduceCtorEq, Nat.reduceEqDiff, Nat.reduceAdd, Nat.reduceMul, Nat.reduceSub, Int.reduceToNat, Int.reduceEq, Int.reduceLT, Int.reduceLE, Int.reduceAdd, Int.reduceSub, Int.reduceMul, reduceIte, resVs, resV, packV, initT, addr, t3, t6, t7]
      rw [LoopK_normal]; refine ⟨_, ?_, i + 1, M2, rfl, rfl, by first | rfl | (simp (implicitDefEqProofs := false) (maxSteps := 1000000) (disch := first | omega | with_reducible assumption | (simp only [List.length_map, List.length_cons, List.length_nil, List.length_set, List.length_append, List.length_replicate, List.length_take, List.length_drop, mk_size, AMem.size_set, Nat.reduceAdd]; omega)) only [amT, cut, bnd, Nat.reduceBEq, reduceCtorEq, Nat.reduceEqDiff, Nat.reduceAdd, Nat.reduceMul, Nat.reduceSub, Int.reduceToNat, Int.reduceEq, Int.reduceLT, Int.reduceLE, Int.reduceAdd, Int.reduceSub, Int.reduceMul, reduceIte, resVs, resV, packV, initT, addr, t3, t6, t7]; first | done | rfl | (congr 1; omega)), by first | rfl | (simp (implicitDefEqProofs := false) (maxSteps := 1000000) (disch := first | omega | with_reducible assumption | (simp only [List.length_map, List.length_cons, List.length_nil, List.length_set, List.length_append, List.length_replicate, List.length_take, List.length_drop, mk_size, AMem.size_set, Nat.reduceAdd]; omega)) only [amT, cut, bnd, Nat.reduceBEq, reduceCtorEq, Nat.reduceEqDiff, Nat.reduceAdd, Nat.reduceMul, Nat.reduceSub, Int.reduceToNat, Int.reduceEq, Int.reduceLT, Int.reduceLE, Int.reduceAdd, Int.reduceSub, Int.reduceMul, reduceIte, resVs, resV, packV, initT, addr, t3, t6, t7]; first | done | rfl | (congr 1; omega)), by first | rfl | (simp (implicitDefEqProofs := false) (maxSteps := 1000000) (disch := first | omega | with_reducible assumption | (simp only [List.length_map, List.length_cons, List.length_nil, List.length_set, List.length_append, List.length_replicate, List.length_take, List.length_drop, mk_size, AMem.size_set, Nat.reduceAdd]; omega)) only [amT, cut, bnd, Nat.reduceBEq, reduceCtorEq, Nat.reduceEqDiff, Nat.reduceAdd, Nat.reduceMul, Nat.reduceSub, Int.reduceToNat, Int.reduceEq, Int.reduceLT, Int.reduceLE, Int.reduceAdd, Int.reduceSub, Int.reduceMul, reduceIte, resVs, resV, packV, initT, addr, t3, t6, t7]; first | done | rfl | (congr 1; omega)), by first | rfl | (simp (implicitDefEqProofs := false) (maxSteps := 1000000) (disch := first | omega | with_reducible assumption | (simp only [List.length_map, List.length_cons, List.length_nil, List.length_set, List.length_append, List.length_replicate, List.length_take, List.length_drop, mk_size, AMem.size_set, Nat.reduceAdd]; omega)) only [amT, cut, bnd, Nat.reduceBEq, reduceCtorEq, Nat.reduceEqDiff, Nat.reduceAdd, Nat.reduceMul, Nat.reduceSub, Int.reduceToNat, Int.reduceEq, Int.reduceLT, Int.reduceLE, Int.reduceAdd, Int.reduceSub, Int.reduceMul, reduceIte, resVs, resV, packV, initT, addr, t3, t6, t7]; first | done | rfl | (congr 1; omega)), ?_⟩
      · omega
      · exact ⟨by omega, hB2, by have := hO.1; omega, fun x hx => by rw [ho2 x (by omega) (by omega), ho1 x (by omega) (by omega)]; exact hO.2 x hx⟩
    · have hi' : i = 32 := by omega
      subst hi'
      rw [List.take_of_length_le (by omega)] at hB
      simp (implicitDefEqProofs := false) (maxSteps := 1000000) (disch := first | omega | with_reducible assumption | (simp only [List.length_map, List.length_cons, List.length_nil, List.length_set, List.length_append, List.length_replicate, List.length_take, List.length_drop, mk_size, AMem.size_set, Nat.reduceAdd]; omega)) only [amT, cut, bnd, Nat.reduceBEq, reduceCtorEq, Nat.reduceEqDiff, Nat.reduceAdd, Nat.reduceMul, Nat.reduceSub, Int.reduceToNat, Int.reduceEq, Int.reduceLT, Int.reduceLE, Int.reduceAdd, Int.reduceSub, Int.reduceMul, reduceIte, resVs, resV, packV, initT, addr, F17_l0, t3, t6, t7, hi]
      refine ACall.mono (bldString_ok M (m.size + 2) (m.size + 1) (hexR d) hB (by rw [hexR_length]; omega)) ?_
      rintro r M1 ⟨rfl, hs1, ho1⟩
      simp (implicitDefEqProofs := false) (maxSteps := 1000000) (disch := first | omega | with_reducible assumption | (simp only [List.length_map, List.length_cons, List.length_nil, List.length_set, List.length_append, List.length_replicate, List.length_take, List.length_drop, mk_size, AMem.size_set, Nat.reduceAdd]; omega)) only [amT, cut, bnd, Nat.reduceBEq, reduceCtorEq, Nat.reduceEqDiff, Nat.reduceAdd, Nat.reduceMul, Nat.reduceSub, Int.reduceToNat, Int.reduceEq, Int.reduceLT, Int.reduceLE, Int.reduceAdd, Int.reduceSub, Int.reduceMul, reduceIte, resVs, resV, packV, initT, addr, t3, t6, t7]
      exact ⟨by have := hO.1; omega, fun x hx => by rw [ho1 x (by omega) (by omega)]; exact hO.2 x hx⟩
theorem kHex {m : AMem} {d : List UInt8} (hd : d.length = 32) : type_of% (DetC.known (hex_ok m d hd)) := DetC.known (hex_ok m d hd)

theorem hexs_ex (v : Nat) (h : v < 16) : (⟨#[48, 49, 50, 51, 52, 53, 54, 55, 56, 57, 97, 98, 99, 100, 101, 102]⟩ : ByteArray).extract v (v + 1) = ⟨[hexs.getD v 0].toArray⟩ := by
  have : ∀ v : Fin 16, (⟨#[48, 49, 50, 51, 52, 53, 54, 55, 56, 57, 97, 98, 99, 100, 101, 102]⟩ : ByteArray).extract v.val (v.val + 1) = ⟨[hexs.getD v.val 0].toArray⟩ := by decide +kernel
  exact this ⟨v, h⟩
theorem refHex_ok (m : AMem) (d : List UInt8) (hd : d.length = 32) : PureC Tryd.prog 3 20 [.agg (d.map byteV).toArray] m (.string ⟨(hexR d).toArray⟩) := by
  refine pure_of_W (fn := Tryd.f20) rfl rfl F20_ok (by simp [F20]) (.string _) ?_
  simp (implicitDefEqProofs := false) (maxSteps := 1000000) (disch := first | omega | with_reducible assumption | (simp only [List.length_map, List.length_cons, List.length_nil, List.length_set, List.length_append, List.length_replicate, List.length_take, List.length_drop, mk_size, AMem.size_set, Nat.reduceAdd]; omega)) only [amT, cut, bnd, Nat.reduceBEq, reduceCtorEq, Nat.reduceEqDiff, Nat.reduceAdd, Nat.reduceMul, Nat.reduceSub, Int.reduceToNat, Int.reduceEq, Int.reduceLT, Int.reduceLE, Int.reduceAdd, Int.reduceSub, Int.reduceMul, reduceIte, resVs, resV, packV, initT, addr, F20]
  refine W_loop (fun N qs => ∃ (i : Nat), N = 32 - i ∧ qs.ds = [] ∧ qs.m = mx m [.cells (d.map byteV) 25 true .exact] ∧ qs.t 1 = .pointer (some ⟨m.size, 0, none⟩) ∧ qs.t 3 = .string ⟨(hexR (d.take i)).toArray⟩ ∧ qs.t 4 = .int .i64 i ∧ i ≤ 32) (32 - (0)) ⟨0, rfl, rfl, by first | rfl | (simp (implicitDefEqProofs := false) (maxSteps := 1000000) (disch := first | omega | with_reducible assumption | (simp only [List.length_map, List.length_cons, List.length_nil, List.length_set, List.length_append, List.length_replicate, List.length_take, List.length_drop, mk_size, AMem.size_set, Nat.reduceAdd]; omega)) only [amT, cut, bnd, Nat.reduceBEq, reduceCtorEq, Nat.reduceEqDiff, Nat.reduceAdd, Nat.reduceMul, Nat.reduceSub, Int.reduceToNat, Int.reduceEq, Int.reduceLT, Int.reduceLE, Int.reduceAdd, Int.reduceSub, Int.reduceMul, reduceIte, resVs, resV, packV, initT, addr, List.take_zero, hexR, List.flatMap_nil]; first | done | rfl | (congr 1; omega)), by first | rfl | (simp (implicitDefEqProofs := false) (maxSteps := 1000000) (disch := first | omega | with_reducible assumption | (simp only [List.length_map, List.length_cons, List.length_nil, List.length_set, List.length_append, List.length_replicate, List.length_take, List.length_drop, mk_size, AMem.size_set, Nat.reduceAdd]; omega)) only [amT, cut, bnd, Nat.reduceBEq, reduceCtorEq, Nat.reduceEqDiff, Nat.reduceAdd, Nat.reduceMul, Nat.reduceSub, Int.reduceToNat, Int.reduceEq, Int.reduceLT, Int.reduceLE, Int.reduceAdd, Int.reduceSub, Int.reduceMul, reduceIte, resVs, resV, packV, initT, addr, List.take_zero, hexR, List.flatMap_nil]; first | done | rfl | (congr 1; omega)), by first | rfl | (simp (implicitDefEqProofs := false) (maxSteps := 1000000) (disch := first | omega | with_reducible assumption | (simp only [List.length_map, List.length_cons, List.length_nil, List.length_set, List.length_append, List.length_replicate, List.length_take, List.length_drop, mk_size, AMem.size_set, Nat.reduceAdd]; omega)) only [amT, cut, bnd, Nat.reduceBEq, reduceCtorEq, Nat.reduceEqDiff, Nat.reduceAdd, Nat.reduceMul, Nat.reduceSub, Int.reduceToNat, Int.reduceEq, Int.reduceLT, Int.reduceLE, Int.reduceAdd, Int.reduceSub, Int.reduceMul, reduceIte, resVs, resV, packV, initT, addr, List.take_zero, hexR, List.flatMap_nil]; first | done | rfl | (congr 1; omega)), by first | rfl | (simp (implicitDefEqProofs := false) (maxSteps := 1000000) (disch := first | omega | with_reducible assumption | (simp only [List.length_map, List.length_cons, List.length_nil, List.length_set, List.length_append, List.length_replicate, List.length_take, List.length_drop, mk_size, AMem.size_set, Nat.reduceAdd]; omega)) only [amT, cut, bnd, Nat.reduceBEq, reduceCtorEq, Nat.reduceEqDiff, Nat.reduceAdd, Nat.reduceMul, Nat.reduceSub, Int.reduceToNat, Int.reduceEq, Int.reduceLT, Int.reduceLE, Int.reduceAdd, Int.reduceSub, Int.reduceMul, reduceIte, resVs, resV, packV, initT, addr, List.take_zero, hexR, List.flatMap_nil]; first | done | rfl | (congr 1; omega)), ?_⟩ ?_
  · omega
  · rintro N t m1 ds ⟨i, rfl, hds, hm, t1, t3, t4, hp⟩
    simp only at hds hm t1 t3 t4
    subst hds; replace hm := hm.symm; subst hm
    have hlen : ∀ j, j ≤ 32 → (hexR (d.take j)).length = 2 * j := fun j hj => by rw [hexR_length, List.length_take]; omega
    by_cases hi : (i : Int) < 32
    · have hi' : i < 32 := by omega
      obtain ⟨c, hc⟩ : ∃ c, c = d[i]'(by omega) := ⟨_, rfl⟩
      have hg : (d.map byteV)[i]? = some (byteV c) := by rw [bytes_get (by omega), hc]
      have hcl := c.toNat_lt
      have e1 : (c.toNat : Int).tdiv 16 = ((c.toNat / 16 : Nat) : Int) := tdiv_nat _ 16
      have e2 : (c.toNat : Int).tmod 16 = ((c.toNat % 16 : Nat) : Int) := tmod_nat _ 16
      have e3 : ((c.toNat / 16 : Nat) : Int) + 1 = ((c.toNat / 16 + 1 : Nat) : Int) := by omega
      have e4 : ((c.toNat % 16 : Nat) : Int) + 1 = ((c.toNat % 16 + 1 : Nat) : Int) := by omega
      have h1 := hexs_ex (c.toNat / 16) (by omega)
      have h2 := hexs_ex (c.toNat % 16) (by omega)
      have hs : (⟨#[48, 49, 50, 51, 52, 53, 54, 55, 56, 57, 97, 98, 99, 100, 101, 102]⟩ : ByteArray).size = 16 := rfl
      have hl := hlen i hp
      have hnx : hexR (d.take (i + 1)) = hexR (d.take i) ++ [hexs.getD (c.toNat / 16) 0] ++ [hexs.getD (c.toNat % 16) 0] := by
        rw [List.take_succ_eq_append_getElem (by omega), ← hc, hexR_snoc]
      simp (implicitDefEqProofs := false) (maxSteps := 1000000) (disch := first | omega | with_reducible assumption | (simp only [List.length_map, List.length_cons, List.length_nil, List.length_set, List.length_append, List.length_replicate, List.length_take, List.length_drop, mk_size, AMem.size_set, Nat.reduceAdd]; omega)) only [amT, cut, bnd, Nat.reduceBEq, reduceCtorEq, Nat.reduceEqDiff, Nat.reduceAdd, Nat.reduceMul, Nat.reduceSub, Int.reduceToNat, Int.reduceEq, Int.reduceLT, Int.reduceLE, Int.reduceAdd, Int.reduceSub, Int.reduceMul, reduceIte, resVs, resV, packV, initT, addr, F20_l0, t1, t3, t4, hi, hg, byteV_def, e1, e2, e3, e4, hs, h1, h2]
      rw [LoopK_normal]; refine ⟨_, ?_, i + 1, rfl, rfl, by first | rfl | (simp (implicitDefEqProofs := false) (maxSteps := 1000000) (disch := first | omega | with_reducible assumption | (simp only [List.length_map, List.length_cons, List.length_nil, List.length_set, List.length_append, List.length_replicate, List.length_take, List.length_drop, mk_size, AMem.size_set, Nat.reduceAdd]; omega)) only [amT, cut, bnd, Nat.reduceBEq, reduceCtorEq, Nat.reduceEqDiff, Nat.reduceAdd, Nat.reduceMul, Nat.reduceSub, Int.reduceToNat, Int.reduceEq, Int.reduceLT, Int.reduceLE, Int.reduceAdd, Int.reduceSub, Int.reduceMul, reduceIte, resVs, resV, packV, initT, addr, t1, t3, t4, hnx]; first | done | rfl | (congr 1; omega)), by first | rfl | (simp (implicitDefEqProofs := false) (maxSteps := 1000000) (disch := first | omega | with_reducible assumption | (simp only [List.length_map, List.length_cons, List.length_nil, List.length_set, List.length_append, List.length_replicate, List.length_take, List.length_drop, mk_size, AMem.size_set, Nat.reduceAdd]; omega)) only [amT, cut, bnd, Nat.reduceBEq, reduceCtorEq, Nat.reduceEqDiff, Nat.reduceAdd, Nat.reduceMul, Nat.reduceSub, Int.reduceToNat, Int.reduceEq, Int.reduceLT, Int.reduceLE, Int.reduceAdd, Int.reduceSub, Int.reduceMul, reduceIte, resVs, resV, packV, initT, addr, t1, t3, t4, hnx]; first | done | rfl | (congr 1; omega)), by first | rfl | (simp (implicitDefEqProofs := false) (maxSteps := 1000000) (disch := first | omega | with_reducible assumption | (simp only [List.length_map, List.length_cons, List.length_nil, List.length_set, List.length_append, List.length_replicate, List.length_take, List.length_drop, mk_size, AMem.size_set, Nat.reduceAdd]; omega)) only [amT, cut, bnd, Nat.reduceBEq, reduceCtorEq, Nat.reduceEqDiff, Nat.reduceAdd, Nat.reduceMul, Nat.reduceSub, Int.reduceToNat, Int.reduceEq, Int.reduceLT, Int.reduceLE, Int.reduceAdd, Int.reduceSub, Int.reduceMul, reduceIte, resVs, resV, packV, initT, addr, t1, t3, t4, hnx]; first | done | rfl | (congr 1; omega)), by first | rfl | (simp (implicitDefEqProofs := false) (maxSteps := 1000000) (disch := first | omega | with_reducible assumption | (simp only [List.length_map, List.length_cons, List.length_nil, List.length_set, List.length_append, List.length_replicate, List.length_take, List.length_drop, mk_size, AMem.size_set, Nat.reduceAdd]; omega)) only [amT, cut, bnd, Nat.reduceBEq, reduceCtorEq, Nat.reduceEqDiff, Nat.reduceAdd, Nat.reduceMul, Nat.reduceSub, Int.reduceToNat, Int.reduceEq, Int.reduceLT, Int.reduceLE, Int.reduceAdd, Int.reduceSub, Int.reduceMul, reduceIte, resVs, resV, packV, initT, addr, t1, t3, t4, hnx]; first | done | rfl | (congr 1; omega)), ?_⟩
      · omega
      · omega
    · have hi' : i = 32 := by omega
      subst hi'
      simp (implicitDefEqProofs := false) (maxSteps := 1000000) (disch := first | omega | with_reducible assumption | (simp only [List.length_map, List.length_cons, List.length_nil, List.length_set, List.length_append, List.length_replicate, List.length_take, List.length_drop, mk_size, AMem.size_set, Nat.reduceAdd]; omega)) only [amT, cut, bnd, Nat.reduceBEq, reduceCtorEq, Nat.reduceEqDiff, Nat.reduceAdd, Nat.reduceMul, Nat.reduceSub, Int.reduceToNat, Int.reduceEq, Int.reduceLT, Int.reduceLE, Int.reduceAdd, Int.reduceSub, Int.reduceMul, reduceIte, resVs, resV, packV, initT, addr, F20_l0, t1, t3, t4, hi]
theorem kRefHex {m : AMem} {d : List UInt8} (hd : d.length = 32) : type_of% (DetC.known (refHex_ok m d hd)) := DetC.known (refHex_ok m d hd)
end Go.Proofs.YtidngakhkpodgaaDoor
namespace Go.Proofs.YtidngakhkpodgaaDoor
open Go Go.AM
set_option linter.unusedVariables false
set_option linter.unusedSimpArgs false

theorem dgB_le (c : UInt8) : (dgB c).toNat ≤ 16 := by
  have : ∀ c : Fin 256, (dgB (UInt8.ofNat c.val)).toNat ≤ 16 := by decide +kernel
  have := this ⟨c.toNat, c.toNat_lt⟩
  simpa using this
theorem firstIdx_hex (c : UInt8) : firstIdx ⟨#[48, 49, 50, 51, 52, 53, 54, 55, 56, 57, 97, 98, 99, 100, 101, 102]⟩ c = if dgB c = 16 then -1 else ((dgB c).toNat : Int) := by
  have : ∀ c : Fin 256, firstIdx ⟨#[48, 49, 50, 51, 52, 53, 54, 55, 56, 57, 97, 98, 99, 100, 101, 102]⟩ (UInt8.ofNat c.val) = if dgB (UInt8.ofNat c.val) = 16 then -1 else ((dgB (UInt8.ofNat c.val)).toNat : Int) := by decide +kernel
  have := this ⟨c.toNat, c.toNat_lt⟩
  simpa using this
/-- One digit more. -/
def rd1 (x v : UInt8) : UInt8 := UInt8.ofNat (16 * x.toNat + v.toNat)
def rdP (s : List UInt8) : Nat → List UInt8
  | 0 => List.replicate 32 0
  | i + 1 => (rdP s i).set (i / 2) (rd1 ((rdP s i).getD (i / 2) 0) (dgB (s.getD i 0)))
theorem rdP_length (s : List UInt8) : ∀ i, (rdP s i).length = 32
  | 0 => rfl
  | i + 1 => by rw [rdP, List.length_set, rdP_length s i]
def okR (s : List UInt8) : Bool := decide (s.length = 64) && s.all fun c => !decide (dgB c = 16)
def readR (s : List UInt8) : List UInt8 × Bool := if okR s then (rdP s 64, true) else (List.replicate 32 0, false)
theorem readR_length (s : List UInt8) : (readR s).1.length = 32 := by unfold readR; split <;> simp [rdP_length]
theorem okR_not {s : List UInt8} {i : Nat} (hi : i < s.length) (h : dgB s[i] = 16) : okR s = false := by
  simp only [okR, Bool.and_eq_false_iff, List.all_eq_false]
  exact .inr ⟨s[i], List.getElem_mem hi, by simp [h]⟩
theorem okR_of {s : List UInt8} (hl : s.length = 64) (h : ∀ i (h : i < s.length), dgB s[i] ≠ 16) : okR s = true := by
  simp only [okR, hl, decide_true, Bool.true_and, List.all_eq_true]
  intro c hc
  obtain ⟨i, hi, rfl⟩ := List.getElem_of_mem hc
  simp [h i hi]
theorem or_rd1 (x : UInt8) {v : UInt8} (hv : v.toNat < 16) : ibits .or .u8 (shl .u8 (x.toNat : Int) 4) (v.toNat : Int) = ((rd1 x v).toNat : Int) := by
  have : ∀ x : Fin 256, ∀ v : Fin 16, ibits .or .u8 (shl .u8 (x.val : Int) 4) (v.val : Int) = ((UInt8.ofNat (16 * x.val + v.val)).toNat : Int) := by decide +kernel
  exact this ⟨x.toNat, x.toNat_lt⟩ ⟨v.toNat, hv⟩
theorem add_rd1 (x v : UInt8) : IntKind.u8.wrap (IntKind.u8.wrap (16 * (x.toNat : Int)) + (v.toNat : Int)) = ((rd1 x v).toNat : Int) := by
  simp only [rd1]; simp [IntKind.wrap, IntKind.bits, IntKind.signed]
theorem indexByte_hex (m : AMem) (c : UInt8) : Known Tryd.prog 3 28 [.string ⟨#[48, 49, 50, 51, 52, 53, 54, 55, 56, 57, 97, 98, 99, 100, 101, 102]⟩, .int .u8 (c.toNat : Int)] m (.int .i64 (if dgB c = 16 then -1 else ((dgB c).toNat : Int))) m := by
  have := indexByte_ok m ⟨#[48, 49, 50, 51, 52, 53, 54, 55, 56, 57, 97, 98, 99, 100, 101, 102]⟩ c
  rw [firstIdx_hex] at this
  exact DetC.known this

theorem rdP_next {s : List UInt8} {i : Nat} (hi : i < s.length) (h2 : i / 2 < 32) : rdP s (i + 1) = (rdP s i).set (i / 2) (rd1 ((rdP s i)[i / 2]'(by rw [rdP_length]; exact h2)) (dgB s[i])) := by
  rw [rdP]; simp [hi, rdP_length, h2]

theorem read_ok (m : AMem) (s : List UInt8) (hs : s.length ≤ 1000000) : PureC Tryd.prog 3 18 [.string ⟨s.toArray⟩] m (.tuple #[.agg ((readR s).1.map byteV).toArray, .bool (readR s).2]) := by
  refine pure_of_W (fn := Tryd.f18) rfl rfl F18_ok (by simp [F18]) (.tuple2 (.bytes _) (.bool _)) ?_
  by_cases h64 : (s.length : Int) = 64
  · simp (implicitDefEqProofs := false) (maxSteps := 1000000) (disch := first | omega | with_reducible assumption | (simp only [List.length_map, List.length_cons, List.length_nil, List.length_set, List.length_append, List.length_replicate, List.length_take, List.length_drop, mk_size, AMem.size_set, Nat.reduceAdd]; omega)) only [amT, cut, bnd, Nat.reduceBEq, reduceCtorEq, Nat.reduceEqDiff, Nat.reduceAdd, Nat.reduceMul, Nat.reduceSub, Int.reduceToNat, Int.reduceEq, Int.reduceLT, Int.reduceLE, Int.reduceAdd, Int.reduceSub, Int.reduceMul, reduceIte, resVs, resV, packV, initT, addr, F18, zero32, h64]
    refine W_loop (fun N qs => ∃ (i : Nat), N = 64 - i ∧ qs.ds = [] ∧ qs.m = mx m [.cells ((rdP s i).map byteV) 25 true .exact] ∧ qs.t 0 = .string ⟨s.toArray⟩ ∧ qs.t 2 = .pointer (some ⟨m.size, 0, none⟩) ∧ qs.t 11 = .int .i64 64 ∧ qs.t 12 = .int .i64 i ∧ i ≤ 64 ∧ ∀ j (h : j < s.length), j < i → dgB s[j] ≠ 16) (64 - (0)) ⟨0, rfl, rfl, by first | rfl | (simp (implicitDefEqProofs := false) (maxSteps := 1000000) (disch := first | omega | with_reducible assumption | (simp only [List.length_map, List.length_cons, List.length_nil, List.length_set, List.length_append, List.length_replicate, List.length_take, List.length_drop, mk_size, AMem.size_set, Nat.reduceAdd]; omega)) only [amT, cut, bnd, Nat.reduceBEq, reduceCtorEq, Nat.reduceEqDiff, Nat.reduceAdd, Nat.reduceMul, Nat.reduceSub, Int.reduceToNat, Int.reduceEq, Int.reduceLT, Int.reduceLE, Int.reduceAdd, Int.reduceSub, Int.reduceMul, reduceIte, resVs, resV, packV, initT, addr, rdP]; first | done | rfl | (congr 1; omega)), by first | rfl | (simp (implicitDefEqProofs := false) (maxSteps := 1000000) (disch := first | omega | with_reducible assumption | (simp only [List.length_map, List.length_cons, List.length_nil, List.length_set, List.length_append, List.length_replicate, List.length_take, List.length_drop, mk_size, AMem.size_set, Nat.reduceAdd]; omega)) only [amT, cut, bnd, Nat.reduceBEq, reduceCtorEq, Nat.reduceEqDiff, Nat.reduceAdd, Nat.reduceMul, Nat.reduceSub, Int.reduceToNat, Int.reduceEq, Int.reduceLT, Int.reduceLE, Int.reduceAdd, Int.reduceSub, Int.reduceMul, reduceIte, resVs, resV, packV, initT, addr, rdP]; first | done | rfl | (congr 1; omega)), by first | rfl | (simp (implicitDefEqProofs := false) (maxSteps := 1000000) (disch := first | omega | with_reducible assumption | (simp only [List.length_map, List.length_cons, List.length_nil, List.length_set, List.length_append, List.length_replicate, List.length_take, List.length_drop, mk_size, AMem.size_set, Nat.reduceAdd]; omega)) only [amT, cut, bnd, Nat.reduceBEq, reduceCtorEq, Nat.reduceEqDiff, Nat.reduceAdd, Nat.reduceMul, Nat.reduceSub, Int.reduceToNat, Int.reduceEq, Int.reduceLT, Int.reduceLE, Int.reduceAdd, Int.reduceSub, Int.reduceMul, reduceIte, resVs, resV, packV, initT, addr, rdP]; first | done | rfl | (congr 1; omega)), by first | rfl | (simp (implicitDefEqProofs := false) (maxSteps := 1000000) (disch := first | omega | with_reducible assumption | (simp only [List.length_map, List.length_cons, List.length_nil, List.length_set, List.length_append, List.length_replicate, List.length_take, List.length_drop, mk_size, AMem.size_set, Nat.reduceAdd]; omega)) only [amT, cut, bnd, Nat.reduceBEq, reduceCtorEq, Nat.reduceEqDiff, Nat.reduceAdd, Nat.reduceMul, Nat.reduceSub, Int.reduceToNat, Int.reduceEq, Int.reduceLT, Int.reduceLE, Int.reduceAdd, Int.reduceSub, Int.reduceMul, reduceIte, resVs, resV, packV, initT, addr, rdP]; first | done | rfl | (congr 1; omega)), by first | rfl | (simp (implicitDefEqProofs := false) (maxSteps := 1000000) (disch := first | omega | with_reducible assumption | (simp only [List.length_map, List.length_cons, List.length_nil, List.length_set, List.length_append, List.length_replicate, List.length_take, List.length_drop, mk_size, AMem.size_set, Nat.reduceAdd]; omega)) only [amT, cut, bnd, Nat.reduceBEq, reduceCtorEq, Nat.reduceEqDiff, Nat.reduceAdd, Nat.reduceMul, Nat.reduceSub, Int.reduceToNat, Int.reduceEq, Int.reduceLT, Int.reduceLE, Int.reduceAdd, Int.reduceSub, Int.reduceMul, reduceIte, resVs, resV, packV, initT, addr, rdP]; first | done | rfl | (congr 1; omega)), ?_⟩ ?_
    · exact ⟨by omega, fun j _ h => by omega⟩
    · rintro N t m1 ds ⟨i, rfl, hds, hm, t0, t2, t11, t12, hp⟩
      simp only at hds hm t0 t2 t11 t12
      subst hds; replace hm := hm.symm; subst hm
      obtain ⟨hi64, hall⟩ := hp
      have hl := rdP_length s i
      by_cases hi : (i : Int) < 64
      · have hi' : i < s.length := by omega
        have e1 : (i : Int).tdiv 2 = ((i / 2 : Nat) : Int) := tdiv_nat i 2
        have hn := rdP_next hi' (by omega)
        obtain ⟨c, hc⟩ : ∃ c, c = s[i] := ⟨_, rfl⟩
        have hcl := c.toNat_lt
        have hix := fun m => indexByte_hex m c
        by_cases h16 : dgB c = 16
        · rw [if_pos h16] at hix
          have hok : okR s = false := okR_not hi' (hc ▸ h16)
          have hr : readR s = (List.replicate 32 0, false) := by unfold readR; rw [hok]; rfl
          simp (implicitDefEqProofs := false) (maxSteps := 1000000) (disch := first | omega | with_reducible assumption | (simp only [List.length_map, List.length_cons, List.length_nil, List.length_set, List.length_append, List.length_replicate, List.length_take, List.length_drop, mk_size, AMem.size_set, Nat.reduceAdd]; omega)) only [amT, cut, bnd, Nat.reduceBEq, reduceCtorEq, Nat.reduceEqDiff, Nat.reduceAdd, Nat.reduceMul, Nat.reduceSub, Int.reduceToNat, Int.reduceEq, Int.reduceLT, Int.reduceLE, Int.reduceAdd, Int.reduceSub, Int.reduceMul, reduceIte, resVs, resV, packV, initT, addr, F18_l0, t0, t2, t11, t12, hi, ← hc, hix, zero32, hr, cutL_all]
        · rw [if_neg h16] at hix
          have hd := dgB_le c
          have hd2 : (dgB c).toNat < 16 := by
            rcases Nat.lt_or_ge (dgB c).toNat 16 with h | h
            · exact h
            · exact absurd (UInt8.toNat_inj.1 (show (dgB c).toNat = (16 : UInt8).toNat by show _ = 16; omega)) h16
          obtain ⟨x, hx⟩ : ∃ x, x = (rdP s i)[i / 2]'(by omega) := ⟨_, rfl⟩
          have hg : ((rdP s i).map byteV)[i / 2]? = some (byteV x) := by rw [bytes_get (by omega), hx]
          have ho := or_rd1 x hd2
          rw [← hx, ← hc] at hn
          have hset := map_set_byte (rdP s i) (i / 2) (rd1 x (dgB c))
          rw [← hn, byteV_def] at hset
          have hnn : ¬ ((dgB c).toNat : Int) < 0 := by omega
          simp (implicitDefEqProofs := false) (maxSteps := 1000000) (disch := first | omega | with_reducible assumption | (simp only [List.length_map, List.length_cons, List.length_nil, List.length_set, List.length_append, List.length_replicate, List.length_take, List.length_drop, mk_size, AMem.size_set, Nat.reduceAdd]; omega)) only [amT, cut, bnd, Nat.reduceBEq, reduceCtorEq, Nat.reduceEqDiff, Nat.reduceAdd, Nat.reduceMul, Nat.reduceSub, Int.reduceToNat, Int.reduceEq, Int.reduceLT, Int.reduceLE, Int.reduceAdd, Int.reduceSub, Int.reduceMul, reduceIte, resVs, resV, packV, initT, addr, F18_l0, t0, t2, t11, t12, hi, ← hc, hix, hnn, e1, hg, byteV_def, ho, hset]
          repeat refine OrW.go ?_
          rw [LoopK_normal]; refine ⟨_, ?_, i + 1, rfl, rfl, by first | rfl | (simp (implicitDefEqProofs := false) (maxSteps := 1000000) (disch := first | omega | with_reducible assumption | (simp only [List.length_map, List.length_cons, List.length_nil, List.length_set, List.length_append, List.length_replicate, List.length_take, List.length_drop, mk_size, AMem.size_set, Nat.reduceAdd]; omega)) only [amT, cut, bnd, Nat.reduceBEq, reduceCtorEq, Nat.reduceEqDiff, Nat.reduceAdd, Nat.reduceMul, Nat.reduceSub, Int.reduceToNat, Int.reduceEq, Int.reduceLT, Int.reduceLE, Int.reduceAdd, Int.reduceSub, Int.reduceMul, reduceIte, resVs, resV, packV, initT, addr, t0, t2, t11, t12]; first | done | rfl | (congr 1; omega)), by first | rfl | (simp (implicitDefEqProofs := false) (maxSteps := 1000000) (disch := first | omega | with_reducible assumption | (simp only [List.length_map, List.length_cons, List.length_nil, List.length_set, List.length_append, List.length_replicate, List.length_take, List.length_drop, mk_size, AMem.size_set, Nat.reduceAdd]; omega)) only [amT, cut, bnd, Nat.reduceBEq, reduceCtorEq, Nat.reduceEqDiff, Nat.reduceAdd, Nat.reduceMul, Nat.reduceSub, Int.reduceToNat, Int.reduceEq, Int.reduceLT, Int.reduceLE, Int.reduceAdd, Int.reduceSub, Int.reduceMul, reduceIte, resVs, resV, packV, initT, addr, t0, t2, t11, t12]; first | done | rfl | (congr 1; omega)), by first | rfl | (simp (implicitDefEqProofs := false) (maxSteps := 1000000) (disch := first | omega | with_reducible assumption | (simp only [List.length_map, List.length_cons, List.length_nil, List.length_set, List.length_append, List.length_replicate, List.length_take, List.length_drop, mk_size, AMem.size_set, Nat.reduceAdd]; omega)) only [amT, cut, bnd, Nat.reduceBEq, reduceCtorEq, Nat.reduceEqDiff, Nat.reduceAdd, Nat.reduceMul, Nat.reduceSub, Int.reduceToNat, Int.reduceEq, Int.reduceLT, Int.reduceLE, Int.reduceAdd, Int.reduceSub, Int.reduceMul, reduceIte, resVs, resV, packV, initT, addr, t0, t2, t11, t12]; first | done | rfl | (congr 1; omega)), by first | rfl | (simp (implicitDefEqProofs := false) (maxSteps := 1000000) (disch := first | omega | with_reducible assumption | (simp only [List.length_map, List.length_cons, List.length_nil, List.length_set, List.length_append, List.length_replicate, List.length_take, List.length_drop, mk_size, AMem.size_set, Nat.reduceAdd]; omega)) only [amT, cut, bnd, Nat.reduceBEq, reduceCtorEq, Nat.reduceEqDiff, Nat.reduceAdd, Nat.reduceMul, Nat.reduceSub, Int.reduceToNat, Int.reduceEq, Int.reduceLT, Int.reduceLE, Int.reduceAdd, Int.reduceSub, Int.reduceMul, reduceIte, resVs, resV, packV, initT, addr, t0, t2, t11, t12]; first | done | rfl | (congr 1; omega)), by first | rfl | (simp (implicitDefEqProofs := false) (maxSteps := 1000000) (disch := first | omega | with_reducible assumption | (simp only [List.length_map, List.length_cons, List.length_nil, List.length_set, List.length_append, List.length_replicate, List.length_take, List.length_drop, mk_size, AMem.size_set, Nat.reduceAdd]; omega)) only [amT, cut, bnd, Nat.reduceBEq, reduceCtorEq, Nat.reduceEqDiff, Nat.reduceAdd, Nat.reduceMul, Nat.reduceSub, Int.reduceToNat, Int.reduceEq, Int.reduceLT, Int.reduceLE, Int.reduceAdd, Int.reduceSub, Int.reduceMul, reduceIte, resVs, resV, packV, initT, addr, t0, t2, t11, t12]; first | done | rfl | (congr 1; omega)), ?_⟩
          · omega
          · refine ⟨by omega, fun j hj hji => ?_⟩
            by_cases hje : j = i
            · subst hje; rw [← hc]; exact h16
            · exact hall j hj (by omega)
      · have hi' : i = 64 := by omega
        subst hi'
        have hok : okR s = true := okR_of (by omega) fun j hj => hall j hj (by omega)
        have hr : readR s = (rdP s 64, true) := by unfold readR; rw [hok]; rfl
        simp (implicitDefEqProofs := false) (maxSteps := 1000000) (disch := first | omega | with_reducible assumption | (simp only [List.length_map, List.length_cons, List.length_nil, List.length_set, List.length_append, List.length_replicate, List.length_take, List.length_drop, mk_size, AMem.size_set, Nat.reduceAdd]; omega)) only [amT, cut, bnd, Nat.reduceBEq, reduceCtorEq, Nat.reduceEqDiff, Nat.reduceAdd, Nat.reduceMul, Nat.reduceSub, Int.reduceToNat, Int.reduceEq, Int.reduceLT, Int.reduceLE, Int.reduceAdd, Int.reduceSub, Int.reduceMul, reduceIte, resVs, resV, packV, initT, addr, F18_l0, t0, t2, t11, t12, hi, cutL_all, hr]
  · have hok : okR s = false := by simp only [okR, Bool.and_eq_false_iff, decide_eq_false_iff_not]; exact .inl (by omega)
    have hr : readR s = (List.replicate 32 0, false) := by unfold readR; rw [hok]; rfl
    simp (implicitDefEqProofs := false) (maxSteps := 1000000) (disch := first | omega | with_reducible assumption | (simp only [List.length_map, List.length_cons, List.length_nil, List.length_set, List.length_append, List.length_replicate, List.length_take, List.length_drop, mk_size, AMem.size_set, Nat.reduceAdd]; omega)) only [amT, cut, bnd, Nat.reduceBEq, reduceCtorEq, Nat.reduceEqDiff, Nat.reduceAdd, Nat.reduceMul, Nat.reduceSub, Int.reduceToNat, Int.reduceEq, Int.reduceLT, Int.reduceLE, Int.reduceAdd, Int.reduceSub, Int.reduceMul, reduceIte, resVs, resV, packV, initT, addr, F18, zero32, h64, cutL_all, hr]
theorem kRead {m : AMem} {s : List UInt8} (hs : s.length ≤ 1000000) : type_of% (DetC.known (read_ok m s hs)) := DetC.known (read_ok m s hs)
theorem refRead_ok (m : AMem) (s : List UInt8) (hs : s.length ≤ 1000000) : PureC Tryd.prog 3 19 [.string ⟨s.toArray⟩] m (.tuple #[.agg ((readR s).1.map byteV).toArray, .bool (readR s).2]) := by
  refine pure_of_W (fn := Tryd.f19) rfl rfl F19_ok (by simp [F19]) (.tuple2 (.bytes _) (.bool _)) ?_
  simp (implicitDefEqProofs := false) (maxSteps := 1000000) (disch := first | omega | with_reducible assumption | (simp only [List.length_map, List.length_cons, List.length_nil, List.length_set, List.length_append, List.length_replicate, List.length_take, List.length_drop, mk_size, AMem.size_set, Nat.reduceAdd]; omega)) only [amT, cut, bnd, Nat.reduceBEq, reduceCtorEq, Nat.reduceEqDiff, Nat.reduceAdd, Nat.reduceMul, Nat.reduceSub, Int.reduceToNat, Int.reduceEq, Int.reduceLT, Int.reduceLE, Int.reduceAdd, Int.reduceSub, Int.reduceMul, reduceIte, resVs, resV, packV, initT, addr, F19, zero32]
  refine W_loop (fun N qs => ∃ (i : Nat), N = s.length - i ∧ qs.ds = [] ∧ qs.m = mx m [.cells ((List.replicate 32 (0 : UInt8)).map byteV) 25 true .exact, .cells ((rdP s i).map byteV) 25 true .exact] ∧ qs.t 0 = .string ⟨s.toArray⟩ ∧ qs.t 2 = .pointer (some ⟨m.size, 0, none⟩) ∧ qs.t 4 = .pointer (some ⟨m.size + 1, 0, none⟩) ∧ qs.t 5 = .int .i64 i ∧ i ≤ s.length ∧ (0 < i → s.length = 64) ∧ ∀ j (h : j < s.length), j < i → dgB s[j] ≠ 16) (s.length - (0)) ⟨0, rfl, rfl, by first | rfl | (simp (implicitDefEqProofs := false) (maxSteps := 1000000) (disch := first | omega | with_reducible assumption | (simp only [List.length_map, List.length_cons, List.length_nil, List.length_set, List.length_append, List.length_replicate, List.length_take, List.length_drop, mk_size, AMem.size_set, Nat.reduceAdd]; omega)) only [amT, cut, bnd, Nat.reduceBEq, reduceCtorEq, Nat.reduceEqDiff, Nat.reduceAdd, Nat.reduceMul, Nat.reduceSub, Int.reduceToNat, Int.reduceEq, Int.reduceLT, Int.reduceLE, Int.reduceAdd, Int.reduceSub, Int.reduceMul, reduceIte, resVs, resV, packV, initT, addr, rdP]; first | done | rfl | (congr 1; omega)), by first | rfl | (simp (implicitDefEqProofs := false) (maxSteps := 1000000) (disch := first | omega | with_reducible assumption | (simp only [List.length_map, List.length_cons, List.length_nil, List.length_set, List.length_append, List.length_replicate, List.length_take, List.length_drop, mk_size, AMem.size_set, Nat.reduceAdd]; omega)) only [amT, cut, bnd, Nat.reduceBEq, reduceCtorEq, Nat.reduceEqDiff, Nat.reduceAdd, Nat.reduceMul, Nat.reduceSub, Int.reduceToNat, Int.reduceEq, Int.reduceLT, Int.reduceLE, Int.reduceAdd, Int.reduceSub, Int.reduceMul, reduceIte, resVs, resV, packV, initT, addr, rdP]; first | done | rfl | (congr 1; omega)), by first | rfl | (simp (implicitDefEqProofs := false) (maxSteps := 1000000) (disch := first | omega | with_reducible assumption | (simp only [List.length_map, List.length_cons, List.length_nil, List.length_set, List.length_append, List.length_replicate, List.length_take, List.length_drop, mk_size, AMem.size_set, Nat.reduceAdd]; omega)) only [amT, cut, bnd, Nat.reduceBEq, reduceCtorEq, Nat.reduceEqDiff, Nat.reduceAdd, Nat.reduceMul, Nat.reduceSub, Int.reduceToNat, Int.reduceEq, Int.reduceLT, Int.reduceLE, Int.reduceAdd, Int.reduceSub, Int.reduceMul, reduceIte, resVs, resV, packV, initT, addr, rdP]; first | done | rfl | (congr 1; omega)), by first | rfl | (simp (implicitDefEqProofs := false) (maxSteps := 1000000) (disch := first | omega | with_reducible assumption | (simp only [List.length_map, List.length_cons, List.length_nil, List.length_set, List.length_append, List.length_replicate, List.length_take, List.length_drop, mk_size, AMem.size_set, Nat.reduceAdd]; omega)) only [amT, cut, bnd, Nat.reduceBEq, reduceCtorEq, Nat.reduceEqDiff, Nat.reduceAdd, Nat.reduceMul, Nat.reduceSub, Int.reduceToNat, Int.reduceEq, Int.reduceLT, Int.reduceLE, Int.reduceAdd, Int.reduceSub, Int.reduceMul, reduceIte, resVs, resV, packV, initT, addr, rdP]; first | done | rfl | (congr 1; omega)), by first | rfl | (simp (implicitDefEqProofs := false) (maxSteps := 1000000) (disch := first | omega | with_reducible assumption | (simp only [List.length_map, List.length_cons, List.length_nil, List.length_set, List.length_append, List.length_replicate, List.length_take, List.length_drop, mk_size, AMem.size_set, Nat.reduceAdd]; omega)) only [amT, cut, bnd, Nat.reduceBEq, reduceCtorEq, Nat.reduceEqDiff, Nat.reduceAdd, Nat.reduceMul, Nat.reduceSub, Int.reduceToNat, Int.reduceEq, Int.reduceLT, Int.reduceLE, Int.reduceAdd, Int.reduceSub, Int.reduceMul, reduceIte, resVs, resV, packV, initT, addr, rdP]; first | done | rfl | (congr 1; omega)), ?_⟩ ?_
  · exact ⟨by omega, by omega, fun j _ h => by omega⟩
  · rintro N t m1 ds ⟨i, rfl, hds, hm, t0, t2, t4, t5, hp⟩
    simp only at hds hm t0 t2 t4 t5
    subst hds; replace hm := hm.symm; subst hm
    obtain ⟨hi64, hpos, hall⟩ := hp
    have hl := rdP_length s i
    by_cases hi : (i : Int) < (s.length : Int)
    · have hi' : i < s.length := by omega
      by_cases h64 : (s.length : Int) = 64
      · have e1 : (i : Int).tdiv 2 = ((i / 2 : Nat) : Int) := tdiv_nat i 2
        have hn := rdP_next hi' (by omega)
        obtain ⟨c, hc⟩ : ∃ c, c = s[i] := ⟨_, rfl⟩
        have hcl := c.toNat_lt
        by_cases h16 : dgB c = 16
        · have hok : okR s = false := okR_not hi' (hc ▸ h16)
          have hr : readR s = (List.replicate 32 0, false) := by unfold readR; rw [hok]; rfl
          have h16' : ((dgB c).toNat : Int) = 16 := by rw [h16]; rfl
          rw [h64] at hi
          simp (implicitDefEqProofs := false) (maxSteps := 1000000) (disch := first | omega | with_reducible assumption | (simp only [List.length_map, List.length_cons, List.length_nil, List.length_set, List.length_append, List.length_replicate, List.length_take, List.length_drop, mk_size, AMem.size_set, Nat.reduceAdd]; omega)) only [amT, cut, bnd, Nat.reduceBEq, reduceCtorEq, Nat.reduceEqDiff, Nat.reduceAdd, Nat.reduceMul, Nat.reduceSub, Int.reduceToNat, Int.reduceEq, Int.reduceLT, Int.reduceLE, Int.reduceAdd, Int.reduceSub, Int.reduceMul, reduceIte, resVs, resV, packV, initT, addr, F19_l0, t0, t2, t4, t5, hi, h64, ← hc, kDigit2, byteV_def, h16', zero32, hr, cutL_all]
        · have h16' : ¬ ((dgB c).toNat : Int) = 16 := fun h => h16 (UInt8.toNat_inj.1 (show (dgB c).toNat = (16 : UInt8).toNat by show _ = 16; omega))
          obtain ⟨x, hx⟩ : ∃ x, x = (rdP s i)[i / 2]'(by omega) := ⟨_, rfl⟩
          have hg : ((rdP s i).map byteV)[i / 2]? = some (byteV x) := by rw [bytes_get (by omega), hx]
          have ho := add_rd1 x (dgB c)
          rw [← hx, ← hc] at hn
          have hset := map_set_byte (rdP s i) (i / 2) (rd1 x (dgB c))
          rw [← hn, byteV_def] at hset
          rw [h64] at hi
          simp (implicitDefEqProofs := false) (maxSteps := 1000000) (disch := first | omega | with_reducible assumption | (simp only [List.length_map, List.length_cons, List.length_nil, List.length_set, List.length_append, List.length_replicate, List.length_take, List.length_drop, mk_size, AMem.size_set, Nat.reduceAdd]; omega)) only [amT, cut, bnd, Nat.reduceBEq, reduceCtorEq, Nat.reduceEqDiff, Nat.reduceAdd, Nat.reduceMul, Nat.reduceSub, Int.reduceToNat, Int.reduceEq, Int.reduceLT, Int.reduceLE, Int.reduceAdd, Int.reduceSub, Int.reduceMul, reduceIte, resVs, resV, packV, initT, addr, F19_l0, t0, t2, t4, t5, hi, h64, ← hc, kDigit2, h16', e1, hg, byteV_def, ho, hset]
          repeat refine OrW.go ?_
          rw [LoopK_normal]; refine ⟨_, ?_, i + 1, rfl, rfl, by first | rfl | (simp (implicitDefEqProofs := false) (maxSteps := 1000000) (disch := first | omega | with_reducible assumption | (simp only [List.length_map, List.length_cons, List.length_nil, List.length_set, List.length_append, List.length_replicate, List.length_take, List.length_drop, mk_size, AMem.size_set, Nat.reduceAdd]; omega)) only [amT, cut, bnd, Nat.reduceBEq, reduceCtorEq, Nat.reduceEqDiff, Nat.reduceAdd, Nat.reduceMul, Nat.reduceSub, Int.reduceToNat, Int.reduceEq, Int.reduceLT, Int.reduceLE, Int.reduceAdd, Int.reduceSub, Int.reduceMul, reduceIte, resVs, resV, packV, initT, addr, t0, t2, t4, t5]; first | done | rfl | (congr 1; omega)), by first | rfl | (simp (implicitDefEqProofs := false) (maxSteps := 1000000) (disch := first | omega | with_reducible assumption | (simp only [List.length_map, List.length_cons, List.length_nil, List.length_set, List.length_append, List.length_replicate, List.length_take, List.length_drop, mk_size, AMem.size_set, Nat.reduceAdd]; omega)) only [amT, cut, bnd, Nat.reduceBEq, reduceCtorEq, Nat.reduceEqDiff, Nat.reduceAdd, Nat.reduceMul, Nat.reduceSub, Int.reduceToNat, Int.reduceEq, Int.reduceLT, Int.reduceLE, Int.reduceAdd, Int.reduceSub, Int.reduceMul, reduceIte, resVs, resV, packV, initT, addr, t0, t2, t4, t5]; first | done | rfl | (congr 1; omega)), by first | rfl | (simp (implicitDefEqProofs := false) (maxSteps := 1000000) (disch := first | omega | with_reducible assumption | (simp only [List.length_map, List.length_cons, List.length_nil, List.length_set, List.length_append, List.length_replicate, List.length_take, List.length_drop, mk_size, AMem.size_set, Nat.reduceAdd]; omega)) only [amT, cut, bnd, Nat.reduceBEq, reduceCtorEq, Nat.reduceEqDiff, Nat.reduceAdd, Nat.reduceMul, Nat.reduceSub, Int.reduceToNat, Int.reduceEq, Int.reduceLT, Int.reduceLE, Int.reduceAdd, Int.reduceSub, Int.reduceMul, reduceIte, resVs, resV, packV, initT, addr, t0, t2, t4, t5]; first | done | rfl | (congr 1; omega)), by first | rfl | (simp (implicitDefEqProofs := false) (maxSteps := 1000000) (disch := first | omega | with_reducible assumption | (simp only [List.length_map, List.length_cons, List.length_nil, List.length_set, List.length_append, List.length_replicate, List.length_take, List.length_drop, mk_size, AMem.size_set, Nat.reduceAdd]; omega)) only [amT, cut, bnd, Nat.reduceBEq, reduceCtorEq, Nat.reduceEqDiff, Nat.reduceAdd, Nat.reduceMul, Nat.reduceSub, Int.reduceToNat, Int.reduceEq, Int.reduceLT, Int.reduceLE, Int.reduceAdd, Int.reduceSub, Int.reduceMul, reduceIte, resVs, resV, packV, initT, addr, t0, t2, t4, t5]; first | done | rfl | (congr 1; omega)), by first | rfl | (simp (implicitDefEqProofs := false) (maxSteps := 1000000) (disch := first | omega | with_reducible assumption | (simp only [List.length_map, List.length_cons, List.length_nil, List.length_set, List.length_append, List.length_replicate, List.length_take, List.length_drop, mk_size, AMem.size_set, Nat.reduceAdd]; omega)) only [amT, cut, bnd, Nat.reduceBEq, reduceCtorEq, Nat.reduceEqDiff, Nat.reduceAdd, Nat.reduceMul, Nat.reduceSub, Int.reduceToNat, Int.reduceEq, Int.reduceLT, Int.reduceLE, Int.reduceAdd, Int.reduceSub, Int.reduceMul, reduceIte, resVs, resV, packV, initT, addr, t0, t2, t4, t5]; first | done | rfl | (congr 1; omega)), ?_⟩
          · omega
          · refine ⟨by omega, by omega, fun j hj hji => ?_⟩
            by_cases hje : j = i
            · subst hje; rw [← hc]; exact h16
            · exact hall j hj (by omega)
      · have hok : okR s = false := by simp only [okR, Bool.and_eq_false_iff, decide_eq_false_iff_not]; exact .inl (by omega)
        have hr : readR s = (List.replicate 32 0, false) := by unfold readR; rw [hok]; rfl
        simp (implicitDefEqProofs := false) (maxSteps := 1000000) (disch := first | omega | with_reducible assumption | (simp only [List.length_map, List.length_cons, List.length_nil, List.length_set, List.length_append, List.length_replicate, List.length_take, List.length_drop, mk_size, AMem.size_set, Nat.reduceAdd]; omega)) only [amT, cut, bnd, Nat.reduceBEq, reduceCtorEq, Nat.reduceEqDiff, Nat.reduceAdd, Nat.reduceMul, Nat.reduceSub, Int.reduceToNat, Int.reduceEq, Int.reduceLT, Int.reduceLE, Int.reduceAdd, Int.reduceSub, Int.reduceMul, reduceIte, resVs, resV, packV, initT, addr, F19_l0, t0, t2, t4, t5, hi, h64, zero32, hr, cutL_all]
    · have hi' : i = s.length := by omega
      by_cases h64 : (s.length : Int) = 64
      · have hok : okR s = true := okR_of (by omega) fun j hj => hall j hj (by omega)
        have hr : readR s = (rdP s i, true) := by unfold readR; rw [hok, if_pos rfl, show i = 64 by omega]
        rw [h64] at hi
        simp (implicitDefEqProofs := false) (maxSteps := 1000000) (disch := first | omega | with_reducible assumption | (simp only [List.length_map, List.length_cons, List.length_nil, List.length_set, List.length_append, List.length_replicate, List.length_take, List.length_drop, mk_size, AMem.size_set, Nat.reduceAdd]; omega)) only [amT, cut, bnd, Nat.reduceBEq, reduceCtorEq, Nat.reduceEqDiff, Nat.reduceAdd, Nat.reduceMul, Nat.reduceSub, Int.reduceToNat, Int.reduceEq, Int.reduceLT, Int.reduceLE, Int.reduceAdd, Int.reduceSub, Int.reduceMul, reduceIte, resVs, resV, packV, initT, addr, F19_l0, t0, t2, t4, t5, hi, h64, cutL_all, hr]
      · have hok : okR s = false := by simp only [okR, Bool.and_eq_false_iff, decide_eq_false_iff_not]; exact .inl (by omega)
        have hi0 : i = 0 := by omega
        have hr : readR s = (rdP s i, false) := by unfold readR; rw [hok, hi0]; rfl
        simp (implicitDefEqProofs := false) (maxSteps := 1000000) (disch := first | omega | with_reducible assumption | (simp only [List.length_map, List.length_cons, List.length_nil, List.length_set, List.length_append, List.length_replicate, List.length_take, List.length_drop, mk_size, AMem.size_set, Nat.reduceAdd]; omega)) only [amT, cut, bnd, Nat.reduceBEq, reduceCtorEq, Nat.reduceEqDiff, Nat.reduceAdd, Nat.reduceMul, Nat.reduceSub, Int.reduceToNat, Int.reduceEq, Int.reduceLT, Int.reduceLE, Int.reduceAdd, Int.reduceSub, Int.reduceMul, reduceIte, resVs, resV, packV, initT, addr, F19_l0, t0, t2, t4, t5, hi, h64, cutL_all, hr]
theorem kRefRead {m : AMem} {s : List UInt8} (hs : s.length ≤ 1000000) : type_of% (DetC.known (refRead_ok m s hs)) := DetC.known (refRead_ok m s hs)

/-! Texts and digests, there and back. -/
def pairs : List UInt8 → List UInt8
  | a :: b :: r => UInt8.ofNat (16 * (dgB a).toNat + (dgB b).toNat) :: pairs r
  | _ => []
theorem hexs_dg (c : UInt8) (h : dgB c ≠ 16) : hexs.getD (dgB c).toNat 0 = c ∧ (dgB c).toNat < 16 := by
  have : ∀ c : Fin 256, dgB (UInt8.ofNat c.val) ≠ 16 → hexs.getD (dgB (UInt8.ofNat c.val)).toNat 0 = UInt8.ofNat c.val ∧ (dgB (UInt8.ofNat c.val)).toNat < 16 := by decide +kernel
  have := this ⟨c.toNat, c.toNat_lt⟩
  simpa using this (by simpa using h)
theorem dg_hexs (v : Nat) (h : v < 16) : (dgB (hexs.getD v 0)).toNat = v := by
  have : ∀ v : Fin 16, (dgB (hexs.getD v.val 0)).toNat = v.val := by decide +kernel
  exact this ⟨v, h⟩
theorem pairs_hex (d : List UInt8) : pairs (hexR d) = d := by
  induction d with
  | nil => rfl
  | cons c d ih =>
    have hc := c.toNat_lt
    rw [hexR, List.flatMap_cons]
    show UInt8.ofNat _ :: pairs (hexR d) = _
    rw [ih, dg_hexs _ (by omega), dg_hexs _ (by omega), Nat.div_add_mod]
    simp
theorem hex_pairs : ∀ (s : List UInt8), s.length % 2 = 0 → (∀ c ∈ s, dgB c ≠ 16) → hexR (pairs s) = s
  | [], _, _ => rfl
  | [a], h, _ => by simp at h
  | a :: b :: r, h, hv => by
    have ih := hex_pairs r (by simp at h; omega) fun c hc => hv c (by simp [hc])
    obtain ⟨ha, ha2⟩ := hexs_dg a (hv a (by simp))
    obtain ⟨hb, hb2⟩ := hexs_dg b (hv b (by simp))
    have e : (UInt8.ofNat (16 * (dgB a).toNat + (dgB b).toNat)).toNat = 16 * (dgB a).toNat + (dgB b).toNat := by simp; omega
    rw [pairs, hexR, List.flatMap_cons]
    rw [hexR] at ih
    rw [ih, hex2, e, show (16 * (dgB a).toNat + (dgB b).toNat) / 16 = (dgB a).toNat by omega, show (16 * (dgB a).toNat + (dgB b).toNat) % 16 = (dgB b).toNat by omega, ha, hb]
    rfl
theorem pairs_length : ∀ s : List UInt8, (pairs s).length = s.length / 2
  | [] => rfl
  | [a] => by simp [pairs]
  | a :: b :: r => by simp [pairs, pairs_length r]; omega
theorem pairs_get : ∀ (s : List UInt8) (i : Nat) (h : 2 * i + 1 < s.length), (pairs s)[i]'(by rw [pairs_length]; omega) = UInt8.ofNat (16 * (dgB s[2 * i]).toNat + (dgB s[2 * i + 1]).toNat)
  | [], i, h => by simp at h
  | [a], i, h => by simp at h
  | a :: b :: r, 0, h => rfl
  | a :: b :: r, i + 1, h => by
    have := pairs_get r i (by simp at h; omega)
    simp only [pairs, List.getElem_cons_succ, this, show 2 * (i + 1) = 2 * i + 1 + 1 by omega]
theorem rdP_even {s : List UInt8} (hs : s.length = 64) : ∀ k, k ≤ 32 → rdP s (2 * k) = mix k (pairs s) (List.replicate 32 0)
  | 0, _ => by rw [mix_zero]; rfl
  | k + 1, h => by
    have ih := rdP_even hs k (by omega)
    have hpl : (pairs s).length = (List.replicate 32 (0 : UInt8)).length := by rw [pairs_length, hs]; rfl
    have hg := mix_get (k := k) hpl (by simp; omega)
    have hst := mix_set (k := k) hpl (by rw [pairs_length, hs]; omega)
    have h1 := rdP_next (s := s) (i := 2 * k) (by omega) (by omega)
    have h2 := rdP_next (s := s) (i := 2 * k + 1) (by omega) (by omega)
    rw [show 2 * (k + 1) = 2 * k + 1 + 1 by omega, h2]
    have hz : (rdP s (2 * k))[k]'(by rw [rdP_length]; omega) = 0 := by
      simp only [ih]; rw [hg, List.getElem_replicate]
    simp only [show (2 * k + 1) / 2 = k by omega]
    simp only [show 2 * k / 2 = k by omega, hz] at h1
    simp only [h1, List.getElem_set_self, List.set_set]
    rw [ih, ← hst]
    congr 1
    rw [pairs_get s k (by omega)]
    have ha := dgB_le s[2 * k]
    simp only [rd1]
    congr 2
    simp
theorem rdP_all {s : List UInt8} (hs : s.length = 64) : rdP s 64 = pairs s := by
  have := rdP_even hs 32 (by omega)
  rw [mix_all (k := 32) (by rw [pairs_length, hs]) rfl] at this
  exact this
theorem read_hex {d : List UInt8} (hd : d.length = 32) : readR (hexR d) = (d, true) := by
  have hl : (hexR d).length = 64 := by rw [hexR_length, hd]
  have hok : okR (hexR d) = true := by
    simp only [okR, hl, decide_true, Bool.true_and, List.all_eq_true]
    intro c hc
    simp only [hexR, List.mem_flatMap] at hc
    obtain ⟨x, _, hx⟩ := hc
    have hxl := x.toNat_lt
    have : ∀ v : Fin 16, (!decide (dgB (hexs.getD v.val 0) = 16)) = true := by decide +kernel
    simp only [hex2, List.mem_cons, List.not_mem_nil, or_false] at hx
    rcases hx with rfl | rfl
    · exact this ⟨x.toNat / 16, by omega⟩
    · exact this ⟨x.toNat % 16, by omega⟩
  unfold readR; rw [hok, if_pos rfl, rdP_all hl, pairs_hex]
theorem hex_read {s : List UInt8} (h : (readR s).2 = true) : hexR (readR s).1 = s := by
  unfold readR at h ⊢
  split at h
  · rename_i hok
    rw [if_pos hok]
    have hok2 := hok
    simp only [okR, Bool.and_eq_true, decide_eq_true_eq, List.all_eq_true, Bool.not_eq_true', decide_eq_false_iff_not] at hok2
    simp only
    rw [rdP_all hok2.1, hex_pairs s (by omega) hok2.2]
  · cases h
end Go.Proofs.YtidngakhkpodgaaDoor
namespace Go.Proofs.YtidngakhkpodgaaDoor
open Go Go.AM
set_option linter.unusedVariables false
set_option linter.unusedSimpArgs false

def abcT : List UInt8 := [98, 97, 55, 56, 49, 54, 98, 102, 56, 102, 48, 49, 99, 102, 101, 97, 52, 49, 52, 49, 52, 48, 100, 101, 53, 100, 97, 101, 50, 50, 50, 51, 98, 48, 48, 51, 54, 49, 97, 51, 57, 54, 49, 55, 55, 97, 57, 99, 98, 52, 49, 48, 102, 102, 54, 49, 102, 50, 48, 48, 49, 53, 97, 100]
def l1 : List UInt8 := [99]
def l2 : List UInt8 := [97, 98]
def l3 : List UInt8 := [97, 98, 99]
theorem l1_len : l1.length = 1 := rfl
theorem l2_len : l2.length = 2 := rfl
theorem l3_len : l3.length = 3 := rfl
theorem abc_hex : hexR (shaR l3) = [98, 97, 55, 56, 49, 54, 98, 102, 56, 102, 48, 49, 99, 102, 101, 97, 52, 49, 52, 49, 52, 48, 100, 101, 53, 100, 97, 101, 50, 50, 50, 51, 98, 48, 48, 51, 54, 49, 97, 51, 57, 54, 49, 55, 55, 97, 57, 99, 98, 52, 49, 48, 102, 102, 54, 49, 102, 50, 48, 48, 49, 53, 97, 100] := by decide +kernel

theorem BSl.here {M : AMem} {b cap : Nat} {c : List UInt8} {e : TypeId} {w : Bool} {sp : Spare} (hb : b < M.size) (hm : M.get b = .cells (c.map byteV) e w sp) (hc : cap < openCap) (hl : c.length ≤ cap) : BSl M (some ⟨b, 0, none⟩) cap c :=
  .inr ⟨b, 0, _, e, w, sp, rfl, hb, hm, by rw [← List.length_map (f := byteV)]; exact cutL_all rfl, .inr ⟨hc, hl⟩⟩

theorem works_ok (m : AMem) (hg : Glob m) : PureC Tryd.prog 3 8 [] m (.bool true) := by
  refine pure_of_W (fn := Tryd.f8) rfl rfl F8_ok (by simp [F8]) (.bool _) ?_
  have gs := hg.s
  have o1 : (2 : Nat) < openCap := openCap_lt (by omega)
  have h2 : ¬ (2 : Nat) = openCap := by omega
  have h1 : ¬ (1 : Nat) = openCap := by omega
  have o3 : (3 : Nat) < openCap := openCap_lt (by omega)
  have h3 : ¬ (3 : Nat) = openCap := by omega
  have ok1 := HS.put_ok hs0_ok l2
  have ok2 := HS.put_ok ok1 l1
  have p1 := DetC.known (put_ok (mx m [.cells (cH hs0) 35 true .exact, .cells (l2.map byteV) 5 false .exact]) m.size hs0 (hg.old (Old.here _ _)) hs0_ok (by rw [mx_size]; simp) gs (mx_new0 _ _) (some ⟨m.size + 1, 0, none⟩) 2 l2 (BSl.here (by rw [mx_size]; simp) (mx_new _ _ 1) o1 (Nat.le_refl _)) (fun x o h => by cases h; omega) (by decide))
  have p2 := DetC.known (put_ok (mx m [.cells (cH (hs0.put l2)) 35 true .exact, .cells (l2.map byteV) 5 false .exact, .cells (l1.map byteV) 5 false .exact]) m.size (hs0.put l2) (hg.old (Old.here _ _)) ok1 (by rw [mx_size]; simp) gs (mx_new0 _ _) (some ⟨m.size + 2, 0, none⟩) 1 l1 (BSl.here (by rw [mx_size]; simp) (mx_new _ _ 2) (by omega) (Nat.le_refl _)) (fun x o h => by cases h; omega) (by decide))
  have p3 := DetC.known (sum_ok (mx m [.cells (cH ((hs0.put l2).put l1)) 35 true .exact, .cells (l2.map byteV) 5 false .exact, .cells (l1.map byteV) 5 false .exact, .cells (l3.map byteV) 5 false .exact]) (some ⟨m.size + 3, 0, none⟩) 3 l3 (hg.old (Old.here _ _)) (BSl.here (by rw [mx_size]; simp) (mx_new _ _ 3) o3 (Nat.le_refl _)) (by decide))
  have p4 := DetC.known (sumM_ok (mx m [.cells (cH ((hs0.put l2).put l1)) 35 true .exact, .cells (l2.map byteV) 5 false .exact, .cells (l1.map byteV) 5 false .exact, .cells (l3.map byteV) 5 false .exact]) m.size ((hs0.put l2).put l1) (hg.old (Old.here _ _)) ok2 (by rw [mx_size]; simp) (mx_new0 _ _) (by rw [HS.put_n, HS.put_n]; decide))
  have p5 := DetC.known (len_ok (mx m [.cells (cH ((hs0.put l2).put l1)) 35 true .exact, .cells (l2.map byteV) 5 false .exact, .cells (l1.map byteV) 5 false .exact, .cells (l3.map byteV) 5 false .exact]) m.size ((hs0.put l2).put l1) ok2 (by rw [mx_size]; simp) (mx_new0 _ _))
  have e1 : sumOf ((hs0.put l2).put l1) = shaR l3 := rfl
  have e2 : (((hs0.put l2).put l1).n : Int) = 3 := by rw [HS.put_n, HS.put_n]; rfl
  rw [e1] at p4
  rw [e2] at p5
  have b1 : [Value.int .u8 97, .int .u8 98] = l2.map byteV := rfl
  have b2 : [Value.int .u8 99] = l1.map byteV := rfl
  have b3 : (Value.int .u8 97 :: Value.int .u8 98 :: l1.map byteV) = l3.map byteV := rfl
  simp only [l1_len, l2_len, l3_len] at p1 p2 p3
  have hl := shaR_length l3
  simp (implicitDefEqProofs := false) (maxSteps := 1000000) (disch := first | omega | with_reducible assumption | (simp only [List.length_map, List.length_cons, List.length_nil, List.length_set, List.length_append, List.length_replicate, List.length_take, List.length_drop, mk_size, AMem.size_set, Nat.reduceAdd]; omega)) only [amT, cut, bnd, Nat.reduceBEq, reduceCtorEq, Nat.reduceEqDiff, Nat.reduceAdd, Nat.reduceMul, Nat.reduceSub, Int.reduceToNat, Int.reduceEq, Int.reduceLT, Int.reduceLE, Int.reduceAdd, Int.reduceSub, Int.reduceMul, reduceIte, resVs, resV, packV, initT, addr, F8, zero73, b1, b2, b3, h1, h2, h3, p1, p2, p3, p4, p5, kHex, abc_hex]
end Go.Proofs.YtidngakhkpodgaaDoor
namespace Go.Proofs.YtidngakhkpodgaaDoor
open Go Go.AM
set_option linter.unusedVariables false
set_option linter.unusedSimpArgs false

theorem kWorks {m : AMem} (hg : Glob m) : Known Tryd.prog 3 8 [] m (.bool true) m := DetC.known (works_ok m hg)
theorem kWorksX {m : AMem} (hg : Glob m) (l : List AObj) : Known Tryd.prog 3 8 [] (mx m l) (.bool true) (mx m l) := DetC.known (works_ok _ (hg.old (Old.here _ _)))
/-- A row of bytes that has room. -/
theorem BSl.room {M : AMem} {b : Nat} {c : List UInt8} {e : TypeId} {w : Bool} (hb : b < M.size) (hm : M.get b = .cells (c.map byteV) e w (.room [.int .u8 0])) : BSl M (some ⟨b, 0, none⟩) openCap c :=
  .inr ⟨b, 0, _, e, w, _, rfl, hb, hm, by rw [← List.length_map (f := byteV)]; exact cutL_all rfl, .inl ⟨rfl, rfl⟩⟩

theorem lawWhole (m : AMem) (hg : Glob m) (a : Option Addr) (cap : Nat) (c : List UInt8) (hc : BSl m a cap c) : PureC Tryd.prog 3 3 [.slice a c.length cap] m (.bool true) := by
  refine pure_of_W (fn := Tryd.f3) rfl rfl F3_ok (by simp [F3]) (.bool _) ?_
  have hw := kWorksX hg
  by_cases h : (3000 : Int) < c.length
  · simp (implicitDefEqProofs := false) (maxSteps := 1000000) (disch := first | omega | with_reducible assumption | (simp only [List.length_map, List.length_cons, List.length_nil, List.length_set, List.length_append, List.length_replicate, List.length_take, List.length_drop, mk_size, AMem.size_set, Nat.reduceAdd]; omega)) only [amT, cut, bnd, Nat.reduceBEq, reduceCtorEq, Nat.reduceEqDiff, Nat.reduceAdd, Nat.reduceMul, Nat.reduceSub, Int.reduceToNat, Int.reduceEq, Int.reduceLT, Int.reduceLE, Int.reduceAdd, Int.reduceSub, Int.reduceMul, reduceIte, resVs, resV, packV, initT, addr, F3, h, hw]
  · have hl : c.length ≤ 3000 := by omega
    have s1 := (hc.old (Old.here m [])).str
    have s2 := (hc.old (Old.here m [.cells (c.map byteV) 5 true (.room [.int .u8 0])])).str
    have hown := BSl.room (M := mx m [.cells (c.map byteV) 5 true (.room [.int .u8 0])]) (b := m.size) (c := c) (by rw [mx_size]; simp) (mx_new0 _ _)
    have s3 := hown.str
    have p1 := DetC.known (sum_ok (mx m [.cells (c.map byteV) 5 true (.room [.int .u8 0])]) _ _ c (hg.old (Old.here _ _)) hown (by omega))
    have p2 := DetC.known (refSum_ok (mx m [.cells (c.map byteV) 5 true (.room [.int .u8 0])]) _ _ c (hc.old (Old.here _ _)) (by omega))
    have he := eqV_bytes (a := shaR c) (b := shaR c) (n := 32) (shaR_length c) (shaR_length c)
    rw [decide_eq_true rfl] at he
    simp (implicitDefEqProofs := false) (maxSteps := 1000000) (disch := first | omega | with_reducible assumption | (simp only [List.length_map, List.length_cons, List.length_nil, List.length_set, List.length_append, List.length_replicate, List.length_take, List.length_drop, mk_size, AMem.size_set, Nat.reduceAdd]; omega)) only [amT, cut, bnd, Nat.reduceBEq, reduceCtorEq, Nat.reduceEqDiff, Nat.reduceAdd, Nat.reduceMul, Nat.reduceSub, Int.reduceToNat, Int.reduceEq, Int.reduceLT, Int.reduceLE, Int.reduceAdd, Int.reduceSub, Int.reduceMul, reduceIte, resVs, resV, packV, initT, addr, F3, h, hw, stepOp_b2s_v, s1, s2, s3, p1, p2, he]

theorem lawTexts (m : AMem) (hg : Glob m) (d : List UInt8) (hd : d.length = 32) (s : List UInt8) : PureC Tryd.prog 3 6 [.agg (d.map byteV).toArray, .string ⟨s.toArray⟩] m (.bool true) := by
  refine pure_of_W (fn := Tryd.f6) rfl rfl F6_ok (by simp [F6]) (.bool _) ?_
  have hw := kWorksX hg
  by_cases h : (200 : Int) < s.length
  · simp (implicitDefEqProofs := false) (maxSteps := 1000000) (disch := first | omega | with_reducible assumption | (simp only [List.length_map, List.length_cons, List.length_nil, List.length_set, List.length_append, List.length_replicate, List.length_take, List.length_drop, mk_size, AMem.size_set, Nat.reduceAdd]; omega)) only [amT, cut, bnd, Nat.reduceBEq, reduceCtorEq, Nat.reduceEqDiff, Nat.reduceAdd, Nat.reduceMul, Nat.reduceSub, Int.reduceToNat, Int.reduceEq, Int.reduceLT, Int.reduceLE, Int.reduceAdd, Int.reduceSub, Int.reduceMul, reduceIte, resVs, resV, packV, initT, addr, F6, h, hw]
  · have hs : s.length ≤ 1000000 := by omega
    have hh : (hexR d).length ≤ 1000000 := by rw [hexR_length, hd]; omega
    have hr := read_hex hd
    have hrl := readR_length s
    have he := eqV_bytes (a := d) (b := d) (n := 32) hd hd
    rw [decide_eq_true rfl] at he
    have he2 := eqV_bytes (a := (readR s).1) (b := (readR s).1) (n := 32) hrl hrl
    rw [decide_eq_true rfl] at he2
    cases hok : (readR s).2 with
    | false =>
      simp (implicitDefEqProofs := false) (maxSteps := 1000000) (disch := first | omega | with_reducible assumption | (simp only [List.length_map, List.length_cons, List.length_nil, List.length_set, List.length_append, List.length_replicate, List.length_take, List.length_drop, mk_size, AMem.size_set, Nat.reduceAdd]; omega)) only [amT, cut, bnd, Nat.reduceBEq, reduceCtorEq, Nat.reduceEqDiff, Nat.reduceAdd, Nat.reduceMul, Nat.reduceSub, Int.reduceToNat, Int.reduceEq, Int.reduceLT, Int.reduceLE, Int.reduceAdd, Int.reduceSub, Int.reduceMul, reduceIte, resVs, resV, packV, initT, addr, F6, h, hw, kHex, kRefHex, kRead, kRefRead, hr, zero32, cutL_all, he, he2, hok]
    | true =>
      have hx := hex_read hok
      simp (implicitDefEqProofs := false) (maxSteps := 1000000) (disch := first | omega | with_reducible assumption | (simp only [List.length_map, List.length_cons, List.length_nil, List.length_set, List.length_append, List.length_replicate, List.length_take, List.length_drop, mk_size, AMem.size_set, Nat.reduceAdd]; omega)) only [amT, cut, bnd, Nat.reduceBEq, reduceCtorEq, Nat.reduceEqDiff, Nat.reduceAdd, Nat.reduceMul, Nat.reduceSub, Int.reduceToNat, Int.reduceEq, Int.reduceLT, Int.reduceLE, Int.reduceAdd, Int.reduceSub, Int.reduceMul, reduceIte, resVs, resV, packV, initT, addr, F6, h, hw, kHex, kRefHex, kRead, kRefRead, hr, zero32, cutL_all, he, he2, hok, hx]
end Go.Proofs.YtidngakhkpodgaaDoor
namespace Go.Proofs.YtidngakhkpodgaaDoor
open Go Go.AM
set_option linter.unusedVariables false
set_option linter.unusedSimpArgs false

def fewN (ls : List (List UInt8)) (k : Nat) : Nat := ((ls.take k).map fun l => min l.length 3001).sum
theorem fewN_succ {ls : List (List UInt8)} {k : Nat} (h : k < ls.length) : fewN ls (k + 1) = fewN ls k + min ls[k].length 3001 := by
  simp only [fewN]; rw [List.take_succ_eq_append_getElem h, List.map_append, List.sum_append]
  simp only [List.map_cons, List.map_nil, List.sum_cons, List.sum_nil]; omega
theorem fewN_le (ls : List (List UInt8)) (k : Nat) : fewN ls k ≤ 3001 * k := by
  induction k with
  | zero => simp [fewN]
  | succ k ih =>
    by_cases h : k < ls.length
    · rw [fewN_succ h]; omega
    · have : fewN ls (k + 1) = fewN ls k := by simp only [fewN]; rw [List.take_of_length_le (by omega), List.take_of_length_le (by omega)]
      omega
def fewB (ls : List (List UInt8)) (top : Nat) : Bool := decide (ls.length ≤ min top 50) && decide (fewN ls (min ls.length 50) ≤ 3000)
theorem fewB_flat {ls : List (List UInt8)} {top : Nat} (h : fewB ls top = true) : ls.length ≤ top ∧ ls.flatten.length ≤ 3000 := by
  simp only [fewB, Bool.and_eq_true, decide_eq_true_eq] at h
  obtain ⟨h1, h2⟩ := h
  rw [Nat.min_eq_left (by omega)] at h2
  refine ⟨by omega, ?_⟩
  simp only [fewN, List.take_length] at h2
  clear h1
  have key : ∀ ls : List (List UInt8), (ls.map fun l => min l.length 3001).sum ≤ 3000 → ls.flatten.length ≤ (ls.map fun l => min l.length 3001).sum := by
    intro ls
    induction ls with
    | nil => simp
    | cons l ls ih =>
      intro h
      simp only [List.map_cons, List.sum_cons, List.flatten_cons, List.length_append] at h ⊢
      have := ih (by omega)
      omega
  have := key ls h2
  omega
theorem min3001 (n : Nat) : (if (3001 : Int) < (n : Int) then (3001 : Int) else (n : Int)) = ((min n 3001 : Nat) : Int) := by split <;> omega
theorem min50 (n : Nat) : (if (50 : Int) < (n : Int) then (50 : Int) else (n : Int)) = ((min n 50 : Nat) : Int) := by split <;> omega

theorem few_ok (m : AMem) (a : Option Addr) (cap : Nat) (ls : List (List UInt8)) (top : Nat) (hls : BSS m a ls) (hn : ls.length ≤ 9223372036854775807) (ht : top ≤ 1000) :
    PureC Tryd.prog 3 11 [.slice a ls.length cap, .int .i64 (top : Int)] m (.bool (fewB ls top)) := by
  refine pure_of_W (fn := Tryd.f11) rfl rfl F11_ok (by simp [F11]) (.bool _) ?_
  simp (implicitDefEqProofs := false) (maxSteps := 1000000) (disch := first | omega | with_reducible assumption | (simp only [List.length_map, List.length_cons, List.length_nil, List.length_set, List.length_append, List.length_replicate, List.length_take, List.length_drop, mk_size, AMem.size_set, Nat.reduceAdd]; omega)) only [amT, cut, bnd, Nat.reduceBEq, reduceCtorEq, Nat.reduceEqDiff, Nat.reduceAdd, Nat.reduceMul, Nat.reduceSub, Int.reduceToNat, Int.reduceEq, Int.reduceLT, Int.reduceLE, Int.reduceAdd, Int.reduceSub, Int.reduceMul, reduceIte, resVs, resV, packV, initT, addr, F11]
  refine W_loop (fun N qs => ∃ (i : Nat), N = 50 - i ∧ qs.ds = [] ∧ qs.m = mx m [] ∧ qs.t 0 = .slice a ls.length cap ∧ qs.t 1 = .int .i64 (top : Int) ∧ qs.t 5 = .int .i64 (fewN ls i) ∧ qs.t 6 = .int .i64 i ∧ i ≤ min ls.length 50) (50 - (0)) ⟨0, rfl, rfl, by first | rfl | (simp (implicitDefEqProofs := false) (maxSteps := 1000000) (disch := first | omega | with_reducible assumption | (simp only [List.length_map, List.length_cons, List.length_nil, List.length_set, List.length_append, List.length_replicate, List.length_take, List.length_drop, mk_size, AMem.size_set, Nat.reduceAdd]; omega)) only [amT, cut, bnd, Nat.reduceBEq, reduceCtorEq, Nat.reduceEqDiff, Nat.reduceAdd, Nat.reduceMul, Nat.reduceSub, Int.reduceToNat, Int.reduceEq, Int.reduceLT, Int.reduceLE, Int.reduceAdd, Int.reduceSub, Int.reduceMul, reduceIte, resVs, resV, packV, initT, addr, fewN, List.take_zero, List.map_nil, List.sum_nil]; first | done | rfl | (congr 1; omega)), by first | rfl | (simp (implicitDefEqProofs := false) (maxSteps := 1000000) (disch := first | omega | with_reducible assumption | (simp only [List.length_map, List.length_cons, List.length_nil, List.length_set, List.length_append, List.length_replicate, List.length_take, List.length_drop, mk_size, AMem.size_set, Nat.reduceAdd]; omega)) only [amT, cut, bnd, Nat.reduceBEq, reduceCtorEq, Nat.reduceEqDiff, Nat.reduceAdd, Nat.reduceMul, Nat.reduceSub, Int.reduceToNat, Int.reduceEq, Int.reduceLT, Int.reduceLE, Int.reduceAdd, Int.reduceSub, Int.reduceMul, reduceIte, resVs, resV, packV, initT, addr, fewN, List.take_zero, List.map_nil, List.sum_nil]; first | done | rfl | (congr 1; omega)), by first | rfl | (simp (implicitDefEqProofs := false) (maxSteps := 1000000) (disch := first | omega | with_reducible assumption | (simp only [List.length_map, List.length_cons, List.length_nil, List.length_set, List.length_append, List.length_replicate, List.length_take, List.length_drop, mk_size, AMem.size_set, Nat.reduceAdd]; omega)) only [amT, cut, bnd, Nat.reduceBEq, reduceCtorEq, Nat.reduceEqDiff, Nat.reduceAdd, Nat.reduceMul, Nat.reduceSub, Int.reduceToNat, Int.reduceEq, Int.reduceLT, Int.reduceLE, Int.reduceAdd, Int.reduceSub, Int.reduceMul, reduceIte, resVs, resV, packV, initT, addr, fewN, List.take_zero, List.map_nil, List.sum_nil]; first | done | rfl | (congr 1; omega)), by first | rfl | (simp (implicitDefEqProofs := false) (maxSteps := 1000000) (disch := first | omega | with_reducible assumption | (simp only [List.length_map, List.length_cons, List.length_nil, List.length_set, List.length_append, List.length_replicate, List.length_take, List.length_drop, mk_size, AMem.size_set, Nat.reduceAdd]; omega)) only [amT, cut, bnd, Nat.reduceBEq, reduceCtorEq, Nat.reduceEqDiff, Nat.reduceAdd, Nat.reduceMul, Nat.reduceSub, Int.reduceToNat, Int.reduceEq, Int.reduceLT, Int.reduceLE, Int.reduceAdd, Int.reduceSub, Int.reduceMul, reduceIte, resVs, resV, packV, initT, addr, fewN, List.take_zero, List.map_nil, List.sum_nil]; first | done | rfl | (congr 1; omega)), by first | rfl | (simp (implicitDefEqProofs := false) (maxSteps := 1000000) (disch := first | omega | with_reducible assumption | (simp only [List.length_map, List.length_cons, List.length_nil, List.length_set, List.length_append, List.length_replicate, List.length_take, List.length_drop, mk_size, AMem.size_set, Nat.reduceAdd]; omega)) only [amT, cut, bnd, Nat.reduceBEq, reduceCtorEq, Nat.reduceEqDiff, Nat.reduceAdd, Nat.reduceMul, Nat.reduceSub, Int.reduceToNat, Int.reduceEq, Int.reduceLT, Int.reduceLE, Int.reduceAdd, Int.reduceSub, Int.reduceMul, reduceIte, resVs, resV, packV, initT, addr, fewN, List.take_zero, List.map_nil, List.sum_nil]; first | done | rfl | (congr 1; omega)), ?_⟩ ?_
  · omega
  · rintro N t m1 ds ⟨i, rfl, hds, hm, t0, t1, t5, t6, hp⟩
    simp only at hds hm t0 t1 t5 t6
    subst hds; replace hm := hm.symm; subst hm
    have hfl := fewN_le ls i
    by_cases h1 : (i : Int) < (ls.length : Int)
    · by_cases h2 : (i : Int) < 50
      · have hi : i < ls.length := by omega
        obtain ⟨b, o, a', cap', rfl, hb, hr, hB⟩ := hls.get hi
        rw [rd_def] at hr
        have hns := fewN_succ hi
        simp (implicitDefEqProofs := false) (maxSteps := 1000000) (disch := first | omega | with_reducible assumption | (simp only [List.length_map, List.length_cons, List.length_nil, List.length_set, List.length_append, List.length_replicate, List.length_take, List.length_drop, mk_size, AMem.size_set, Nat.reduceAdd]; omega)) only [amT, cut, bnd, Nat.reduceBEq, reduceCtorEq, Nat.reduceEqDiff, Nat.reduceAdd, Nat.reduceMul, Nat.reduceSub, Int.reduceToNat, Int.reduceEq, Int.reduceLT, Int.reduceLE, Int.reduceAdd, Int.reduceSub, Int.reduceMul, reduceIte, resVs, resV, packV, initT, addr, F11_l0, t0, t1, t5, t6, h1, h2, hr, stepOp_mnx, mnxs, min3001]
        rw [LoopK_normal]; refine ⟨_, ?_, i + 1, rfl, rfl, by first | rfl | (simp (implicitDefEqProofs := false) (maxSteps := 1000000) (disch := first | omega | with_reducible assumption | (simp only [List.length_map, List.length_cons, List.length_nil, List.length_set, List.length_append, List.length_replicate, List.length_take, List.length_drop, mk_size, AMem.size_set, Nat.reduceAdd]; omega)) only [amT, cut, bnd, Nat.reduceBEq, reduceCtorEq, Nat.reduceEqDiff, Nat.reduceAdd, Nat.reduceMul, Nat.reduceSub, Int.reduceToNat, Int.reduceEq, Int.reduceLT, Int.reduceLE, Int.reduceAdd, Int.reduceSub, Int.reduceMul, reduceIte, resVs, resV, packV, initT, addr, t0, t1, t5, t6, hns]; first | done | rfl | (congr 1; omega)), by first | rfl | (simp (implicitDefEqProofs := false) (maxSteps := 1000000) (disch := first | omega | with_reducible assumption | (simp only [List.length_map, List.length_cons, List.length_nil, List.length_set, List.length_append, List.length_replicate, List.length_take, List.length_drop, mk_size, AMem.size_set, Nat.reduceAdd]; omega)) only [amT, cut, bnd, Nat.reduceBEq, reduceCtorEq, Nat.reduceEqDiff, Nat.reduceAdd, Nat.reduceMul, Nat.reduceSub, Int.reduceToNat, Int.reduceEq, Int.reduceLT, Int.reduceLE, Int.reduceAdd, Int.reduceSub, Int.reduceMul, reduceIte, resVs, resV, packV, initT, addr, t0, t1, t5, t6, hns]; first | done | rfl | (congr 1; omega)), by first | rfl | (simp (implicitDefEqProofs := false) (maxSteps := 1000000) (disch := first | omega | with_reducible assumption | (simp only [List.length_map, List.length_cons, List.length_nil, List.length_set, List.length_append, List.length_replicate, List.length_take, List.length_drop, mk_size, AMem.size_set, Nat.reduceAdd]; omega)) only [amT, cut, bnd, Nat.reduceBEq, reduceCtorEq, Nat.reduceEqDiff, Nat.reduceAdd, Nat.reduceMul, Nat.reduceSub, Int.reduceToNat, Int.reduceEq, Int.reduceLT, Int.reduceLE, Int.reduceAdd, Int.reduceSub, Int.reduceMul, reduceIte, resVs, resV, packV, initT, addr, t0, t1, t5, t6, hns]; first | done | rfl | (congr 1; omega)), by first | rfl | (simp (implicitDefEqProofs := false) (maxSteps := 1000000) (disch := first | omega | with_reducible assumption | (simp only [List.length_map, List.length_cons, List.length_nil, List.length_set, List.length_append, List.length_replicate, List.length_take, List.length_drop, mk_size, AMem.size_set, Nat.reduceAdd]; omega)) only [amT, cut, bnd, Nat.reduceBEq, reduceCtorEq, Nat.reduceEqDiff, Nat.reduceAdd, Nat.reduceMul, Nat.reduceSub, Int.reduceToNat, Int.reduceEq, Int.reduceLT, Int.reduceLE, Int.reduceAdd, Int.reduceSub, Int.reduceMul, reduceIte, resVs, resV, packV, initT, addr, t0, t1, t5, t6, hns]; first | done | rfl | (congr 1; omega)), by first | rfl | (simp (implicitDefEqProofs := false) (maxSteps := 1000000) (disch := first | omega | with_reducible assumption | (simp only [List.length_map, List.length_cons, List.length_nil, List.length_set, List.length_append, List.length_replicate, List.length_take, List.length_drop, mk_size, AMem.size_set, Nat.reduceAdd]; omega)) only [amT, cut, bnd, Nat.reduceBEq, reduceCtorEq, Nat.reduceEqDiff, Nat.reduceAdd, Nat.reduceMul, Nat.reduceSub, Int.reduceToNat, Int.reduceEq, Int.reduceLT, Int.reduceLE, Int.reduceAdd, Int.reduceSub, Int.reduceMul, reduceIte, resVs, resV, packV, initT, addr, t0, t1, t5, t6, hns]; first | done | rfl | (congr 1; omega)), ?_⟩
        · omega
        · omega
      · have hi : min ls.length 50 = i := by omega
        have hle2 : ((fewN ls i : Nat) : Int) ≤ 3000 ↔ fewN ls i ≤ 3000 := by omega
        have h3' : ¬ ls.length ≤ min top 50 := by omega
        by_cases h4 : (50 : Int) < (top : Int)
        · have h3 : ¬ (ls.length : Int) ≤ 50 := by omega
          simp (implicitDefEqProofs := false) (maxSteps := 1000000) (disch := first | omega | with_reducible assumption | (simp only [List.length_map, List.length_cons, List.length_nil, List.length_set, List.length_append, List.length_replicate, List.length_take, List.length_drop, mk_size, AMem.size_set, Nat.reduceAdd]; omega)) only [amT, cut, bnd, Nat.reduceBEq, reduceCtorEq, Nat.reduceEqDiff, Nat.reduceAdd, Nat.reduceMul, Nat.reduceSub, Int.reduceToNat, Int.reduceEq, Int.reduceLT, Int.reduceLE, Int.reduceAdd, Int.reduceSub, Int.reduceMul, reduceIte, resVs, resV, packV, initT, addr, F11_l0, t0, t1, t5, t6, h1, h2, stepOp_mnx, mnxs, h4, hle2, h3, h3', fewB, hi]
        · have h3 : ¬ (ls.length : Int) ≤ (top : Int) := by omega
          simp (implicitDefEqProofs := false) (maxSteps := 1000000) (disch := first | omega | with_reducible assumption | (simp only [List.length_map, List.length_cons, List.length_nil, List.length_set, List.length_append, List.length_replicate, List.length_take, List.length_drop, mk_size, AMem.size_set, Nat.reduceAdd]; omega)) only [amT, cut, bnd, Nat.reduceBEq, reduceCtorEq, Nat.reduceEqDiff, Nat.reduceAdd, Nat.reduceMul, Nat.reduceSub, Int.reduceToNat, Int.reduceEq, Int.reduceLT, Int.reduceLE, Int.reduceAdd, Int.reduceSub, Int.reduceMul, reduceIte, resVs, resV, packV, initT, addr, F11_l0, t0, t1, t5, t6, h1, h2, stepOp_mnx, mnxs, h4, hle2, h3, h3', fewB, hi]
    · have hi : min ls.length 50 = i := by omega
      have hle2 : ((fewN ls i : Nat) : Int) ≤ 3000 ↔ fewN ls i ≤ 3000 := by omega
      by_cases h4 : (50 : Int) < (top : Int)
      · have h3 : (ls.length : Int) ≤ 50 := by omega
        have h3' : ls.length ≤ min top 50 := by omega
        simp (implicitDefEqProofs := false) (maxSteps := 1000000) (disch := first | omega | with_reducible assumption | (simp only [List.length_map, List.length_cons, List.length_nil, List.length_set, List.length_append, List.length_replicate, List.length_take, List.length_drop, mk_size, AMem.size_set, Nat.reduceAdd]; omega)) only [amT, cut, bnd, Nat.reduceBEq, reduceCtorEq, Nat.reduceEqDiff, Nat.reduceAdd, Nat.reduceMul, Nat.reduceSub, Int.reduceToNat, Int.reduceEq, Int.reduceLT, Int.reduceLE, Int.reduceAdd, Int.reduceSub, Int.reduceMul, reduceIte, resVs, resV, packV, initT, addr, F11_l0, t0, t1, t5, t6, h1, stepOp_mnx, mnxs, h4, hle2, h3, h3', fewB, hi]
      · by_cases h3 : (ls.length : Int) ≤ (top : Int)
        · have h3' : ls.length ≤ min top 50 := by omega
          simp (implicitDefEqProofs := false) (maxSteps := 1000000) (disch := first | omega | with_reducible assumption | (simp only [List.length_map, List.length_cons, List.length_nil, List.length_set, List.length_append, List.length_replicate, List.length_take, List.length_drop, mk_size, AMem.size_set, Nat.reduceAdd]; omega)) only [amT, cut, bnd, Nat.reduceBEq, reduceCtorEq, Nat.reduceEqDiff, Nat.reduceAdd, Nat.reduceMul, Nat.reduceSub, Int.reduceToNat, Int.reduceEq, Int.reduceLT, Int.reduceLE, Int.reduceAdd, Int.reduceSub, Int.reduceMul, reduceIte, resVs, resV, packV, initT, addr, F11_l0, t0, t1, t5, t6, h1, stepOp_mnx, mnxs, h4, hle2, h3, h3', fewB, hi]
        · have h3' : ¬ ls.length ≤ min top 50 := by omega
          simp (implicitDefEqProofs := false) (maxSteps := 1000000) (disch := first | omega | with_reducible assumption | (simp only [List.length_map, List.length_cons, List.length_nil, List.length_set, List.length_append, List.length_replicate, List.length_take, List.length_drop, mk_size, AMem.size_set, Nat.reduceAdd]; omega)) only [amT, cut, bnd, Nat.reduceBEq, reduceCtorEq, Nat.reduceEqDiff, Nat.reduceAdd, Nat.reduceMul, Nat.reduceSub, Int.reduceToNat, Int.reduceEq, Int.reduceLT, Int.reduceLE, Int.reduceAdd, Int.reduceSub, Int.reduceMul, reduceIte, resVs, resV, packV, initT, addr, F11_l0, t0, t1, t5, t6, h1, stepOp_mnx, mnxs, h4, hle2, h3, h3', fewB, hi]

theorem flat_take_succ {ls : List (List UInt8)} {i : Nat} (h : i < ls.length) : (ls.take (i + 1)).flatten = (ls.take i).flatten ++ ls[i] := by
  rw [List.take_succ_eq_append_getElem h, List.flatten_append, List.flatten_cons, List.flatten_nil, List.append_nil]
theorem flat_take_le (ls : List (List UInt8)) (i : Nat) : (ls.take i).flatten.length ≤ ls.flatten.length := by
  have : ls.flatten = (ls.take i).flatten ++ (ls.drop i).flatten := by rw [← List.flatten_append, List.take_append_drop]
  rw [this, List.length_append]; omega

theorem joined_ok (m : AMem) (a : Option Addr) (cap : Nat) (ls : List (List UInt8)) (hls : BSS m a ls) (hl : ls.length ≤ 1000) (hn : ls.flatten.length ≤ 1000000) :
    ACall Tryd.prog 3 15 [.slice a ls.length cap] m fun r m' => ∃ a' cap', r = .ret (.slice a' ls.flatten.length cap') ∧ BSl m' a' cap' ls.flatten ∧ Old m m' := by
  refine ACall.eqv (m1 := mx m []) rfl (fun b hb => mx_old hb) (ACall_of_W (fn := Tryd.f15) rfl rfl F15_ok (by simp [F15]) ?_)
  simp (implicitDefEqProofs := false) (maxSteps := 1000000) (disch := first | omega | with_reducible assumption | (simp only [List.length_map, List.length_cons, List.length_nil, List.length_set, List.length_append, List.length_replicate, List.length_take, List.length_drop, mk_size, AMem.size_set, Nat.reduceAdd]; omega)) only [amT, cut, bnd, Nat.reduceBEq, reduceCtorEq, Nat.reduceEqDiff, Nat.reduceAdd, Nat.reduceMul, Nat.reduceSub, Int.reduceToNat, Int.reduceEq, Int.reduceLT, Int.reduceLE, Int.reduceAdd, Int.reduceSub, Int.reduceMul, reduceIte, resVs, resV, packV, initT, addr, F15]
  refine W_loop (fun N qs => ∃ (i : Nat) (M : AMem) (av : Option Addr) (cv : Nat), N = ls.length - i ∧ qs.ds = [] ∧ qs.m = mx M [] ∧ qs.t 0 = .slice a ls.length cap ∧ qs.t 3 = .slice av (ls.take i).flatten.length cv ∧ qs.t 4 = .int .i64 i ∧ i ≤ ls.length ∧ Old m M ∧ Buf m M (.slice av (ls.take i).flatten.length cv) ((ls.take i).flatten.map byteV) 5 (.int .u8 0)) (ls.length - (0)) ⟨0, mx m [], none, 0, rfl, rfl, by first | rfl | (simp (implicitDefEqProofs := false) (maxSteps := 1000000) (disch := first | omega | with_reducible assumption | (simp only [List.length_map, List.length_cons, List.length_nil, List.length_set, List.length_append, List.length_replicate, List.length_take, List.length_drop, mk_size, AMem.size_set, Nat.reduceAdd]; omega)) only [amT, cut, bnd, Nat.reduceBEq, reduceCtorEq, Nat.reduceEqDiff, Nat.reduceAdd, Nat.reduceMul, Nat.reduceSub, Int.reduceToNat, Int.reduceEq, Int.reduceLT, Int.reduceLE, Int.reduceAdd, Int.reduceSub, Int.reduceMul, reduceIte, resVs, resV, packV, initT, addr, List.take_zero, List.flatten_nil]; first | done | rfl | (congr 1; omega)), by first | rfl | (simp (implicitDefEqProofs := false) (maxSteps := 1000000) (disch := first | omega | with_reducible assumption | (simp only [List.length_map, List.length_cons, List.length_nil, List.length_set, List.length_append, List.length_replicate, List.length_take, List.length_drop, mk_size, AMem.size_set, Nat.reduceAdd]; omega)) only [amT, cut, bnd, Nat.reduceBEq, reduceCtorEq, Nat.reduceEqDiff, Nat.reduceAdd, Nat.reduceMul, Nat.reduceSub, Int.reduceToNat, Int.reduceEq, Int.reduceLT, Int.reduceLE, Int.reduceAdd, Int.reduceSub, Int.reduceMul, reduceIte, resVs, resV, packV, initT, addr, List.take_zero, List.flatten_nil]; first | done | rfl | (congr 1; omega)), by first | rfl | (simp (implicitDefEqProofs := false) (maxSteps := 1000000) (disch := first | omega | with_reducible assumption | (simp only [List.length_map, List.length_cons, List.length_nil, List.length_set, List.length_append, List.length_replicate, List.length_take, List.length_drop, mk_size, AMem.size_set, Nat.reduceAdd]; omega)) only [amT, cut, bnd, Nat.reduceBEq, reduceCtorEq, Nat.reduceEqDiff, Nat.reduceAdd, Nat.reduceMul, Nat.reduceSub, Int.reduceToNat, Int.reduceEq, Int.reduceLT, Int.reduceLE, Int.reduceAdd, Int.reduceSub, Int.reduceMul, reduceIte, resVs, resV, packV, initT, addr, List.take_zero, List.flatten_nil]; first | done | rfl | (congr 1; omega)), by first | rfl | (simp (implicitDefEqProofs := false) (maxSteps := 1000000) (disch := first | omega | with_reducible assumption | (simp only [List.length_map, List.length_cons, List.length_nil, List.length_set, List.length_append, List.length_replicate, List.length_take, List.length_drop, mk_size, AMem.size_set, Nat.reduceAdd]; omega)) only [amT, cut, bnd, Nat.reduceBEq, reduceCtorEq, Nat.reduceEqDiff, Nat.reduceAdd, Nat.reduceMul, Nat.reduceSub, Int.reduceToNat, Int.reduceEq, Int.reduceLT, Int.reduceLE, Int.reduceAdd, Int.reduceSub, Int.reduceMul, reduceIte, resVs, resV, packV, initT, addr, List.take_zero, List.flatten_nil]; first | done | rfl | (congr 1; omega)), ?_⟩ ?_
  · exact ⟨by omega, Old.here _ _, .inl ⟨rfl, rfl⟩⟩
  · rintro N t m1 ds ⟨i, M, av, cv, rfl, hds, hm, t0, t3, t4, hp⟩
    simp only at hds hm t0 t3 t4
    subst hds; replace hm := hm.symm; subst hm
    obtain ⟨hil, hO, hB⟩ := hp
    have hfl := flat_take_le ls i
    by_cases h1 : (i : Int) < (ls.length : Int)
    · have hi : i < ls.length := by omega
      obtain ⟨b, o, a', cap', rfl, hb, hr, hBl⟩ := (hls.old hO).get hi
      rw [rd_def] at hr
      have hfl2 := flat_take_le ls (i + 1)
      have hns := flat_take_succ hi
      rw [hns, List.length_append] at hfl2
      obtain ⟨v', M', happ, hB', hF⟩ := hB.appS hO.1 hBl (by omega)
      have hO' := hO.fr hF hB.new
      rw [← hns] at hB'
      obtain ⟨av', cv', rfl⟩ := hB'.len
      rw [List.length_map] at happ hB'
      simp (implicitDefEqProofs := false) (maxSteps := 1000000) (disch := first | omega | with_reducible assumption | (simp only [List.length_map, List.length_cons, List.length_nil, List.length_set, List.length_append, List.length_replicate, List.length_take, List.length_drop, mk_size, AMem.size_set, Nat.reduceAdd]; omega)) only [amT, cut, bnd, Nat.reduceBEq, reduceCtorEq, Nat.reduceEqDiff, Nat.reduceAdd, Nat.reduceMul, Nat.reduceSub, Int.reduceToNat, Int.reduceEq, Int.reduceLT, Int.reduceLE, Int.reduceAdd, Int.reduceSub, Int.reduceMul, reduceIte, resVs, resV, packV, initT, addr, F15_l0, t0, t3, t4, h1, hr, stepOp_app_v, happ]
      rw [LoopK_normal]; refine ⟨_, ?_, i + 1, M', av', cv', rfl, rfl, by first | rfl | (simp (implicitDefEqProofs := false) (maxSteps := 1000000) (disch := first | omega | with_reducible assumption | (simp only [List.length_map, List.length_cons, List.length_nil, List.length_set, List.length_append, List.length_replicate, List.length_take, List.length_drop, mk_size, AMem.size_set, Nat.reduceAdd]; omega)) only [amT, cut, bnd, Nat.reduceBEq, reduceCtorEq, Nat.reduceEqDiff, Nat.reduceAdd, Nat.reduceMul, Nat.reduceSub, Int.reduceToNat, Int.reduceEq, Int.reduceLT, Int.reduceLE, Int.reduceAdd, Int.reduceSub, Int.reduceMul, reduceIte, resVs, resV, packV, initT, addr, t0, t3, t4]; first | done | rfl | (congr 1; omega)), by first | rfl | (simp (implicitDefEqProofs := false) (maxSteps := 1000000) (disch := first | omega | with_reducible assumption | (simp only [List.length_map, List.length_cons, List.length_nil, List.length_set, List.length_append, List.length_replicate, List.length_take, List.length_drop, mk_size, AMem.size_set, Nat.reduceAdd]; omega)) only [amT, cut, bnd, Nat.reduceBEq, reduceCtorEq, Nat.reduceEqDiff, Nat.reduceAdd, Nat.reduceMul, Nat.reduceSub, Int.reduceToNat, Int.reduceEq, Int.reduceLT, Int.reduceLE, Int.reduceAdd, Int.reduceSub, Int.reduceMul, reduceIte, resVs, resV, packV, initT, addr, t0, t3, t4]; first | done | rfl | (congr 1; omega)), by first | rfl | (simp (implicitDefEqProofs := false) (maxSteps := 1000000) (disch := first | omega | with_reducible assumption | (simp only [List.length_map, List.length_cons, List.length_nil, List.length_set, List.length_append, List.length_replicate, List.length_take, List.length_drop, mk_size, AMem.size_set, Nat.reduceAdd]; omega)) only [amT, cut, bnd, Nat.reduceBEq, reduceCtorEq, Nat.reduceEqDiff, Nat.reduceAdd, Nat.reduceMul, Nat.reduceSub, Int.reduceToNat, Int.reduceEq, Int.reduceLT, Int.reduceLE, Int.reduceAdd, Int.reduceSub, Int.reduceMul, reduceIte, resVs, resV, packV, initT, addr, t0, t3, t4]; first | done | rfl | (congr 1; omega)), by first | rfl | (simp (implicitDefEqProofs := false) (maxSteps := 1000000) (disch := first | omega | with_reducible assumption | (simp only [List.length_map, List.length_cons, List.length_nil, List.length_set, List.length_append, List.length_replicate, List.length_take, List.length_drop, mk_size, AMem.size_set, Nat.reduceAdd]; omega)) only [amT, cut, bnd, Nat.reduceBEq, reduceCtorEq, Nat.reduceEqDiff, Nat.reduceAdd, Nat.reduceMul, Nat.reduceSub, Int.reduceToNat, Int.reduceEq, Int.reduceLT, Int.reduceLE, Int.reduceAdd, Int.reduceSub, Int.reduceMul, reduceIte, resVs, resV, packV, initT, addr, t0, t3, t4]; first | done | rfl | (congr 1; omega)), ?_⟩
      · omega
      · exact ⟨by omega, hO', hB'⟩
    · have hi : i = ls.length := by omega
      subst hi
      rw [List.take_length] at hB t3
      simp (implicitDefEqProofs := false) (maxSteps := 1000000) (disch := first | omega | with_reducible assumption | (simp only [List.length_map, List.length_cons, List.length_nil, List.length_set, List.length_append, List.length_replicate, List.length_take, List.length_drop, mk_size, AMem.size_set, Nat.reduceAdd]; omega)) only [amT, cut, bnd, Nat.reduceBEq, reduceCtorEq, Nat.reduceEqDiff, Nat.reduceAdd, Nat.reduceMul, Nat.reduceSub, Int.reduceToNat, Int.reduceEq, Int.reduceLT, Int.reduceLE, Int.reduceAdd, Int.reduceSub, Int.reduceMul, reduceIte, resVs, resV, packV, initT, addr, F15_l0, t0, t3, t4, h1]
      exact ⟨av, cv, rfl, (hB.bsl.2).old (Old.here _ _), hO.mx _⟩
end Go.Proofs.YtidngakhkpodgaaDoor
namespace Go.Proofs.YtidngakhkpodgaaDoor
open Go Go.AM
set_option linter.unusedVariables false
set_option linter.unusedSimpArgs false

theorem app_nil {M : AMem} {a : Option Addr} {cap : Nat} {e : TypeId} (hs : BSl M a cap []) : appV e 1 1 [.int .u8 0] (.slice none 0 0) (.slice a 0 cap) (mx M []) = some (.slice none 0 0, mx M []) := by
  have hsrc : srcCells 1 0 (.slice a 0 cap) (mx M []) = some [] := by
    have := (hs.old (Old.here M [])).src (n := 0) (Nat.le_refl _)
    simpa using this
  simp only [appV, srcLen_slice, hsrc]
  simp [appendTo]

theorem joined_nil (m : AMem) (a : Option Addr) (cap : Nat) (ls : List (List UInt8)) (hls : BSS m a ls) (hl : ls.length ≤ 1000) (hn : ls.flatten = []) :
    PureC Tryd.prog 3 15 [.slice a ls.length cap] m (.slice none 0 0) := by
  have hz : ∀ i, (ls.take i).flatten = [] := fun i => by
    have := flat_take_le ls i
    rw [hn] at this
    exact List.length_eq_zero_iff.1 (by simpa using this)
  refine pure_of_W (fn := Tryd.f15) rfl rfl F15_ok (by simp [F15]) (.nilSlice _ _) ?_
  simp (implicitDefEqProofs := false) (maxSteps := 1000000) (disch := first | omega | with_reducible assumption | (simp only [List.length_map, List.length_cons, List.length_nil, List.length_set, List.length_append, List.length_replicate, List.length_take, List.length_drop, mk_size, AMem.size_set, Nat.reduceAdd]; omega)) only [amT, cut, bnd, Nat.reduceBEq, reduceCtorEq, Nat.reduceEqDiff, Nat.reduceAdd, Nat.reduceMul, Nat.reduceSub, Int.reduceToNat, Int.reduceEq, Int.reduceLT, Int.reduceLE, Int.reduceAdd, Int.reduceSub, Int.reduceMul, reduceIte, resVs, resV, packV, initT, addr, F15]
  refine W_loop (fun N qs => ∃ (i : Nat), N = ls.length - i ∧ qs.ds = [] ∧ qs.m = mx m [] ∧ qs.t 0 = .slice a ls.length cap ∧ qs.t 3 = .slice none 0 0 ∧ qs.t 4 = .int .i64 i ∧ i ≤ ls.length) (ls.length - (0)) ⟨0, rfl, rfl, by first | rfl | (simp (implicitDefEqProofs := false) (maxSteps := 1000000) (disch := first | omega | with_reducible assumption | (simp only [List.length_map, List.length_cons, List.length_nil, List.length_set, List.length_append, List.length_replicate, List.length_take, List.length_drop, mk_size, AMem.size_set, Nat.reduceAdd]; omega)) only [amT, cut, bnd, Nat.reduceBEq, reduceCtorEq, Nat.reduceEqDiff, Nat.reduceAdd, Nat.reduceMul, Nat.reduceSub, Int.reduceToNat, Int.reduceEq, Int.reduceLT, Int.reduceLE, Int.reduceAdd, Int.reduceSub, Int.reduceMul, reduceIte, resVs, resV, packV, initT, addr]; first | done | rfl | (congr 1; omega)), by first | rfl | (simp (implicitDefEqProofs := false) (maxSteps := 1000000) (disch := first | omega | with_reducible assumption | (simp only [List.length_map, List.length_cons, List.length_nil, List.length_set, List.length_append, List.length_replicate, List.length_take, List.length_drop, mk_size, AMem.size_set, Nat.reduceAdd]; omega)) only [amT, cut, bnd, Nat.reduceBEq, reduceCtorEq, Nat.reduceEqDiff, Nat.reduceAdd, Nat.reduceMul, Nat.reduceSub, Int.reduceToNat, Int.reduceEq, Int.reduceLT, Int.reduceLE, Int.reduceAdd, Int.reduceSub, Int.reduceMul, reduceIte, resVs, resV, packV, initT, addr]; first | done | rfl | (congr 1; omega)), by first | rfl | (simp (implicitDefEqProofs := false) (maxSteps := 1000000) (disch := first | omega | with_reducible assumption | (simp only [List.length_map, List.length_cons, List.length_nil, List.length_set, List.length_append, List.length_replicate, List.length_take, List.length_drop, mk_size, AMem.size_set, Nat.reduceAdd]; omega)) only [amT, cut, bnd, Nat.reduceBEq, reduceCtorEq, Nat.reduceEqDiff, Nat.reduceAdd, Nat.reduceMul, Nat.reduceSub, Int.reduceToNat, Int.reduceEq, Int.reduceLT, Int.reduceLE, Int.reduceAdd, Int.reduceSub, Int.reduceMul, reduceIte, resVs, resV, packV, initT, addr]; first | done | rfl | (congr 1; omega)), by first | rfl | (simp (implicitDefEqProofs := false) (maxSteps := 1000000) (disch := first | omega | with_reducible assumption | (simp only [List.length_map, List.length_cons, List.length_nil, List.length_set, List.length_append, List.length_replicate, List.length_take, List.length_drop, mk_size, AMem.size_set, Nat.reduceAdd]; omega)) only [amT, cut, bnd, Nat.reduceBEq, reduceCtorEq, Nat.reduceEqDiff, Nat.reduceAdd, Nat.reduceMul, Nat.reduceSub, Int.reduceToNat, Int.reduceEq, Int.reduceLT, Int.reduceLE, Int.reduceAdd, Int.reduceSub, Int.reduceMul, reduceIte, resVs, resV, packV, initT, addr]; first | done | rfl | (congr 1; omega)), ?_⟩ ?_
  · omega
  · rintro N t m1 ds ⟨i, rfl, hds, hm, t0, t3, t4, hp⟩
    simp only at hds hm t0 t3 t4
    subst hds; replace hm := hm.symm; subst hm
    by_cases h1 : (i : Int) < (ls.length : Int)
    · have hi : i < ls.length := by omega
      obtain ⟨b, o, a', cap', rfl, hb, hr, hBl⟩ := hls.get hi
      rw [rd_def] at hr
      have hns := flat_take_succ hi
      rw [hz, hz, List.nil_append] at hns
      rw [← hns] at hr hBl
      have happ := app_nil (e := 5) hBl
      simp (implicitDefEqProofs := false) (maxSteps := 1000000) (disch := first | omega | with_reducible assumption | (simp only [List.length_map, List.length_cons, List.length_nil, List.length_set, List.length_append, List.length_replicate, List.length_take, List.length_drop, mk_size, AMem.size_set, Nat.reduceAdd]; omega)) only [amT, cut, bnd, Nat.reduceBEq, reduceCtorEq, Nat.reduceEqDiff, Nat.reduceAdd, Nat.reduceMul, Nat.reduceSub, Int.reduceToNat, Int.reduceEq, Int.reduceLT, Int.reduceLE, Int.reduceAdd, Int.reduceSub, Int.reduceMul, reduceIte, resVs, resV, packV, initT, addr, F15_l0, t0, t3, t4, h1, hr, stepOp_app_v, happ]
      rw [LoopK_normal]; refine ⟨_, ?_, i + 1, rfl, rfl, by first | rfl | (simp (implicitDefEqProofs := false) (maxSteps := 1000000) (disch := first | omega | with_reducible assumption | (simp only [List.length_map, List.length_cons, List.length_nil, List.length_set, List.length_append, List.length_replicate, List.length_take, List.length_drop, mk_size, AMem.size_set, Nat.reduceAdd]; omega)) only [amT, cut, bnd, Nat.reduceBEq, reduceCtorEq, Nat.reduceEqDiff, Nat.reduceAdd, Nat.reduceMul, Nat.reduceSub, Int.reduceToNat, Int.reduceEq, Int.reduceLT, Int.reduceLE, Int.reduceAdd, Int.reduceSub, Int.reduceMul, reduceIte, resVs, resV, packV, initT, addr, t0, t3, t4]; first | done | rfl | (congr 1; omega)), by first | rfl | (simp (implicitDefEqProofs := false) (maxSteps := 1000000) (disch := first | omega | with_reducible assumption | (simp only [List.length_map, List.length_cons, List.length_nil, List.length_set, List.length_append, List.length_replicate, List.length_take, List.length_drop, mk_size, AMem.size_set, Nat.reduceAdd]; omega)) only [amT, cut, bnd, Nat.reduceBEq, reduceCtorEq, Nat.reduceEqDiff, Nat.reduceAdd, Nat.reduceMul, Nat.reduceSub, Int.reduceToNat, Int.reduceEq, Int.reduceLT, Int.reduceLE, Int.reduceAdd, Int.reduceSub, Int.reduceMul, reduceIte, resVs, resV, packV, initT, addr, t0, t3, t4]; first | done | rfl | (congr 1; omega)), by first | rfl | (simp (implicitDefEqProofs := false) (maxSteps := 1000000) (disch := first | omega | with_reducible assumption | (simp only [List.length_map, List.length_cons, List.length_nil, List.length_set, List.length_append, List.length_replicate, List.length_take, List.length_drop, mk_size, AMem.size_set, Nat.reduceAdd]; omega)) only [amT, cut, bnd, Nat.reduceBEq, reduceCtorEq, Nat.reduceEqDiff, Nat.reduceAdd, Nat.reduceMul, Nat.reduceSub, Int.reduceToNat, Int.reduceEq, Int.reduceLT, Int.reduceLE, Int.reduceAdd, Int.reduceSub, Int.reduceMul, reduceIte, resVs, resV, packV, initT, addr, t0, t3, t4]; first | done | rfl | (congr 1; omega)), by first | rfl | (simp (implicitDefEqProofs := false) (maxSteps := 1000000) (disch := first | omega | with_reducible assumption | (simp only [List.length_map, List.length_cons, List.length_nil, List.length_set, List.length_append, List.length_replicate, List.length_take, List.length_drop, mk_size, AMem.size_set, Nat.reduceAdd]; omega)) only [amT, cut, bnd, Nat.reduceBEq, reduceCtorEq, Nat.reduceEqDiff, Nat.reduceAdd, Nat.reduceMul, Nat.reduceSub, Int.reduceToNat, Int.reduceEq, Int.reduceLT, Int.reduceLE, Int.reduceAdd, Int.reduceSub, Int.reduceMul, reduceIte, resVs, resV, packV, initT, addr, t0, t3, t4]; first | done | rfl | (congr 1; omega)), ?_⟩
      · omega
      · omega
    · simp (implicitDefEqProofs := false) (maxSteps := 1000000) (disch := first | omega | with_reducible assumption | (simp only [List.length_map, List.length_cons, List.length_nil, List.length_set, List.length_append, List.length_replicate, List.length_take, List.length_drop, mk_size, AMem.size_set, Nat.reduceAdd]; omega)) only [amT, cut, bnd, Nat.reduceBEq, reduceCtorEq, Nat.reduceEqDiff, Nat.reduceAdd, Nat.reduceMul, Nat.reduceSub, Int.reduceToNat, Int.reduceEq, Int.reduceLT, Int.reduceLE, Int.reduceAdd, Int.reduceSub, Int.reduceMul, reduceIte, resVs, resV, packV, initT, addr, F15_l0, t0, t3, t4, h1]

theorem joined_row (m : AMem) (a : Option Addr) (cap : Nat) (ls : List (List UInt8)) (hls : BSS m a ls) (hl : ls.length ≤ 1000) (hn : ls.flatten.length ≤ 1000000) (hne : ls.flatten ≠ []) :
    DetC Tryd.prog 3 15 [.slice a ls.length cap] m (.slice (some ⟨m.size, 0, none⟩) ls.flatten.length openCap) (mx m [.cells (ls.flatten.map byteV) 5 true (.room [.int .u8 0])]) := by
  refine det_of_W (fn := Tryd.f15) rfl rfl F15_ok (by simp [F15]) ?_
  simp (implicitDefEqProofs := false) (maxSteps := 1000000) (disch := first | omega | with_reducible assumption | (simp only [List.length_map, List.length_cons, List.length_nil, List.length_set, List.length_append, List.length_replicate, List.length_take, List.length_drop, mk_size, AMem.size_set, Nat.reduceAdd]; omega)) only [amT, cut, bnd, Nat.reduceBEq, reduceCtorEq, Nat.reduceEqDiff, Nat.reduceAdd, Nat.reduceMul, Nat.reduceSub, Int.reduceToNat, Int.reduceEq, Int.reduceLT, Int.reduceLE, Int.reduceAdd, Int.reduceSub, Int.reduceMul, reduceIte, resVs, resV, packV, initT, addr, F15]
  refine W_loop (fun N qs => ∃ (i : Nat) (M : AMem) (av : Option Addr) (cv : Nat), N = ls.length - i ∧ qs.ds = [] ∧ qs.m = mx M [] ∧ qs.t 0 = .slice a ls.length cap ∧ qs.t 3 = .slice av (ls.take i).flatten.length cv ∧ qs.t 4 = .int .i64 i ∧ i ≤ ls.length ∧ Old m M ∧ Buf m M (.slice av (ls.take i).flatten.length cv) ((ls.take i).flatten.map byteV) 5 (.int .u8 0)) (ls.length - (0)) ⟨0, mx m [], none, 0, rfl, rfl, by first | rfl | (simp (implicitDefEqProofs := false) (maxSteps := 1000000) (disch := first | omega | with_reducible assumption | (simp only [List.length_map, List.length_cons, List.length_nil, List.length_set, List.length_append, List.length_replicate, List.length_take, List.length_drop, mk_size, AMem.size_set, Nat.reduceAdd]; omega)) only [amT, cut, bnd, Nat.reduceBEq, reduceCtorEq, Nat.reduceEqDiff, Nat.reduceAdd, Nat.reduceMul, Nat.reduceSub, Int.reduceToNat, Int.reduceEq, Int.reduceLT, Int.reduceLE, Int.reduceAdd, Int.reduceSub, Int.reduceMul, reduceIte, resVs, resV, packV, initT, addr, List.take_zero, List.flatten_nil]; first | done | rfl | (congr 1; omega)), by first | rfl | (simp (implicitDefEqProofs := false) (maxSteps := 1000000) (disch := first | omega | with_reducible assumption | (simp only [List.length_map, List.length_cons, List.length_nil, List.length_set, List.length_append, List.length_replicate, List.length_take, List.length_drop, mk_size, AMem.size_set, Nat.reduceAdd]; omega)) only [amT, cut, bnd, Nat.reduceBEq, reduceCtorEq, Nat.reduceEqDiff, Nat.reduceAdd, Nat.reduceMul, Nat.reduceSub, Int.reduceToNat, Int.reduceEq, Int.reduceLT, Int.reduceLE, Int.reduceAdd, Int.reduceSub, Int.reduceMul, reduceIte, resVs, resV, packV, initT, addr, List.take_zero, List.flatten_nil]; first | done | rfl | (congr 1; omega)), by first | rfl | (simp (implicitDefEqProofs := false) (maxSteps := 1000000) (disch := first | omega | with_reducible assumption | (simp only [List.length_map, List.length_cons, List.length_nil, List.length_set, List.length_append, List.length_replicate, List.length_take, List.length_drop, mk_size, AMem.size_set, Nat.reduceAdd]; omega)) only [amT, cut, bnd, Nat.reduceBEq, reduceCtorEq, Nat.reduceEqDiff, Nat.reduceAdd, Nat.reduceMul, Nat.reduceSub, Int.reduceToNat, Int.reduceEq, Int.reduceLT, Int.reduceLE, Int.reduceAdd, Int.reduceSub, Int.reduceMul, reduceIte, resVs, resV, packV, initT, addr, List.take_zero, List.flatten_nil]; first | done | rfl | (congr 1; omega)), by first | rfl | (simp (implicitDefEqProofs := false) (maxSteps := 1000000) (disch := first | omega | with_reducible assumption | (simp only [List.length_map, List.length_cons, List.length_nil, List.length_set, List.length_append, List.length_replicate, List.length_take, List.length_drop, mk_size, AMem.size_set, Nat.reduceAdd]; omega)) only [amT, cut, bnd, Nat.reduceBEq, reduceCtorEq, Nat.reduceEqDiff, Nat.reduceAdd, Nat.reduceMul, Nat.reduceSub, Int.reduceToNat, Int.reduceEq, Int.reduceLT, Int.reduceLE, Int.reduceAdd, Int.reduceSub, Int.reduceMul, reduceIte, resVs, resV, packV, initT, addr, List.take_zero, List.flatten_nil]; first | done | rfl | (congr 1; omega)), ?_⟩ ?_
  · exact ⟨by omega, Old.here _ _, .inl ⟨rfl, rfl⟩⟩
  · rintro N t m1 ds ⟨i, M, av, cv, rfl, hds, hm, t0, t3, t4, hp⟩
    simp only at hds hm t0 t3 t4
    subst hds; replace hm := hm.symm; subst hm
    obtain ⟨hil, hO, hB⟩ := hp
    have hfl := flat_take_le ls i
    by_cases h1 : (i : Int) < (ls.length : Int)
    · have hi : i < ls.length := by omega
      obtain ⟨b, o, a', cap', rfl, hb, hr, hBl⟩ := (hls.old hO).get hi
      rw [rd_def] at hr
      have hfl2 := flat_take_le ls (i + 1)
      have hns := flat_take_succ hi
      rw [hns, List.length_append] at hfl2
      obtain ⟨v', M', happ, hB', hF⟩ := hB.appS hO.1 hBl (by omega)
      have hO' := hO.fr hF hB.new
      rw [← hns] at hB'
      obtain ⟨av', cv', rfl⟩ := hB'.len
      rw [List.length_map] at happ hB'
      simp (implicitDefEqProofs := false) (maxSteps := 1000000) (disch := first | omega | with_reducible assumption | (simp only [List.length_map, List.length_cons, List.length_nil, List.length_set, List.length_append, List.length_replicate, List.length_take, List.length_drop, mk_size, AMem.size_set, Nat.reduceAdd]; omega)) only [amT, cut, bnd, Nat.reduceBEq, reduceCtorEq, Nat.reduceEqDiff, Nat.reduceAdd, Nat.reduceMul, Nat.reduceSub, Int.reduceToNat, Int.reduceEq, Int.reduceLT, Int.reduceLE, Int.reduceAdd, Int.reduceSub, Int.reduceMul, reduceIte, resVs, resV, packV, initT, addr, F15_l0, t0, t3, t4, h1, hr, stepOp_app_v, happ]
      rw [LoopK_normal]; refine ⟨_, ?_, i + 1, M', av', cv', rfl, rfl, by first | rfl | (simp (implicitDefEqProofs := false) (maxSteps := 1000000) (disch := first | omega | with_reducible assumption | (simp only [List.length_map, List.length_cons, List.length_nil, List.length_set, List.length_append, List.length_replicate, List.length_take, List.length_drop, mk_size, AMem.size_set, Nat.reduceAdd]; omega)) only [amT, cut, bnd, Nat.reduceBEq, reduceCtorEq, Nat.reduceEqDiff, Nat.reduceAdd, Nat.reduceMul, Nat.reduceSub, Int.reduceToNat, Int.reduceEq, Int.reduceLT, Int.reduceLE, Int.reduceAdd, Int.reduceSub, Int.reduceMul, reduceIte, resVs, resV, packV, initT, addr, t0, t3, t4]; first | done | rfl | (congr 1; omega)), by first | rfl | (simp (implicitDefEqProofs := false) (maxSteps := 1000000) (disch := first | omega | with_reducible assumption | (simp only [List.length_map, List.length_cons, List.length_nil, List.length_set, List.length_append, List.length_replicate, List.length_take, List.length_drop, mk_size, AMem.size_set, Nat.reduceAdd]; omega)) only [amT, cut, bnd, Nat.reduceBEq, reduceCtorEq, Nat.reduceEqDiff, Nat.reduceAdd, Nat.reduceMul, Nat.reduceSub, Int.reduceToNat, Int.reduceEq, Int.reduceLT, Int.reduceLE, Int.reduceAdd, Int.reduceSub, Int.reduceMul, reduceIte, resVs, resV, packV, initT, addr, t0, t3, t4]; first | done | rfl | (congr 1; omega)), by first | rfl | (simp (implicitDefEqProofs := false) (maxSteps := 1000000) (disch := first | omega | with_reducible assumption | (simp only [List.length_map, List.length_cons, List.length_nil, List.length_set, List.length_append, List.length_replicate, List.length_take, List.length_drop, mk_size, AMem.size_set, Nat.reduceAdd]; omega)) only [amT, cut, bnd, Nat.reduceBEq, reduceCtorEq, Nat.reduceEqDiff, Nat.reduceAdd, Nat.reduceMul, Nat.reduceSub, Int.reduceToNat, Int.reduceEq, Int.reduceLT, Int.reduceLE, Int.reduceAdd, Int.reduceSub, Int.reduceMul, reduceIte, resVs, resV, packV, initT, addr, t0, t3, t4]; first | done | rfl | (congr 1; omega)), by first | rfl | (simp (implicitDefEqProofs := false) (maxSteps := 1000000) (disch := first | omega | with_reducible assumption | (simp only [List.length_map, List.length_cons, List.length_nil, List.length_set, List.length_append, List.length_replicate, List.length_take, List.length_drop, mk_size, AMem.size_set, Nat.reduceAdd]; omega)) only [amT, cut, bnd, Nat.reduceBEq, reduceCtorEq, Nat.reduceEqDiff, Nat.reduceAdd, Nat.reduceMul, Nat.reduceSub, Int.reduceToNat, Int.reduceEq, Int.reduceLT, Int.reduceLE, Int.reduceAdd, Int.reduceSub, Int.reduceMul, reduceIte, resVs, resV, packV, initT, addr, t0, t3, t4]; first | done | rfl | (congr 1; omega)), ?_⟩
      · omega
      · exact ⟨by omega, hO', hB'⟩
    · have hi : i = ls.length := by omega
      subst hi
      rw [List.take_length] at hB t3
      simp (implicitDefEqProofs := false) (maxSteps := 1000000) (disch := first | omega | with_reducible assumption | (simp only [List.length_map, List.length_cons, List.length_nil, List.length_set, List.length_append, List.length_replicate, List.length_take, List.length_drop, mk_size, AMem.size_set, Nat.reduceAdd]; omega)) only [amT, cut, bnd, Nat.reduceBEq, reduceCtorEq, Nat.reduceEqDiff, Nat.reduceAdd, Nat.reduceMul, Nat.reduceSub, Int.reduceToNat, Int.reduceEq, Int.reduceLT, Int.reduceLE, Int.reduceAdd, Int.reduceSub, Int.reduceMul, reduceIte, resVs, resV, packV, initT, addr, F15_l0, t0, t3, t4, h1]
      intro _
      have := hB.kept hO (by simpa using hne) (plain_byteV _)
      rw [List.length_map] at this
      exact this

theorem _root_.Go.AM.Buf.keep {m M M' : AMem} {v : Value} {c : List Value} {e : TypeId} {z : Value} (h : Buf m M v c e z) (hs : M.size ≤ M'.size) (hk : ∀ b, m.size ≤ b → b < M.size → M'.get b = M.get b) : Buf m M' v c e z := by
  rcases h with h | ⟨b, h1, h2, h3, h4⟩
  · exact .inl h
  · exact .inr ⟨b, h1, Nat.lt_of_lt_of_le h2 hs, h3, by rw [hk b h1 h2]; exact h4⟩

end Go.Proofs.YtidngakhkpodgaaDoor
namespace Go.Proofs.YtidngakhkpodgaaDoor
open Go Go.AM
set_option linter.unusedVariables false
set_option linter.unusedSimpArgs false

theorem mx_e (M : AMem) (l : List AObj) : mx (mx M l) [] = mx M l := by rw [mx_mx, List.append_nil]
theorem size_e (M : AMem) : (mx M []).size = M.size := by rw [mx_size]; rfl

theorem joined_any (M : AMem) (a : Option Addr) (cap : Nat) (ls : List (List UInt8)) (hls : BSS M a ls) (hl : ls.length ≤ 1000) (hn : ls.flatten.length ≤ 1000000) :
    ∃ a' cap' M', Known Tryd.prog 3 15 [.slice a ls.length cap] (mx M []) (.slice a' ls.flatten.length cap') (mx M' []) ∧ BSl M' a' cap' ls.flatten ∧ Old M M' := by
  have h := hls.old (Old.here M [])
  by_cases hne : ls.flatten = []
  · refine ⟨none, 0, M, ?_, .inl ⟨rfl, rfl, hne⟩, ⟨Nat.le_refl _, fun _ _ => rfl⟩⟩
    have := DetC.known (joined_nil (mx M []) a cap ls h hl hne)
    rw [hne]; exact this
  · have k := joined_row (mx M []) a cap ls h hl hn hne
    rw [mx_mx, List.nil_append, size_e] at k
    refine ⟨some ⟨M.size, 0, none⟩, openCap, mx M [.cells (ls.flatten.map byteV) 5 true (.room [.int .u8 0])], ?_, BSl.room (by rw [mx_size]; simp) (mx_new0 _ _), Old.here _ _⟩
    rw [mx_e]
    exact DetC.known k

/-- A row that grew out of nothing, or out of an empty one. -/
def Buf0 (m M : AMem) (v : Value) (c : List UInt8) : Prop :=
  Buf m M v (c.map byteV) 5 (.int .u8 0) ∨ (c = [] ∧ ∃ b, m.size ≤ b ∧ b < M.size ∧ v = .slice (some ⟨b, 0, none⟩) 0 0 ∧ M.get b = .cells [] 5 true .exact)
theorem Buf0.appS {m M : AMem} {v : Value} {c : List UInt8} {a : Option Addr} {cap : Nat} {news : List UInt8} (h : Buf0 m M v c) (hmM : m.size ≤ M.size) (hs : BSl M a cap news)
    (hb : 2 * (c.length + news.length) ≤ 281474976710656) :
    ∃ v' M', appV 5 1 1 [.int .u8 0] v (.slice a news.length cap) (mx M []) = some (v', mx M' []) ∧ Buf0 m M' v' (c ++ news) ∧ ∀ W, Old W M → W.size ≤ m.size → Old W M' := by
  rcases h with h | ⟨rfl, b, h1, h2, rfl, h4⟩
  · obtain ⟨v', M', e1, e2, e3⟩ := h.appS hmM hs hb
    exact ⟨v', M', e1, .inl e2, fun W hW hl => hW.fr e3 (fun x o l k hx => h.new x o l k (by omega))⟩
  · have hsrc : srcCells 1 news.length (.slice a news.length cap) (mx M []) = some (news.map byteV) := by
      rw [(hs.old (Old.here M [])).src (Nat.le_refl _), List.take_length]
    have hv : appV 5 1 1 [.int .u8 0] (.slice (some ⟨b, 0, none⟩) 0 0) (.slice a news.length cap) (mx M []) = appendTo 5 1 1 [.int .u8 0] (.slice (some ⟨b, 0, none⟩) 0 0) news.length (news.map byteV) (mx M []) := by
      simp only [appV, srcLen_slice, hsrc]
      rw [if_pos ⟨rfl, by omega, all_bytes _, by simp⟩]
    have hz : (0 : Nat) ≠ openCap := Nat.ne_of_lt zeroCap_lt
    rw [hv]
    by_cases h0 : news.length = 0
    · obtain rfl : news = [] := List.length_eq_zero_iff.1 h0
      refine ⟨_, M, ?_, .inr ⟨rfl, b, h1, h2, rfl, h4⟩, fun W hW _ => hW⟩
      simp only [appendTo]
      rw [if_neg hz]; rfl
    · have hr : rd (mx M []) b 0 (0 * 1) = some [] := by rw [rd_def, mx_old h2, h4, rdO_cells]; rfl
      simp only [List.length_nil, Nat.zero_add] at hb
      refine ⟨.slice (some ⟨M.size, 0, none⟩) news.length openCap, mx M [.cells (news.map byteV) 5 true (.room [.int .u8 0])], ?_, .inl (.inr ⟨M.size, hmM, by rw [mx_size]; simp, by simp, mx_new0 M _⟩), fun W hW _ => hW.trans (Old.here _ _)⟩
      simp only [appendTo]
      rw [if_neg hz, if_neg (by omega), hr]
      simp only
      rw [if_pos ⟨by omega, by omega⟩, mx_push, mx_mx, size_e]
      simp
theorem Buf0.bsl {m M : AMem} {v : Value} {c : List UInt8} (h : Buf0 m M v c) : ∃ a cap, v = .slice a c.length cap ∧ BSl M a cap c := by
  rcases h with h | ⟨rfl, b, h1, h2, rfl, h4⟩
  · obtain ⟨a, cap, rfl⟩ := h.len
    exact ⟨a, cap, by rw [List.length_map], h.bsl.2⟩
  · exact ⟨_, 0, rfl, .inr ⟨b, 0, _, _, _, _, rfl, h2, h4, rfl, .inr ⟨zeroCap_lt, Nat.le_refl _⟩⟩⟩

theorem chain (M1 : AMem) (ab : Option Addr) (cb : Nat) (B : List UInt8) (hb : BSl M1 ab cb B) (a : Option Addr) (cap : Nat) (ls : List (List UInt8)) (hls : BSS M1 a ls) (hl : ls.length ≤ 1000) (hB : B.length ≤ 3000) (hn : ls.flatten.length ≤ 3000) :
    ∃ v3 M3 a4 c4 M4 av cv M5, appV 5 1 1 [.int .u8 0] (.slice (some ⟨M1.size, 0, none⟩) 0 0) (.slice ab B.length cb) (mx M1 [.cells [] 5 true .exact]) = some (v3, mx M3 []) ∧
      Known Tryd.prog 3 15 [.slice a ls.length cap] (mx M3 []) (.slice a4 ls.flatten.length c4) (mx M4 []) ∧
      appV 5 1 1 [.int .u8 0] v3 (.slice a4 ls.flatten.length c4) (mx M4 []) = some (.slice av (B ++ ls.flatten).length cv, mx M5 []) ∧ BSl M5 av cv (B ++ ls.flatten) ∧ Old M1 M5 := by
  have o2 : Old M1 (mx M1 [.cells [] 5 true .exact]) := Old.here _ _
  have b0 : Buf0 M1 (mx M1 [.cells [] 5 true .exact]) (.slice (some ⟨M1.size, 0, none⟩) 0 0) [] := .inr ⟨rfl, M1.size, Nat.le_refl _, by rw [mx_size]; simp, rfl, mx_new0 _ _⟩
  obtain ⟨v3, M3, e3, b3, f3⟩ := b0.appS (by rw [mx_size]; omega) (hb.old o2) (by simp; omega)
  rw [mx_e] at e3
  have o3 := f3 M1 o2 (Nat.le_refl _)
  obtain ⟨a4, c4, M4, k4, hB4, o4⟩ := joined_any M3 a cap ls (hls.old o3) hl (by omega)
  have b4 : Buf0 M1 M4 v3 ([] ++ B) := by
    rcases b3 with h | ⟨h1, x, h2, h3, h4, h5⟩
    · exact .inl (h.keep o4.1 (fun x _ hx => o4.2 x hx))
    · exact .inr ⟨h1, x, h2, Nat.lt_of_lt_of_le h3 o4.1, h4, by rw [o4.2 x h3]; exact h5⟩
  obtain ⟨v5, M5, e5, b5, f5⟩ := b4.appS (Nat.le_trans o3.1 o4.1) hB4 (by rw [List.nil_append]; omega)
  have o5 := f5 M1 (o3.trans o4) (Nat.le_refl _)
  rw [List.nil_append] at b5
  obtain ⟨av, cv, rfl, hB5⟩ := b5.bsl
  exact ⟨v3, M3, a4, c4, M4, av, cv, M5, e3, k4, e5, hB5, o5⟩
end Go.Proofs.YtidngakhkpodgaaDoor
namespace Go.Proofs.YtidngakhkpodgaaDoor
open Go Go.AM
set_option linter.unusedVariables false
set_option linter.unusedSimpArgs false

theorem lawPieces (m : AMem) (hg : Glob m) (a : Option Addr) (cap : Nat) (ls : List (List UInt8)) (hls : BSS m a ls) (hn : ls.length ≤ 9223372036854775807) :
    PureC Tryd.prog 3 4 [.slice a ls.length cap] m (.bool true) := by
  refine pure_of_W (fn := Tryd.f4) rfl rfl F4_ok (by simp [F4]) (.bool _) ?_
  have hw := kWorksX hg
  have gs := hg.s
  have hfew : Known Tryd.prog 3 11 [.slice a ls.length cap, .int .i64 20] (mx m []) (.bool (fewB ls 20)) (mx m []) := DetC.known (few_ok (mx m []) a cap ls 20 (hls.old (Old.here _ _)) hn (by omega))
  cases hf : fewB ls 20 with
  | false =>
    rw [hf] at hfew
    simp (implicitDefEqProofs := false) (maxSteps := 1000000) (disch := first | omega | with_reducible assumption | (simp only [List.length_map, List.length_cons, List.length_nil, List.length_set, List.length_append, List.length_replicate, List.length_take, List.length_drop, mk_size, AMem.size_set, Nat.reduceAdd]; omega)) only [amT, cut, bnd, Nat.reduceBEq, reduceCtorEq, Nat.reduceEqDiff, Nat.reduceAdd, Nat.reduceMul, Nat.reduceSub, Int.reduceToNat, Int.reduceEq, Int.reduceLT, Int.reduceLE, Int.reduceAdd, Int.reduceSub, Int.reduceMul, reduceIte, resVs, resV, packV, initT, addr, F4, hfew, hw]
  | true =>
    rw [hf] at hfew
    obtain ⟨hlen, hflat⟩ := fewB_flat hf
    simp (implicitDefEqProofs := false) (maxSteps := 1000000) (disch := first | omega | with_reducible assumption | (simp only [List.length_map, List.length_cons, List.length_nil, List.length_set, List.length_append, List.length_replicate, List.length_take, List.length_drop, mk_size, AMem.size_set, Nat.reduceAdd]; omega)) only [amT, cut, bnd, Nat.reduceBEq, reduceCtorEq, Nat.reduceEqDiff, Nat.reduceAdd, Nat.reduceMul, Nat.reduceSub, Int.reduceToNat, Int.reduceEq, Int.reduceLT, Int.reduceLE, Int.reduceAdd, Int.reduceSub, Int.reduceMul, reduceIte, resVs, resV, packV, initT, addr, F4, hfew, zero73]
    repeat refine OrW.go ?_
    refine W_loop (fun N qs => ∃ (i : Nat) (M : AMem) (av : Option Addr) (cv : Nat), N = ls.length - i ∧ qs.ds = [] ∧ qs.m = mx M [] ∧ qs.t 0 = .slice a ls.length cap ∧ qs.t 3 = .pointer (some ⟨m.size, 0, none⟩) ∧ qs.t 4 = .slice av (ls.take i).flatten.length cv ∧ qs.t 5 = .int .i64 i ∧ i ≤ ls.length ∧ Old m M ∧ m.size < M.size ∧ M.get m.size = .cells (cH (hs0.put (ls.take i).flatten)) 35 true .exact ∧ Buf (mx m [.dead]) M (.slice av (ls.take i).flatten.length cv) ((ls.take i).flatten.map byteV) 5 (.int .u8 0)) (ls.length - (0)) ⟨0, mx m [.cells (cH hs0) 35 true .exact], none, 0, rfl, rfl, by first | rfl | (simp (implicitDefEqProofs := false) (maxSteps := 1000000) (disch := first | omega | with_reducible assumption | (simp only [List.length_map, List.length_cons, List.length_nil, List.length_set, List.length_append, List.length_replicate, List.length_take, List.length_drop, mk_size, AMem.size_set, Nat.reduceAdd]; omega)) only [amT, cut, bnd, Nat.reduceBEq, reduceCtorEq, Nat.reduceEqDiff, Nat.reduceAdd, Nat.reduceMul, Nat.reduceSub, Int.reduceToNat, Int.reduceEq, Int.reduceLT, Int.reduceLE, Int.reduceAdd, Int.reduceSub, Int.reduceMul, reduceIte, resVs, resV, packV, initT, addr, List.take_zero, List.flatten_nil, mx_mx, List.append_nil]; first | done | rfl | (congr 1; omega)), by first | rfl | (simp (implicitDefEqProofs := false) (maxSteps := 1000000) (disch := first | omega | with_reducible assumption | (simp only [List.length_map, List.length_cons, List.length_nil, List.length_set, List.length_append, List.length_replicate, List.length_take, List.length_drop, mk_size, AMem.size_set, Nat.reduceAdd]; omega)) only [amT, cut, bnd, Nat.reduceBEq, reduceCtorEq, Nat.reduceEqDiff, Nat.reduceAdd, Nat.reduceMul, Nat.reduceSub, Int.reduceToNat, Int.reduceEq, Int.reduceLT, Int.reduceLE, Int.reduceAdd, Int.reduceSub, Int.reduceMul, reduceIte, resVs, resV, packV, initT, addr, List.take_zero, List.flatten_nil, mx_mx, List.append_nil]; first | done | rfl | (congr 1; omega)), by first | rfl | (simp (implicitDefEqProofs := false) (maxSteps := 1000000) (disch := first | omega | with_reducible assumption | (simp only [List.length_map, List.length_cons, List.length_nil, List.length_set, List.length_append, List.length_replicate, List.length_take, List.length_drop, mk_size, AMem.size_set, Nat.reduceAdd]; omega)) only [amT, cut, bnd, Nat.reduceBEq, reduceCtorEq, Nat.reduceEqDiff, Nat.reduceAdd, Nat.reduceMul, Nat.reduceSub, Int.reduceToNat, Int.reduceEq, Int.reduceLT, Int.reduceLE, Int.reduceAdd, Int.reduceSub, Int.reduceMul, reduceIte, resVs, resV, packV, initT, addr, List.take_zero, List.flatten_nil, mx_mx, List.append_nil]; first | done | rfl | (congr 1; omega)), by first | rfl | (simp (implicitDefEqProofs := false) (maxSteps := 1000000) (disch := first | omega | with_reducible assumption | (simp only [List.length_map, List.length_cons, List.length_nil, List.length_set, List.length_append, List.length_replicate, List.length_take, List.length_drop, mk_size, AMem.size_set, Nat.reduceAdd]; omega)) only [amT, cut, bnd, Nat.reduceBEq, reduceCtorEq, Nat.reduceEqDiff, Nat.reduceAdd, Nat.reduceMul, Nat.reduceSub, Int.reduceToNat, Int.reduceEq, Int.reduceLT, Int.reduceLE, Int.reduceAdd, Int.reduceSub, Int.reduceMul, reduceIte, resVs, resV, packV, initT, addr, List.take_zero, List.flatten_nil, mx_mx, List.append_nil]; first | done | rfl | (congr 1; omega)), by first | rfl | (simp (implicitDefEqProofs := false) (maxSteps := 1000000) (disch := first | omega | with_reducible assumption | (simp only [List.length_map, List.length_cons, List.length_nil, List.length_set, List.length_append, List.length_replicate, List.length_take, List.length_drop, mk_size, AMem.size_set, Nat.reduceAdd]; omega)) only [amT, cut, bnd, Nat.reduceBEq, reduceCtorEq, Nat.reduceEqDiff, Nat.reduceAdd, Nat.reduceMul, Nat.reduceSub, Int.reduceToNat, Int.reduceEq, Int.reduceLT, Int.reduceLE, Int.reduceAdd, Int.reduceSub, Int.reduceMul, reduceIte, resVs, resV, packV, initT, addr, List.take_zero, List.flatten_nil, mx_mx, List.append_nil]; first | done | rfl | (congr 1; omega)), ?_⟩ ?_
    · exact ⟨by omega, Old.here _ _, by rw [mx_size]; simp, mx_new0 _ _, .inl ⟨rfl, rfl⟩⟩
    · rintro N t m1 ds ⟨i, M, av, cv, rfl, hds, hm, t0, t3, t4, t5, hp⟩
      simp only at hds hm t0 t3 t4 t5
      subst hds; replace hm := hm.symm; subst hm
      obtain ⟨hil, hO, hsz, hH, hB⟩ := hp
      have hfl := flat_take_le ls i
      generalize hall : (ls.take i).flatten = all at *
      by_cases h1 : (i : Int) < (ls.length : Int)
      · have hi : i < ls.length := by omega
        obtain ⟨b, o, a', cap', rfl, hb, hr, hBm⟩ := hls.get hi
        rw [rd_def, ← hO.2 b hb] at hr
        have hBl := hBm.old hO
        have hfl2 := flat_take_le ls (i + 1)
        have hns := flat_take_succ hi
        rw [hall] at hns
        rw [hns, List.length_append] at hfl2
        generalize hl : ls[i] = l at *
        have s1 := (hBl.old (Old.here M [])).str
        have hok : (hs0.put all).ok := HS.put_ok hs0_ok _
        have hok' : (hs0.put (all ++ l)).ok := HS.put_ok hs0_ok _
        have hn1 : (hs0.put all).n = all.length := by rw [HS.put_n]; simp [hs0]
        have hn2 : (hs0.put (all ++ l)).n = (all ++ l).length := by rw [HS.put_n]; simp [hs0]
        have hown := BSl.room (M := mx M [.cells (l.map byteV) 5 true (.room [.int .u8 0])]) (b := M.size) (c := l) (by rw [mx_size]; simp) (mx_new0 _ _)
        have p1 := put_ok (mx M [.cells (l.map byteV) 5 true (.room [.int .u8 0])]) m.size (hs0.put all) ((hg.old hO).old (Old.here _ _)) hok (by rw [mx_size]; omega) gs ((mx_old hsz).trans hH) (some ⟨M.size, 0, none⟩) openCap l hown (fun x o h => by cases h; omega) (by omega)
        rw [← HS.put_append] at p1
        have p1e : mx (hAt (mx M [.cells (l.map byteV) 5 true (.room [.int .u8 0])]) m.size (hs0.put (all ++ l))) [] = mx (hAt M m.size (hs0.put (all ++ l))) [.cells (l.map byteV) 5 true (.room [.int .u8 0])] := by
          rw [hAt, mx_set_old hsz, mx_mx]; rfl
        rw [p1e] at p1
        obtain ⟨KM, hN⟩ : ∃ KM, KM = hAt M m.size (hs0.put (all ++ l)) := ⟨_, rfl⟩
        have hNs : M.size = KM.size := by rw [hN, AMem.size_set]
        rw [← hN] at p1
        have p1k := DetC.known p1
        simp (implicitDefEqProofs := false) (maxSteps := 1000000) (disch := first | omega | with_reducible assumption | (simp only [List.length_map, List.length_cons, List.length_nil, List.length_set, List.length_append, List.length_replicate, List.length_take, List.length_drop, mk_size, AMem.size_set, Nat.reduceAdd]; omega)) only [amT, cut, bnd, Nat.reduceBEq, reduceCtorEq, Nat.reduceEqDiff, Nat.reduceAdd, Nat.reduceMul, Nat.reduceSub, Int.reduceToNat, Int.reduceEq, Int.reduceLT, Int.reduceLE, Int.reduceAdd, Int.reduceSub, Int.reduceMul, reduceIte, resVs, resV, packV, initT, addr, F4_l0, t0, t3, t4, t5, h1, hr, stepOp_b2s_v, s1, p1k]
        repeat refine OrW.go ?_
        refine W_loop (fun N qs => ∃ (k : Nat) (Y : List UInt8), N = l.length - k ∧ qs.ds = [] ∧ qs.m = mx KM [.cells (Y.map byteV) 5 true (.room [.int .u8 0])] ∧ qs.t 0 = .slice (some ⟨b, o, none⟩) ls.length cap ∧ qs.t 3 = .pointer (some ⟨m.size, 0, none⟩) ∧ qs.t 4 = .slice av all.length cv ∧ qs.t 5 = .int .i64 i ∧ qs.t 6 = .slice (some ⟨KM.size, 0, none⟩) l.length openCap ∧ qs.t 7 = .int .i64 k ∧ k ≤ l.length ∧ Y.length = l.length) (l.length - (0)) ⟨0, l, rfl, rfl, by first | rfl | (simp (implicitDefEqProofs := false) (maxSteps := 1000000) (disch := first | omega | with_reducible assumption | (simp only [List.length_map, List.length_cons, List.length_nil, List.length_set, List.length_append, List.length_replicate, List.length_take, List.length_drop, mk_size, AMem.size_set, Nat.reduceAdd]; omega)) only [amT, cut, bnd, Nat.reduceBEq, reduceCtorEq, Nat.reduceEqDiff, Nat.reduceAdd, Nat.reduceMul, Nat.reduceSub, Int.reduceToNat, Int.reduceEq, Int.reduceLT, Int.reduceLE, Int.reduceAdd, Int.reduceSub, Int.reduceMul, reduceIte, resVs, resV, packV, initT, addr, t0, t3, t4, t5, hNs]; first | done | rfl | (congr 1; omega)), by first | rfl | (simp (implicitDefEqProofs := false) (maxSteps := 1000000) (disch := first | omega | with_reducible assumption | (simp only [List.length_map, List.length_cons, List.length_nil, List.length_set, List.length_append, List.length_replicate, List.length_take, List.length_drop, mk_size, AMem.size_set, Nat.reduceAdd]; omega)) only [amT, cut, bnd, Nat.reduceBEq, reduceCtorEq, Nat.reduceEqDiff, Nat.reduceAdd, Nat.reduceMul, Nat.reduceSub, Int.reduceToNat, Int.reduceEq, Int.reduceLT, Int.reduceLE, Int.reduceAdd, Int.reduceSub, Int.reduceMul, reduceIte, resVs, resV, packV, initT, addr, t0, t3, t4, t5, hNs]; first | done | rfl | (congr 1; omega)), by first | rfl | (simp (implicitDefEqProofs := false) (maxSteps := 1000000) (disch := first | omega | with_reducible assumption | (simp only [List.length_map, List.length_cons, List.length_nil, List.length_set, List.length_append, List.length_replicate, List.length_take, List.length_drop, mk_size, AMem.size_set, Nat.reduceAdd]; omega)) only [amT, cut, bnd, Nat.reduceBEq, reduceCtorEq, Nat.reduceEqDiff, Nat.reduceAdd, Nat.reduceMul, Nat.reduceSub, Int.reduceToNat, Int.reduceEq, Int.reduceLT, Int.reduceLE, Int.reduceAdd, Int.reduceSub, Int.reduceMul, reduceIte, resVs, resV, packV, initT, addr, t0, t3, t4, t5, hNs]; first | done | rfl | (congr 1; omega)), by first | rfl | (simp (implicitDefEqProofs := false) (maxSteps := 1000000) (disch := first | omega | with_reducible assumption | (simp only [List.length_map, List.length_cons, List.length_nil, List.length_set, List.length_append, List.length_replicate, List.length_take, List.length_drop, mk_size, AMem.size_set, Nat.reduceAdd]; omega)) only [amT, cut, bnd, Nat.reduceBEq, reduceCtorEq, Nat.reduceEqDiff, Nat.reduceAdd, Nat.reduceMul, Nat.reduceSub, Int.reduceToNat, Int.reduceEq, Int.reduceLT, Int.reduceLE, Int.reduceAdd, Int.reduceSub, Int.reduceMul, reduceIte, resVs, resV, packV, initT, addr, t0, t3, t4, t5, hNs]; first | done | rfl | (congr 1; omega)), by first | rfl | (simp (implicitDefEqProofs := false) (maxSteps := 1000000) (disch := first | omega | with_reducible assumption | (simp only [List.length_map, List.length_cons, List.length_nil, List.length_set, List.length_append, List.length_replicate, List.length_take, List.length_drop, mk_size, AMem.size_set, Nat.reduceAdd]; omega)) only [amT, cut, bnd, Nat.reduceBEq, reduceCtorEq, Nat.reduceEqDiff, Nat.reduceAdd, Nat.reduceMul, Nat.reduceSub, Int.reduceToNat, Int.reduceEq, Int.reduceLT, Int.reduceLE, Int.reduceAdd, Int.reduceSub, Int.reduceMul, reduceIte, resVs, resV, packV, initT, addr, t0, t3, t4, t5, hNs]; first | done | rfl | (congr 1; omega)), by first | rfl | (simp (implicitDefEqProofs := false) (maxSteps := 1000000) (disch := first | omega | with_reducible assumption | (simp only [List.length_map, List.length_cons, List.length_nil, List.length_set, List.length_append, List.length_replicate, List.length_take, List.length_drop, mk_size, AMem.size_set, Nat.reduceAdd]; omega)) only [amT, cut, bnd, Nat.reduceBEq, reduceCtorEq, Nat.reduceEqDiff, Nat.reduceAdd, Nat.reduceMul, Nat.reduceSub, Int.reduceToNat, Int.reduceEq, Int.reduceLT, Int.reduceLE, Int.reduceAdd, Int.reduceSub, Int.reduceMul, reduceIte, resVs, resV, packV, initT, addr, t0, t3, t4, t5, hNs]; first | done | rfl | (congr 1; omega)), by first | rfl | (simp (implicitDefEqProofs := false) (maxSteps := 1000000) (disch := first | omega | with_reducible assumption | (simp only [List.length_map, List.length_cons, List.length_nil, List.length_set, List.length_append, List.length_replicate, List.length_take, List.length_drop, mk_size, AMem.size_set, Nat.reduceAdd]; omega)) only [amT, cut, bnd, Nat.reduceBEq, reduceCtorEq, Nat.reduceEqDiff, Nat.reduceAdd, Nat.reduceMul, Nat.reduceSub, Int.reduceToNat, Int.reduceEq, Int.reduceLT, Int.reduceLE, Int.reduceAdd, Int.reduceSub, Int.reduceMul, reduceIte, resVs, resV, packV, initT, addr, t0, t3, t4, t5, hNs]; first | done | rfl | (congr 1; omega)), ?_⟩ ?_
        · exact ⟨by omega, rfl⟩
        · rintro N t m1 ds ⟨k, Y, rfl, hds, hm, t0, t3, t4, t5, t6, t7, hp⟩
          simp only at hds hm t0 t3 t4 t5 t6 t7
          subst hds; replace hm := hm.symm; subst hm
          obtain ⟨hk, hY⟩ := hp
          by_cases hkl : (k : Int) < (l.length : Int)
          · have hk' : k < Y.length := by omega
            have hget : (Y.map byteV)[k]? = some (.int .u8 (Y[k].toNat : Int)) := by simp [hk', byteV]
            have hinc : IntKind.u8.wrap ((Y[k].toNat : Int) + 1) = ((Y[k] + 1).toNat : Int) := by
              simp [IntKind.wrap, IntKind.bits, IntKind.signed, UInt8.toNat_add]
            have hset : (Y.map byteV).set k (.int .u8 ((Y[k] + 1).toNat : Int)) = (Y.set k (Y[k] + 1)).map byteV := List.map_set.symm
            simp (implicitDefEqProofs := false) (maxSteps := 1000000) (disch := first | omega | with_reducible assumption | (simp only [List.length_map, List.length_cons, List.length_nil, List.length_set, List.length_append, List.length_replicate, List.length_take, List.length_drop, mk_size, AMem.size_set, Nat.reduceAdd]; omega)) only [amT, cut, bnd, Nat.reduceBEq, reduceCtorEq, Nat.reduceEqDiff, Nat.reduceAdd, Nat.reduceMul, Nat.reduceSub, Int.reduceToNat, Int.reduceEq, Int.reduceLT, Int.reduceLE, Int.reduceAdd, Int.reduceSub, Int.reduceMul, reduceIte, resVs, resV, packV, initT, addr, F4_l1, t0, t3, t4, t5, t6, t7, hkl, hget, hinc, hset]
            rw [LoopK_normal]; refine ⟨_, ?_, k + 1, Y.set k (Y[k] + 1), rfl, rfl, by first | rfl | (simp (implicitDefEqProofs := false) (maxSteps := 1000000) (disch := first | omega | with_reducible assumption | (simp only [List.length_map, List.length_cons, List.length_nil, List.length_set, List.length_append, List.length_replicate, List.length_take, List.length_drop, mk_size, AMem.size_set, Nat.reduceAdd]; omega)) only [amT, cut, bnd, Nat.reduceBEq, reduceCtorEq, Nat.reduceEqDiff, Nat.reduceAdd, Nat.reduceMul, Nat.reduceSub, Int.reduceToNat, Int.reduceEq, Int.reduceLT, Int.reduceLE, Int.reduceAdd, Int.reduceSub, Int.reduceMul, reduceIte, resVs, resV, packV, initT, addr, t0, t3, t4, t5, t6, t7]; first | done | rfl | (congr 1; omega)), by first | rfl | (simp (implicitDefEqProofs := false) (maxSteps := 1000000) (disch := first | omega | with_reducible assumption | (simp only [List.length_map, List.length_cons, List.length_nil, List.length_set, List.length_append, List.length_replicate, List.length_take, List.length_drop, mk_size, AMem.size_set, Nat.reduceAdd]; omega)) only [amT, cut, bnd, Nat.reduceBEq, reduceCtorEq, Nat.reduceEqDiff, Nat.reduceAdd, Nat.reduceMul, Nat.reduceSub, Int.reduceToNat, Int.reduceEq, Int.reduceLT, Int.reduceLE, Int.reduceAdd, Int.reduceSub, Int.reduceMul, reduceIte, resVs, resV, packV, initT, addr, t0, t3, t4, t5, t6, t7]; first | done | rfl | (congr 1; omega)), by first | rfl | (simp (implicitDefEqProofs := false) (maxSteps := 1000000) (disch := first | omega | with_reducible assumption | (simp only [List.length_map, List.length_cons, List.length_nil, List.length_set, List.length_append, List.length_replicate, List.length_take, List.length_drop, mk_size, AMem.size_set, Nat.reduceAdd]; omega)) only [amT, cut, bnd, Nat.reduceBEq, reduceCtorEq, Nat.reduceEqDiff, Nat.reduceAdd, Nat.reduceMul, Nat.reduceSub, Int.reduceToNat, Int.reduceEq, Int.reduceLT, Int.reduceLE, Int.reduceAdd, Int.reduceSub, Int.reduceMul, reduceIte, resVs, resV, packV, initT, addr, t0, t3, t4, t5, t6, t7]; first | done | rfl | (congr 1; omega)), by first | rfl | (simp (implicitDefEqProofs := false) (maxSteps := 1000000) (disch := first | omega | with_reducible assumption | (simp only [List.length_map, List.length_cons, List.length_nil, List.length_set, List.length_append, List.length_replicate, List.length_take, List.length_drop, mk_size, AMem.size_set, Nat.reduceAdd]; omega)) only [amT, cut, bnd, Nat.reduceBEq, reduceCtorEq, Nat.reduceEqDiff, Nat.reduceAdd, Nat.reduceMul, Nat.reduceSub, Int.reduceToNat, Int.reduceEq, Int.reduceLT, Int.reduceLE, Int.reduceAdd, Int.reduceSub, Int.reduceMul, reduceIte, resVs, resV, packV, initT, addr, t0, t3, t4, t5, t6, t7]; first | done | rfl | (congr 1; omega)), by first | rfl | (simp (implicitDefEqProofs := false) (maxSteps := 1000000) (disch := first | omega | with_reducible assumption | (simp only [List.length_map, List.length_cons, List.length_nil, List.length_set, List.length_append, List.length_replicate, List.length_take, List.length_drop, mk_size, AMem.size_set, Nat.reduceAdd]; omega)) only [amT, cut, bnd, Nat.reduceBEq, reduceCtorEq, Nat.reduceEqDiff, Nat.reduceAdd, Nat.reduceMul, Nat.reduceSub, Int.reduceToNat, Int.reduceEq, Int.reduceLT, Int.reduceLE, Int.reduceAdd, Int.reduceSub, Int.reduceMul, reduceIte, resVs, resV, packV, initT, addr, t0, t3, t4, t5, t6, t7]; first | done | rfl | (congr 1; omega)), by first | rfl | (simp (implicitDefEqProofs := false) (maxSteps := 1000000) (disch := first | omega | with_reducible assumption | (simp only [List.length_map, List.length_cons, List.length_nil, List.length_set, List.length_append, List.length_replicate, List.length_take, List.length_drop, mk_size, AMem.size_set, Nat.reduceAdd]; omega)) only [amT, cut, bnd, Nat.reduceBEq, reduceCtorEq, Nat.reduceEqDiff, Nat.reduceAdd, Nat.reduceMul, Nat.reduceSub, Int.reduceToNat, Int.reduceEq, Int.reduceLT, Int.reduceLE, Int.reduceAdd, Int.reduceSub, Int.reduceMul, reduceIte, resVs, resV, packV, initT, addr, t0, t3, t4, t5, t6, t7]; first | done | rfl | (congr 1; omega)), by first | rfl | (simp (implicitDefEqProofs := false) (maxSteps := 1000000) (disch := first | omega | with_reducible assumption | (simp only [List.length_map, List.length_cons, List.length_nil, List.length_set, List.length_append, List.length_replicate, List.length_take, List.length_drop, mk_size, AMem.size_set, Nat.reduceAdd]; omega)) only [amT, cut, bnd, Nat.reduceBEq, reduceCtorEq, Nat.reduceEqDiff, Nat.reduceAdd, Nat.reduceMul, Nat.reduceSub, Int.reduceToNat, Int.reduceEq, Int.reduceLT, Int.reduceLE, Int.reduceAdd, Int.reduceSub, Int.reduceMul, reduceIte, resVs, resV, packV, initT, addr, t0, t3, t4, t5, t6, t7]; first | done | rfl | (congr 1; omega)), ?_⟩
            · omega
            · exact ⟨by omega, by rw [List.length_set]; exact hY⟩
          · obtain ⟨M2, hM2⟩ : ∃ M2, M2 = mx KM [.cells (Y.map byteV) 5 true (.room [.int .u8 0])] := ⟨_, rfl⟩
            have e2 : mx M2 [] = mx KM [.cells (Y.map byteV) 5 true (.room [.int .u8 0])] := by rw [hM2, mx_mx]; rfl
            have z2 : M2.size = M.size + 1 := by rw [hM2, mx_size, ← hNs]; rfl
            have g2 : ∀ x, x < M.size → x ≠ m.size → M2.get x = M.get x := fun x h1 h2 => by rw [hM2, mx_old (by omega), hN, AMem.get_set_ne _ _ h2]
            have gH : M2.get m.size = .cells (cH (hs0.put (all ++ l))) 35 true .exact := by rw [hM2, mx_old (by omega), hN, AMem.get_set_self]
            have hO2 : Old m M2 := ⟨by omega, fun x hx => (g2 x (by omega) (by omega)).trans (hO.2 x hx)⟩
            have zd : (mx m [.dead]).size = m.size + 1 := by rw [mx_size]; rfl
            have hB2 := hB.keep (M' := M2) (by omega) (fun x h1 h2 => g2 x h2 (by omega))
            obtain ⟨v', M', happ, hB', hF⟩ := hB2.appS (by omega) (hBm.old hO2) (by omega)
            rw [e2] at happ
            have hO' := hO2.fr hF (fun x o l c hx => hB2.new x o l c (by omega))
            have hsz' : m.size < M'.size := by have := hF.1; omega
            have hH' := (hF.2 m.size (by omega) (fun o l c => hB2.new m.size o l c (by omega))).trans gH
            obtain ⟨av', cv', rfl⟩ := hB'.len
            rw [List.length_map] at happ hB'
            have k1 := DetC.known (len_ok (mx M' []) m.size (hs0.put (all ++ l)) hok' (by rw [mx_size]; omega) ((mx_old hsz').trans hH'))
            have k2 : Known Tryd.prog 3 14 [.pointer (some ⟨m.size, 0, none⟩)] (mx M' []) (.agg ((shaR (all ++ l)).map byteV).toArray) (mx M' []) := DetC.known (sumM_ok (mx M' []) m.size (hs0.put (all ++ l)) ((hg.old hO').old (Old.here _ _)) hok' (by rw [mx_size]; omega) ((mx_old hsz').trans hH') (by rw [hn2, List.length_append]; omega))
            have k3 := DetC.known (refSum_ok (mx M' []) av' cv' (all ++ l) (hB'.bsl.2.old (Old.here _ _)) (by rw [List.length_append]; omega))
            have he := eqV_bytes (a := shaR (all ++ l)) (b := shaR (all ++ l)) (n := 32) (shaR_length _) (shaR_length _)
            rw [decide_eq_true rfl] at he
            rw [hn2] at k1
            have hbN : KM.get b = M.get b := by rw [hN, AMem.get_set_ne _ _ (by omega)]
            rw [← hbN] at hr
            rw [List.length_append] at k3
            simp (implicitDefEqProofs := false) (maxSteps := 1000000) (disch := first | omega | with_reducible assumption | (simp only [List.length_map, List.length_cons, List.length_nil, List.length_set, List.length_append, List.length_replicate, List.length_take, List.length_drop, mk_size, AMem.size_set, Nat.reduceAdd]; omega)) only [amT, cut, bnd, Nat.reduceBEq, reduceCtorEq, Nat.reduceEqDiff, Nat.reduceAdd, Nat.reduceMul, Nat.reduceSub, Int.reduceToNat, Int.reduceEq, Int.reduceLT, Int.reduceLE, Int.reduceAdd, Int.reduceSub, Int.reduceMul, reduceIte, resVs, resV, packV, initT, addr, F4_l1, t0, t3, t4, t5, t6, t7, hkl, hr, stepOp_app_v, happ, k1, k2, k3, he]
            repeat refine OrW.go ?_
            rw [LoopK_normal]; refine ⟨_, ?_, i + 1, M', av', cv', rfl, rfl, by first | rfl | (simp (implicitDefEqProofs := false) (maxSteps := 1000000) (disch := first | omega | with_reducible assumption | (simp only [List.length_map, List.length_cons, List.length_nil, List.length_set, List.length_append, List.length_replicate, List.length_take, List.length_drop, mk_size, AMem.size_set, Nat.reduceAdd]; omega)) only [amT, cut, bnd, Nat.reduceBEq, reduceCtorEq, Nat.reduceEqDiff, Nat.reduceAdd, Nat.reduceMul, Nat.reduceSub, Int.reduceToNat, Int.reduceEq, Int.reduceLT, Int.reduceLE, Int.reduceAdd, Int.reduceSub, Int.reduceMul, reduceIte, resVs, resV, packV, initT, addr, t0, t3, t4, t5, t6, t7, hns, List.length_append]; first | done | rfl | (congr 1; omega)), by first | rfl | (simp (implicitDefEqProofs := false) (maxSteps := 1000000) (disch := first | omega | with_reducible assumption | (simp only [List.length_map, List.length_cons, List.length_nil, List.length_set, List.length_append, List.length_replicate, List.length_take, List.length_drop, mk_size, AMem.size_set, Nat.reduceAdd]; omega)) only [amT, cut, bnd, Nat.reduceBEq, reduceCtorEq, Nat.reduceEqDiff, Nat.reduceAdd, Nat.reduceMul, Nat.reduceSub, Int.reduceToNat, Int.reduceEq, Int.reduceLT, Int.reduceLE, Int.reduceAdd, Int.reduceSub, Int.reduceMul, reduceIte, resVs, resV, packV, initT, addr, t0, t3, t4, t5, t6, t7, hns, List.length_append]; first | done | rfl | (congr 1; omega)), by first | rfl | (simp (implicitDefEqProofs := false) (maxSteps := 1000000) (disch := first | omega | with_reducible assumption | (simp only [List.length_map, List.length_cons, List.length_nil, List.length_set, List.length_append, List.length_replicate, List.length_take, List.length_drop, mk_size, AMem.size_set, Nat.reduceAdd]; omega)) only [amT, cut, bnd, Nat.reduceBEq, reduceCtorEq, Nat.reduceEqDiff, Nat.reduceAdd, Nat.reduceMul, Nat.reduceSub, Int.reduceToNat, Int.reduceEq, Int.reduceLT, Int.reduceLE, Int.reduceAdd, Int.reduceSub, Int.reduceMul, reduceIte, resVs, resV, packV, initT, addr, t0, t3, t4, t5, t6, t7, hns, List.length_append]; first | done | rfl | (congr 1; omega)), by first | rfl | (simp (implicitDefEqProofs := false) (maxSteps := 1000000) (disch := first | omega | with_reducible assumption | (simp only [List.length_map, List.length_cons, List.length_nil, List.length_set, List.length_append, List.length_replicate, List.length_take, List.length_drop, mk_size, AMem.size_set, Nat.reduceAdd]; omega)) only [amT, cut, bnd, Nat.reduceBEq, reduceCtorEq, Nat.reduceEqDiff, Nat.reduceAdd, Nat.reduceMul, Nat.reduceSub, Int.reduceToNat, Int.reduceEq, Int.reduceLT, Int.reduceLE, Int.reduceAdd, Int.reduceSub, Int.reduceMul, reduceIte, resVs, resV, packV, initT, addr, t0, t3, t4, t5, t6, t7, hns, List.length_append]; first | done | rfl | (congr 1; omega)), by first | rfl | (simp (implicitDefEqProofs := false) (maxSteps := 1000000) (disch := first | omega | with_reducible assumption | (simp only [List.length_map, List.length_cons, List.length_nil, List.length_set, List.length_append, List.length_replicate, List.length_take, List.length_drop, mk_size, AMem.size_set, Nat.reduceAdd]; omega)) only [amT, cut, bnd, Nat.reduceBEq, reduceCtorEq, Nat.reduceEqDiff, Nat.reduceAdd, Nat.reduceMul, Nat.reduceSub, Int.reduceToNat, Int.reduceEq, Int.reduceLT, Int.reduceLE, Int.reduceAdd, Int.reduceSub, Int.reduceMul, reduceIte, resVs, resV, packV, initT, addr, t0, t3, t4, t5, t6, t7, hns, List.length_append]; first | done | rfl | (congr 1; omega)), ?_⟩
            · omega
            · rw [hns, List.length_append]
              refine ⟨by omega, hO', hsz', hH', ?_⟩
              rw [List.length_append] at hB'
              exact hB'
      · have hi : i = ls.length := by omega
        subst hi
        rw [List.take_length] at hall
        subst hall
        have hok : (hs0.put ls.flatten).ok := HS.put_ok hs0_ok _
        have hn2 : (hs0.put ls.flatten).n = ls.flatten.length := by rw [HS.put_n]; simp [hs0]
        have hgM := hg.old hO
        have k2 : Known Tryd.prog 3 14 [.pointer (some ⟨m.size, 0, none⟩)] (mx M []) (.agg ((shaR ls.flatten).map byteV).toArray) (mx M []) := DetC.known (sumM_ok (mx M []) m.size (hs0.put ls.flatten) (hgM.old (Old.here _ _)) hok (by rw [mx_size]; omega) ((mx_old hsz).trans hH) (by rw [hn2]; omega))
        have he := eqV_bytes (a := shaR ls.flatten) (b := shaR ls.flatten) (n := 32) (shaR_length _) (shaR_length _)
        rw [decide_eq_true rfl] at he
        have hwM := kWorksX hgM
        have hlsM := (hls.old hO).old (Old.here M [])
        by_cases hne : ls.flatten = []
        · have k4 := DetC.known (joined_nil (mx M []) a cap ls hlsM (by omega) hne)
          have k5 : Known Tryd.prog 3 9 [.slice none 0 0] (mx M []) (.agg ((shaR []).map byteV).toArray) (mx M []) := DetC.known (sum_ok (mx M []) none 0 [] (hgM.old (Old.here _ _)) (.inl ⟨rfl, rfl, rfl⟩) (by simp))
          rw [hne] at k2 he
          simp (implicitDefEqProofs := false) (maxSteps := 1000000) (disch := first | omega | with_reducible assumption | (simp only [List.length_map, List.length_cons, List.length_nil, List.length_set, List.length_append, List.length_replicate, List.length_take, List.length_drop, mk_size, AMem.size_set, Nat.reduceAdd]; omega)) only [amT, cut, bnd, Nat.reduceBEq, reduceCtorEq, Nat.reduceEqDiff, Nat.reduceAdd, Nat.reduceMul, Nat.reduceSub, Int.reduceToNat, Int.reduceEq, Int.reduceLT, Int.reduceLE, Int.reduceAdd, Int.reduceSub, Int.reduceMul, reduceIte, resVs, resV, packV, initT, addr, F4_l0, t0, t3, t4, t5, h1, k2, k4, k5, he, hwM]
          repeat refine OrW.go ?_
          exact hO.mx _
        · have k4 := joined_row (mx M []) a cap ls hlsM (by omega) (by omega) hne
          rw [mx_mx, List.nil_append, show (mx M []).size = M.size by rw [mx_size]; rfl] at k4
          have k4 := DetC.known k4
          have k5 := DetC.known (sum_ok (mx M [.cells (ls.flatten.map byteV) 5 true (.room [.int .u8 0])]) _ _ ls.flatten (hgM.old (Old.here _ _)) (BSl.room (b := M.size) (c := ls.flatten) (by rw [mx_size]; simp) (mx_new0 _ _)) (by omega))
          simp (implicitDefEqProofs := false) (maxSteps := 1000000) (disch := first | omega | with_reducible assumption | (simp only [List.length_map, List.length_cons, List.length_nil, List.length_set, List.length_append, List.length_replicate, List.length_take, List.length_drop, mk_size, AMem.size_set, Nat.reduceAdd]; omega)) only [amT, cut, bnd, Nat.reduceBEq, reduceCtorEq, Nat.reduceEqDiff, Nat.reduceAdd, Nat.reduceMul, Nat.reduceSub, Int.reduceToNat, Int.reduceEq, Int.reduceLT, Int.reduceLE, Int.reduceAdd, Int.reduceSub, Int.reduceMul, reduceIte, resVs, resV, packV, initT, addr, F4_l0, t0, t3, t4, t5, h1, k2, k4, k5, he, hwM]
          repeat refine OrW.go ?_
          exact hO.mx _
end Go.Proofs.YtidngakhkpodgaaDoor
