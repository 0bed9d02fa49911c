import Derived.Test.YtidngakhkpodgaaAmCall
import Derived.Test.YtidngakhkpodgaaNamF
set_option linter.unusedVariables false
set_option linter.unusedSimpArgs false
set_option linter.unnecessarySimpa false
namespace Go.Proofs.Ytidngakhkpodgaa
open Go Go.AM
set_option linter.unusedVariables false
set_option linter.unusedSimpArgs false

theorem bit_ok (m : AMem) (b o c : Nat) (l : List UInt8) (k : Nat) (hb : BytesAt m b o l) (hk : k / 8 < l.length) (hl : l.length ≤ 1000000) :
    ACall Try.prog 1 32 [.slice (some ⟨b, o, none⟩) l.length c, .int .i64 k] m fun r m' => r = .ret (.int .i64 ((l[k / 8].toNat >>> (7 - k % 8) &&& 1 : Nat))) ∧ m' = m := by
  refine ACall_of_W (fn := Try.f32) rfl rfl F32_ok (by simp [F32]) ?_
  have hg := hb.get hk
  have e1 : (k : Int).tdiv 8 = ((k / 8 : Nat) : Int) := tdiv_nat k 8
  have e2 : (k : Int).tmod 8 = ((k % 8 : Nat) : Int) := tmod_nat k 8
  have e3 : (7 : Int) - ((k % 8 : Nat) : Int) = ((7 - k % 8 : Nat) : Int) := by omega
  have hx := l[k / 8].toNat_lt
  have e4 : shr .u8 (l[k / 8].toNat : Int) ((7 - k % 8 : Nat) : Int) = ((l[k / 8].toNat >>> (7 - k % 8) : Nat) : Int) := shr_nat .u8 _ _ (by simp [IntKind.bits]; omega)
  have h5 : l[k / 8].toNat >>> (7 - k % 8) ≤ 255 := by
    have := Nat.shiftRight_le l[k / 8].toNat (7 - k % 8)
    omega
  generalize hy : l[k / 8].toNat >>> (7 - k % 8) = y at *
  have e6 : ibits .and .i64 (y : Int) 1 = ((y &&& 1 : Nat) : Int) := ibits_and_nat (k := .i64) (b := 1) (by rw [max_i64]; omega) (by decide)
  simp (implicitDefEqProofs := false) (disch := omega) only [W_skip, W_seq, W_reg, W_block, W_exit, W_ret, W_cond, W_draw, WI_nil, WI_op, WI_opg, OpI_some, OpG_some, OpG_true, OpG_false, BoolW_true, BoolW_false, GrdW_true, GrdW_false, SeqK_normal, SeqK_exit, SeqK_ret, SeqK_pan, BlockK_normal, BlockK_exit, BlockK_ret, BlockK_pan, LoopK_exit, LoopK_ret, LoopK_pan, CallK_ret, CallK_pan, RetK_ret, RetK_normal, RetK_pan, ResW_some, resVs, resV, packV, DW_nil, DW_f, DW_bop, FltW_some, FltG_some, fstO_some, valF_op, valF_opg, dst_op, dst_call, BarK_nil, OpB_some, gv_true, gv_false, sel2_true, sel2_false, sel2_and, sel2_or, updO_some, updO_none, upd_apply, sel_true, sel_false, Nat.reduceBEq, ev_t, ev_c, wanted_some, initT, List.getD_cons_zero, List.getD_cons_succ, stepOp_mov, stepOp_pick', stepOp_new, stepOp_box, stepOp_ld1, stepOp_ldn, stepOp_st, stepOp_nchk, stepOp_bin, stepOp_eql, stepOp_un, stepOp_cvt, stepOp_idc, stepOp_slA, stepOp_fad, stepOp_iadA, stepOp_iadV, stepOp_ixS, stepOp_ext, stepOp_lenS, stepOp_lenV, stepOp_lenN, stepOp_toU, stepOp_frU, binV_add, binV_sub, binV_mul, binV_and, binV_or, binV_xor, binV_andNot, binV_eql, binV_neq, binV_lss, binV_leq, binV_gtr, binV_geq, binV_quo, binV_rem, binV_shl, binV_shr, binV_seql, binV_sneq, binV_sadd, unV_neg, unV_not, eqV_bool, addr_ptr, addr, cellsOf_int, cellsOf_bool, cellsOf_string, cellsOf_ptr, cellsOf_slice, cellsOf_bytes, AMem.size_push, AMem.size_set, AMem.get_push, AMem.get_set, ifp, ifn, wrap_i64, wrap_u64, wrap_u8, wrap_i32, Option.map_some, Option.some.injEq, reduceCtorEq, if_true, if_false, eq_self, true_and, and_true, Bool.true_and, Bool.and_true, Bool.false_or, Bool.or_false, Bool.not_true, Bool.not_false, beq_self_eq_true, Bool.false_and, Bool.and_false, Bool.true_or, Bool.or_true, Nat.reduceEqDiff, Nat.reduceAdd, Nat.reduceMul, Nat.reduceSub, Nat.mul_one, Nat.add_zero, Nat.zero_add, Nat.zero_mul, Int.toNat_natCast, Int.reduceToNat, Int.reduceEq, Int.reduceLT, Int.reduceLE, Int.reduceAdd, Int.reduceSub, Int.reduceMul, ne_eq, not_false_eq_true, List.map_cons, List.map_nil, decide_true, decide_false, decide_eq_true_eq, F32, hg, e1, e2, e3, e4, e6, byteV]
end Go.Proofs.Ytidngakhkpodgaa
