import Derived.Test.YtidngakhkpodgaaNamL4
import Derived.Test.YtidngakhkpodgaaNamF
import Derived.Test.YtidngakhkpodgaaAmTop
set_option linter.unusedVariables false
set_option linter.unusedSimpArgs false
set_option linter.unnecessarySimpa false
namespace Go.Proofs.Ytidngakhkpodgaa
open Go Go.AM
set_option linter.unusedVariables false
set_option linter.unusedSimpArgs false

/-- May it stand in a plain name? -/
def plainZ (c : Int) : Bool := decide (97 ≤ c) && decide (c ≤ 122) || decide (65 ≤ c) && decide (c ≤ 90) || decide (48 ≤ c) && decide (c ≤ 57) || decide (c = 43) || decide (c = 45) || decide (c = 46) || decide (c = 95)

theorem plain_ok (m : AMem) (c : Int) : ACall Try.prog 1 29 [.int .i32 c] m fun r m' => r = .ret (.bool (plainZ c)) ∧ m' = m := by
  refine ACall_of_W (fn := Try.f29) rfl rfl F29_ok (by simp [F29]) ?_
  simp (implicitDefEqProofs := false) (contextual := true) (disch := omega) only [W_skip, W_seq, W_reg, W_block, W_exit, W_ret, W_cond, W_draw, WI_nil, WI_op, WI_opg, WI_call, DW_call, OpI_some, OpG_some, OpG_true, OpG_false, BoolW_true, BoolW_false, GrdW_true, GrdW_false, SeqK_normal, SeqK_exit, SeqK_ret, SeqK_pan, BlockK_normal, BlockK_exit, BlockK_ret, BlockK_pan, LoopK_exit, LoopK_ret, LoopK_pan, CallK_ret, CallK_pan, RetK_ret, RetK_normal, RetK_pan, ResW_some, resVs, resV, packV, DW_nil, DW_f, DW_bop, FltW_some, FltG_some, fstO_some, valF_op, valF_opg, dst_op, dst_call, BarK_nil, OpB_some, gv_true, gv_false, sel2_true, sel2_false, sel2_and, sel2_or, beq_true, beq_false, updO_some, updO_none, upd_apply, sel_true, sel_false, Nat.reduceBEq, ev_t, ev_c, wanted_some, initT, List.getD_cons_zero, List.getD_cons_succ, stepOp_mov, stepOp_pick', pickV_bool, stepOp_new, stepOp_box, stepOp_ld1, stepOp_ldn, stepOp_st, stepOp_nchk, stepOp_bin, stepOp_eql, stepOp_un, stepOp_cvt, stepOp_idc, stepOp_slA, stepOp_fad, stepOp_iadA, stepOp_iadV, stepOp_ixS, stepOp_ext, stepOp_lenS, stepOp_lenV, stepOp_lenN, stepOp_toU, stepOp_frU, binV_add, binV_sub, binV_mul, binV_and, binV_or, binV_xor, binV_andNot, binV_eql, binV_neq, binV_lss, binV_leq, binV_gtr, binV_geq, binV_quo, binV_rem, binV_shl, binV_shr, binV_seql, binV_sneq, binV_sadd, unV_neg, unV_not, eqV_bool, addr_ptr, addr, cellsOf_int, cellsOf_bool, cellsOf_string, cellsOf_ptr, cellsOf_slice, cellsOf_bytes, AMem.size_push, AMem.size_set, AMem.get_push, AMem.get_set, ifp, ifn, wrap_i64, wrap_u64, wrap_u8, wrap_i32, Option.map_some, Option.some.injEq, reduceCtorEq, if_true, if_false, eq_self, true_and, and_true, Bool.true_and, Bool.and_true, Bool.false_or, Bool.or_false, Bool.not_true, Bool.not_false, beq_self_eq_true, Bool.false_and, Bool.and_false, Bool.true_or, Bool.or_true, Nat.reduceEqDiff, Nat.reduceAdd, Nat.reduceMul, Nat.reduceSub, Nat.mul_one, Nat.add_zero, Nat.zero_add, Nat.zero_mul, Int.toNat_natCast, Int.reduceToNat, Int.reduceEq, Int.reduceLT, Int.reduceLE, Int.reduceAdd, Int.reduceSub, Int.reduceMul, ne_eq, not_false_eq_true, List.map_cons, List.map_nil, decide_true, decide_false, decide_eq_true_eq, F29]
  rfl
end Go.Proofs.Ytidngakhkpodgaa
