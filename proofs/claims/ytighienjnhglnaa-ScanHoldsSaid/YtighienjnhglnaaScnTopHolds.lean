/- ScanHolds: for every input, the law returns true and the input reads as before. No conditions. -/
import Derived.Test.YtighienjnhglnaaB2
import Derived.Test.YtighienjnhglnaaA4
import Derived.Test.YtighienjnhglnaaRows
import Derived.WalkKit
import Derived.ProofKit
import Derived.OpenShut
import Derived.ShutString
import Derived.ChangeOld
import Derived.Below
import Derived.SizedLaws
set_option linter.unusedVariables false
set_option linter.unusedSimpArgs false
set_option linter.unnecessarySimpa false
namespace Go.Proofs.Ytighienjnhglnaa.scanHolds
open Go.ChangeShapes Go.WideShapes Go.ChangeAt Go.RowKit
open Go.ChangeMaps (open_string shut_string)
set_option linter.unusedVariables false
set_option maxRecDepth 100000
theorem own : ownKnob Try.prog.godebug = none := by kernel_rfl
theorem laidOut : laidOutB Try.prog = true := by kernel_rfl
theorem run (W : World) (v0 v1 : Value) (sl0 : AM.SlB W v0) (sl1 : AM.SlB W v1) (l2 : List UInt8) (hl2 : l2.length = 32) : Calls Try.prog 4 #[v0, v1, .agg (l2.map AM.byteV).toArray] W fun e W' => e = .returned (.bool true) ∧ Below W.heap.size W W' := by
  obtain ⟨x0, a0, c0, b0, xw0, xo0, z0, xr0⟩ := arg_b sl0 0
  obtain ⟨x1, a1, c1, b1, xw1, xo1, z1, xr1⟩ := arg_b sl1 1
  obtain ⟨bs0, vr0⟩ := xr0 [x0, x1] rfl
  obtain ⟨bs1, vr1⟩ := xr1 [x0, x1] rfl
  have hl : ∀ x ∈ ([x0, x1] : List (AM.AObj × AM.Loc)), AM.ObjRel (AM.renOf (AM.os0 [x0, x1])) x.1 x.2 W := by
    intro x hx; simp only [List.mem_cons, List.not_mem_nil, or_false] at hx
    rcases hx with rfl | rfl
    · exact xo0 _
    · exact xo1 _
  have hw : ∀ x ∈ ([x0, x1] : List (AM.AObj × AM.Loc)), x.1.wrt = false := by
    intro x hx; simp only [List.mem_cons, List.not_mem_nil, or_false] at hx
    rcases hx with rfl | rfl
    · exact xw0
    · exact xw1
  exact AM.calls_of_ACall_mem (fn := Try.f4) rfl rfl rfl (rep1 hl hw) (args := [.slice a0 b0.length c0, .slice a1 b1.length c1, .agg (l2.map AM.byteV).toArray]) (AM.LRel.cons' vr0 (AM.LRel.cons' vr1 (AM.LRel.cons' (AM.plain_bytes l2 _) (AM.LRel.nil' _)))) (AM.memOf_wrt (AM.wrt0 hw))
    (AM.ACall.mono (lawHolds (AM.memOf (AM.os0 [x0, x1])) a0 c0 b0 bs0 z0 a1 c1 b1 bs1 z1 l2 hl2) fun r m' h => h.1)
set_option maxHeartbeats 800000 in
theorem lifted (os : Os) (started : os.Started) (H : Type) (enc : TypeId × Value → H) :
    ReturnsInHanded {} Try.checked os 4 .any (Rows.scanHoldsSpec.pre6 enc Try.prog Try.f4 Rows.scanHoldsRow.domain false) (Rows.scanHoldsSpec.post enc Try.prog Try.f4 false true false false) := by
  refine returnsInHanded_of_change_sized (C := Try.checked) own started (by kernel_rfl) Try.func4
    (ChangeSpec.witness6 (enc := enc) (C := Try.checked) false ⟨#[], #[.slice none 0 0, .slice none 0 0, .agg (Array.replicate 32 (.int .u8 0))], []⟩ 8 (by kernel_rfl) (by kernel_rfl) (by kernel_rfl) (by kernel_rfl)) ?_
  intro W base args ds gs before hval0 hW hcnd hsz0 _
  have hval : ∀ (j : Nat) t v, Try.f4.params[j]? = some t → args[j]? = some v → Value.okWide Try.prog W .any base t v := hval0
  have hW' := hW
  obtain ⟨p, q, hA0, hV, rfl, hfz, hnd⟩ := hW
  have hA : DataW.TrodAll enc Try.prog W 0 (fun _ => true) true Try.f4.params.toList args.toList ds p := hA0
  rw [Try.params4] at hA hval
  obtain ⟨v0, vs0, d0, ds0, p0, q0, hargs, rfl, rfl, h0, r0⟩ := trodAll_cons hA
  obtain ⟨v1, vs1, d1, ds1, p1, q1, rfl, rfl, rfl, h1, r1⟩ := trodAll_cons r0
  obtain ⟨v2, vs2, d2, ds2, p2, q2, rfl, rfl, rfl, h2, r2⟩ := trodAll_cons r1
  obtain ⟨rfl, rfl, rfl⟩ := trodAll_nil r2
  obtain rfl : args = #[v0, v1, v2] := by cases args; simp_all
  obtain ⟨rfl, rfl⟩ := trodVars_none hV
  have k0 := h0
  have k1 := h1
  have k2 := h2
  have lt0 : ∀ x ∈ p0, x.block < W.heap.size := by obtain ⟨m, hm⟩ := k0; exact DataW.trod_lt m _ _ _ hm
  have lt1 : ∀ x ∈ p1, x.block < W.heap.size := by obtain ⟨m, hm⟩ := k1; exact DataW.trod_lt m _ _ _ hm
  have lt2 : ∀ x ∈ p2, x.block < W.heap.size := by obtain ⟨m, hm⟩ := k2; exact DataW.trod_lt m _ _ _ hm
  have hv0 := hval 0 22 v0 rfl rfl
  have hv1 := hval 1 22 v1 rfl rfl
  have hv2 := hval 2 29 v2 rfl rfl
  obtain ⟨fu0, f0⟩ := h0
  obtain ⟨w0, ew0, sl0⟩ := AM.open_bytes Try.underlying22 Try.underlying5 (by kernel_rfl) f0
  obtain rfl := @AM.slice_of Try.prog _ _ .any 22 5 _ _ Try.underlying22 hv0 ew0
  obtain ⟨fu1, f1⟩ := h1
  obtain ⟨w1, ew1, sl1⟩ := AM.open_bytes Try.underlying22 Try.underlying5 (by kernel_rfl) f1
  obtain rfl := @AM.slice_of Try.prog _ _ .any 22 5 _ _ Try.underlying22 hv1 ew1
  obtain ⟨l2, hl2, rfl⟩ := AM.open_byteArr Try.underlying29 Try.underlying5 (by kernel_rfl) (by kernel_rfl) hv2 h2
  clear hA0 hval0 hsz0
  refine (run W v0 v1 sl0 sl1 l2 hl2).mono fun e W' ⟨he, bel⟩ => ?_
  subst he
  exact ⟨_, rfl, _, _, _, [], _, [], hW', trodAll_mk1 (shut_bool Try.underlying4 _), (trodAll_cons_mk (Below.trod laidOut (by kernel_rfl) (of_decide_eq_true (by kernel_rfl)) k0 bel lt0) (trodAll_cons_mk (Below.trod laidOut (by kernel_rfl) (of_decide_eq_true (by kernel_rfl)) k1 bel lt1) (trodAll_cons_mk (Below.trod laidOut (by kernel_rfl) (of_decide_eq_true (by kernel_rfl)) k2 bel lt2) trodAll_mk0))), rfl, bel.frame _, fun h => by cases h⟩
theorem over : Rows.scanHoldsRow.holds Try.pinned (OpenSpec.ofChange Rows.scanHoldsSpec) :=
  OpenClaim.holds_of_wide 4 Try.f4 rfl rfl rfl rfl rfl rfl rfl ⟨rfl, rfl, rfl, rfl, rfl⟩ rfl rfl rfl rfl rfl (by kernel_rfl) Try.func4 (by kernel_rfl)
    (of_decide_eq_true (by kernel_rfl)) (by unfold Func.isWrapper; first | (rw [if_pos (by decide +kernel)]; kernel_rfl) | (rw [if_neg (by decide +kernel)]; exact ⟨rfl, rfl⟩))
    (fun os started H enc _ => lifted os started H enc)
theorem proved : Rows.ScanHoldsSaid := over
end Go.Proofs.Ytighienjnhglnaa.scanHolds
