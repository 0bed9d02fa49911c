/- ScanAll: for every input, the law returns true and the input reads as before. No conditions. -/
import Derived.Test.YtighienjnhglnaaB2
import Derived.Test.YtighienjnhglnaaA4
import Derived.Test.YtighienjnhglnaaRows
import Derived.WalkKit
import Derived.ProofKit
import Derived.OpenShut
import Derived.ShutString
import Derived.ChangeOld
import Derived.Below
import Derived.SizedLaws
set_option linter.unusedVariables false
set_option linter.unusedSimpArgs false
set_option linter.unnecessarySimpa false
namespace Go.Proofs.Ytighienjnhglnaa.scanAll
open Go.ChangeShapes Go.WideShapes Go.ChangeAt Go.RowKit
open Go.ChangeMaps (open_string shut_string)
set_option linter.unusedVariables false
set_option maxRecDepth 100000
theorem own : ownKnob Try.prog.godebug = none := by kernel_rfl
theorem laidOut : laidOutB Try.prog = true := by kernel_rfl
theorem run (W : World) (v0 : Value) (sl0 : AM.SlB W v0) : Calls Try.prog 3 #[v0] W fun e W' => e = .returned (.bool true) ∧ Below W.heap.size W W' := by
  obtain ⟨x0, a0, c0, b0, xw0, xo0, z0, xr0⟩ := arg_b sl0 0
  obtain ⟨bs0, vr0⟩ := xr0 [x0] rfl
  have hl : ∀ x ∈ ([x0] : List (AM.AObj × AM.Loc)), AM.ObjRel (AM.renOf (AM.os0 [x0])) x.1 x.2 W := by intro x hx; simp only [List.mem_singleton] at hx; subst hx; exact xo0 _
  have hw : ∀ x ∈ ([x0] : List (AM.AObj × AM.Loc)), x.1.wrt = false := by intro x hx; simp only [List.mem_singleton] at hx; subst hx; exact xw0
  exact AM.calls_of_ACall_mem (fn := Try.f3) rfl rfl rfl (rep1 hl hw) (args := [.slice a0 b0.length c0]) (AM.LRel.cons' vr0 (AM.LRel.nil' _)) (AM.memOf_wrt (AM.wrt0 hw)) (AM.ACall.mono (lawAll (AM.memOf (AM.os0 [x0])) a0 c0 b0 bs0 z0) fun r m' h => h.1)
set_option maxHeartbeats 800000 in
theorem lifted (os : Os) (started : os.Started) (H : Type) (enc : TypeId × Value → H) :
    ReturnsInHanded {} Try.checked os 3 .any (Rows.scanAllSpec.pre6 enc Try.prog Try.f3 Rows.scanAllRow.domain false) (Rows.scanAllSpec.post enc Try.prog Try.f3 false true false false) := by
  refine returnsInHanded_of_change_sized (C := Try.checked) own started (by kernel_rfl) Try.func3
    (ChangeSpec.witness6 (enc := enc) (C := Try.checked) false ⟨#[], #[.slice none 0 0], []⟩ 8 (by kernel_rfl) (by kernel_rfl) (by kernel_rfl) (by kernel_rfl)) ?_
  intro W base args ds gs before hval0 hW hcnd hsz0 _
  have hval : ∀ (j : Nat) t v, Try.f3.params[j]? = some t → args[j]? = some v → Value.okWide Try.prog W .any base t v := hval0
  have hW' := hW
  obtain ⟨p, q, hA0, hV, rfl, hfz, hnd⟩ := hW
  have hA : DataW.TrodAll enc Try.prog W 0 (fun _ => true) true Try.f3.params.toList args.toList ds p := hA0
  rw [Try.params3] at hA hval
  obtain ⟨v0, vs0, d0, ds0, p0, q0, hargs, rfl, rfl, h0, r0⟩ := trodAll_cons hA
  obtain ⟨rfl, rfl, rfl⟩ := trodAll_nil r0
  obtain rfl : args = #[v0] := by cases args; simp_all
  obtain ⟨rfl, rfl⟩ := trodVars_none hV
  have k0 := h0
  have lt0 : ∀ x ∈ p0, x.block < W.heap.size := by obtain ⟨m, hm⟩ := k0; exact DataW.trod_lt m _ _ _ hm
  have hv0 := hval 0 22 v0 rfl rfl
  obtain ⟨fu0, f0⟩ := h0
  obtain ⟨w0, ew0, sl0⟩ := AM.open_bytes Try.underlying22 Try.underlying5 (by kernel_rfl) f0
  obtain rfl := @AM.slice_of Try.prog _ _ .any 22 5 _ _ Try.underlying22 hv0 ew0
  clear hA0 hval0 hsz0
  refine (run W v0 sl0).mono fun e W' ⟨he, bel⟩ => ?_
  subst he
  exact ⟨_, rfl, _, _, _, [], _, [], hW', trodAll_mk1 (shut_bool Try.underlying4 _), (trodAll_cons_mk (Below.trod laidOut (by kernel_rfl) (of_decide_eq_true (by kernel_rfl)) k0 bel lt0) trodAll_mk0), rfl, bel.frame _, fun h => by cases h⟩
theorem over : Rows.scanAllRow.holds Try.pinned (OpenSpec.ofChange Rows.scanAllSpec) :=
  OpenClaim.holds_of_wide 3 Try.f3 rfl rfl rfl rfl rfl rfl rfl ⟨rfl, rfl, rfl, rfl, rfl⟩ rfl rfl rfl rfl rfl (by kernel_rfl) Try.func3 (by kernel_rfl)
    (of_decide_eq_true (by kernel_rfl)) (by unfold Func.isWrapper; first | (rw [if_pos (by decide +kernel)]; kernel_rfl) | (rw [if_neg (by decide +kernel)]; exact ⟨rfl, rfl⟩))
    (fun os started H enc _ => lifted os started H enc)
theorem proved : Rows.ScanAllSaid := over
end Go.Proofs.Ytighienjnhglnaa.scanAll
