/- DiskActs: for every input, the law returns true and the input reads as before. No conditions. -/
import Derived.Test.YtbmjhiifinjieaaA4
import Derived.Test.YtbmjhiifinjieaaB4
import Derived.Test.YtbmjhiifinjieaaRows
import Derived.WalkKit
import Derived.ProofKit
import Derived.OpenShut
import Derived.ShutString
import Derived.ChangeOld
import Derived.Below
import Derived.SizedLaws
set_option linter.unusedVariables false
set_option linter.unusedSimpArgs false
set_option linter.unnecessarySimpa false
namespace Go.Proofs.Ytbmjhiifinjieaa.diskActs
open Go.ChangeShapes Go.WideShapes Go.ChangeAt Go.RowKit
open Go.ChangeMaps (open_string shut_string)
set_option linter.unusedVariables false
theorem own : ownKnob Try.prog.godebug = none := by kernel_rfl
theorem laidOut : laidOutB Try.prog = true := by kernel_rfl
theorem run (W : World) (n0 : Int) (y0 : (Lit.int .i64 n0).wf = true) (v1 : Value) (l1 : List (ActR × Value)) (sl1 : SlA W l1 v1) (y1 : ∀ z ∈ l1, AM.SlP W (z.1.keep.map fun n => .int .i64 n) z.2 ∧ z.1.ok) (z1 : l1.length ≤ 9223372036854775807) : Calls Try.prog 7 #[.int .i64 n0, v1] W fun e W' => e = .returned (.bool true) ∧ Below W.heap.size W W' := by
  obtain ⟨L1, a1, cap1, xw1, xr1⟩ := arg_acts sl1 y1 (0)
  have at1 : ∀ j (h : j < L1.length), (L1)[0 + j]? = some L1[j] := fun j h => by
    rw [show (0 + j) = j by omega]; exact List.getElem?_eq_getElem h
  obtain ⟨xo1, rv1, vr1⟩ := xr1 (L1) at1
  have hl : ∀ x ∈ ((L1) : List (AM.AObj × AM.Loc)), AM.ObjRel (AM.renOf (AM.os0 (L1))) x.1 x.2 W := by
    intro x hx; try simp only [List.mem_append] at hx
    · exact xo1 x hx
  have hw : ∀ x ∈ ((L1) : List (AM.AObj × AM.Loc)), x.1.wrt = false := by
    intro x hx; try simp only [List.mem_append] at hx
    · exact xw1 x hx
  have law := lawActs (AM.memOf (AM.os0 (L1))) n0 (AM.wf_i64' y0) a1 cap1 _ rv1 (by rw [List.length_map]; exact z1)
  exact AM.calls_of_ACall_mem (fn := Try.f7) rfl rfl rfl (AM.rep0 hl hw) (args := [.int .i64 n0, .slice a1 (l1.map (fun z : ActR × Value => z.1)).length cap1]) (AM.LRel.cons' (.int _ _) (AM.LRel.cons' vr1 (AM.LRel.nil' _))) (AM.memOf_wrt (AM.wrt0 hw)) (AM.ACall.mono law fun r m' h => h.1)
set_option maxRecDepth 100000 in
set_option maxHeartbeats 800000 in
theorem lifted (os : Os) (started : os.Started) (H : Type) (enc : TypeId × Value → H) :
    ReturnsInHanded {} Try.checked os 7 .any (Rows.diskActsSpec.pre6 enc Try.prog Try.f7 Rows.diskActsRow.domain false) (Rows.diskActsSpec.post enc Try.prog Try.f7 false true false false) := by
  refine returnsInHanded_of_change_sized (C := Try.checked) own started (by kernel_rfl) Try.func7
    (ChangeSpec.witness6 (enc := enc) (C := Try.checked) false ⟨#[], #[.int .i64 0, .slice none 0 0], []⟩ 8 (by kernel_rfl) (by kernel_rfl) (by kernel_rfl) (by kernel_rfl)) ?_
  intro W base args ds gs before hval0 hW hcnd hsz0 _
  have hval : ∀ (j : Nat) t v, Try.f7.params[j]? = some t → args[j]? = some v → Value.okWide Try.prog W .any base t v := hval0
  have hW' := hW
  obtain ⟨p, q, hA0, hV, rfl, hfz, hnd⟩ := hW
  have hA : DataW.TrodAll enc Try.prog W 0 (fun _ => true) true Try.f7.params.toList args.toList ds p := hA0
  rw [Try.params7] at hA hval
  obtain ⟨v0, vs0, d0, ds0, p0, q0, hargs, rfl, rfl, h0, r0⟩ := trodAll_cons hA
  obtain ⟨v1, vs1, d1, ds1, p1, q1, rfl, rfl, rfl, h1, r1⟩ := trodAll_cons r0
  obtain ⟨rfl, rfl, rfl⟩ := trodAll_nil r1
  obtain rfl : args = #[v0, v1] := by cases args; simp_all
  obtain ⟨rfl, rfl⟩ := trodVars_none hV
  have k0 := h0
  have lt0 : ∀ x ∈ p0, x.block < W.heap.size := by obtain ⟨m, hm⟩ := k0; exact DataW.trod_lt m _ _ _ hm
  have hv0 := hval 0 3 v0 rfl rfl
  obtain ⟨n0, rfl, rfl, rfl, y0⟩ := open_int Try.underlying3 hv0 h0
  have k1 := h1
  have lt1 : ∀ x ∈ p1, x.block < W.heap.size := by obtain ⟨m, hm⟩ := k1; exact DataW.trod_lt m _ _ _ hm
  have hv1 := hval 1 41 v1 rfl rfl
  obtain ⟨fu1, f1⟩ := h1
  obtain ⟨w1, l1, ew1, sl1, y1, z1⟩ := open_acts f1
  obtain rfl := AM.slice_of Try.underlying41 hv1 ew1
  clear hA0 hval0 hsz0
  refine (run W n0 y0 v1 l1 sl1 y1 z1).mono fun e W' ⟨he, bel⟩ => ?_
  subst he
  exact ⟨_, rfl, _, _, _, [], _, [], hW', trodAll_mk1 (shut_bool Try.underlying4 _), (trodAll_cons_mk (shut_int Try.underlying3 y0) (trodAll_cons_mk (Below.trod laidOut (by kernel_rfl) (of_decide_eq_true (by kernel_rfl)) k1 bel lt1) trodAll_mk0)), rfl, bel.frame _, fun h => by cases h⟩
theorem over : Rows.diskActsRow.holds Try.pinned (OpenSpec.ofChange Rows.diskActsSpec) :=
  OpenClaim.holds_of_wide 7 Try.f7 rfl rfl rfl rfl rfl rfl rfl ⟨rfl, rfl, rfl, rfl, rfl⟩ rfl rfl rfl rfl rfl (by kernel_rfl) Try.func7 (by kernel_rfl)
    (of_decide_eq_true (by kernel_rfl)) (by unfold Func.isWrapper; first | (rw [if_pos (by decide +kernel)]; kernel_rfl) | (rw [if_neg (by decide +kernel)]; exact ⟨rfl, rfl⟩))
    (fun os started H enc _ => lifted os started H enc)
theorem proved : Rows.DiskActsSaid := over
end Go.Proofs.Ytbmjhiifinjieaa.diskActs
