/- DiskDry: for every input, the law returns true and the input reads as before. No conditions. -/
import Derived.Test.YtbmjhiifinjieaaA4
import Derived.Test.YtbmjhiifinjieaaA3
import Derived.Test.YtbmjhiifinjieaaB2
import Derived.Test.YtbmjhiifinjieaaB5
import Derived.Test.YtbmjhiifinjieaaRows
import Derived.WalkKit
import Derived.ProofKit
import Derived.OpenShut
import Derived.ShutString
import Derived.ChangeOld
import Derived.Below
import Derived.SizedLaws
set_option linter.unusedVariables false
set_option linter.unusedSimpArgs false
set_option linter.unnecessarySimpa false
namespace Go.Proofs.Ytbmjhiifinjieaa.diskDry
open Go.ChangeShapes Go.WideShapes Go.ChangeAt Go.RowKit
open Go.ChangeMaps (open_string shut_string)
set_option linter.unusedVariables false
theorem own : ownKnob Try.prog.godebug = none := by kernel_rfl
theorem laidOut : laidOutB Try.prog = true := by kernel_rfl
theorem run (W : World) (v0 : Value) (l0 : List (List UInt8)) (sl0 : AM.SlP W (l0.map fun s => .string ⟨s.toArray⟩) v0) (y0 : ∀ y ∈ l0, y.length ≤ 9223372036854775807) (z0 : l0.length ≤ 9223372036854775807) (n1 : Int) (y1 : (Lit.int .u32 n1).wf = true) (n2 : Int) (y2 : (Lit.int .i64 n2).wf = true) (n3 : Int) (y3 : (Lit.int .i64 n3).wf = true) (n4 : Int) (y4 : (Lit.int .i64 n4).wf = true) : Calls Try.prog 3 #[v0, .int .u32 n1, .int .i64 n2, .int .i64 n3, .int .i64 n4] W fun e W' => e = .returned (.bool true) ∧ Below W.heap.size W W' := by
  obtain ⟨x0, a0, cap0, xw0, xo0, xr0⟩ := AM.arg_row (by intro v hv; simp only [List.mem_map] at hv; obtain ⟨y, _, rfl⟩ := hv; first | exact AM.Plain.int _ _ | exact AM.Plain.string _) sl0 0
  obtain ⟨rv0, vr0⟩ := xr0 [x0] rfl
  rw [List.length_map] at vr0
  have hl : ∀ x ∈ ([x0] : List (AM.AObj × AM.Loc)), AM.ObjRel (AM.renOf (AM.os0 [x0])) x.1 x.2 W := by
    intro x hx; simp only [List.mem_cons, List.not_mem_nil, or_false] at hx; rcases hx with rfl
    · exact xo0 _
  have hw : ∀ x ∈ ([x0] : List (AM.AObj × AM.Loc)), x.1.wrt = false := by
    intro x hx; simp only [List.mem_cons, List.not_mem_nil, or_false] at hx; rcases hx with rfl
    · exact xw0
  have law := lawDry (AM.memOf (AM.os0 [x0])) a0 cap0 l0 rv0 z0 y0 n1 (AM.wf_u32' y1) n2 n3 n4 (AM.wf_i64' y2) (AM.wf_i64' y3) (AM.wf_i64' y4)
  exact AM.calls_of_ACall_mem (fn := Try.f3) rfl rfl rfl (AM.rep0 hl hw) (args := [.slice a0 l0.length cap0, .int .u32 n1, .int .i64 n2, .int .i64 n3, .int .i64 n4]) (AM.LRel.cons' vr0 (AM.LRel.cons' (.int _ _) (AM.LRel.cons' (.int _ _) (AM.LRel.cons' (.int _ _) (AM.LRel.cons' (.int _ _) (AM.LRel.nil' _)))))) (AM.memOf_wrt (AM.wrt0 hw)) (AM.ACall.mono law fun r m' h => h.1)
set_option maxRecDepth 100000 in
set_option maxHeartbeats 800000 in
theorem lifted (os : Os) (started : os.Started) (H : Type) (enc : TypeId × Value → H) :
    ReturnsInHanded {} Try.checked os 3 .any (Rows.diskDrySpec.pre6 enc Try.prog Try.f3 Rows.diskDryRow.domain false) (Rows.diskDrySpec.post enc Try.prog Try.f3 false true false false) := by
  refine returnsInHanded_of_change_sized (C := Try.checked) own started (by kernel_rfl) Try.func3
    (ChangeSpec.witness6 (enc := enc) (C := Try.checked) false ⟨#[], #[.slice none 0 0, .int .u32 0, .int .i64 0, .int .i64 0, .int .i64 0], []⟩ 8 (by kernel_rfl) (by kernel_rfl) (by kernel_rfl) (by kernel_rfl)) ?_
  intro W base args ds gs before hval0 hW hcnd hsz0 _
  have hval : ∀ (j : Nat) t v, Try.f3.params[j]? = some t → args[j]? = some v → Value.okWide Try.prog W .any base t v := hval0
  have hW' := hW
  obtain ⟨p, q, hA0, hV, rfl, hfz, hnd⟩ := hW
  have hA : DataW.TrodAll enc Try.prog W 0 (fun _ => true) true Try.f3.params.toList args.toList ds p := hA0
  rw [Try.params3] at hA hval
  obtain ⟨v0, vs0, d0, ds0, p0, q0, hargs, rfl, rfl, h0, r0⟩ := trodAll_cons hA
  obtain ⟨v1, vs1, d1, ds1, p1, q1, rfl, rfl, rfl, h1, r1⟩ := trodAll_cons r0
  obtain ⟨v2, vs2, d2, ds2, p2, q2, rfl, rfl, rfl, h2, r2⟩ := trodAll_cons r1
  obtain ⟨v3, vs3, d3, ds3, p3, q3, rfl, rfl, rfl, h3, r3⟩ := trodAll_cons r2
  obtain ⟨v4, vs4, d4, ds4, p4, q4, rfl, rfl, rfl, h4, r4⟩ := trodAll_cons r3
  obtain ⟨rfl, rfl, rfl⟩ := trodAll_nil r4
  obtain rfl : args = #[v0, v1, v2, v3, v4] := by cases args; simp_all
  obtain ⟨rfl, rfl⟩ := trodVars_none hV
  have k0 := h0
  have lt0 : ∀ x ∈ p0, x.block < W.heap.size := by obtain ⟨m, hm⟩ := k0; exact DataW.trod_lt m _ _ _ hm
  have hv0 := hval 0 22 v0 rfl rfl
  obtain ⟨fu0, f0⟩ := h0
  obtain ⟨w0, l0, ew0, sl0, y0, z0⟩ := AM.open_strs Try.underlying22 Try.underlying9 (by kernel_rfl) f0
  obtain rfl := AM.slice_of Try.underlying22 hv0 ew0
  have k1 := h1
  have lt1 : ∀ x ∈ p1, x.block < W.heap.size := by obtain ⟨m, hm⟩ := k1; exact DataW.trod_lt m _ _ _ hm
  have hv1 := hval 1 23 v1 rfl rfl
  obtain ⟨n1, rfl, rfl, rfl, y1⟩ := open_int Try.underlying23 hv1 h1
  have k2 := h2
  have lt2 : ∀ x ∈ p2, x.block < W.heap.size := by obtain ⟨m, hm⟩ := k2; exact DataW.trod_lt m _ _ _ hm
  have hv2 := hval 2 3 v2 rfl rfl
  obtain ⟨n2, rfl, rfl, rfl, y2⟩ := open_int Try.underlying3 hv2 h2
  have k3 := h3
  have lt3 : ∀ x ∈ p3, x.block < W.heap.size := by obtain ⟨m, hm⟩ := k3; exact DataW.trod_lt m _ _ _ hm
  have hv3 := hval 3 3 v3 rfl rfl
  obtain ⟨n3, rfl, rfl, rfl, y3⟩ := open_int Try.underlying3 hv3 h3
  have k4 := h4
  have lt4 : ∀ x ∈ p4, x.block < W.heap.size := by obtain ⟨m, hm⟩ := k4; exact DataW.trod_lt m _ _ _ hm
  have hv4 := hval 4 3 v4 rfl rfl
  obtain ⟨n4, rfl, rfl, rfl, y4⟩ := open_int Try.underlying3 hv4 h4
  clear hA0 hval0 hsz0
  refine (run W v0 l0 sl0 y0 z0 n1 y1 n2 y2 n3 y3 n4 y4).mono fun e W' ⟨he, bel⟩ => ?_
  subst he
  exact ⟨_, rfl, _, _, _, [], _, [], hW', trodAll_mk1 (shut_bool Try.underlying4 _), (trodAll_cons_mk (Below.trod laidOut (by kernel_rfl) (of_decide_eq_true (by kernel_rfl)) k0 bel lt0) (trodAll_cons_mk (shut_int Try.underlying23 y1) (trodAll_cons_mk (shut_int Try.underlying3 y2) (trodAll_cons_mk (shut_int Try.underlying3 y3) (trodAll_cons_mk (shut_int Try.underlying3 y4) trodAll_mk0))))), rfl, bel.frame _, fun h => by cases h⟩
theorem over : Rows.diskDryRow.holds Try.pinned (OpenSpec.ofChange Rows.diskDrySpec) :=
  OpenClaim.holds_of_wide 3 Try.f3 rfl rfl rfl rfl rfl rfl rfl ⟨rfl, rfl, rfl, rfl, rfl⟩ rfl rfl rfl rfl rfl (by kernel_rfl) Try.func3 (by kernel_rfl)
    (of_decide_eq_true (by kernel_rfl)) (by unfold Func.isWrapper; first | (rw [if_pos (by decide +kernel)]; kernel_rfl) | (rw [if_neg (by decide +kernel)]; exact ⟨rfl, rfl⟩))
    (fun os started H enc _ => lifted os started H enc)
theorem proved : Rows.DiskDrySaid := over
end Go.Proofs.Ytbmjhiifinjieaa.diskDry
