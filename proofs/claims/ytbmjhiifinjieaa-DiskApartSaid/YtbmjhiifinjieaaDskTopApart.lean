/- DiskApart: for every input, the law returns true and the input reads as before. No conditions. -/
import Derived.Test.YtbmjhiifinjieaaA4
import Derived.Test.YtbmjhiifinjieaaB4
import Derived.Test.YtbmjhiifinjieaaRows
import Derived.WalkKit
import Derived.ProofKit
import Derived.OpenShut
import Derived.ShutString
import Derived.ChangeOld
import Derived.Below
import Derived.SizedLaws
set_option linter.unusedVariables false
set_option linter.unusedSimpArgs false
set_option linter.unnecessarySimpa false
namespace Go.Proofs.Ytbmjhiifinjieaa.diskApart
open Go.ChangeShapes Go.WideShapes Go.ChangeAt Go.RowKit
open Go.ChangeMaps (open_string shut_string)
set_option linter.unusedVariables false
theorem own : ownKnob Try.prog.godebug = none := by kernel_rfl
theorem laidOut : laidOutB Try.prog = true := by kernel_rfl
theorem run (W : World) (s0 : List UInt8) (y0 : s0.length ≤ 9223372036854775807) (s1 : List UInt8) (y1 : s1.length ≤ 9223372036854775807) (v2 : Value) (l2 : List (ActR × Value)) (sl2 : SlA W l2 v2) (y2 : ∀ z ∈ l2, AM.SlP W (z.1.keep.map fun n => .int .i64 n) z.2 ∧ z.1.ok) (z2 : l2.length ≤ 9223372036854775807) (v3 : Value) (l3 : List Int) (sl3 : AM.SlP W (l3.map fun n => .int .i64 n) v3) (y3 : ∀ y ∈ l3, -9223372036854775808 ≤ y ∧ y ≤ 9223372036854775807) (z3 : l3.length ≤ 9223372036854775807) : Calls Try.prog 5 #[.string ⟨⟨s0⟩⟩, .string ⟨⟨s1⟩⟩, v2, v3] W fun e W' => e = .returned (.bool true) ∧ Below W.heap.size W W' := by
  obtain ⟨L2, a2, cap2, xw2, xr2⟩ := arg_acts sl2 y2 (0)
  obtain ⟨x3, a3, cap3, xw3, xo3, xr3⟩ := AM.arg_row (by intro v hv; simp only [List.mem_map] at hv; obtain ⟨y, _, rfl⟩ := hv; first | exact AM.Plain.int _ _ | exact AM.Plain.string _) sl3 (0 + L2.length)
  have hL3 : ([x3] : List (AM.AObj × AM.Loc)).length = 1 := rfl
  obtain ⟨L3, eL3⟩ : ∃ L, L = [x3] := ⟨_, rfl⟩
  have at2 : ∀ j (h : j < L2.length), (L2 ++ L3)[0 + j]? = some L2[j] := fun j h => by
    rw [List.getElem?_append_left (by omega)]; rw [show (0 + j) = j by omega]; exact List.getElem?_eq_getElem h
  obtain ⟨xo2, rv2, vr2⟩ := xr2 (L2 ++ L3) at2
  have at3 : ∀ j (h : j < L3.length), (L2 ++ L3)[0 + L2.length + j]? = some L3[j] := fun j h => by
    rw [List.getElem?_append_right (by omega)]; rw [show (0 + L2.length + j) - L2.length = j by omega]; exact List.getElem?_eq_getElem h
  obtain ⟨rv3, vr3⟩ := xr3 (L2 ++ L3) (by have := at3 0 (by rw [eL3]; exact Nat.zero_lt_one); simp only [eL3] at this ⊢; exact this)
  rw [List.length_map] at vr3
  have hl : ∀ x ∈ ((L2 ++ L3) : List (AM.AObj × AM.Loc)), AM.ObjRel (AM.renOf (AM.os0 (L2 ++ L3))) x.1 x.2 W := by
    intro x hx; try simp only [List.mem_append] at hx; rcases hx with hx | hx
    · exact xo2 x hx
    · rw [eL3] at hx; simp only [List.mem_singleton] at hx; subst hx; exact xo3 _
  have hw : ∀ x ∈ ((L2 ++ L3) : List (AM.AObj × AM.Loc)), x.1.wrt = false := by
    intro x hx; try simp only [List.mem_append] at hx; rcases hx with hx | hx
    · exact xw2 x hx
    · rw [eL3] at hx; simp only [List.mem_singleton] at hx; subst hx; exact xw3
  have law := lawApart (AM.memOf (AM.os0 (L2 ++ L3))) s0 s1 y0 y1 a2 cap2 _ rv2 (by rw [List.length_map]; exact z2) _ l3 (AM.RowV.ints cap3 rv3) z3 y3 (AM.RowV.lt rv3)
  exact AM.calls_of_ACall_mem (fn := Try.f5) rfl rfl rfl (AM.rep0 hl hw) (args := [.string ⟨⟨s0⟩⟩, .string ⟨⟨s1⟩⟩, .slice a2 (l2.map (fun z : ActR × Value => z.1)).length cap2, .slice a3 l3.length cap3]) (AM.LRel.cons' (.string _) (AM.LRel.cons' (.string _) (AM.LRel.cons' vr2 (AM.LRel.cons' vr3 (AM.LRel.nil' _))))) (AM.memOf_wrt (AM.wrt0 hw)) (AM.ACall.mono law fun r m' h => h.1)
set_option maxRecDepth 100000 in
set_option maxHeartbeats 800000 in
theorem lifted (os : Os) (started : os.Started) (H : Type) (enc : TypeId × Value → H) :
    ReturnsInHanded {} Try.checked os 5 .any (Rows.diskApartSpec.pre6 enc Try.prog Try.f5 Rows.diskApartRow.domain false) (Rows.diskApartSpec.post enc Try.prog Try.f5 false true false false) := by
  refine returnsInHanded_of_change_sized (C := Try.checked) own started (by kernel_rfl) Try.func5
    (ChangeSpec.witness6 (enc := enc) (C := Try.checked) false ⟨#[], #[.string ByteArray.empty, .string ByteArray.empty, .slice none 0 0, .slice none 0 0], []⟩ 8 (by kernel_rfl) (by kernel_rfl) (by kernel_rfl) (by kernel_rfl)) ?_
  intro W base args ds gs before hval0 hW hcnd hsz0 _
  have hval : ∀ (j : Nat) t v, Try.f5.params[j]? = some t → args[j]? = some v → Value.okWide Try.prog W .any base t v := hval0
  have hW' := hW
  obtain ⟨p, q, hA0, hV, rfl, hfz, hnd⟩ := hW
  have hA : DataW.TrodAll enc Try.prog W 0 (fun _ => true) true Try.f5.params.toList args.toList ds p := hA0
  rw [Try.params5] at hA hval
  obtain ⟨v0, vs0, d0, ds0, p0, q0, hargs, rfl, rfl, h0, r0⟩ := trodAll_cons hA
  obtain ⟨v1, vs1, d1, ds1, p1, q1, rfl, rfl, rfl, h1, r1⟩ := trodAll_cons r0
  obtain ⟨v2, vs2, d2, ds2, p2, q2, rfl, rfl, rfl, h2, r2⟩ := trodAll_cons r1
  obtain ⟨v3, vs3, d3, ds3, p3, q3, rfl, rfl, rfl, h3, r3⟩ := trodAll_cons r2
  obtain ⟨rfl, rfl, rfl⟩ := trodAll_nil r3
  obtain rfl : args = #[v0, v1, v2, v3] := by cases args; simp_all
  obtain ⟨rfl, rfl⟩ := trodVars_none hV
  have k0 := h0
  have lt0 : ∀ x ∈ p0, x.block < W.heap.size := by obtain ⟨m, hm⟩ := k0; exact DataW.trod_lt m _ _ _ hm
  have hv0 := hval 0 9 v0 rfl rfl
  obtain ⟨⟨⟨s0⟩⟩, rfl, rfl, rfl, y0⟩ := open_string Try.underlying9 hv0 h0
  have y0 : s0.length ≤ 9223372036854775807 := y0
  have k1 := h1
  have lt1 : ∀ x ∈ p1, x.block < W.heap.size := by obtain ⟨m, hm⟩ := k1; exact DataW.trod_lt m _ _ _ hm
  have hv1 := hval 1 9 v1 rfl rfl
  obtain ⟨⟨⟨s1⟩⟩, rfl, rfl, rfl, y1⟩ := open_string Try.underlying9 hv1 h1
  have y1 : s1.length ≤ 9223372036854775807 := y1
  have k2 := h2
  have lt2 : ∀ x ∈ p2, x.block < W.heap.size := by obtain ⟨m, hm⟩ := k2; exact DataW.trod_lt m _ _ _ hm
  have hv2 := hval 2 41 v2 rfl rfl
  obtain ⟨fu2, f2⟩ := h2
  obtain ⟨w2, l2, ew2, sl2, y2, z2⟩ := open_acts f2
  obtain rfl := AM.slice_of Try.underlying41 hv2 ew2
  have k3 := h3
  have lt3 : ∀ x ∈ p3, x.block < W.heap.size := by obtain ⟨m, hm⟩ := k3; exact DataW.trod_lt m _ _ _ hm
  have hv3 := hval 3 33 v3 rfl rfl
  obtain ⟨fu3, f3⟩ := h3
  obtain ⟨w3, l3, ew3, sl3, y3, z3⟩ := AM.open_ints Try.underlying33 Try.underlying3 (by kernel_rfl) f3
  obtain rfl := AM.slice_of Try.underlying33 hv3 ew3
  clear hA0 hval0 hsz0
  refine (run W s0 y0 s1 y1 v2 l2 sl2 y2 z2 v3 l3 sl3 y3 z3).mono fun e W' ⟨he, bel⟩ => ?_
  subst he
  exact ⟨_, rfl, _, _, _, [], _, [], hW', trodAll_mk1 (shut_bool Try.underlying4 _), (trodAll_cons_mk (shut_string Try.underlying9 y0) (trodAll_cons_mk (shut_string Try.underlying9 y1) (trodAll_cons_mk (Below.trod laidOut (by kernel_rfl) (of_decide_eq_true (by kernel_rfl)) k2 bel lt2) (trodAll_cons_mk (Below.trod laidOut (by kernel_rfl) (of_decide_eq_true (by kernel_rfl)) k3 bel lt3) trodAll_mk0)))), rfl, bel.frame _, fun h => by cases h⟩
theorem over : Rows.diskApartRow.holds Try.pinned (OpenSpec.ofChange Rows.diskApartSpec) :=
  OpenClaim.holds_of_wide 5 Try.f5 rfl rfl rfl rfl rfl rfl rfl ⟨rfl, rfl, rfl, rfl, rfl⟩ rfl rfl rfl rfl rfl (by kernel_rfl) Try.func5 (by kernel_rfl)
    (of_decide_eq_true (by kernel_rfl)) (by unfold Func.isWrapper; first | (rw [if_pos (by decide +kernel)]; kernel_rfl) | (rw [if_neg (by decide +kernel)]; exact ⟨rfl, rfl⟩))
    (fun os started H enc _ => lifted os started H enc)
theorem proved : Rows.DiskApartSaid := over
end Go.Proofs.Ytbmjhiifinjieaa.diskApart
