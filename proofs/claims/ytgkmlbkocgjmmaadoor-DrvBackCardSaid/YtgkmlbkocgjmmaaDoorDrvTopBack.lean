/- DrvBack: for every input, the law returns true and the input reads as before, in a program whose listed package variables are as its text lays them. No conditions. -/
import Derived.Test.YtgkmlbkocgjmmaaDoorB3
import Derived.Test.YtgkmlbkocgjmmaaDoorCards
import Derived.Test.YtgkmlbkocgjmmaaDoorTie
import Derived.SevenTiedAt
set_option linter.unusedVariables false
set_option linter.unusedSimpArgs false
set_option linter.unnecessarySimpa false
namespace Go.Proofs.YtgkmlbkocgjmmaaDoor.drvBack
open Go.ChangeShapes Go.WideShapes Go.ChangeAt Go.RowKit gl
open Go.ChangeMaps (open_string shut_string)
set_option linter.all false
set_option maxRecDepth 100000
theorem run {H : Type} {enc : TypeId × Value → H} {W : World} {base : Nat} {v0 v1 : Value} {d0 d1 : DataW H} {p0 p1 : List MemPlace} (hL : laidMetH Tryd.prog laid W) (hx0 : Value.okWide Tryd.prog W .any base 24 v0) (h0 : DataW.Trod enc Tryd.prog W 0 (fun _ => true) true 24 v0 d0 p0) (hx1 : Value.okWide Tryd.prog W .any base 27 v1) (h1 : DataW.Trod enc Tryd.prog W 0 (fun _ => true) true 27 v1 d1 p1) : Calls Tryd.prog 5 #[v0, v1] W fun e W' => e = .returned (.bool true) ∧ Below W.heap.size W W' := by
  obtain ⟨fu0, f0⟩ := h0
  obtain ⟨l0, w0, ew0, sl0, z0⟩ := open_drv f0
  obtain rfl := drv_of ew0
  obtain ⟨x0, a0, c0, -, A0⟩ := arg_strs sl0 0
  have C0 := A0
  obtain ⟨fu1, f1⟩ := h1
  obtain ⟨w1, ew1, sl1⟩ := AM.open_bytes Tryd.underlying27 Tryd.underlying5 (by kernel_rfl) f1
  obtain rfl := @AM.slice_of Tryd.prog _ _ .any 27 5 _ _ Tryd.underlying27 hx1 ew1
  obtain ⟨x1, a1, c1, l1, z1, A1⟩ := arg_bytes sl1 (0 + ([x0] : List (AM.AObj × AM.Loc)).length)
  have C1 := C0.and A1
  obtain ⟨⟨ty, frz, g0⟩, ⟨ty2, frz2, g1⟩⟩ := globs hL
  obtain ⟨hl, ⟨⟨s0, r0⟩, ⟨s1, r1⟩⟩⟩ := C1.all ty ty2
  exact AM.calls_of_ACall_mem (fn := Tryd.f5) rfl rfl rfl (rep g0 g1 hl C1.1) (args := [.agg (dRow l0 a0 c0).toArray, .slice a1 l1.length c1]) (AM.LRel.cons' (rel_drv r0) (AM.LRel.cons' r1 (AM.LRel.nil' _))) (AM.memOf_wrt (wrtL C1.1)) (AM.ACall.mono (lawBack _ (glob ty ty2 _) l0 a0 c0 z0 s0.str a1 c1 l1 s1 z1) fun r m' h => h.1)
set_option maxRecDepth 100000 in
set_option maxHeartbeats 800000 in
theorem lifted (os : Os) (started : os.Started) (H : Type) (enc : TypeId × Value → H) :
    ReturnsInHanded {} Tryd.checked os 5 .any (fun w args => (Rows.drvBackSpec.pre enc Tryd.prog Tryd.f5 Rows.drvBackRow.domain false w args ∧ laidMetH Tryd.prog laid w) ∧ sizedMet enc Tryd.prog Tryd.f5 (OpenSpec.ofChange Rows.drvBackSpec) false w args)
      (Rows.drvBackSpec.post enc Tryd.prog Tryd.f5 false true false false) := by
  refine returnsInHanded_of_change_and (C := Tryd.checked) (X := fun w _ => laidMetH Tryd.prog laid w) (fun _ _ _ hh h => h.of_heap hh) own started (by kernel_rfl) Tryd.func5
    (ChangeSpec.witness_at (enc := enc) (C := Tryd.checked) (os := os) (X := fun w _ => laidMetH Tryd.prog laid w) false (laidWorld os) #[.agg #[.string ByteArray.empty, .slice none 0 0, .string ByteArray.empty], .slice none 0 0] 8 rfl (by kernel_rfl) (by kernel_rfl) (by kernel_rfl) (by kernel_rfl) (by kernel_rfl) (laidWorld_met os _)) ?_
  intro W base args ds gs before hval0 hW hcnd hsz0 hL _
  have hval : ∀ (j : Nat) t v, Tryd.f5.params[j]? = some t → args[j]? = some v → Value.okWide Tryd.prog W .any base t v := hval0
  have hW' := hW
  obtain ⟨p, q, hA0, hV, rfl, hfz, hnd⟩ := hW
  have hA : DataW.TrodAll enc Tryd.prog W 0 (fun _ => true) true Tryd.f5.params.toList args.toList ds p := hA0
  rw [Tryd.params5] at hA hval
  obtain ⟨v0, vs0, d0, ds0, p0, q0, hargs, rfl, rfl, h0, r0⟩ := trodAll_cons hA
  obtain ⟨v1, vs1, d1, ds1, p1, q1, rfl, rfl, rfl, h1, r1⟩ := trodAll_cons r0
  obtain ⟨rfl, rfl, rfl⟩ := trodAll_nil r1
  obtain rfl : args = #[v0, v1] := by cases args; simp_all
  obtain ⟨rfl, rfl⟩ := trodVars_none hV
  have k0 := h0
  have lt0 : ∀ x ∈ p0, x.block < W.heap.size := by obtain ⟨m, hm⟩ := k0; exact DataW.trod_lt m _ _ _ hm
  have hx0 := hval 0 24 v0 rfl rfl
  have k1 := h1
  have lt1 : ∀ x ∈ p1, x.block < W.heap.size := by obtain ⟨m, hm⟩ := k1; exact DataW.trod_lt m _ _ _ hm
  have hx1 := hval 1 27 v1 rfl rfl
  clear hA0 hval0 hsz0
  refine (run hL hx0 h0 hx1 h1).mono fun e W' ⟨he, bel⟩ => ?_
  subst he
  exact ⟨_, rfl, _, _, _, [], _, [], hW', trodAll_mk1 (shut_bool Tryd.underlying4 _), (trodAll_cons_mk (Below.trod laidOut (by kernel_rfl) (of_decide_eq_true (by kernel_rfl)) k0 bel lt0) (trodAll_cons_mk (Below.trod laidOut (by kernel_rfl) (of_decide_eq_true (by kernel_rfl)) k1 bel lt1) trodAll_mk0)), rfl, bel.frame _, fun h => by cases h⟩
theorem over : Rows.drvBackRow.holds Tryd.pinned (OpenSpec.ofChange Rows.drvBackSpec) :=
  OpenClaim.holds_of_wide 5 Tryd.f5 rfl rfl rfl rfl rfl rfl rfl ⟨rfl, rfl, rfl, rfl, rfl⟩ rfl rfl rfl rfl rfl (by kernel_rfl) Tryd.func5 (by kernel_rfl)
    (of_decide_eq_true (by kernel_rfl)) (by unfold Func.isWrapper; first | (rw [if_pos (by decide +kernel)]; kernel_rfl) | (rw [if_neg (by decide +kernel)]; exact ⟨rfl, rfl⟩))
    (fun os started H enc _ => lifted os started H enc)
theorem proved : Rows.DrvBackCardSaid :=
  Claim7.holds_tied_plain_at .later [] [.data, .data] true (true, "c1eb432d03475d555d2433174795e0dd49b8b19404f2321c6fd621654867a84d") false over (fun _ h => by cases h) (by kernel_rfl) (fun _ h => by cases h) drvBack_row_tie rfl ⟨rfl, rfl⟩ (by kernel_rfl) rfl
    (fun f fn hf hfn => by
      obtain rfl : f = 5 := Option.some.inj ((show Tryd.prog.funcNamed "tithebarn/tithebarnlaw24.DrvBack" = some 5 by kernel_rfl).symm.trans hf) |>.symm
      obtain rfl : fn = Tryd.f5 := (Option.some.inj (Tryd.func5.symm.trans hfn)).symm
      exact ⟨by kernel_rfl, fun j t ht => by
        rw [Tryd.params5] at ht
        have hm : t ∈ ([24, 27] : List TypeId) := by simpa using Array.mem_of_getElem? ht
        have hall : (([24, 27] : List TypeId).all fun u => !Tryd.prog.wantsStandIn u) = true := by kernel_rfl
        exact (show Tryd.prog.wantsStandIn t = false by simpa using List.all_eq_true.1 hall t hm)⟩)
    (by kernel_rfl)
end Go.Proofs.YtgkmlbkocgjmmaaDoor.drvBack
