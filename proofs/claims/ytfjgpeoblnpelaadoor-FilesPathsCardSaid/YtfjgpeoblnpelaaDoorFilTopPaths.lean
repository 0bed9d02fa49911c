/- FilesPaths: for every input, the law returns true and the input reads as before, in a program whose listed package variables are as its text lays them. No conditions. -/
import Derived.Test.YtfjgpeoblnpelaaDoorB4
import Derived.Test.YtfjgpeoblnpelaaDoorCards
import Derived.Test.YtfjgpeoblnpelaaDoorTie
import Derived.SevenTiedAt
set_option linter.unusedVariables false
set_option linter.unusedSimpArgs false
set_option linter.unnecessarySimpa false
namespace Go.Proofs.YtfjgpeoblnpelaaDoor.filesPaths
open Go.ChangeShapes Go.WideShapes Go.ChangeAt Go.RowKit gl
open Go.ChangeMaps (open_string shut_string)
set_option linter.all false
set_option maxRecDepth 100000
theorem run {H : Type} {enc : TypeId × Value → H} {W : World} {base : Nat} {v0 v1 v2 : Value} {d0 d1 d2 : DataW H} {p0 p1 p2 : List MemPlace} (hL : laidMetH Tryd.prog laid W) (hx0 : Value.okWide Tryd.prog W .any base 26 v0) (h0 : DataW.Trod enc Tryd.prog W 0 (fun _ => true) true 26 v0 d0 p0) (hx1 : Value.okWide Tryd.prog W .any base 3 v1) (h1 : DataW.Trod enc Tryd.prog W 0 (fun _ => true) true 3 v1 d1 p1) (hx2 : Value.okWide Tryd.prog W .any base 26 v2) (h2 : DataW.Trod enc Tryd.prog W 0 (fun _ => true) true 26 v2 d2 p2) : Calls Tryd.prog 8 #[v0, v1, v2] W fun e W' => e = .returned (.bool true) ∧ Below W.heap.size W W' := by
  obtain ⟨fu0, f0⟩ := h0
  obtain ⟨t0, T0⟩ := open_tree fu0 _ _ f0
  obtain ⟨c0, hc0⟩ : ∃ c, v0.cells.toList = c := ⟨_, rfl⟩
  rw [hc0] at T0
  obtain rfl := agg_of T0 hc0
  obtain ⟨L0, q0, A0⟩ := arg_tree T0 0
  have C0 := A0
  obtain ⟨s1, rfl, rfl, rfl, y1⟩ := open_int Tryd.underlying3 hx1 h1
  obtain ⟨fu2, f2⟩ := h2
  obtain ⟨t2, T2⟩ := open_tree fu2 _ _ f2
  obtain ⟨c2, hc2⟩ : ∃ c, v2.cells.toList = c := ⟨_, rfl⟩
  rw [hc2] at T2
  obtain rfl := agg_of T2 hc2
  obtain ⟨L2, q2, A2⟩ := arg_tree T2 (0 + (L0 : List (AM.AObj × AM.Loc)).length)
  have C2 := C0.and A2
  obtain ⟨cs, ty, frz, g0⟩ := globs hL
  obtain ⟨hl, ⟨⟨s0, r0⟩, ⟨s2, r2⟩⟩⟩ := C2.all ty
  exact AM.calls_of_ACall_mem (fn := Tryd.f8) rfl rfl rfl (rep g0 hl C2.1) (args := [.agg q0.toArray, .int .i64 s1, .agg q2.toArray]) (AM.LRel.cons' (rel_node r0) (AM.LRel.cons' (.int _ _) (AM.LRel.cons' (rel_node r2) (AM.LRel.nil' _)))) (AM.memOf_wrt (wrtL C2.1)) (AM.ACall.mono (lawPathsA _ t0 t2 q0 q2 s1 s0 s2 (wf_i64k y1)) fun r m' h => h.1)
set_option maxRecDepth 100000 in
set_option maxHeartbeats 800000 in
theorem lifted (os : Os) (started : os.Started) (H : Type) (enc : TypeId × Value → H) :
    ReturnsInHanded {} Tryd.checked os 8 .any (fun w args => (Rows.filesPathsSpec.pre enc Tryd.prog Tryd.f8 Rows.filesPathsRow.domain false w args ∧ laidMetH Tryd.prog laid w) ∧ sizedMet enc Tryd.prog Tryd.f8 (OpenSpec.ofChange Rows.filesPathsSpec) false w args)
      (Rows.filesPathsSpec.post enc Tryd.prog Tryd.f8 false true false false) := by
  refine returnsInHanded_of_change_and (C := Tryd.checked) (X := fun w _ => laidMetH Tryd.prog laid w) (fun _ _ _ hh h => h.of_heap hh) own started (by kernel_rfl) Tryd.func8
    (ChangeSpec.witness_at (enc := enc) (C := Tryd.checked) (os := os) (X := fun w _ => laidMetH Tryd.prog laid w) false (laidWorld os) #[.agg #[.int .u8 0, .string ByteArray.empty, .slice none 0 0], .int .i64 0, .agg #[.int .u8 0, .string ByteArray.empty, .slice none 0 0]] 8 rfl (by kernel_rfl) (by kernel_rfl) (by kernel_rfl) (by kernel_rfl) (by kernel_rfl) (laidWorld_met os _)) ?_
  intro W base args ds gs before hval0 hW hcnd hsz0 hL _
  have hval : ∀ (j : Nat) t v, Tryd.f8.params[j]? = some t → args[j]? = some v → Value.okWide Tryd.prog W .any base t v := hval0
  have hW' := hW
  obtain ⟨p, q, hA0, hV, rfl, hfz, hnd⟩ := hW
  have hA : DataW.TrodAll enc Tryd.prog W 0 (fun _ => true) true Tryd.f8.params.toList args.toList ds p := hA0
  rw [Tryd.params8] at hA hval
  obtain ⟨v0, vs0, d0, ds0, p0, q0, hargs, rfl, rfl, h0, r0⟩ := trodAll_cons hA
  obtain ⟨v1, vs1, d1, ds1, p1, q1, rfl, rfl, rfl, h1, r1⟩ := trodAll_cons r0
  obtain ⟨v2, vs2, d2, ds2, p2, q2, rfl, rfl, rfl, h2, r2⟩ := trodAll_cons r1
  obtain ⟨rfl, rfl, rfl⟩ := trodAll_nil r2
  obtain rfl : args = #[v0, v1, v2] := by cases args; simp_all
  obtain ⟨rfl, rfl⟩ := trodVars_none hV
  have k0 := h0
  have lt0 : ∀ x ∈ p0, x.block < W.heap.size := by obtain ⟨m, hm⟩ := k0; exact DataW.trod_lt m _ _ _ hm
  have hx0 := hval 0 26 v0 rfl rfl
  have k1 := h1
  have lt1 : ∀ x ∈ p1, x.block < W.heap.size := by obtain ⟨m, hm⟩ := k1; exact DataW.trod_lt m _ _ _ hm
  have hx1 := hval 1 3 v1 rfl rfl
  have k2 := h2
  have lt2 : ∀ x ∈ p2, x.block < W.heap.size := by obtain ⟨m, hm⟩ := k2; exact DataW.trod_lt m _ _ _ hm
  have hx2 := hval 2 26 v2 rfl rfl
  clear hA0 hval0 hsz0
  refine (run hL hx0 h0 hx1 h1 hx2 h2).mono fun e W' ⟨he, bel⟩ => ?_
  subst he
  exact ⟨_, rfl, _, _, _, [], _, [], hW', trodAll_mk1 (shut_bool Tryd.underlying4 _), (trodAll_cons_mk (Below.trod laidOut (by kernel_rfl) (of_decide_eq_true (by kernel_rfl)) k0 bel lt0) (trodAll_cons_mk (Below.trod laidOut (by kernel_rfl) (of_decide_eq_true (by kernel_rfl)) k1 bel lt1) (trodAll_cons_mk (Below.trod laidOut (by kernel_rfl) (of_decide_eq_true (by kernel_rfl)) k2 bel lt2) trodAll_mk0))), rfl, bel.frame _, fun h => by cases h⟩
theorem over : Rows.filesPathsRow.holds Tryd.pinned (OpenSpec.ofChange Rows.filesPathsSpec) :=
  OpenClaim.holds_of_wide 8 Tryd.f8 rfl rfl rfl rfl rfl rfl rfl ⟨rfl, rfl, rfl, rfl, rfl⟩ rfl rfl rfl rfl rfl (by kernel_rfl) Tryd.func8 (by kernel_rfl)
    (of_decide_eq_true (by kernel_rfl)) (by unfold Func.isWrapper; first | (rw [if_pos (by decide +kernel)]; kernel_rfl) | (rw [if_neg (by decide +kernel)]; exact ⟨rfl, rfl⟩))
    (fun os started H enc _ => lifted os started H enc)
theorem proved : Rows.FilesPathsCardSaid :=
  Claim7.holds_tied_plain_at .later [] [.data, .pinned] true (true, "31f0deab60e84ba31a6a057b1016009de0279cf800846d25ade470e14d1ea153") true over (fun _ h => by cases h) (by kernel_rfl) (fun _ h => by cases h) filesPaths_row_tie rfl ⟨rfl, rfl⟩ (by kernel_rfl) rfl
    (fun f fn hf hfn => by
      obtain rfl : f = 8 := Option.some.inj ((show Tryd.prog.funcNamed "tithebarn/tithebarnlaw07.FilesPaths" = some 8 by kernel_rfl).symm.trans hf) |>.symm
      obtain rfl : fn = Tryd.f8 := (Option.some.inj (Tryd.func8.symm.trans hfn)).symm
      exact ⟨by kernel_rfl, fun j t ht => by
        rw [Tryd.params8] at ht
        have hm : t ∈ ([26, 3, 26] : List TypeId) := by simpa using Array.mem_of_getElem? ht
        have hall : (([26, 3, 26] : List TypeId).all fun u => !Tryd.prog.wantsStandIn u) = true := by kernel_rfl
        exact (show Tryd.prog.wantsStandIn t = false by simpa using List.all_eq_true.1 hall t hm)⟩)
    (by kernel_rfl)
end Go.Proofs.YtfjgpeoblnpelaaDoor.filesPaths
