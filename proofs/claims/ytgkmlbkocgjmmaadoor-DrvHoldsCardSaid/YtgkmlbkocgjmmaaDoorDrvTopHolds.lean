/- DrvHolds: for every input, the law returns true and the input reads as before, in a program whose listed package variables are as its text lays them. No conditions. -/
import Derived.Test.YtgkmlbkocgjmmaaDoorB4
import Derived.Test.YtgkmlbkocgjmmaaDoorCards
import Derived.Test.YtgkmlbkocgjmmaaDoorTie
import Derived.SevenTiedAt
set_option linter.unusedVariables false
set_option linter.unusedSimpArgs false
set_option linter.unnecessarySimpa false
namespace Go.Proofs.YtgkmlbkocgjmmaaDoor.drvHolds
open Go.ChangeShapes Go.WideShapes Go.ChangeAt Go.RowKit gl
open Go.ChangeMaps (open_string shut_string)
set_option linter.all false
set_option maxRecDepth 100000
theorem run {H : Type} {enc : TypeId × Value → H} {W : World} {base : Nat} {v0 v1 v2 v3 : Value} {d0 d1 d2 d3 : DataW H} {p0 p1 p2 p3 : List MemPlace} (hL : laidMetH Tryd.prog laid W) (hx0 : Value.okWide Tryd.prog W .any base 22 v0) (h0 : DataW.Trod enc Tryd.prog W 0 (fun _ => true) true 22 v0 d0 p0) (hx1 : Value.okWide Tryd.prog W .any base 38 v1) (h1 : DataW.Trod enc Tryd.prog W 0 (fun _ => true) true 38 v1 d1 p1) (hx2 : Value.okWide Tryd.prog W .any base 22 v2) (h2 : DataW.Trod enc Tryd.prog W 0 (fun _ => true) true 22 v2 d2 p2) (hx3 : Value.okWide Tryd.prog W .any base 9 v3) (h3 : DataW.Trod enc Tryd.prog W 0 (fun _ => true) true 9 v3 d3 p3) : Calls Tryd.prog 8 #[v0, v1, v2, v3] W fun e W' => e = .returned (.bool true) ∧ Below W.heap.size W W' := by
  obtain ⟨fu0, f0⟩ := h0
  obtain ⟨w0, l0, ew0, sl0, y0, z0⟩ := AM.open_strs Tryd.underlying22 Tryd.underlying9 (by kernel_rfl) f0
  obtain rfl := @AM.slice_of Tryd.prog _ _ .any 22 9 _ _ Tryd.underlying22 hx0 ew0
  obtain ⟨x0, a0, c0, -, A0⟩ := arg_strs sl0 0
  have C0 := A0
  obtain ⟨fu1, f1⟩ := h1
  obtain ⟨w1, l1, ew1, sl1, y1, z1⟩ := open_rows Tryd.underlying38 Tryd.underlying22 Tryd.underlying9 (by kernel_rfl) (by kernel_rfl) f1
  obtain rfl := @AM.slice_of Tryd.prog _ _ .any 38 22 _ _ Tryd.underlying38 hx1 ew1
  obtain ⟨L1, a1, c1, A1⟩ := arg_rows sl1 y1 (0 + ([x0] : List (AM.AObj × AM.Loc)).length)
  have C1 := C0.and A1
  obtain ⟨fu2, f2⟩ := h2
  obtain ⟨w2, l2, ew2, sl2, y2, z2⟩ := AM.open_strs Tryd.underlying22 Tryd.underlying9 (by kernel_rfl) f2
  obtain rfl := @AM.slice_of Tryd.prog _ _ .any 22 9 _ _ Tryd.underlying22 hx2 ew2
  obtain ⟨x2, a2, c2, -, A2⟩ := arg_strs sl2 (0 + (([x0] ++ L1) : List (AM.AObj × AM.Loc)).length)
  have C2 := C1.and A2
  obtain ⟨⟨⟨s3⟩⟩, rfl, rfl, rfl, y3⟩ := open_string Tryd.underlying9 hx3 h3
  have y3 : s3.length ≤ 9223372036854775807 := y3
  obtain ⟨⟨ty, frz, g0⟩, ⟨ty2, frz2, g1⟩⟩ := globs hL
  obtain ⟨hl, ⟨⟨⟨s0, r0⟩, ⟨s1, r1⟩⟩, ⟨s2, r2⟩⟩⟩ := C2.all ty ty2
  exact AM.calls_of_ACall_mem (fn := Tryd.f8) rfl rfl rfl (rep g0 g1 hl C2.1) (args := [.slice a0 l0.length c0, .slice a1 (l1.map Prod.fst).length c1, .slice a2 l2.length c2, .string ⟨s3.toArray⟩]) (AM.LRel.cons' r0 (AM.LRel.cons' r1 (AM.LRel.cons' r2 (AM.LRel.cons' (.string _) (AM.LRel.nil' _))))) (AM.memOf_wrt (wrtL C2.1)) (AM.ACall.mono (lawHolds _ (glob ty ty2 _) a0 c0 l0 s0.str z0 y0 a1 c1 (l1.map Prod.fst) s1 (by simpa using z1) a2 c2 l2 s2 z2 y2 s3 y3) fun r m' h => h.1)
set_option maxRecDepth 100000 in
set_option maxHeartbeats 800000 in
theorem lifted (os : Os) (started : os.Started) (H : Type) (enc : TypeId × Value → H) :
    ReturnsInHanded {} Tryd.checked os 8 .any (fun w args => (Rows.drvHoldsSpec.pre enc Tryd.prog Tryd.f8 Rows.drvHoldsRow.domain false w args ∧ laidMetH Tryd.prog laid w) ∧ sizedMet enc Tryd.prog Tryd.f8 (OpenSpec.ofChange Rows.drvHoldsSpec) false w args)
      (Rows.drvHoldsSpec.post enc Tryd.prog Tryd.f8 false true false false) := by
  refine returnsInHanded_of_change_and (C := Tryd.checked) (X := fun w _ => laidMetH Tryd.prog laid w) (fun _ _ _ hh h => h.of_heap hh) own started (by kernel_rfl) Tryd.func8
    (ChangeSpec.witness_at (enc := enc) (C := Tryd.checked) (os := os) (X := fun w _ => laidMetH Tryd.prog laid w) false (laidWorld os) #[.slice none 0 0, .slice none 0 0, .slice none 0 0, .string ByteArray.empty] 8 rfl (by kernel_rfl) (by kernel_rfl) (by kernel_rfl) (by kernel_rfl) (by kernel_rfl) (laidWorld_met os _)) ?_
  intro W base args ds gs before hval0 hW hcnd hsz0 hL _
  have hval : ∀ (j : Nat) t v, Tryd.f8.params[j]? = some t → args[j]? = some v → Value.okWide Tryd.prog W .any base t v := hval0
  have hW' := hW
  obtain ⟨p, q, hA0, hV, rfl, hfz, hnd⟩ := hW
  have hA : DataW.TrodAll enc Tryd.prog W 0 (fun _ => true) true Tryd.f8.params.toList args.toList ds p := hA0
  rw [Tryd.params8] at hA hval
  obtain ⟨v0, vs0, d0, ds0, p0, q0, hargs, rfl, rfl, h0, r0⟩ := trodAll_cons hA
  obtain ⟨v1, vs1, d1, ds1, p1, q1, rfl, rfl, rfl, h1, r1⟩ := trodAll_cons r0
  obtain ⟨v2, vs2, d2, ds2, p2, q2, rfl, rfl, rfl, h2, r2⟩ := trodAll_cons r1
  obtain ⟨v3, vs3, d3, ds3, p3, q3, rfl, rfl, rfl, h3, r3⟩ := trodAll_cons r2
  obtain ⟨rfl, rfl, rfl⟩ := trodAll_nil r3
  obtain rfl : args = #[v0, v1, v2, v3] := by cases args; simp_all
  obtain ⟨rfl, rfl⟩ := trodVars_none hV
  have k0 := h0
  have lt0 : ∀ x ∈ p0, x.block < W.heap.size := by obtain ⟨m, hm⟩ := k0; exact DataW.trod_lt m _ _ _ hm
  have hx0 := hval 0 22 v0 rfl rfl
  have k1 := h1
  have lt1 : ∀ x ∈ p1, x.block < W.heap.size := by obtain ⟨m, hm⟩ := k1; exact DataW.trod_lt m _ _ _ hm
  have hx1 := hval 1 38 v1 rfl rfl
  have k2 := h2
  have lt2 : ∀ x ∈ p2, x.block < W.heap.size := by obtain ⟨m, hm⟩ := k2; exact DataW.trod_lt m _ _ _ hm
  have hx2 := hval 2 22 v2 rfl rfl
  have k3 := h3
  have lt3 : ∀ x ∈ p3, x.block < W.heap.size := by obtain ⟨m, hm⟩ := k3; exact DataW.trod_lt m _ _ _ hm
  have hx3 := hval 3 9 v3 rfl rfl
  clear hA0 hval0 hsz0
  refine (run hL hx0 h0 hx1 h1 hx2 h2 hx3 h3).mono fun e W' ⟨he, bel⟩ => ?_
  subst he
  exact ⟨_, rfl, _, _, _, [], _, [], hW', trodAll_mk1 (shut_bool Tryd.underlying4 _), (trodAll_cons_mk (Below.trod laidOut (by kernel_rfl) (of_decide_eq_true (by kernel_rfl)) k0 bel lt0) (trodAll_cons_mk (Below.trod laidOut (by kernel_rfl) (of_decide_eq_true (by kernel_rfl)) k1 bel lt1) (trodAll_cons_mk (Below.trod laidOut (by kernel_rfl) (of_decide_eq_true (by kernel_rfl)) k2 bel lt2) (trodAll_cons_mk (Below.trod laidOut (by kernel_rfl) (of_decide_eq_true (by kernel_rfl)) k3 bel lt3) trodAll_mk0)))), rfl, bel.frame _, fun h => by cases h⟩
theorem over : Rows.drvHoldsRow.holds Tryd.pinned (OpenSpec.ofChange Rows.drvHoldsSpec) :=
  OpenClaim.holds_of_wide 8 Tryd.f8 rfl rfl rfl rfl rfl rfl rfl ⟨rfl, rfl, rfl, rfl, rfl⟩ rfl rfl rfl rfl rfl (by kernel_rfl) Tryd.func8 (by kernel_rfl)
    (of_decide_eq_true (by kernel_rfl)) (by unfold Func.isWrapper; first | (rw [if_pos (by decide +kernel)]; kernel_rfl) | (rw [if_neg (by decide +kernel)]; exact ⟨rfl, rfl⟩))
    (fun os started H enc _ => lifted os started H enc)
theorem proved : Rows.DrvHoldsCardSaid :=
  Claim7.holds_tied_plain_at .later [] [.data, .data] true (true, "c1eb432d03475d555d2433174795e0dd49b8b19404f2321c6fd621654867a84d") false over (fun _ h => by cases h) (by kernel_rfl) (fun _ h => by cases h) drvHolds_row_tie rfl ⟨rfl, rfl⟩ (by kernel_rfl) rfl
    (fun f fn hf hfn => by
      obtain rfl : f = 8 := Option.some.inj ((show Tryd.prog.funcNamed "tithebarn/tithebarnlaw24.DrvHolds" = some 8 by kernel_rfl).symm.trans hf) |>.symm
      obtain rfl : fn = Tryd.f8 := (Option.some.inj (Tryd.func8.symm.trans hfn)).symm
      exact ⟨by kernel_rfl, fun j t ht => by
        rw [Tryd.params8] at ht
        have hm : t ∈ ([22, 38, 22, 9] : List TypeId) := by simpa using Array.mem_of_getElem? ht
        have hall : (([22, 38, 22, 9] : List TypeId).all fun u => !Tryd.prog.wantsStandIn u) = true := by kernel_rfl
        exact (show Tryd.prog.wantsStandIn t = false by simpa using List.all_eq_true.1 hall t hm)⟩)
    (by kernel_rfl)
end Go.Proofs.YtgkmlbkocgjmmaaDoor.drvHolds
