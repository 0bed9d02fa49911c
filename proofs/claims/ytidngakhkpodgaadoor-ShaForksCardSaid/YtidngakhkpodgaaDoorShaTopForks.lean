/- ShaForks: for every row of bytes, the law returns true and the input reads as before, in a program whose listed package variables are as its text lays them. No conditions. -/
import Derived.Test.YtidngakhkpodgaaDoorB6
import Derived.Test.YtidngakhkpodgaaDoorCards
import Derived.Test.YtidngakhkpodgaaDoorTie
import Derived.SevenTiedAt
set_option linter.unusedVariables false
set_option linter.unusedSimpArgs false
set_option linter.unnecessarySimpa false
namespace Go.Proofs.YtidngakhkpodgaaDoor.shaForks
open Go.ChangeShapes Go.WideShapes Go.ChangeAt Go.RowKit gl
open Go.ChangeMaps (open_string shut_string)
set_option linter.unusedVariables false

theorem slice_of {W : World} {base : Nat} {v w : Value} (hx : Cell.okWide Tryd.prog W .any base 28 v) (h : v.cells.toList = [w]) : v = w := by
  cases v with
  | agg cs => simp [Cell.okWide, Tryd.underlying28, Cell.ok] at hx
  | _ => simpa [Value.cells] using h
theorem run {H : Type} {enc : TypeId × Value → H} {W : World} {base : Nat} {v0 v1 v2 : Value} {d0 d1 d2 : DataW H} {p0 p1 p2 : List MemPlace} (hL : laidMetH Tryd.prog laid W)
    (hx0 : Cell.okWide Tryd.prog W .any base 28 v0) (hx1 : Cell.okWide Tryd.prog W .any base 28 v1) (hx2 : Cell.okWide Tryd.prog W .any base 28 v2)
    (h0 : DataW.Trod enc Tryd.prog W 0 (fun _ => true) true 28 v0 d0 p0) (h1 : DataW.Trod enc Tryd.prog W 0 (fun _ => true) true 28 v1 d1 p1) (h2 : DataW.Trod enc Tryd.prog W 0 (fun _ => true) true 28 v2 d2 p2) :
    Calls Tryd.prog 5 #[v0, v1, v2] W fun e W' => e = .returned (.bool true) ∧ Below W.heap.size W W' := by
  obtain ⟨⟨ty, frz, g0⟩, ⟨ty2, frz2, g1⟩⟩ := globs hL
  obtain ⟨fuel0, f0⟩ := h0
  obtain ⟨w0, ew0, hs0⟩ := AM.open_bss Tryd.underlying28 Tryd.underlying22 Tryd.underlying5 (by kernel_rfl) (by kernel_rfl) f0
  obtain rfl := slice_of hx0 ew0
  obtain ⟨fuel1, f1⟩ := h1
  obtain ⟨w1, ew1, hs1⟩ := AM.open_bss Tryd.underlying28 Tryd.underlying22 Tryd.underlying5 (by kernel_rfl) (by kernel_rfl) f1
  obtain rfl := slice_of hx1 ew1
  obtain ⟨fuel2, f2⟩ := h2
  obtain ⟨w2, ew2, hs2⟩ := AM.open_bss Tryd.underlying28 Tryd.underlying22 Tryd.underlying5 (by kernel_rfl) (by kernel_rfl) f2
  obtain rfl := slice_of hx2 ew2
  obtain ⟨lA, a, cap, la, n0, wA, hA⟩ := arg_bss hs0 ty ty2 0
  obtain ⟨lB, a1, cap1, lo, n1, wB, hB⟩ := arg_bss hs1 ty ty2 lA.length
  obtain ⟨lC, a2, cap2, lt, n2, wC, hC⟩ := arg_bss hs2 ty ty2 (lA ++ lB).length
  obtain ⟨xA, bA, rA⟩ := hA [] (lB ++ lC) rfl
  obtain ⟨xB, bB, rB⟩ := hB lA lC rfl
  obtain ⟨xC, bC, rC⟩ := hC (lA ++ lB) [] rfl
  rw [List.nil_append] at xA bA rA
  rw [List.append_nil, List.append_assoc] at xC bC rC
  have hl : ∀ x ∈ lA ++ (lB ++ lC), AM.ObjRel (AM.renOf (osOf ty ty2 (lA ++ (lB ++ lC)))) x.1 x.2 W := fun x hx => by
    simp only [List.mem_append] at hx
    rcases hx with h | h | h
    · exact xA x h
    · exact xB x h
    · exact xC x h
  have hlw : ∀ x ∈ lA ++ (lB ++ lC), x.1.wrt = false := fun x hx => by
    simp only [List.mem_append] at hx
    rcases hx with h | h | h
    · exact wA x h
    · exact wB x h
    · exact wC x h
  exact AM.calls_of_ACall_mem (fn := Tryd.f5) rfl rfl rfl (rep g0 g1 hl hlw) (args := [.slice a la.length cap, .slice a1 lo.length cap1, .slice a2 lt.length cap2]) ⟨rfl, fun i h h' => by
      match i, h, h' with
      | 0, _, _ => exact rA
      | 1, _, _ => exact rB
      | 2, _, _ => exact rC⟩ (AM.memOf_wrt (wrtL hlw)) (AM.ACall.mono (lawForks _ (glob ty ty2 _) a cap la bA n0 a1 cap1 lo bB n1 a2 cap2 lt bC n2) fun r m' h => h.1)
set_option maxRecDepth 100000 in
set_option maxHeartbeats 800000 in
theorem lifted (os : Os) (started : os.Started) (H : Type) (enc : TypeId × Value → H) :
    ReturnsInHanded {} Tryd.checked os 5 .any (fun w args => (Rows.shaForksSpec.pre enc Tryd.prog Tryd.f5 Rows.shaForksRow.domain false w args ∧ laidMetH Tryd.prog laid w) ∧ sizedMet enc Tryd.prog Tryd.f5 (OpenSpec.ofChange Rows.shaForksSpec) false w args)
      (Rows.shaForksSpec.post enc Tryd.prog Tryd.f5 false true false false) := by
  refine returnsInHanded_of_change_and (C := Tryd.checked) (X := fun w _ => laidMetH Tryd.prog laid w) (fun _ _ _ hh h => h.of_heap hh) own started (by kernel_rfl) Tryd.func5
    (ChangeSpec.witness_at (enc := enc) (C := Tryd.checked) (os := os) (X := fun w _ => laidMetH Tryd.prog laid w) false (laidWorld os) #[.slice none 0 0, .slice none 0 0, .slice none 0 0] 8 rfl (by kernel_rfl) (by kernel_rfl) (by kernel_rfl) (by kernel_rfl) (by kernel_rfl) (laidWorld_met os _)) ?_
  intro W base args ds gs before hval0 hW hcnd hsz0 hL _
  have hval : ∀ (j : Nat) t v, Tryd.f5.params[j]? = some t → args[j]? = some v → Value.okWide Tryd.prog W .any base t v := hval0
  have hW' := hW
  obtain ⟨p, q, hA0, hV, rfl, hfz, hnd⟩ := hW
  have hA : DataW.TrodAll enc Tryd.prog W 0 (fun _ => true) true Tryd.f5.params.toList args.toList ds p := hA0
  rw [Tryd.params5] at hA hval
  obtain ⟨v0, vs0, d0, ds0, p0, q0, hargs, rfl, rfl, h0, r0⟩ := trodAll_cons hA
  obtain ⟨v1, vs1, d1, ds1, p1, q1, rfl, rfl, rfl, h1, r1⟩ := trodAll_cons r0
  obtain ⟨v2, vs2, d2, ds2, p2, q2, rfl, rfl, rfl, h2, r2⟩ := trodAll_cons r1
  obtain ⟨rfl, rfl, rfl⟩ := trodAll_nil r2
  obtain rfl : args = #[v0, v1, v2] := by cases args; simp_all
  obtain ⟨rfl, rfl⟩ := trodVars_none hV
  have k0 := h0
  have lt0 : ∀ x ∈ p0, x.block < W.heap.size := by obtain ⟨m, hm⟩ := k0; exact DataW.trod_lt m _ _ _ hm
  have hx0 := hval 0 28 v0 rfl rfl
  simp only [Value.okWide, Tryd.underlying28] at hx0
  have k1 := h1
  have lt1 : ∀ x ∈ p1, x.block < W.heap.size := by obtain ⟨m, hm⟩ := k1; exact DataW.trod_lt m _ _ _ hm
  have hx1 := hval 1 28 v1 rfl rfl
  simp only [Value.okWide, Tryd.underlying28] at hx1
  have k2 := h2
  have lt2 : ∀ x ∈ p2, x.block < W.heap.size := by obtain ⟨m, hm⟩ := k2; exact DataW.trod_lt m _ _ _ hm
  have hx2 := hval 2 28 v2 rfl rfl
  simp only [Value.okWide, Tryd.underlying28] at hx2
  clear hA0 hval0 hsz0
  refine (run hL hx0 hx1 hx2 h0 h1 h2).mono fun e W' ⟨he, bel⟩ => ?_
  subst he
  exact ⟨_, rfl, _, _, _, [], _, [], hW', trodAll_mk1 (shut_bool Tryd.underlying4 _), (trodAll_cons_mk (Below.trod laidOut (by kernel_rfl) (of_decide_eq_true (by kernel_rfl)) k0 bel lt0) (trodAll_cons_mk (Below.trod laidOut (by kernel_rfl) (of_decide_eq_true (by kernel_rfl)) k1 bel lt1) (trodAll_cons_mk (Below.trod laidOut (by kernel_rfl) (of_decide_eq_true (by kernel_rfl)) k2 bel lt2) trodAll_mk0))), rfl, bel.frame _, fun h => by cases h⟩
theorem over : Rows.shaForksRow.holds Tryd.pinned (OpenSpec.ofChange Rows.shaForksSpec) :=
  OpenClaim.holds_of_wide 5 Tryd.f5 rfl rfl rfl rfl rfl rfl rfl ⟨rfl, rfl, rfl, rfl, rfl⟩ rfl rfl rfl rfl rfl (by kernel_rfl) Tryd.func5 (by kernel_rfl)
    (of_decide_eq_true (by kernel_rfl)) (by unfold Func.isWrapper; first | (rw [if_pos (by decide +kernel)]; kernel_rfl) | (rw [if_neg (by decide +kernel)]; exact ⟨rfl, rfl⟩))
    (fun os started H enc _ => lifted os started H enc)
theorem proved : Rows.ShaForksCardSaid :=
  Claim7.holds_tied_plain_at .later [] [.data, .data] true (true, "172557c6207d509ada26e23995c781066a3bab0ff71d5d3085be3fd125a3968f") false over (fun _ h => by cases h) (by kernel_rfl) (fun _ h => by cases h) shaForks_row_tie rfl ⟨rfl, rfl⟩ (by kernel_rfl) rfl
    (fun f fn hf hfn => by
      obtain rfl : f = 5 := Option.some.inj ((show Tryd.prog.funcNamed "tithebarn/tithebarnlaw02.ShaForks" = some 5 by kernel_rfl).symm.trans hf) |>.symm
      obtain rfl : fn = Tryd.f5 := (Option.some.inj (Tryd.func5.symm.trans hfn)).symm
      exact ⟨by kernel_rfl, fun j t ht => by
        rw [Tryd.params5] at ht
        have hm : t ∈ [28, 28, 28] := by simpa using Array.mem_of_getElem? ht
        have hall : ([28, 28, 28].all fun u => !Tryd.prog.wantsStandIn u) = true := by kernel_rfl
        exact (show Tryd.prog.wantsStandIn t = false by simpa using List.all_eq_true.1 hall t hm)⟩)
    (by kernel_rfl)
end Go.Proofs.YtidngakhkpodgaaDoor.shaForks
