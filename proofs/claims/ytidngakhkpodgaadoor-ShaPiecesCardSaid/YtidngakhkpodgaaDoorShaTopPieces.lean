/- ShaPieces: for every row of bytes, the law returns true and the input reads as before, in a program whose listed package variables are as its text lays them. No conditions. -/
import Derived.Test.YtidngakhkpodgaaDoorB6
import Derived.Test.YtidngakhkpodgaaDoorB5
import Derived.Test.YtidngakhkpodgaaDoorCards
import Derived.Test.YtidngakhkpodgaaDoorTie
import Derived.SevenTiedAt
set_option linter.unusedVariables false
set_option linter.unusedSimpArgs false
set_option linter.unnecessarySimpa false
namespace Go.Proofs.YtidngakhkpodgaaDoor.shaPieces
open Go.ChangeShapes Go.WideShapes Go.ChangeAt Go.RowKit gl
open Go.ChangeMaps (open_string shut_string)
set_option linter.unusedVariables false

theorem slice_of {W : World} {base : Nat} {v w : Value} (hx : Cell.okWide Tryd.prog W .any base 28 v) (h : v.cells.toList = [w]) : v = w := by
  cases v with
  | agg cs => simp [Cell.okWide, Tryd.underlying28, Cell.ok] at hx
  | _ => simpa [Value.cells] using h
theorem run {H : Type} {enc : TypeId × Value → H} {W : World} {base : Nat} {v0 : Value} {d0 : DataW H} {p0 : List MemPlace} (hL : laidMetH Tryd.prog laid W) (hx0 : Cell.okWide Tryd.prog W .any base 28 v0)
    (h0 : DataW.Trod enc Tryd.prog W 0 (fun _ => true) true 28 v0 d0 p0) : Calls Tryd.prog 4 #[v0] W fun e W' => e = .returned (.bool true) ∧ Below W.heap.size W W' := by
  obtain ⟨⟨ty, frz, g0⟩, ⟨ty2, frz2, g1⟩⟩ := globs hL
  obtain ⟨fuel0, f0⟩ := h0
  obtain ⟨w0, ew0, hs0⟩ := AM.open_bss Tryd.underlying28 Tryd.underlying22 Tryd.underlying5 (by kernel_rfl) (by kernel_rfl) f0
  obtain rfl := slice_of hx0 ew0
  obtain ⟨l, a, cap, ls, hlen, hlw, hA⟩ := arg_bss hs0 ty ty2 0
  obtain ⟨hl, hB, hVR⟩ := hA [] [] rfl
  rw [List.nil_append, List.append_nil] at hl hB hVR
  exact AM.calls_of_ACall_mem (fn := Tryd.f4) rfl rfl rfl (rep g0 g1 hl hlw) (args := [.slice a ls.length cap]) ⟨rfl, fun i h h' => by
      have : i = 0 := by simp at h; omega
      subst this; exact hVR⟩ (AM.memOf_wrt (wrtL hlw)) (AM.ACall.mono (lawPieces _ (glob ty ty2 l) a cap ls hB hlen) fun r m' h => h.1)
set_option maxRecDepth 100000 in
set_option maxHeartbeats 800000 in
theorem lifted (os : Os) (started : os.Started) (H : Type) (enc : TypeId × Value → H) :
    ReturnsInHanded {} Tryd.checked os 4 .any (fun w args => (Rows.shaPiecesSpec.pre enc Tryd.prog Tryd.f4 Rows.shaPiecesRow.domain false w args ∧ laidMetH Tryd.prog laid w) ∧ sizedMet enc Tryd.prog Tryd.f4 (OpenSpec.ofChange Rows.shaPiecesSpec) false w args)
      (Rows.shaPiecesSpec.post enc Tryd.prog Tryd.f4 false true false false) := by
  refine returnsInHanded_of_change_and (C := Tryd.checked) (X := fun w _ => laidMetH Tryd.prog laid w) (fun _ _ _ hh h => h.of_heap hh) own started (by kernel_rfl) Tryd.func4
    (ChangeSpec.witness_at (enc := enc) (C := Tryd.checked) (os := os) (X := fun w _ => laidMetH Tryd.prog laid w) false (laidWorld os) #[.slice none 0 0] 8 rfl (by kernel_rfl) (by kernel_rfl) (by kernel_rfl) (by kernel_rfl) (by kernel_rfl) (laidWorld_met os _)) ?_
  intro W base args ds gs before hval0 hW hcnd hsz0 hL _
  have hval : ∀ (j : Nat) t v, Tryd.f4.params[j]? = some t → args[j]? = some v → Value.okWide Tryd.prog W .any base t v := hval0
  have hW' := hW
  obtain ⟨p, q, hA0, hV, rfl, hfz, hnd⟩ := hW
  have hA : DataW.TrodAll enc Tryd.prog W 0 (fun _ => true) true Tryd.f4.params.toList args.toList ds p := hA0
  rw [Tryd.params4] at hA hval
  obtain ⟨v0, vs0, d0, ds0, p0, q0, hargs, rfl, rfl, h0, r0⟩ := trodAll_cons hA
  obtain ⟨rfl, rfl, rfl⟩ := trodAll_nil r0
  obtain rfl : args = #[v0] := by cases args; simp_all
  obtain ⟨rfl, rfl⟩ := trodVars_none hV
  have k0 := h0
  have lt0 : ∀ x ∈ p0, x.block < W.heap.size := by obtain ⟨m, hm⟩ := k0; exact DataW.trod_lt m _ _ _ hm
  have hx0 := hval 0 28 v0 rfl rfl
  simp only [Value.okWide, Tryd.underlying28] at hx0
  clear hA0 hval0 hsz0
  refine (run hL hx0 h0).mono fun e W' ⟨he, bel⟩ => ?_
  subst he
  exact ⟨_, rfl, _, _, _, [], _, [], hW', trodAll_mk1 (shut_bool Tryd.underlying4 _), (trodAll_cons_mk (Below.trod laidOut (by kernel_rfl) (of_decide_eq_true (by kernel_rfl)) k0 bel lt0) trodAll_mk0), rfl, bel.frame _, fun h => by cases h⟩
theorem over : Rows.shaPiecesRow.holds Tryd.pinned (OpenSpec.ofChange Rows.shaPiecesSpec) :=
  OpenClaim.holds_of_wide 4 Tryd.f4 rfl rfl rfl rfl rfl rfl rfl ⟨rfl, rfl, rfl, rfl, rfl⟩ rfl rfl rfl rfl rfl (by kernel_rfl) Tryd.func4 (by kernel_rfl)
    (of_decide_eq_true (by kernel_rfl)) (by unfold Func.isWrapper; first | (rw [if_pos (by decide +kernel)]; kernel_rfl) | (rw [if_neg (by decide +kernel)]; exact ⟨rfl, rfl⟩))
    (fun os started H enc _ => lifted os started H enc)
theorem proved : Rows.ShaPiecesCardSaid :=
  Claim7.holds_tied_plain_at .later [] [.data, .data] true (true, "172557c6207d509ada26e23995c781066a3bab0ff71d5d3085be3fd125a3968f") false over (fun _ h => by cases h) (by kernel_rfl) (fun _ h => by cases h) shaPieces_row_tie rfl ⟨rfl, rfl⟩ (by kernel_rfl) rfl
    (fun f fn hf hfn => by
      obtain rfl : f = 4 := Option.some.inj ((show Tryd.prog.funcNamed "tithebarn/tithebarnlaw02.ShaPieces" = some 4 by kernel_rfl).symm.trans hf) |>.symm
      obtain rfl : fn = Tryd.f4 := (Option.some.inj (Tryd.func4.symm.trans hfn)).symm
      exact ⟨by kernel_rfl, fun j t ht => by
        rw [Tryd.params4] at ht
        have hm : t ∈ [28] := by simpa using Array.mem_of_getElem? ht
        have hall : ([28].all fun u => !Tryd.prog.wantsStandIn u) = true := by kernel_rfl
        exact (show Tryd.prog.wantsStandIn t = false by simpa using List.all_eq_true.1 hall t hm)⟩)
    (by kernel_rfl)
end Go.Proofs.YtidngakhkpodgaaDoor.shaPieces
