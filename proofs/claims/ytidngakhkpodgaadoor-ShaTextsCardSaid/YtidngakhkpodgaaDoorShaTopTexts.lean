/- ShaTexts: for every digest and text, the law returns true and the input reads as before, in a program whose listed package variables are as its text lays them. No conditions. -/
import Derived.Test.YtidngakhkpodgaaDoorB5
import Derived.Test.YtidngakhkpodgaaDoorCards
import Derived.Test.YtidngakhkpodgaaDoorTie
import Derived.WalkKit
import Derived.ProofKit
import Derived.OpenShut
import Derived.ShutString
import Derived.ChangeOld
import Derived.Below
import Derived.SizedLaws
import Derived.Handed
import Derived.JoinedOf
import Derived.SevenTiedAt
set_option linter.unusedVariables false
set_option linter.unusedSimpArgs false
set_option linter.unnecessarySimpa false
namespace Go.Proofs.YtidngakhkpodgaaDoor.shaTexts
open Go.ChangeShapes Go.WideShapes Go.ChangeAt Go.RowKit
open Go.ChangeMaps (open_string shut_string)
set_option linter.unusedVariables false
theorem own : ownKnob Tryd.prog.godebug = none := by kernel_rfl
theorem laidOut : laidOutB Tryd.prog = true := by kernel_rfl
abbrev laid : List (String × DataW Unit) := [("tithebarn/sha.constants", Rows.laid_tithebarn_sha_constants), ("tithebarn/sha.begin", Rows.laid_tithebarn_sha_begin)]

/-- The listed variables, where they lie. -/
theorem globs {W : World} (h : laidMetH Tryd.prog laid W) : (∃ ty frz, W.heap[0]? = some (.cells (AM.constW.map AM.w32).toArray ty frz)) ∧ ∃ ty frz, W.heap[1]? = some (.cells (AM.beginW.map AM.w32).toArray ty frz) := by
  rw [MakeChecks.laidMetH_plain _ _ _ (by kernel_rfl)] at h
  obtain ⟨ps, ⟨g, t, cs, fuel, p, q, hg, ht, hv, hd, ⟨g2, t2, cs2, fuel2, p2, q2, hg2, ht2, hv2, hd2, _, _⟩, _⟩, _, _⟩ := h
  have k0 : Tryd.prog.globalNamed "tithebarn/sha.constants" = some 0 := by kernel_rfl
  have k1 : Tryd.prog.globalNamed "tithebarn/sha.begin" = some 1 := by kernel_rfl
  obtain rfl := Option.some.inj (k0.symm.trans hg)
  obtain rfl := Option.some.inj (k1.symm.trans hg2)
  obtain rfl := Option.some.inj ((show (Tryd.prog.globals[0]?).map (·.type) = some 66 by kernel_rfl).symm.trans ht)
  obtain rfl := Option.some.inj ((show (Tryd.prog.globals[1]?).map (·.type) = some 31 by kernel_rfl).symm.trans ht2)
  obtain ⟨ty, frz, h1, rfl⟩ := AM.laid_words (zs := AM.constW) k0 hv Tryd.underlying66 Tryd.underlying30 (by kernel_rfl) (by kernel_rfl) hd
  obtain ⟨ty2, frz2, h2, rfl⟩ := AM.laid_words (zs := AM.beginW) k1 hv2 Tryd.underlying31 Tryd.underlying30 (by kernel_rfl) (by kernel_rfl) hd2
  exact ⟨⟨ty, frz, h1⟩, ⟨ty2, frz2, h2⟩⟩

/-- A world in which they are as listed. -/
noncomputable def laidWorld (os : Os) : World :=
  let w0 := World.holding Tryd.prog os ⟨#[], #[], []⟩
  { w0 with heap := (w0.heap.modify 0 fun
      | .cells _ t frozen => .cells (AM.constW.map AM.w32).toArray t frozen
      | o => o).modify 1 fun
      | .cells _ t frozen => .cells (AM.beginW.map AM.w32).toArray t frozen
      | o => o }
theorem laidWorld_met (os : Os) (args : Array Value) : laidMetH Tryd.prog laid ((laidWorld os).forCall (fun _ _ => 0) ⟨#[], args, []⟩).memory := by
  rw [MakeChecks.laidMetH_plain _ _ _ (by kernel_rfl)]
  exact laidMet_of_run' 8 (by kernel_rfl) (by kernel_rfl)

/-- The memory of which the law speaks: the variables. -/
def osOf (ty ty2 : TypeId) : List (AM.AObj × AM.Loc) :=
  [(.cells (AM.constW.map AM.w32) ty false (.full 1), ⟨0, 0, 64, 1⟩), (.cells (AM.beginW.map AM.w32) ty2 false (.full 1), ⟨1, 0, 8, 1⟩), (.dead, ⟨2, 0, 0, 1⟩)]
theorem plain_w (l : List UInt32) : ∀ v ∈ l.map AM.w32, AM.Plain v := fun v hv => by
  simp only [List.mem_map] at hv; obtain ⟨x, _, rfl⟩ := hv; exact AM.plain_w32 _
theorem obj_w {W : World} {ρ : AM.Ren} {g : Nat} {l : List UInt32} {ty : TypeId} {frz : Nat × Nat} (h : W.heap[g]? = some (.cells (l.map AM.w32).toArray ty frz)) {n : Nat} (hn : l.length = n) : AM.ObjRel ρ (.cells (l.map AM.w32) ty false (.full 1)) ⟨g, 0, n, 1⟩ W := by
  have := AM.ObjRel.plain (ρ := ρ) (c := l.map AM.w32) (o := 0) (e := ty) h (by simp) (fun j hj => by simp [hj]; simp at hj; simp [hj]) (plain_w l) 1 (by omega)
  rwa [List.length_map, hn] at this
theorem rep {W : World} {ty ty2 : TypeId} {frz frz2 : Nat × Nat} (h0 : W.heap[0]? = some (.cells (AM.constW.map AM.w32).toArray ty frz)) (h1 : W.heap[1]? = some (.cells (AM.beginW.map AM.w32).toArray ty2 frz2)) :
    AM.Rep 3 (AM.memOf (osOf ty ty2)) (AM.renOf (osOf ty ty2)) W := by
  refine AM.Rep.of (osOf ty ty2) (fun g hg => ?_) (fun x hx => ?_) (fun x hx => ?_)
  · match g, hg with
    | 0, _ => exact ⟨_, rfl, rfl, rfl⟩
    | 1, _ => exact ⟨_, rfl, rfl, rfl⟩
    | 2, _ => exact ⟨_, rfl, rfl, rfl⟩
  · simp only [osOf, List.mem_cons, List.not_mem_nil, or_false] at hx
    rcases hx with rfl | rfl | rfl
    · exact obj_w h0 rfl
    · exact obj_w h1 rfl
    · trivial
  · simp only [osOf, List.mem_cons, List.not_mem_nil, or_false] at hx
    rcases hx with rfl | rfl | rfl <;> rfl
theorem wrt (ty ty2 : TypeId) (b : Nat) : ((AM.memOf (osOf ty ty2)).get b).wrt = false := by
  refine AM.memOf_wrt (fun x hx => ?_) b
  simp only [osOf, List.mem_cons, List.not_mem_nil, or_false] at hx
  rcases hx with rfl | rfl | rfl <;> rfl
theorem glob (ty ty2 : TypeId) : Glob (AM.memOf (osOf ty ty2)) := ⟨⟨ty, _, rfl⟩, ⟨ty2, _, rfl⟩, Nat.lt_succ_self 2⟩

set_option maxRecDepth 100000 in
theorem lifted (os : Os) (started : os.Started) (H : Type) (enc : TypeId × Value → H) :
    ReturnsInHanded {} Tryd.checked os 6 .any (fun w args => (Rows.shaTextsSpec.pre enc Tryd.prog Tryd.f6 Rows.shaTextsRow.domain false w args ∧ laidMetH Tryd.prog laid w) ∧ sizedMet enc Tryd.prog Tryd.f6 (OpenSpec.ofChange Rows.shaTextsSpec) false w args)
      (Rows.shaTextsSpec.post enc Tryd.prog Tryd.f6 false true false false) := by
  refine returnsInHanded_of_change_and (C := Tryd.checked) (X := fun w _ => laidMetH Tryd.prog laid w) (fun _ _ _ hh h => h.of_heap hh) own started (by kernel_rfl) Tryd.func6
    (ChangeSpec.witness_at (enc := enc) (C := Tryd.checked) (os := os) (X := fun w _ => laidMetH Tryd.prog laid w) false (laidWorld os) #[.agg (Array.replicate 32 (.int .u8 0)), .string ByteArray.empty] 8 rfl (by kernel_rfl) (by kernel_rfl) (by kernel_rfl) (by kernel_rfl) (by kernel_rfl) (laidWorld_met os _)) ?_
  intro W base args ds gs before hval0 hW hcnd hsz0 hL _
  obtain ⟨⟨ty, frz, g0⟩, ⟨ty2, frz2, g1⟩⟩ := globs hL
  have hval : ∀ (j : Nat) t v, Tryd.f6.params[j]? = some t → args[j]? = some v → Value.okWide Tryd.prog W .any base t v := hval0
  have hW' := hW
  obtain ⟨p, q, hA0, hV, rfl, hfz, hnd⟩ := hW
  have hA : DataW.TrodAll enc Tryd.prog W 0 (fun _ => true) true Tryd.f6.params.toList args.toList ds p := hA0
  rw [Tryd.params6] at hA hval
  obtain ⟨v0, vs0, d0, ds0, p0, q0, hargs, rfl, rfl, h0, r0⟩ := trodAll_cons hA
  obtain ⟨v1, vs1, d1, ds1, p1, q1, rfl, rfl, rfl, h1, r1⟩ := trodAll_cons r0
  obtain ⟨rfl, rfl, rfl⟩ := trodAll_nil r1
  obtain rfl : args = #[v0, v1] := by cases args; simp_all
  obtain ⟨rfl, rfl⟩ := trodVars_none hV
  have k0 := h0
  have lt0 : ∀ x ∈ p0, x.block < W.heap.size := by obtain ⟨m, hm⟩ := k0; exact DataW.trod_lt m _ _ _ hm
  obtain ⟨l0, hl0, rfl⟩ := AM.open_byteArr Tryd.underlying25 Tryd.underlying5 (by kernel_rfl) (by kernel_rfl) (hval 0 25 v0 rfl rfl) h0
  obtain ⟨⟨⟨s1⟩⟩, rfl, rfl, rfl, y1⟩ := open_string Tryd.underlying9 (hval 1 9 v1 rfl rfl) h1
  clear hA0 hval0 hsz0
  have hpl : ∀ v ∈ (#[.agg (l0.map AM.byteV).toArray, .string ⟨⟨s1⟩⟩] : Array Value).toList, AM.Plain v := by intro v hv; simp at hv; rcases hv with rfl | rfl <;> first | exact AM.Plain.string _ | exact AM.plain_bytes _
  refine (AM.calls_of_ACall_mem (fn := Tryd.f6) rfl rfl rfl (rep g0 g1) ⟨rfl, fun i a b => hpl _ (List.getElem_mem a) _⟩ (wrt ty ty2) (AM.ACall.mono (lawTexts _ (glob ty ty2) l0 hl0 s1) fun r m' h => h.1)).mono fun e W' ⟨he, bel⟩ => ?_
  subst he
  exact ⟨_, rfl, _, _, _, [], _, [], hW', trodAll_mk1 (shut_bool Tryd.underlying4 _), (trodAll_cons_mk (Below.trod laidOut (by kernel_rfl) (of_decide_eq_true (by kernel_rfl)) k0 bel lt0) (trodAll_cons_mk (shut_string Tryd.underlying9 y1) trodAll_mk0)), rfl, bel.frame _, fun h => by cases h⟩
theorem over : Rows.shaTextsRow.holds Tryd.pinned (OpenSpec.ofChange Rows.shaTextsSpec) :=
  OpenClaim.holds_of_wide 6 Tryd.f6 rfl rfl rfl rfl rfl rfl rfl ⟨rfl, rfl, rfl, rfl, rfl⟩ rfl rfl rfl rfl rfl (by kernel_rfl) Tryd.func6 (by kernel_rfl)
    (of_decide_eq_true (by kernel_rfl)) (by unfold Func.isWrapper; first | (rw [if_pos (by decide +kernel)]; kernel_rfl) | (rw [if_neg (by decide +kernel)]; exact ⟨rfl, rfl⟩))
    (fun os started H enc _ => lifted os started H enc)
theorem proved : Rows.ShaTextsCardSaid :=
  Claim7.holds_tied_plain_at .later [] [.data, .data] true (true, "172557c6207d509ada26e23995c781066a3bab0ff71d5d3085be3fd125a3968f") false over (fun _ h => by cases h) (by kernel_rfl) (fun _ h => by cases h) shaTexts_row_tie rfl ⟨rfl, rfl⟩ (by kernel_rfl) rfl
    (fun f fn hf hfn => by
      obtain rfl : f = 6 := Option.some.inj ((show Tryd.prog.funcNamed "tithebarn/tithebarnlaw02.ShaTexts" = some 6 by kernel_rfl).symm.trans hf) |>.symm
      obtain rfl : fn = Tryd.f6 := (Option.some.inj (Tryd.func6.symm.trans hfn)).symm
      exact ⟨by kernel_rfl, fun j t ht => by
        rw [Tryd.params6] at ht
        have hm : t ∈ [25, 9] := by simpa using Array.mem_of_getElem? ht
        have hall : ([25, 9].all fun u => !Tryd.prog.wantsStandIn u) = true := by kernel_rfl
        exact (show Tryd.prog.wantsStandIn t = false by simpa using List.all_eq_true.1 hall t hm)⟩)
    (by kernel_rfl)
end Go.Proofs.YtidngakhkpodgaaDoor.shaTexts
