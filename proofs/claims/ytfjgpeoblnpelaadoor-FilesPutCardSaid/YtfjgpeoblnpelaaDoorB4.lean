/- The laws of Name, Right, Same. -/
import Derived.Test.YtfjgpeoblnpelaaDoorB3
import Derived.Test.YtfjgpeoblnpelaaDoorA5
import Derived.Test.YtfjgpeoblnpelaaDoorRows
import Derived.WalkKit
import Derived.ProofKit
import Derived.OpenShut
import Derived.ShutString
import Derived.ChangeOld
import Derived.Below
import Derived.SizedLaws
import Derived.Handed
import Derived.JoinedOf
import Derived.Deep.Slices
set_option linter.unusedVariables false
set_option linter.unusedSimpArgs false
set_option linter.unnecessarySimpa false
namespace Go.Proofs.YtfjgpeoblnpelaaDoor
open Go Go.AM
set_option linter.unusedVariables false
set_option linter.unusedSimpArgs false
set_option maxRecDepth 100000
set_option maxHeartbeats 2000000

theorem weight_gt {t : Tr} {top : Nat} (h : top < t.weight) : (t.weightR top : Int) > (top : Int) := by
  have := (t.weightR_spec top).2.2 h
  omega
theorem weight_le {t : Tr} {top : Nat} (h : t.weight ≤ top) : ¬ (t.weightR top : Int) > (top : Int) := by
  have := (t.weightR_spec top).2.1 h
  omega
end Go.Proofs.YtfjgpeoblnpelaaDoor
namespace Go.Proofs.YtfjgpeoblnpelaaDoor
open Go Go.AM
set_option linter.unusedVariables false
set_option linter.unusedSimpArgs false
set_option maxRecDepth 100000
set_option maxHeartbeats 2000000

theorem zT_count : zT.count = 1 := rfl
theorem putR_count (t : Tr) (l : List UInt8) (x : Tr) : (putR t l x).2.count ≤ t.count + x.count := by
  have := t.count_pos
  have hz : zT.count ≤ t.count + x.count := by rw [zT_count]; omega
  unfold putR
  split
  · split
    · exact hz
    · rename_i ns hns
      split
      · exact hz
      · rename_i w hw
        split
        · exact (putT_le x l.length ns t w (namesR_mem hns) hw).1
        · exact hz
  · exact hz
theorem e1000 : ((1000 : Nat) : Int) = 1000 := rfl
theorem lawPut (m : AMem) (t x : Tr) (c cx : List Value) (l : List UInt8) (hc : TrC m t c) (hx : TrC m x cx) (hl : l.length ≤ 9223372036854775807) : RelC Tryd.prog 3 6 [.agg c.toArray, .string ⟨l.toArray⟩, .agg cx.toArray] m fun v _ => v = .bool true := by
  have hc0 := hc
  have hx0 := hx
  obtain ⟨a, cap, rfl, hE⟩ := hc.ex
  obtain ⟨ax, capx, rfl, hEx⟩ := hx.ex
  have hcc := hc0.old (Old.here m [.cells [.int .u8 t.k, .string ⟨t.d.toArray⟩, .slice a t.es.length cap] 26 true .exact, .cells [.int .u8 x.k, .string ⟨x.d.toArray⟩, .slice ax x.es.length capx] 26 true .exact])
  have hxx := hx0.old (Old.here m [.cells [.int .u8 t.k, .string ⟨t.d.toArray⟩, .slice a t.es.length cap] 26 true .exact, .cells [.int .u8 x.k, .string ⟨x.d.toArray⟩, .slice ax x.es.length capx] 26 true .exact])
  have kW := fun M => DetC.known (works_ok M)
  have k0 := DetC.known (weight_ok t _ _ 1000 hcc (by omega))
  have k1 := DetC.known (weight_ok x _ _ 1000 hxx (by omega))
  refine rel_of_W (fn := Tryd.f6) rfl rfl F6_ok (by simp [F6]) ?_
  by_cases hw : 1000 < t.weight
  · have g := weight_gt hw
    rw [e1000] at k0 k1 g
    repeat first | simp (implicitDefEqProofs := false) (maxSteps := 1000000) (disch := first | omega | with_reducible assumption | (simp only [lenT, Nat.reduceAdd]; omega)) only [amT, cut, bnd, Nat.reduceBEq, reduceCtorEq, Nat.reduceEqDiff, Nat.reduceAdd, Nat.reduceMul, Nat.reduceSub, Int.reduceToNat, Int.reduceEq, Int.reduceLT, Int.reduceLE, Int.reduceAdd, Int.reduceSub, Int.reduceMul, reduceIte, resVs, resV, packV, initT, addr, F6, cellsOf_node, cutL3, k0, k1, g, kW, undef] | refine OrW.go ?_
    exact ⟨_, rfl, fun _ => rfl⟩
  · have g := weight_le (t := t) (top := 1000) (by omega)
    by_cases hw2 : 1000 < x.weight
    · have g2 := weight_gt hw2
      rw [e1000] at k0 k1 g g2
      repeat first | simp (implicitDefEqProofs := false) (maxSteps := 1000000) (disch := first | omega | with_reducible assumption | (simp only [lenT, Nat.reduceAdd]; omega)) only [amT, cut, bnd, Nat.reduceBEq, reduceCtorEq, Nat.reduceEqDiff, Nat.reduceAdd, Nat.reduceMul, Nat.reduceSub, Int.reduceToNat, Int.reduceEq, Int.reduceLT, Int.reduceLE, Int.reduceAdd, Int.reduceSub, Int.reduceMul, reduceIte, resVs, resV, packV, initT, addr, F6, cellsOf_node, cutL3, k0, k1, g, g2, kW, undef] | refine OrW.go ?_
      exact ⟨_, rfl, fun _ => rfl⟩
    · have g2 := weight_le (t := x) (top := 1000) (by omega)
      rw [e1000] at k0 k1 g g2
      by_cases hl2 : (l.length : Int) > 1000
      · repeat first | simp (implicitDefEqProofs := false) (maxSteps := 1000000) (disch := first | omega | with_reducible assumption | (simp only [lenT, Nat.reduceAdd]; omega)) only [amT, cut, bnd, Nat.reduceBEq, reduceCtorEq, Nat.reduceEqDiff, Nat.reduceAdd, Nat.reduceMul, Nat.reduceSub, Int.reduceToNat, Int.reduceEq, Int.reduceLT, Int.reduceLE, Int.reduceAdd, Int.reduceSub, Int.reduceMul, reduceIte, resVs, resV, packV, initT, addr, F6, cellsOf_node, cutL3, k0, k1, g, g2, hl2, kW] | refine OrW.go ?_
        exact ⟨_, rfl, fun _ => rfl⟩
      · have hcw := t.count_le
        have hxw := x.count_le
        have hpc := putR_count t l x
        have hpl := pathsT_len t
        repeat first | simp (implicitDefEqProofs := false) (maxSteps := 1000000) (disch := first | omega | with_reducible assumption | (simp only [lenT, Nat.reduceAdd]; omega)) only [amT, cut, bnd, Nat.reduceBEq, reduceCtorEq, Nat.reduceEqDiff, Nat.reduceAdd, Nat.reduceMul, Nat.reduceSub, Int.reduceToNat, Int.reduceEq, Int.reduceLT, Int.reduceLE, Int.reduceAdd, Int.reduceSub, Int.reduceMul, reduceIte, resVs, resV, packV, initT, addr, F6, cellsOf_node, cutL3, k0, k1, g, g2, hl2, kW] | refine OrW.go ?_
        refine RelC.call (refPaths_ok _ t _ hcc (by omega)) ?_
        rintro v M1 ⟨hO1, a1, cap1, rfl, hS1⟩
        have hz1 := hO1.1
        rw [mx_size] at hz1
        simp only [List.length_cons, List.length_nil] at hz1
        have b1 : M1.get m.size = .cells [.int .u8 t.k, .string ⟨t.d.toArray⟩, .slice a t.es.length cap] 26 true .exact := (hO1.2 _ (by rw [mx_size]; simp)).trans (mx_new0 _ _)
        have bx1 : M1.get (m.size + 1) = .cells [.int .u8 x.k, .string ⟨x.d.toArray⟩, .slice ax x.es.length capx] 26 true .exact := (hO1.2 _ (by rw [mx_size]; simp)).trans (mx_new _ _ 1)
        have s1 : m.size < M1.size := by omega
        have s1' : m.size + 1 < M1.size := by omega
        have kZ := DetC.known (refSize_ok t (mx M1 []) _ (hcc.old (hO1.trans (Old.here M1 []))) (by omega))
        repeat first | simp (implicitDefEqProofs := false) (maxSteps := 1000000) (disch := first | omega | with_reducible assumption | (simp only [lenT, Nat.reduceAdd]; omega)) only [amT, cut, bnd, Nat.reduceBEq, reduceCtorEq, Nat.reduceEqDiff, Nat.reduceAdd, Nat.reduceMul, Nat.reduceSub, Int.reduceToNat, Int.reduceEq, Int.reduceLT, Int.reduceLE, Int.reduceAdd, Int.reduceSub, Int.reduceMul, reduceIte, resVs, resV, packV, initT, addr, cutL3, b1, bx1, s1, s1', kZ] | refine OrW.go ?_
        refine RelC.call (Put_ok M1 _ t x _ _ l (hcc.old hO1) (hxx.old hO1) (Old.here M1 []) (by omega) (by omega) (by omega)) ?_
        rintro v M2 ⟨hO2, c2, rfl, hc2⟩
        have hO12 := (Old.here M1 []).trans hO2
        have hc2' := hc2 M2 (Gap.of ⟨Nat.le_refl _, fun _ _ => rfl⟩)
        have hc2'' := hc2'
        obtain ⟨a2, cap2, rfl, _⟩ := hc2'.ex
        have hz2 := hO12.1
        have b2 := (hO12.2 _ s1).trans b1
        have bx2 := (hO12.2 _ s1').trans bx1
        have s2 : m.size < M2.size := by omega
        have s2' : m.size + 1 < M2.size := by omega
        have hO13 := hO12.trans (Old.here M2 [.cells [.int .u8 (putR t l x).2.k, .string ⟨(putR t l x).2.d.toArray⟩, .slice a2 (putR t l x).2.es.length cap2] 26 true .exact])
        repeat first | simp (implicitDefEqProofs := false) (maxSteps := 1000000) (disch := first | omega | with_reducible assumption | (simp only [lenT, Nat.reduceAdd]; omega)) only [amT, cut, bnd, Nat.reduceBEq, reduceCtorEq, Nat.reduceEqDiff, Nat.reduceAdd, Nat.reduceMul, Nat.reduceSub, Int.reduceToNat, Int.reduceEq, Int.reduceLT, Int.reduceLE, Int.reduceAdd, Int.reduceSub, Int.reduceMul, reduceIte, resVs, resV, packV, initT, addr, cellsOf_node, cutL3, splice3, b2, bx2, s2, s2'] | refine OrW.go ?_
        refine RelC.call (refPutD_ok M1 _ t x _ _ l (hcc.old hO1) (hxx.old hO1) hO13 (by omega) (by omega) (by omega)) ?_
        rintro v M3 ⟨hO3, c3, rfl, hc3⟩
        have hc3' := hc3 M3 (Gap.of ⟨Nat.le_refl _, fun _ _ => rfl⟩)
        have hc3'' := hc3'
        obtain ⟨a3, cap3, rfl, _⟩ := hc3'.ex
        have hz3 := hO3.1
        rw [mx_size] at hz3
        simp only [List.length_cons, List.length_nil] at hz3
        have hO23 := (Old.here M2 _).trans hO3
        have b3 := (hO23.2 _ s2).trans b2
        have s3 : m.size < M3.size := by omega
        have s3' : M2.size < M3.size := by omega
        have d3 := (hO3.2 M2.size (by rw [mx_size]; simp)).trans (mx_new0 M2 _)
        have kS := DetC.known (refSame_ok (putR t l x).2 (putR t l x).2 (mx M3 [.cells [.int .u8 (putR t l x).2.k, .string ⟨(putR t l x).2.d.toArray⟩, .slice a3 (putR t l x).2.es.length cap3] 26 true .exact]) _ _ (hc2''.old (hO23.trans (Old.here M3 _))) (hc3''.old (Old.here M3 _)) (by omega))
        rw [Tr.same_self] at kS
        have hO14 := (hO13.trans hO3).trans (Old.here M3 [.cells [.int .u8 (putR t l x).2.k, .string ⟨(putR t l x).2.d.toArray⟩, .slice a3 (putR t l x).2.es.length cap3] 26 true .exact])
        have kP := refPaths_ok _ t _ (hcc.old (hO1.trans hO14)) (by omega)
        generalize (putR t l x).1 = e at *
        repeat first | simp (implicitDefEqProofs := false) (maxSteps := 1000000) (disch := first | omega | with_reducible assumption | (simp only [lenT, Nat.reduceAdd]; omega)) only [amT, cut, bnd, Nat.reduceBEq, reduceCtorEq, Nat.reduceEqDiff, Nat.reduceAdd, Nat.reduceMul, Nat.reduceSub, Int.reduceToNat, Int.reduceEq, Int.reduceLT, Int.reduceLE, Int.reduceAdd, Int.reduceSub, Int.reduceMul, reduceIte, resVs, resV, packV, initT, addr, cellsOf_node, cutL3, splice3, b3, s3, s3', d3, kS] | refine OrW.go ?_
        refine RelC.call kP ?_
        rintro v M4 ⟨hO4, a4, cap4, rfl, hS4⟩
        have hO34 := (Old.here M3 _).trans hO4
        have hlp : (pathsR t).length ≤ 1000000000 := by
          unfold pathsR
          split
          · omega
          · simp
        have kT := DetC.known (sameTexts_ok (mx M4 []) a1 a4 cap1 cap4 (pathsR t) (pathsR t) ((hS1.old (hO14.trans hO4)).old (Old.here M4 [])) (hS4.old (Old.here M4 [])) hlp)
        rw [decide_eq_true rfl] at kT
        have b4 := (hO34.2 _ s3).trans b3
        have s4 : m.size < M4.size := Nat.lt_of_lt_of_le s3 hO34.1
        have kZ2 := DetC.known (refSize_ok t (mx M4 []) _ (hcc.old (((hO1.trans hO14).trans hO4).trans (Old.here M4 []))) (by omega))
        repeat first | simp (implicitDefEqProofs := false) (maxSteps := 1000000) (disch := first | omega | with_reducible assumption | (simp only [lenT, Nat.reduceAdd]; omega)) only [amT, cut, bnd, Nat.reduceBEq, reduceCtorEq, Nat.reduceEqDiff, Nat.reduceAdd, Nat.reduceMul, Nat.reduceSub, Int.reduceToNat, Int.reduceEq, Int.reduceLT, Int.reduceLE, Int.reduceAdd, Int.reduceSub, Int.reduceMul, reduceIte, resVs, resV, packV, initT, addr, kT, b4, s4, cutL3, kZ2, kW] | refine OrW.go ?_
        exact ⟨_, rfl, fun _ => rfl⟩
theorem lawPutA (m : AMem) (t x : Tr) (c cx : List Value) (l : List UInt8) (hc : TrC m t c) (hx : TrC m x cx) (hl : l.length ≤ 9223372036854775807) : ACall Tryd.prog 3 6 [.agg c.toArray, .string ⟨l.toArray⟩, .agg cx.toArray] m fun r _ => r = .ret (.bool true) ∧ True :=
  ACall.mono (lawPut m t x c cx l hc hx hl) fun r _ ⟨v, h1, h2⟩ => ⟨by rw [h1, h2], trivial⟩
end Go.Proofs.YtfjgpeoblnpelaaDoor
namespace Go.Proofs.YtfjgpeoblnpelaaDoor.gl
open Go.ChangeShapes Go.WideShapes Go.ChangeAt Go.RowKit
set_option linter.unusedVariables false
set_option maxRecDepth 100000
theorem own : ownKnob Tryd.prog.godebug = none := by kernel_rfl
theorem laidOut : laidOutB Tryd.prog = true := by kernel_rfl
abbrev laid : List (String × DataW Unit) := [("unicode/utf8.acceptRanges", Rows.laid_unicode_utf8_acceptRanges), ("unicode/utf8.first", Rows.laid_unicode_utf8_first)]

/-- The third listed variable lies where it should. -/
theorem globs {W : World} (h : laidMetH Tryd.prog laid W) : ∃ cs ty frz, W.heap[2]? = some (.cells cs ty frz) := by
  rw [MakeChecks.laidMetH_plain _ _ _ (by kernel_rfl)] at h
  obtain ⟨ps, ⟨g, t, cs, fuel, p, q, hg, ht, hv, hd, _⟩, _⟩ := h
  have k0 : Tryd.prog.globalNamed "unicode/utf8.acceptRanges" = some 2 := by kernel_rfl
  simp only [World.var?, k0, Option.bind_some] at hv
  split at hv
  · rename_i cs' ty frz hh
    exact ⟨cs', ty, frz, hh⟩
  · cases hv
def accCells : List Value := [128, 191, 160, 191, 128, 159, 144, 191, 128, 143, 0, 0, 0, 0, 0, 0, 0, 0, 0, 0, 0, 0, 0, 0, 0, 0, 0, 0, 0, 0, 0, 0].map fun n => .int .u8 n
/-- A world in which they are as listed. -/
noncomputable def laidWorld (os : Os) : World :=
  let w0 := World.holding Tryd.prog os ⟨#[], #[], []⟩
  { w0 with heap := (w0.heap.modify 2 fun
      | .cells _ t frozen => .cells accCells.toArray t frozen
      | o => o).modify 1 fun
      | .cells _ t frozen => .cells (Go.Pinned.utf8FirstZ.map fun n : Nat => Value.int .u8 (n : Int)).toArray t frozen
      | o => o }
theorem laidWorld_met (os : Os) (args : Array Value) : laidMetH Tryd.prog laid ((laidWorld os).forCall (fun _ _ => 0) ⟨#[], args, []⟩).memory := by
  rw [MakeChecks.laidMetH_plain _ _ _ (by kernel_rfl)]
  exact laidMet_of_run' 8 (by kernel_rfl) (by kernel_rfl)
end Go.Proofs.YtfjgpeoblnpelaaDoor.gl
namespace Go.Proofs.YtfjgpeoblnpelaaDoor.gl
open Go.ChangeShapes Go.WideShapes Go.ChangeAt Go.RowKit
set_option linter.unusedVariables false
set_option maxRecDepth 100000
set_option maxHeartbeats 1000000

/-- The memory of which a law speaks: the variables, and what the arguments lead to. -/
def osOf (ty : TypeId) (l : List (AM.AObj × AM.Loc)) : List (AM.AObj × AM.Loc) :=
  (.dead, ⟨0, 0, 0, 1⟩) :: (.dead, ⟨1, 0, 0, 1⟩) :: (.cells [] ty false (.full 1), ⟨2, 0, 0, 1⟩) :: l
theorem wrtL {ty : TypeId} {l : List (AM.AObj × AM.Loc)} (hl : ∀ x ∈ l, x.1.wrt = false) : ∀ x ∈ osOf ty l, x.1.wrt = false := fun x hx => by
  simp only [osOf, List.mem_cons] at hx
  rcases hx with rfl | rfl | rfl | hx
  · rfl
  · rfl
  · rfl
  · exact hl x hx
theorem rep {W : World} {ty : TypeId} {cs : Array Value} {frz : Nat × Nat} (h : W.heap[2]? = some (.cells cs ty frz))
    {l : List (AM.AObj × AM.Loc)} (hl : ∀ x ∈ l, AM.ObjRel (AM.renOf (osOf ty l)) x.1 x.2 W) (hw : ∀ x ∈ l, x.1.wrt = false) : AM.Rep 3 (AM.memOf (osOf ty l)) (AM.renOf (osOf ty l)) W := by
  refine AM.Rep.of (osOf ty l) (fun g hg => ?_) (fun x hx => ?_) (wrtL hw)
  · match g, hg with
    | 0, _ => exact ⟨_, rfl, rfl, rfl⟩
    | 1, _ => exact ⟨_, rfl, rfl, rfl⟩
    | 2, _ => exact ⟨_, rfl, rfl, rfl⟩
  · simp only [osOf, List.mem_cons] at hx
    rcases hx with rfl | rfl | rfl | hx
    · trivial
    · trivial
    · exact AM.ObjRel.plain (c := []) (o := 0) h (by simp) (fun j hj => by cases hj) (fun v hv => by cases hv) 1 (by omega)
    · exact hl x hx
theorem os_at {ty : TypeId} {l : List (AM.AObj × AM.Loc)} {k : Nat} {x : AM.AObj × AM.Loc} (h : l[k]? = some x) : (osOf ty l)[3 + k]? = some x := by
  rw [Nat.add_comm]; exact h
theorem get_at {ty : TypeId} {l : List (AM.AObj × AM.Loc)} {k : Nat} {x : AM.AObj × AM.Loc} (h : l[k]? = some x) : (AM.memOf (osOf ty l)).get (3 + k) = x.1 := by
  simp only [AM.memOf, os_at h]
theorem ren_at {ty : TypeId} {l : List (AM.AObj × AM.Loc)} {k : Nat} {x : AM.AObj × AM.Loc} (h : l[k]? = some x) : AM.renOf (osOf ty l) (3 + k) = some x.2 := by
  simp only [AM.renOf, os_at h, Option.map_some]
theorem lt_at {ty : TypeId} {l : List (AM.AObj × AM.Loc)} {k : Nat} {x : AM.AObj × AM.Loc} (h : l[k]? = some x) : 3 + k < (AM.memOf (osOf ty l)).size := by
  have := (List.getElem?_eq_some_iff.1 h).1
  show 3 + k < l.length + 1 + 1 + 1; omega

/-- An argument whose blocks are those from the k-th on. -/
def Arg (W : World) (k : Nat) (L : List (AM.AObj × AM.Loc)) (F : AM.AMem → AM.Ren → Prop) : Prop :=
  (∀ x ∈ L, x.1.wrt = false) ∧ ∀ (ty : TypeId) (l : List (AM.AObj × AM.Loc)), (∀ j (h : j < L.length), l[k + j]? = some L[j]) → (∀ x ∈ L, AM.ObjRel (AM.renOf (osOf ty l)) x.1 x.2 W) ∧ F (AM.memOf (osOf ty l)) (AM.renOf (osOf ty l))
theorem Arg.none (W : World) (k : Nat) : Arg W k [] fun _ _ => True := ⟨(fun x h => by cases h), fun ty l _ => ⟨(fun x h => by cases h), trivial⟩⟩
theorem Arg.and {W : World} {k : Nat} {L1 L2 : List (AM.AObj × AM.Loc)} {F1 F2 : AM.AMem → AM.Ren → Prop} (h1 : Arg W k L1 F1) (h2 : Arg W (k + L1.length) L2 F2) : Arg W k (L1 ++ L2) fun m ρ => F1 m ρ ∧ F2 m ρ := by
  refine ⟨fun x hx => (List.mem_append.1 hx).elim (h1.1 x) (h2.1 x), fun ty l hl => ?_⟩
  obtain ⟨a1, b1⟩ := h1.2 ty l fun j h => by rw [hl j (by rw [List.length_append]; omega), List.getElem_append_left h]
  obtain ⟨a2, b2⟩ := h2.2 ty l fun j h => by
    rw [Nat.add_assoc, hl (L1.length + j) (by rw [List.length_append]; omega), List.getElem_append_right (by omega)]
    simp only [Nat.add_sub_cancel_left]
  exact ⟨fun x hx => (List.mem_append.1 hx).elim (a1 x) (a2 x), b1, b2⟩
theorem Arg.mono {W : World} {k : Nat} {L : List (AM.AObj × AM.Loc)} {F F' : AM.AMem → AM.Ren → Prop} (h : Arg W k L F) (hf : ∀ m ρ, F m ρ → F' m ρ) : Arg W k L F' :=
  ⟨h.1, fun ty l hl => ⟨(h.2 ty l hl).1, hf _ _ (h.2 ty l hl).2⟩⟩
theorem Arg.all {W : World} {L : List (AM.AObj × AM.Loc)} {F : AM.AMem → AM.Ren → Prop} (h : Arg W 0 L F) (ty : TypeId) : (∀ x ∈ L, AM.ObjRel (AM.renOf (osOf ty L)) x.1 x.2 W) ∧ F (AM.memOf (osOf ty L)) (AM.renOf (osOf ty L)) :=
  h.2 ty L fun j hj => by rw [Nat.zero_add]; exact List.getElem?_eq_getElem hj
/-- n of them, one behind the other. -/
theorem Arg.list {W : World} {α : Type} [Inhabited α] (F : Nat → α → AM.AMem → AM.Ren → Prop) : ∀ (n : Nat), (∀ i, i < n → ∀ k, ∃ L a, Arg W k L (F i a)) → ∀ k, ∃ L, ∃ f : Nat → α, Arg W k L fun m ρ => ∀ i, i < n → F i (f i) m ρ
  | 0, _, k => ⟨[], fun _ => default, (Arg.none W k).mono fun _ _ _ i hi => by omega⟩
  | n + 1, h, k => by
    obtain ⟨L1, f, h1⟩ := Arg.list F n (fun i hi => h i (by omega)) k
    obtain ⟨L2, a, h2⟩ := h n (by omega) (k + L1.length)
    refine ⟨L1 ++ L2, fun i => if i = n then a else f i, (h1.and h2).mono fun m ρ ⟨q1, q2⟩ i hi => ?_⟩
    show F i (if i = n then a else f i) m ρ
    by_cases e : i = n
    · subst e; rw [if_pos rfl]; exact q2
    · rw [if_neg e]; exact q1 i (by omega)

/-- A tree's cells, in a world. -/
inductive TrW (w : World) : AM.Tr → List Value → Prop
  | nil (k : Int) (d : List UInt8) : TrW w (.nd k d []) [.int .u8 k, .string ⟨d.toArray⟩, .slice none 0 0]
  | none (k : Int) (d : List UInt8) (a : Addr) : TrW w (.nd k d []) [.int .u8 k, .string ⟨d.toArray⟩, .slice (some a) 0 0]
  | some (k : Int) (d : List UInt8) (es : List AM.En) (b o cap : Nat) (carr : Array Value) (ty : TypeId) (frz : Nat × Nat) (q : Nat → List Value) (hh : w.heap[b]? = some (.cells carr ty frz)) (hl : o + es.length * 4 ≤ carr.size)
      (hc : ∀ i (h : i < es.length) r, r < 4 → carr.getD (o + (i * 4 + r)) undef = (.string ⟨es[i].n.toArray⟩ :: q i).getD r undef) (hq : ∀ i (h : i < es.length), TrW w es[i].t (q i)) (hcap : cap ≤ 9223372036854775807) (hle : es.length ≤ cap) :
      TrW w (.nd k d es) [.int .u8 k, .string ⟨d.toArray⟩, .slice (some ⟨b, o, Option.none⟩) es.length cap]
theorem TrW.len {w : World} {t : AM.Tr} {cs : List Value} (h : TrW w t cs) : cs.length = 3 := by cases h <;> rfl

/-- A tree as an argument: its blocks are those from the k-th on. -/
theorem arg_tree {W : World} {t : AM.Tr} {cs : List Value} (h : TrW W t cs) : ∀ k, ∃ L q, Arg W k L fun m ρ => AM.TrC m t q ∧ AM.LRel ρ q cs := by
  induction h with
  | nil n d =>
    intro k
    exact ⟨[], [.int .u8 n, .string ⟨d.toArray⟩, .slice none 0 0], (Arg.none W k).mono fun m ρ _ => ⟨AM.trC_mk (AM.SlE.nil m), AM.LRel.cons' (.int _ _) (AM.LRel.cons' (.string _) (AM.LRel.cons' (.nilSlice 0 0) (AM.LRel.nil' _)))⟩⟩
  | none n d a =>
    intro k
    refine ⟨[], [.int .u8 n, .string ⟨d.toArray⟩, .slice (some ⟨2, 0, Option.none⟩) 0 0], fun x hx => (by cases hx), fun ty l _ => ⟨fun x hx => (by cases hx), ?_, ?_⟩⟩
    · have hz : AM.SlE (AM.memOf (osOf ty l)) (some ⟨2, 0, Option.none⟩) 0 [] := by
        refine ⟨[], .inr ⟨2, 0, [], ty, false, .full 1, rfl, by show 2 < l.length + 1 + 1 + 1; omega, rfl, rfl, .inr ⟨?_, Nat.le_refl _⟩⟩, AM.EsC.nil _⟩
        exact AM.openCap_lt (by omega)
      exact AM.trC_mk (k := n) (d := d) hz
    · exact AM.LRel.cons' (.int _ _) (AM.LRel.cons' (.string _) (AM.LRel.cons' (.sliceEnd (b := 2) (o := 0) (L := ⟨2, 0, 0, 1⟩) rfl (.inl rfl)) (AM.LRel.nil' _)))
  | some n d es b o cap carr ty frz q hh hl hc hq hcap hle ih =>
    intro k
    obtain ⟨L, f, hA⟩ := Arg.list (W := W) (α := List Value) (fun i c m ρ => ∀ h : i < es.length, AM.TrC m es[i].t c ∧ AM.LRel ρ c (q i)) es.length (fun i hi k => by
      obtain ⟨L, c, h⟩ := ih i hi k
      exact ⟨L, c, h.mono fun m ρ h _ => h⟩) k
    let row : Nat → List Value := fun i => .string ⟨(es.getD i default).n.toArray⟩ :: f i
    let X : List Value := (List.range (es.length * 4)).map fun j => (row (j / 4)).getD (j % 4) undef
    have hXl : X.length = es.length * 4 := by simp [X]
    have hXg : ∀ i r (hr : r < 4) (hi : i * 4 + r < X.length), X[i * 4 + r] = (row i).getD r undef := fun i r hr hi => by
      simp only [X, List.getElem_map, List.getElem_range]
      rw [show (i * 4 + r) / 4 = i by omega, show (i * 4 + r) % 4 = r by omega]
    have hget : ∀ i (hi : i < es.length), es.getD i default = es[i] := fun i hi => by simp [List.getD, hi]
    refine ⟨L ++ [(.cells X ty false (.full 4), ⟨b, o, es.length * 4, 4⟩)], [.int .u8 n, .string ⟨d.toArray⟩, .slice (some ⟨3 + (k + L.length), 0, Option.none⟩) es.length cap], fun x hx => ?_, fun ty2 l hpl => ?_⟩
    · rcases List.mem_append.1 hx with hx | hx
      · exact hA.1 x hx
      · rw [List.mem_singleton] at hx; subst hx; rfl
    · obtain ⟨a1, b1⟩ := hA.2 ty2 l fun j h => by rw [hpl j (by rw [List.length_append]; omega), List.getElem_append_left h]
      have h0 : l[k + L.length]? = some (.cells X ty false (.full 4), ⟨b, o, es.length * 4, 4⟩) := by
        have := hpl L.length (by rw [List.length_append]; simp)
        rw [this, List.getElem_append_right (Nat.le_refl _)]; simp
      have hE := fun i (hi : i < es.length) => b1 i hi hi
      refine ⟨fun x hx => ?_, ?_, ?_⟩
      · rcases List.mem_append.1 hx with hx | hx
        · exact a1 x hx
        · rw [List.mem_singleton] at hx
          subst hx
          refine ⟨carr, frz, hh, hl, by rw [hXl]; exact Nat.le_refl _, (fun h => by cases h), (fun k h => by cases h; exact ⟨hXl.symm, rfl, by omega⟩), (fun j hj => ?_), (fun z h => by cases h), (fun h => by cases h)⟩
          have hj4 : j / 4 < es.length := by rw [hXl] at hj; omega
          have hjr : j % 4 < 4 := by omega
          have ej : j / 4 * 4 + j % 4 = j := by omega
          have h1 := hXg (j / 4) (j % 4) hjr (by omega)
          have h2 := hc (j / 4) hj4 (j % 4) hjr
          simp only [ej] at h1 h2
          rw [h1, h2]
          have h3 := (hE (j / 4) hj4)
          have hfl := h3.1.len
          have hql := (hq (j / 4) hj4).len
          simp only [row]
          rw [hget _ hj4]
          have key : ∀ r, r < 4 → AM.VRel (AM.renOf (osOf ty2 l)) ((Value.string ⟨es[j / 4].n.toArray⟩ :: f (j / 4)).getD r undef) ((Value.string ⟨es[j / 4].n.toArray⟩ :: q (j / 4)).getD r undef) := by
            intro r hr
            cases r with
            | zero => exact .string _
            | succ r =>
              simp only [List.getD_cons_succ]
              rw [List.getD_eq_getElem?_getD, List.getD_eq_getElem?_getD, List.getElem?_eq_getElem (by omega), List.getElem?_eq_getElem (by omega)]
              exact h3.2.2 r (by omega) (by omega)
          exact key _ hjr
      · have hsl : AM.SlE (AM.memOf (osOf ty2 l)) (some ⟨3 + (k + L.length), 0, Option.none⟩) cap es := by
          have hcells : ∀ j, j ≤ es.length → AM.EsC (AM.memOf (osOf ty2 l)) (es.take j) (X.take (j * 4)) := by
            intro j
            induction j with
            | zero => intro _; simpa using AM.EsC.nil _
            | succ j ihj =>
              intro hj
              have hj' : j < es.length := by omega
              have h1 := ihj (by omega)
              have hfl := (hE j hj').1.len
              have hcut : X.take ((j + 1) * 4) = X.take (j * 4) ++ (.string ⟨es[j].n.toArray⟩ :: f j) := by
                refine List.ext_getElem (by rw [List.length_take, List.length_append, List.length_take, List.length_cons]; omega) fun r q1 q2 => ?_
                rw [List.getElem_take]
                by_cases hr : r < j * 4
                · rw [List.getElem_append_left (by rw [List.length_take]; omega), List.getElem_take]
                · rw [List.getElem_append_right (by rw [List.length_take]; omega)]
                  have hrl : r < (j + 1) * 4 := by rw [List.length_take] at q1; omega
                  have h3 := hXg j (r - j * 4) (by omega) (by omega)
                  simp only [show j * 4 + (r - j * 4) = r by omega] at h3
                  rw [h3]
                  simp only [row, hget j hj', List.length_take, hXl, show min (j * 4) (es.length * 4) = j * 4 by omega]
                  rw [List.getD_eq_getElem?_getD, List.getElem?_eq_getElem (by rw [List.length_cons]; omega)]; rfl
              rw [hcut, List.take_succ_eq_append_getElem hj']
              refine AM.EsC.app h1 ?_
              have := AM.EsC.cons (AM.EnC.of (e := es[j]) (hE j hj').1) (AM.EsC.nil _)
              rwa [List.append_nil] at this
          have hall := hcells es.length (Nat.le_refl _)
          rw [List.take_length, ← hXl, List.take_length] at hall
          refine ⟨X, .inr ⟨3 + (k + L.length), 0, X, ty, false, .full 4, rfl, lt_at h0, get_at h0, by rw [← hXl]; exact AM.cutL_all rfl, .inr ⟨AM.openCap_lt hcap, hle⟩⟩, hall⟩
        exact AM.trC_mk (k := n) (d := d) hsl
      · exact AM.LRel.cons' (.int _ _) (AM.LRel.cons' (.string _) (AM.LRel.cons' (.slice (b := 3 + (k + L.length)) (o := 0) (ren_at h0) (AM.openCap_lt hcap)) (AM.LRel.nil' _)))
end Go.Proofs.YtfjgpeoblnpelaaDoor.gl
namespace Go.Proofs.YtfjgpeoblnpelaaDoor.gl
open Go.ChangeShapes Go.WideShapes Go.ChangeAt Go.RowKit
set_option linter.unusedVariables false
set_option maxRecDepth 100000
set_option maxHeartbeats 1000000

theorem cells_get {w : World} {base n : Nat} {a : Addr} {cs : List Value} (h : w.cells? base a n = some cs) : cs.length = n ∧ ∀ r (hr : r < n), w.cell? (a.add r) = cs[r]? := by
  unfold World.cells? at h
  split at h
  · have hlen : cs.length = n := by
      have : ∀ (l : List Nat) (cs : List Value), l.mapM (fun i => w.cell? (a.add i)) = some cs → cs.length = l.length := by
        intro l
        induction l with
        | nil => intro cs h; simp at h; subst h; rfl
        | cons x l ih =>
          intro cs h
          simp only [List.mapM_cons, Option.bind_eq_bind, Option.bind_eq_some_iff] at h
          obtain ⟨y, _, ys, h2, h3⟩ := h
          cases h3
          simp [ih ys h2]
      have := this _ _ h; simpa using this
    refine ⟨hlen, fun r hr => ?_⟩
    have : ∀ (l : List Nat) (cs : List Value), l.mapM (fun i => w.cell? (a.add i)) = some cs → ∀ r (hr : r < l.length), w.cell? (a.add l[r]) = cs[r]? := by
      intro l
      induction l with
      | nil => intro cs h r hr; cases hr
      | cons x l ih =>
        intro cs h r hr
        simp only [List.mapM_cons, Option.bind_eq_bind, Option.bind_eq_some_iff] at h
        obtain ⟨y, h1, ys, h2, h3⟩ := h
        cases h3
        cases r with
        | zero => simpa using h1
        | succ r => simpa using ih ys h2 r (by simpa using hr)
    have := this _ _ h r (by simpa using hr)
    simpa using this
  · cases h
theorem open_tree {H : Type} {enc : TypeId × Value → H} {w : World} {base : Nat} {hd : Bool} : ∀ (fuel : Nat) (cs : List Value) (y : DataW H × List MemPlace),
    DataW.trod enc Tryd.prog w base (fun _ => true) hd fuel 26 cs = some y → ∃ t, TrW w t cs := by
  have k3 : Tryd.prog.cellsOf 26 = 3 := by kernel_rfl
  have k4 : Tryd.prog.cellsOf 48 = 4 := by kernel_rfl
  have k1 : Tryd.prog.cellsOf 9 = 1 := by kernel_rfl
  have k1' : Tryd.prog.cellsOf 5 = 1 := by kernel_rfl
  have k1'' : Tryd.prog.cellsOf 24 = 1 := by kernel_rfl
  intro fuel
  induction fuel using Nat.strongRecOn with
  | _ fuel ih =>
    intro cs y h
    obtain ⟨xs, n, hf, _, hlen, hxl, hel⟩ := DataW.trod_struct Tryd.underlying26 h
    rw [k3] at hlen
    obtain ⟨c0, c1, c2, rfl⟩ : ∃ a b c, cs = [a, b, c] := by
      match cs, hlen with
      | [a, b, c], _ => exact ⟨a, b, c, rfl⟩
    have hxl : xs.length = 3 := hxl
    have e0 := hel 0 { name := "Kind", type := 5, offset := 0, embedded := false, tag := "", pkgPath := "", byteOffset := 0 } rfl
    have e1 := hel 1 { name := "Data", type := 9, offset := 1, embedded := false, tag := "", pkgPath := "", byteOffset := 8 } rfl
    have e2 := hel 2 { name := "Entries", type := 24, offset := 2, embedded := false, tag := "", pkgPath := "", byteOffset := 24 } rfl
    simp only [k1, k1', k1'', List.drop_zero, List.drop_succ_cons, List.take_succ_cons, List.take_zero] at e0 e1 e2
    rw [List.getElem?_eq_getElem (by omega)] at e0 e1 e2
    obtain ⟨k, rfl, _⟩ := AM.trod_one Tryd.underlying5 e0
    obtain ⟨d, rfl, _⟩ := AM.trod_str Tryd.underlying9 e1
    rcases DataW.trod_slice Tryd.underlying24 e2 with ⟨h2, _⟩ | ⟨a, len, cap, elems, rest, n', hn', h2, _, _, hle, hmax, hel2, hall, hsp, _⟩
    · cases h2
      exact ⟨_, .nil k d⟩
    · cases h2
      rw [k4] at hall hsp
      have each : ∀ i, i < len → ∃ cs', w.cells? base (a.add (i * 4)) 4 = some cs' ∧ ∃ y', DataW.trod enc Tryd.prog w base (fun _ => true) hd n' 48 cs' = some y' := fun i hi => by
        have := hall i hi
        rw [List.getElem?_eq_getElem (by omega)] at this
        rw [Option.bind_eq_some_iff] at this
        obtain ⟨cs', h1, h2⟩ := this
        exact ⟨cs', h1, _, h2⟩
      by_cases h0 : len = 0
      · subst h0
        by_cases hc0 : cap = 0
        · subst hc0
          exact ⟨_, .none k d a⟩
        · obtain ⟨hrl, hr⟩ := hsp rfl
          have := hr 0 (by omega)
          rw [List.getElem?_eq_getElem (by omega), Option.bind_eq_some_iff] at this
          obtain ⟨cs', h1, _⟩ := this
          obtain ⟨hlc, hcr⟩ := cells_get h1
          have hc0 := hcr 0 (by omega)
          obtain ⟨b, o, sp⟩ := a
          rw [List.getElem?_eq_getElem (by omega)] at hc0
          simp only [Nat.add_zero, Nat.zero_mul, Addr.add, if_true, World.cell?] at hc0
          split at hc0 <;> try (simp at hc0; done)
          rename_i carr ty frz hh
          split at hc0 <;> try (simp at hc0; done)
          rename_i hsp
          obtain rfl : sp = Option.none := by cases sp <;> simp_all
          have := (Array.getElem?_eq_some_iff.1 hc0).1
          exact ⟨_, .some k d [] b o cap carr ty frz (fun _ => []) hh (by simp only [List.length_nil]; omega) (fun i hi => by cases hi) (fun i hi => by cases hi) hmax (Nat.zero_le _)⟩
      · obtain ⟨cs', hc', _⟩ := each 0 (by omega)
        obtain ⟨hlc, hcr⟩ := cells_get hc'
        have hc0 := hcr 0 (by omega)
        obtain ⟨b, o, sp⟩ := a
        rw [List.getElem?_eq_getElem (by omega)] at hc0
        simp only [Nat.zero_mul, Addr.add, if_true, World.cell?] at hc0
        split at hc0 <;> try (simp at hc0; done)
        rename_i carr ty frz hh
        split at hc0 <;> try (simp at hc0; done)
        rename_i hsp'
        obtain rfl : sp = Option.none := by cases sp <;> simp_all
        have key : ∀ i, i < len → ∃ z : AM.En × List Value, TrW w z.1.t z.2 ∧ ∀ r, r < 4 → carr[o + (i * 4 + r)]? = some ((Value.string ⟨z.1.n.toArray⟩ :: z.2).getD r undef) := fun i hi => by
          obtain ⟨cs2, hc2, y', ht2⟩ := each i hi
          obtain ⟨hl2, hr2⟩ := cells_get hc2
          obtain ⟨xs2, n2, hf2, _, hlen2, hxl2, hel3⟩ := DataW.trod_struct Tryd.underlying48 ht2
          have hxl2 : xs2.length = 2 := hxl2
          obtain ⟨d0, d1, d2, d3, rfl⟩ : ∃ a b c d, cs2 = [a, b, c, d] := by
            match cs2, hl2 with
            | [a, b, c, d], _ => exact ⟨a, b, c, d, rfl⟩
          have f0 := hel3 0 { name := "Name", type := 9, offset := 0, embedded := false, tag := "", pkgPath := "", byteOffset := 0 } rfl
          have f1 := hel3 1 { name := "Node", type := 26, offset := 1, embedded := false, tag := "", pkgPath := "", byteOffset := 16 } rfl
          simp only [k1, k3, List.drop_zero, List.drop_succ_cons, List.take_succ_cons, List.take_zero] at f0 f1
          rw [List.getElem?_eq_getElem (by omega)] at f0 f1
          obtain ⟨s, rfl, _⟩ := AM.trod_str Tryd.underlying9 f0
          obtain ⟨u, hu⟩ := ih n2 (by omega) _ _ f1
          refine ⟨(.mk s u, [d1, d2, d3]), hu, fun r hr => ?_⟩
          have := hr2 r hr
          rw [List.getElem?_eq_getElem (by simp; omega)] at this
          have e : ((⟨b, o, Option.none⟩ : Addr).add (i * 4)).add r = ⟨b, o + (i * 4 + r), Option.none⟩ := by
            simp only [Addr.add]
            split <;> split <;> simp_all <;> omega
          rw [e] at this
          simp only [World.cell?, hh] at this
          simp only [Option.isSome_none, Bool.false_eq_true, if_false] at this
          rw [this, List.getD_eq_getElem?_getD, List.getElem?_eq_getElem (by simp; omega)]; rfl
        haveI : Inhabited (AM.En × List Value) := ⟨(default, [])⟩
        obtain ⟨f, hfm⟩ := Go.Deep.choose_lt (α := AM.En × List Value) (n := len) key
        have hlenm : ((List.range len).map fun i => (f i).1).length = len := by simp
        have hlast : o + len * 4 ≤ carr.size := by
          have := (Array.getElem?_eq_some_iff.1 ((hfm (len - 1) (by omega)).2 3 (by omega))).1; omega
        have main := TrW.some (w := w) k d ((List.range len).map fun i => (f i).1) b o cap carr ty frz (fun i => (f i).2) hh (by rw [hlenm]; exact hlast)
          (fun i hi r hr => by
            have hi' : i < len := by rw [hlenm] at hi; exact hi
            rw [Array.getD_eq_getD_getElem?, (hfm i hi').2 r hr]; simp)
          (fun i hi => by
            have hi' : i < len := by rw [hlenm] at hi; exact hi
            have := (hfm i hi').1
            simpa using this)
          hmax (by rw [hlenm]; exact hle)
        rw [hlenm] at main
        exact ⟨_, main⟩
theorem node_of {v x y z : Value} (h : v.cells.toList = [x, y, z]) : v = .agg #[x, y, z] := by
  cases v with
  | agg cs =>
    have h : cs.toList = [x, y, z] := h
    have : cs = #[x, y, z] := Array.ext' h
    rw [this]
  | _ => simp [Value.cells] at h
theorem agg_of {v : Value} {cs : List Value} {w : World} {t : AM.Tr} (h : TrW w t cs) (he : v.cells.toList = cs) : v = .agg cs.toArray := by
  cases h with
  | nil k d => exact node_of he
  | none k d a => exact node_of he
  | some k d es b o cap carr ty frz q _ _ _ _ _ _ => exact node_of he
theorem rel_node {ρ : AM.Ren} {q cs : List Value} (h : AM.LRel ρ q cs) : AM.VRel ρ (.agg q.toArray) (.agg cs.toArray) :=
  .agg _ _ (by simpa using h.1) fun i h1 h2 => by simpa using h.2 i (by simpa using h1) (by simpa using h2)
end Go.Proofs.YtfjgpeoblnpelaaDoor.gl
