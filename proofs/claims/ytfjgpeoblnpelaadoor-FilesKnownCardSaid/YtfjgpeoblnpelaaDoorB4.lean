/- The laws of At, Put, Paths leave what there was. -/
import Derived.Test.YtfjgpeoblnpelaaDoorB3
import Derived.Test.YtfjgpeoblnpelaaDoorA5
import Derived.Test.YtfjgpeoblnpelaaDoorRows
import Derived.WalkKit
import Derived.ProofKit
import Derived.OpenShut
import Derived.ShutString
import Derived.ChangeOld
import Derived.Below
import Derived.SizedLaws
import Derived.Handed
import Derived.JoinedOf
import Derived.Deep.Slices
set_option linter.unusedVariables false
set_option linter.unusedSimpArgs false
set_option linter.unnecessarySimpa false
open Nat renaming reduceBEq → qA, reduceEqDiff → qB, reduceAdd → qC, reduceMul → qD, reduceSub → qE
open Int renaming reduceToNat → qF, reduceEq → qG, reduceLT → qH, reduceLE → qI, reduceAdd → qJ, reduceSub → qK, reduceMul → qL
namespace Go.Proofs.YtfjgpeoblnpelaaDoor
open Go Go.AM
set_option linter.unusedVariables false
set_option linter.unusedSimpArgs false
set_option maxRecDepth 100000
set_option maxHeartbeats 4000000

theorem lawAtP (m : AMem) (t : Tr) (c : List Value) (l : List UInt8) (hc : TrC m t c) (hl : l.length ≤ 9223372036854775807) : PureC Tryd.prog 3 5 [.agg c.toArray, .string ⟨l.toArray⟩] m (.bool true) := by
  have hc0 := hc
  obtain ⟨a, cap, rfl, hE⟩ := hc.ex
  have hcc := hc0.old (Old.here m [.cells [.int .u8 t.k, .string ⟨t.d.toArray⟩, .slice a t.es.length cap] 26 true .exact])
  have kW := fun M => DetC.known (works_ok M)
  have k0 := DetC.known (weight_ok t _ _ 2000 hcc (by omega))
  refine pure_of_W (fn := Tryd.f5) rfl rfl F5_ok (by simp [F5]) (.bool _) ?_
  by_cases hw : 2000 < t.weight
  · have g := weight_gt hw
    rw [e2000] at k0 g
    repeat first | simp -implicitDefEqProofs (disch := first | omega | with_reducible assumption | (simp only [qU, qC]; omega)) only [qT, qA, reduceCtorEq, qB, qC, qD, qE, qF, qG, qH, qI, qJ, qK, qL, reduceIte, F5, cellsOf_node, cutL3, k0, g, kW, undef] | refine OrW.go ?_
  · have g := weight_le (t := t) (top := 2000) (by omega)
    rw [e2000] at k0 g
    by_cases hl2 : (l.length : Int) > 1000
    · repeat first | simp -implicitDefEqProofs (disch := first | omega | with_reducible assumption | (simp only [qU, qC]; omega)) only [qT, qA, reduceCtorEq, qB, qC, qD, qE, qF, qG, qH, qI, qJ, qK, qL, reduceIte, F5, cellsOf_node, cutL3, k0, g, hl2, kW] | refine OrW.go ?_
    · have hcw := t.count_le
      have hac := atR_count t l
      repeat first | simp -implicitDefEqProofs (disch := first | omega | with_reducible assumption | (simp only [qU, qC]; omega)) only [qT, qA, reduceCtorEq, qB, qC, qD, qE, qF, qG, qH, qI, qJ, qK, qL, reduceIte, F5, cellsOf_node, cutL3, k0, g, hl2, kW] | refine OrW.go ?_
      refine RelC.call (at_ok _ _ t _ l hcc (.refl _) (by omega) (by omega)) ?_
      rintro v M1 ⟨hO1, c1, rfl, hc1⟩
      have hz1 := hO1.1
      rw [mx_size] at hz1
      simp only [List.length_cons, List.length_nil] at hz1
      have b1 : M1.get m.size = .cells [.int .u8 t.k, .string ⟨t.d.toArray⟩, .slice a t.es.length cap] 26 true .exact := (hO1.2 _ (by rw [mx_size]; simp)).trans (mx_new0 _ _)
      have hc1' := hc1
      obtain ⟨a1, cap1, rfl, _⟩ := hc1.ex
      have s1 : m.size < M1.size := by omega
      have hO12 := hO1.trans (Old.here M1 [.cells [.int .u8 (atR t l).2.k, .string ⟨(atR t l).2.d.toArray⟩, .slice a1 (atR t l).2.es.length cap1] 26 true .exact])
      repeat first | simp -implicitDefEqProofs (disch := first | omega | with_reducible assumption | (simp only [qU, qC]; omega)) only [qT, qA, reduceCtorEq, qB, qC, qD, qE, qF, qG, qH, qI, qJ, qK, qL, reduceIte, cellsOf_node, cutL3, splice3, b1, s1] | refine OrW.go ?_
      refine RelC.call (refAt_ok _ t _ l (hcc.old hO12) (by omega) (by omega)) ?_
      rintro v M2 ⟨hO2, c2, rfl, hc2⟩
      have hc2' := hc2
      obtain ⟨a2, cap2, rfl, _⟩ := hc2.ex
      have hz2 := hO2.1
      rw [mx_size] at hz2
      simp only [List.length_cons, List.length_nil] at hz2
      have b2 := (hO2.2 M1.size (by rw [mx_size]; simp)).trans (mx_new0 M1 _)
      have s2 : M1.size < M2.size := by omega
      have k2 := DetC.known (refSame_ok (atR t l).2 (atR t l).2 (mx M2 [.cells [.int .u8 (atR t l).2.k, .string ⟨(atR t l).2.d.toArray⟩, .slice a2 (atR t l).2.es.length cap2] 26 true .exact]) _ _ (hc1'.old ((hO12.trans hO2).trans (Old.here M2 _))) (hc2'.old (hO2.trans (Old.here M2 _))) (by omega))
      rw [Tr.same_self] at k2
      generalize (atR t l).1 = e at *
      repeat first | simp -implicitDefEqProofs (disch := first | omega | with_reducible assumption | (simp only [qU, qC]; omega)) only [qT, qA, reduceCtorEq, qB, qC, qD, qE, qF, qG, qH, qI, qJ, qK, qL, reduceIte, cellsOf_node, cutL3, splice3, b2, s2, k2, kW] | refine OrW.go ?_
      exact ((Old.here m _).trans (hO12.trans hO2)).trans (Old.here M2 _)
theorem lawPutP (m : AMem) (t x : Tr) (c cx : List Value) (l : List UInt8) (hc : TrC m t c) (hx : TrC m x cx) (hl : l.length ≤ 9223372036854775807) : PureC Tryd.prog 3 6 [.agg c.toArray, .string ⟨l.toArray⟩, .agg cx.toArray] m (.bool true) := by
  have hc0 := hc
  have hx0 := hx
  obtain ⟨a, cap, rfl, hE⟩ := hc.ex
  obtain ⟨ax, capx, rfl, hEx⟩ := hx.ex
  have hcc := hc0.old (Old.here m [.cells [.int .u8 t.k, .string ⟨t.d.toArray⟩, .slice a t.es.length cap] 26 true .exact, .cells [.int .u8 x.k, .string ⟨x.d.toArray⟩, .slice ax x.es.length capx] 26 true .exact])
  have hxx := hx0.old (Old.here m [.cells [.int .u8 t.k, .string ⟨t.d.toArray⟩, .slice a t.es.length cap] 26 true .exact, .cells [.int .u8 x.k, .string ⟨x.d.toArray⟩, .slice ax x.es.length capx] 26 true .exact])
  have kW := fun M => DetC.known (works_ok M)
  have k0 := DetC.known (weight_ok t _ _ 1000 hcc (by omega))
  have k1 := DetC.known (weight_ok x _ _ 1000 hxx (by omega))
  refine pure_of_W (fn := Tryd.f6) rfl rfl F6_ok (by simp [F6]) (.bool _) ?_
  by_cases hw : 1000 < t.weight
  · have g := weight_gt hw
    rw [e1000] at k0 k1 g
    repeat first | simp -implicitDefEqProofs (disch := first | omega | with_reducible assumption | (simp only [qU, qC]; omega)) only [qT, qA, reduceCtorEq, qB, qC, qD, qE, qF, qG, qH, qI, qJ, qK, qL, reduceIte, F6, cellsOf_node, cutL3, k0, k1, g, kW, undef] | refine OrW.go ?_
  · have g := weight_le (t := t) (top := 1000) (by omega)
    by_cases hw2 : 1000 < x.weight
    · have g2 := weight_gt hw2
      rw [e1000] at k0 k1 g g2
      repeat first | simp -implicitDefEqProofs (disch := first | omega | with_reducible assumption | (simp only [qU, qC]; omega)) only [qT, qA, reduceCtorEq, qB, qC, qD, qE, qF, qG, qH, qI, qJ, qK, qL, reduceIte, F6, cellsOf_node, cutL3, k0, k1, g, g2, kW, undef] | refine OrW.go ?_
    · have g2 := weight_le (t := x) (top := 1000) (by omega)
      rw [e1000] at k0 k1 g g2
      by_cases hl2 : (l.length : Int) > 1000
      · repeat first | simp -implicitDefEqProofs (disch := first | omega | with_reducible assumption | (simp only [qU, qC]; omega)) only [qT, qA, reduceCtorEq, qB, qC, qD, qE, qF, qG, qH, qI, qJ, qK, qL, reduceIte, F6, cellsOf_node, cutL3, k0, k1, g, g2, hl2, kW] | refine OrW.go ?_
      · have hcw := t.count_le
        have hxw := x.count_le
        have hpc := putR_count t l x
        have hpl := pathsT_len t
        repeat first | simp -implicitDefEqProofs (disch := first | omega | with_reducible assumption | (simp only [qU, qC]; omega)) only [qT, qA, reduceCtorEq, qB, qC, qD, qE, qF, qG, qH, qI, qJ, qK, qL, reduceIte, F6, cellsOf_node, cutL3, k0, k1, g, g2, hl2, kW] | refine OrW.go ?_
        refine RelC.call (refPaths_ok _ t _ hcc (by omega)) ?_
        rintro v M1 ⟨hO1, a1, cap1, rfl, hS1⟩
        have hz1 := hO1.1
        rw [mx_size] at hz1
        simp only [List.length_cons, List.length_nil] at hz1
        have b1 : M1.get m.size = .cells [.int .u8 t.k, .string ⟨t.d.toArray⟩, .slice a t.es.length cap] 26 true .exact := (hO1.2 _ (by rw [mx_size]; simp)).trans (mx_new0 _ _)
        have bx1 : M1.get (m.size + 1) = .cells [.int .u8 x.k, .string ⟨x.d.toArray⟩, .slice ax x.es.length capx] 26 true .exact := (hO1.2 _ (by rw [mx_size]; simp)).trans (mx_new _ _ 1)
        have s1 : m.size < M1.size := by omega
        have s1' : m.size + 1 < M1.size := by omega
        have kZ := DetC.known (refSize_ok t (mx M1 []) _ (hcc.old (hO1.trans (Old.here M1 []))) (by omega))
        repeat first | simp -implicitDefEqProofs (disch := first | omega | with_reducible assumption | (simp only [qU, qC]; omega)) only [qT, qA, reduceCtorEq, qB, qC, qD, qE, qF, qG, qH, qI, qJ, qK, qL, reduceIte, cutL3, b1, bx1, s1, s1', kZ] | refine OrW.go ?_
        refine RelC.call (Put_ok M1 _ t x _ _ l (hcc.old hO1) (hxx.old hO1) (Old.here M1 []) (by omega) (by omega) (by omega)) ?_
        rintro v M2 ⟨hO2, c2, rfl, hc2⟩
        have hO12 := (Old.here M1 []).trans hO2
        have hc2' := hc2 M2 (Gap.of ⟨Nat.le_refl _, fun _ _ => rfl⟩)
        have hc2'' := hc2'
        obtain ⟨a2, cap2, rfl, _⟩ := hc2'.ex
        have hz2 := hO12.1
        have b2 := (hO12.2 _ s1).trans b1
        have bx2 := (hO12.2 _ s1').trans bx1
        have s2 : m.size < M2.size := by omega
        have s2' : m.size + 1 < M2.size := by omega
        have hO13 := hO12.trans (Old.here M2 [.cells [.int .u8 (putR t l x).2.k, .string ⟨(putR t l x).2.d.toArray⟩, .slice a2 (putR t l x).2.es.length cap2] 26 true .exact])
        repeat first | simp -implicitDefEqProofs (disch := first | omega | with_reducible assumption | (simp only [qU, qC]; omega)) only [qT, qA, reduceCtorEq, qB, qC, qD, qE, qF, qG, qH, qI, qJ, qK, qL, reduceIte, cellsOf_node, cutL3, splice3, b2, bx2, s2, s2'] | refine OrW.go ?_
        refine RelC.call (refPutD_ok M1 _ t x _ _ l (hcc.old hO1) (hxx.old hO1) hO13 (by omega) (by omega) (by omega)) ?_
        rintro v M3 ⟨hO3, c3, rfl, hc3⟩
        have hc3' := hc3 M3 (Gap.of ⟨Nat.le_refl _, fun _ _ => rfl⟩)
        have hc3'' := hc3'
        obtain ⟨a3, cap3, rfl, _⟩ := hc3'.ex
        have hz3 := hO3.1
        rw [mx_size] at hz3
        simp only [List.length_cons, List.length_nil] at hz3
        have hO23 := (Old.here M2 _).trans hO3
        have b3 := (hO23.2 _ s2).trans b2
        have s3 : m.size < M3.size := by omega
        have s3' : M2.size < M3.size := by omega
        have d3 := (hO3.2 M2.size (by rw [mx_size]; simp)).trans (mx_new0 M2 _)
        have kS := DetC.known (refSame_ok (putR t l x).2 (putR t l x).2 (mx M3 [.cells [.int .u8 (putR t l x).2.k, .string ⟨(putR t l x).2.d.toArray⟩, .slice a3 (putR t l x).2.es.length cap3] 26 true .exact]) _ _ (hc2''.old (hO23.trans (Old.here M3 _))) (hc3''.old (Old.here M3 _)) (by omega))
        rw [Tr.same_self] at kS
        have hO14 := (hO13.trans hO3).trans (Old.here M3 [.cells [.int .u8 (putR t l x).2.k, .string ⟨(putR t l x).2.d.toArray⟩, .slice a3 (putR t l x).2.es.length cap3] 26 true .exact])
        have kP := refPaths_ok _ t _ (hcc.old (hO1.trans hO14)) (by omega)
        generalize (putR t l x).1 = e at *
        repeat first | simp -implicitDefEqProofs (disch := first | omega | with_reducible assumption | (simp only [qU, qC]; omega)) only [qT, qA, reduceCtorEq, qB, qC, qD, qE, qF, qG, qH, qI, qJ, qK, qL, reduceIte, cellsOf_node, cutL3, splice3, b3, s3, s3', d3, kS] | refine OrW.go ?_
        refine RelC.call kP ?_
        rintro v M4 ⟨hO4, a4, cap4, rfl, hS4⟩
        have hO34 := (Old.here M3 _).trans hO4
        have hlp : (pathsR t).length ≤ 1000000000 := by
          unfold pathsR
          split
          · omega
          · simp
        have kT := DetC.known (sameTexts_ok (mx M4 []) a1 a4 cap1 cap4 (pathsR t) (pathsR t) ((hS1.old (hO14.trans hO4)).old (Old.here M4 [])) (hS4.old (Old.here M4 [])) hlp)
        rw [decide_eq_true rfl] at kT
        have b4 := (hO34.2 _ s3).trans b3
        have s4 : m.size < M4.size := Nat.lt_of_lt_of_le s3 hO34.1
        have kZ2 := DetC.known (refSize_ok t (mx M4 []) _ (hcc.old (((hO1.trans hO14).trans hO4).trans (Old.here M4 []))) (by omega))
        repeat first | simp -implicitDefEqProofs (disch := first | omega | with_reducible assumption | (simp only [qU, qC]; omega)) only [qT, qA, reduceCtorEq, qB, qC, qD, qE, qF, qG, qH, qI, qJ, qK, qL, reduceIte, kT, b4, s4, cutL3, kZ2, kW] | refine OrW.go ?_
        exact (((Old.here m _).trans (hO1.trans hO14)).trans hO4).mx _
theorem lawPathsP (m : AMem) (tr x : Tr) (c cx : List Value) (k : Int) (hc : TrC m tr c) (hx : TrC m x cx) (hk : -9223372036854775808 ≤ k ∧ k ≤ 9223372036854775807) : PureC Tryd.prog 3 8 [.agg c.toArray, .int .i64 k, .agg cx.toArray] m (.bool true) := by
  have hc0 := hc
  have hx0 := hx
  obtain ⟨a, cap, rfl, hE⟩ := hc.ex
  obtain ⟨ax, capx, rfl, hEx⟩ := hx.ex
  have hcc := hc0.old (Old.here m [.cells [.int .u8 tr.k, .string ⟨tr.d.toArray⟩, .slice a tr.es.length cap] 26 true .exact, .cells [.int .u8 x.k, .string ⟨x.d.toArray⟩, .slice ax x.es.length capx] 26 true .exact])
  have hxx := hx0.old (Old.here m [.cells [.int .u8 tr.k, .string ⟨tr.d.toArray⟩, .slice a tr.es.length cap] 26 true .exact, .cells [.int .u8 x.k, .string ⟨x.d.toArray⟩, .slice ax x.es.length capx] 26 true .exact])
  have kW := fun M => DetC.known (works_ok M)
  have k0 := DetC.known (weight_ok tr _ _ 600 hcc (by omega))
  have k1 := DetC.known (weight_ok x _ _ 600 hxx (by omega))
  refine pure_of_W (fn := Tryd.f8) rfl rfl F8_ok (by simp [F8]) (.bool _) ?_
  by_cases hw : 600 < tr.weight
  · have g := weight_gt hw
    rw [e600] at k0 k1 g
    repeat first | simp -implicitDefEqProofs (disch := first | omega | with_reducible assumption | (simp only [qU, qC]; omega)) only [qT, qA, reduceCtorEq, qB, qC, qD, qE, qF, qG, qH, qI, qJ, qK, qL, reduceIte, F8, cellsOf_node, cutL3, k0, k1, g, kW, undef] | refine OrW.go ?_
  have g := weight_le (t := tr) (top := 600) (by omega)
  by_cases hw2 : 600 < x.weight
  · have g2 := weight_gt hw2
    rw [e600] at k0 k1 g g2
    repeat first | simp -implicitDefEqProofs (disch := first | omega | with_reducible assumption | (simp only [qU, qC]; omega)) only [qT, qA, reduceCtorEq, qB, qC, qD, qE, qF, qG, qH, qI, qJ, qK, qL, reduceIte, F8, cellsOf_node, cutL3, k0, k1, g, g2, kW] | refine OrW.go ?_
  have g2 := weight_le (t := x) (top := 600) (by omega)
  rw [e600] at k0 k1 g g2
  have hcw := tr.count_le
  have hxw := x.count_le
  repeat first | simp -implicitDefEqProofs (disch := first | omega | with_reducible assumption | (simp only [qU, qC]; omega)) only [qT, qA, reduceCtorEq, qB, qC, qD, qE, qF, qG, qH, qI, qJ, qK, qL, reduceIte, F8, cellsOf_node, cutL3, k0, k1, g, g2, kW] | refine OrW.go ?_
  refine RelC.call (filPaths_ok _ tr _ hcc (by omega)) ?_
  rintro v M1 ⟨hO1, a1, cap1, rfl, hS1⟩
  have hz1 := hO1.1
  rw [mx_size] at hz1
  simp only [List.length_cons, List.length_nil] at hz1
  have b1 : M1.get m.size = .cells [.int .u8 tr.k, .string ⟨tr.d.toArray⟩, .slice a tr.es.length cap] 26 true .exact := (hO1.2 _ (by rw [mx_size]; simp)).trans (mx_new0 _ _)
  have bx1 : M1.get (m.size + 1) = .cells [.int .u8 x.k, .string ⟨x.d.toArray⟩, .slice ax x.es.length capx] 26 true .exact := (hO1.2 _ (by rw [mx_size]; simp)).trans (mx_new _ _ 1)
  have s1 : m.size < M1.size := by omega
  have s1' : m.size + 1 < M1.size := by omega
  repeat first | simp -implicitDefEqProofs (disch := first | omega | with_reducible assumption | (simp only [qU, qC]; omega)) only [qT, qA, reduceCtorEq, qB, qC, qD, qE, qF, qG, qH, qI, qJ, qK, qL, reduceIte, cutL3, b1, s1] | refine OrW.go ?_
  refine RelC.call (refPaths_ok _ tr _ ((hcc.old hO1).old (Old.here M1 [])) (by omega)) ?_
  rintro v M2 ⟨hO2', a2, cap2, rfl, hS2⟩
  have hO2 := (Old.here M1 []).trans hO2'
  have hlp : (pathsR tr).length ≤ 600 := by
    unfold pathsR
    split
    · rw [pathsT_len]; omega
    · simp
  have hS1' := hS1.old hO2
  have kT := DetC.known (sameTexts_ok (mx M2 []) a1 a2 cap1 cap2 (pathsR tr) (pathsR tr) (hS1'.old (Old.here M2 [])) (hS2.old (Old.here M2 [])) (by omega))
  rw [decide_eq_true rfl] at kT
  have b2 := (hO2.2 _ s1).trans b1
  have bx2 := (hO2.2 _ s1').trans bx1
  have s2 : m.size < M2.size := Nat.lt_of_lt_of_le s1 hO2.1
  have s2' : m.size + 1 < M2.size := Nat.lt_of_lt_of_le s1' hO2.1
  by_cases hr : rightT tr = true
  case neg =>
    have hp0 : pathsR tr = [] := by rw [pathsR, if_neg hr]
    rw [hp0] at kT ⊢
    simp only [List.length_nil] at kT
    repeat first | simp -implicitDefEqProofs (disch := first | omega | with_reducible assumption | (simp only [qU, qC]; omega)) only [qT, qA, reduceCtorEq, qB, qC, qD, qE, qF, qG, qH, qI, qJ, qK, qL, reduceIte, kT, kW, List.length_nil] | refine OrW.go ?_
    exact (((Old.here m _).trans hO1).trans hO2).mx _
  have hp0 : pathsR tr = pathsT tr := by rw [pathsR, if_pos hr]
  have hmay := rightT_may hr
  have hnd := pathsT_nodup tr hmay
  have hlen := pathsT_len tr
  have hat := fun q (hq : q ∈ pathsT tr) => atR_path hmay hq
  have hql := pathsT_le tr
  have hcp := tr.count_pos
  have hkeep := fun (p q : List UInt8) (hp : p ∈ pathsT tr) (hq : q ∈ pathsT tr) => put_keep (x := x) hmay hp hq
  rw [hp0] at kT hS1 hS1' hS2 ⊢
  have hpz := pickZ_lt k (n := (pathsT tr).length) (by omega)
  have kP := fun M => DetC.known (pick_ok M k (pathsT tr).length hk (by omega) (by omega))
  generalize pathsT tr = ls at *
  obtain ⟨pn, hpn⟩ : ∃ pn : Nat, pickZ k ls.length = (pn : Int) := ⟨(pickZ k ls.length).toNat, by omega⟩
  rw [hpn] at kP hpz
  have hpl : pn < ls.length := by omega
  have hpmem : ls[pn] ∈ ls := List.getElem_mem hpl
  obtain ⟨bL, oL, rfl, hbL, q0⟩ := hS1'.get hpl
  have g3 : ¬ (ls.length : Int) = 0 := by omega
  have hpq := hql _ hpmem
  repeat first | simp -implicitDefEqProofs (disch := first | omega | with_reducible assumption | (simp only [qU, qC]; omega)) only [qT, qA, reduceCtorEq, qB, qC, qD, qE, qF, qG, qH, qI, qJ, qK, qL, reduceIte, kT, g3, kP, q0, b2, bx2, s2, s2', cutL3] | refine OrW.go ?_
  refine RelC.call (Put_ok M2 _ tr x _ _ ls[pn] ((hcc.old hO1).old hO2) ((hxx.old hO1).old hO2) (Old.here M2 []) (by omega) (by omega) (by omega)) ?_
  rintro v M3 ⟨hO3', c3, rfl, hc3⟩
  have hO3 := (Old.here M2 []).trans hO3'
  have hc3' := hc3 M3 (Gap.of ⟨Nat.le_refl _, fun _ _ => rfl⟩)
  have hc3'' := hc3'
  obtain ⟨a3, cap3, rfl, _⟩ := hc3'.ex
  have b3 := (hO3.2 _ s2).trans b2
  have bx3 := (hO3.2 _ s2').trans bx2
  have s3 : m.size < M3.size := Nat.lt_of_lt_of_le s2 hO3.1
  have s3' : m.size + 1 < M3.size := Nat.lt_of_lt_of_le s2' hO3.1
  have hS3 := hS1'.old hO3
  have hmem0 : TrC M3 tr [.int .u8 tr.k, .string ⟨tr.d.toArray⟩, .slice a tr.es.length cap] := ((hcc.old hO1).old hO2).old hO3
  have hmemx : TrC M3 x [.int .u8 x.k, .string ⟨x.d.toArray⟩, .slice ax x.es.length capx] := ((hxx.old hO1).old hO2).old hO3
  have hpc := putR_count tr ls[pn] x
  have hE0 : (putR tr ls[pn] x).1 = (putR tr ls[pn] x).1 := rfl
  have hputat := put_at (t := tr) (x := x) (p := ls[pn])
  have hkeep' := fun q (hq : q ∈ ls) => hkeep ls[pn] q hpmem hq
  generalize hR : putR tr ls[pn] x = R at *
  obtain ⟨e, u⟩ := R
  simp only at hc3'' hpc hE0 hputat hkeep'
  repeat first | simp -implicitDefEqProofs (disch := first | omega | with_reducible assumption | (simp only [qU, qC]; omega)) only [qT, qA, reduceCtorEq, qB, qC, qD, qE, qF, qG, qH, qI, qJ, qK, qL, reduceIte, cellsOf_node, splice3] | refine OrW.go ?_
  refine W_loop (fun N qs => ∃ (i : Nat) (N0 : AMem), N = ls.length - i ∧ qs.ds = [] ∧ qs.m = mx N0 [] ∧ qs.t 3 = .pointer (some ⟨m.size, 0, none⟩) ∧ qs.t 5 = .pointer (some ⟨m.size + 1, 0, none⟩) ∧ qs.t 7 = .slice (some ⟨bL, oL, none⟩) ls.length cap1 ∧ qs.t 8 = .string ⟨ls[pn].toArray⟩ ∧ qs.t 9 = .pointer (some ⟨M3.size, 0, none⟩) ∧ qs.t 10 = .int .i64 e ∧ qs.t 11 = .int .i64 i ∧ i ≤ ls.length ∧ Old (mx M3 [.cells [.int .u8 u.k, .string ⟨u.d.toArray⟩, .slice a3 u.es.length cap3] 26 true .exact]) N0) (ls.length - (0)) ⟨0, mx M3 [.cells [.int .u8 u.k, .string ⟨u.d.toArray⟩, .slice a3 u.es.length cap3] 26 true .exact], rfl, rfl, ?qm, ?q3, ?q5, ?q7, ?q8, ?q9, ?q10, ?q11, ?_⟩ ?_
  case qm | q3 | q5 | q7 | q8 | q9 | q10 | q11 => first | rfl | (simp -implicitDefEqProofs (disch := first | omega | with_reducible assumption | (simp only [qU, qC]; omega)) only [qT, qA, reduceCtorEq, qB, qC, qD, qE, qF, qG, qH, qI, qJ, qK, qL, reduceIte, mx_mx, List.append_nil]; first | done | rfl | (congr 1; omega))
  · exact ⟨Nat.zero_le _, .refl _⟩
  · rintro N t m1 ds ⟨i, N0, rfl, hds, hm, t3, t5, t7, t8, t9, t10, t11, hp⟩
    simp only at hds hm t3 t5 t7 t8 t9 t10 t11
    subst hds; replace hm := hm.symm; subst hm
    obtain ⟨hi0, hON⟩ := hp
    have hOM := (Old.here M3 _).trans hON
    have hzN := hON.1
    rw [mx_size] at hzN
    simp only [List.length_cons, List.length_nil] at hzN
    have bN := (hOM.2 _ s3).trans b3
    have bxN := (hOM.2 _ s3').trans bx3
    have bMN : N0.get M3.size = .cells [.int .u8 u.k, .string ⟨u.d.toArray⟩, .slice a3 u.es.length cap3] 26 true .exact := (hON.2 _ (by rw [mx_size]; simp)).trans (mx_new0 _ _)
    have sN : m.size < N0.size := by omega
    have sN' : m.size + 1 < N0.size := by omega
    have sMN : M3.size < N0.size := by omega
    by_cases h1 : (i : Int) < (ls.length : Int)
    · have hi : i < ls.length := by omega
      have hqmem : ls[i] ∈ ls := List.getElem_mem hi
      have hqq := hql _ hqmem
      obtain ⟨b', o', eb, hbb, r0⟩ := (hS3.old hOM).get hi
      cases eb
      have hac := atR_count tr ls[i]
      have hat0 := hat _ hqmem
      obtain ⟨z, hz⟩ : ∃ z, atR tr ls[i] = (0, z) := ⟨_, Prod.ext hat0 rfl⟩
      have hzc : z.count ≤ tr.count := by rw [hz] at hac; exact hac
      repeat first | simp -implicitDefEqProofs (disch := first | omega | with_reducible assumption | (simp only [qU, qC]; omega)) only [qT, qA, reduceCtorEq, qB, qC, qD, qE, qF, qG, qH, qI, qJ, qK, qL, reduceIte, F8_l0, t3, t5, t7, t8, t9, t10, t11, h1, bN, r0, cutL3, sN] | refine OrW.go ?_
      refine RelC.call (at_ok M3 _ tr _ ls[i] hmem0 (hOM.trans (Old.here N0 _)) (by omega) (by omega)) ?_
      rintro v M4 ⟨hO4, c4, rfl, hc4⟩
      rw [hz] at hc4 ⊢
      simp only at hc4
      have hc4' := hc4
      obtain ⟨a4, cap4, rfl, _⟩ := hc4.ex
      have hz4 := hO4.1
      rw [mx_size] at hz4
      simp only [List.length_cons, List.length_nil] at hz4
      have d4 := (hO4.2 N0.size (by rw [mx_size]; simp)).trans (mx_new0 N0 _)
      have s4 : N0.size < M4.size := by omega
      have hO5 : Old N0 (M4.set N0.size (.cells [.int .u8 z.k, .string ⟨z.d.toArray⟩, .slice a4 z.es.length cap4] 26 true .exact)) := ⟨by rw [AMem.size_set]; omega, fun y hy => by rw [AMem.get_set_ne _ _ (by omega), hO4.2 y (by rw [mx_size]; omega), mx_old hy]⟩
      have d5 := AMem.get_set_self M4 N0.size (.cells [.int .u8 z.k, .string ⟨z.d.toArray⟩, .slice a4 z.es.length cap4] 26 true .exact)
      have s5 : N0.size < (M4.set N0.size (.cells [.int .u8 z.k, .string ⟨z.d.toArray⟩, .slice a4 z.es.length cap4] 26 true .exact)).size := by rw [AMem.size_set]; exact s4
      have b4 : (M4.set N0.size (.cells [.int .u8 z.k, .string ⟨z.d.toArray⟩, .slice a4 z.es.length cap4] 26 true .exact)).get m.size = _ := (hO5.2 _ sN).trans bN
      repeat first | simp -implicitDefEqProofs (disch := first | omega | with_reducible assumption | (simp only [qU, qC]; omega)) only [qT, qA, reduceCtorEq, qB, qC, qD, qE, qF, qG, qH, qI, qJ, qK, qL, reduceIte, cellsOf_node, splice3, d4, s4, BarA_sl] | refine OrW.go ?_
      generalize M4.set N0.size (.cells [.int .u8 z.k, .string ⟨z.d.toArray⟩, .slice a4 z.es.length cap4] 26 true .exact) = M5 at *
      have zs5 : m.size < M5.size := by omega
      have tM5 : M3.size < M5.size := by omega
      have tL5 : bL < M5.size := by omega
      have bM5 := (hO5.2 _ sMN).trans bMN
      have r5 := r0
      rw [← hO5.2 bL hbb] at r5
      have p5 := q0
      rw [← ((hO3.trans hOM).trans hO5).2 bL hbL] at p5
      have kC := DetC.known (count_ok (mx M5 []) tr _ ((hmem0.old hOM).old (hO5.trans (Old.here M5 []))) (by omega))
      rw [← hlen] at kC
      obtain ⟨capT, htk, hST⟩ := StrS_takeM (hS3.old (hOM.trans hO5)) (SlE.len_lt (by omega)) (k := i) (by omega)
      have htk' := fun objs => htk (mx M5 objs) (Old.here M5 objs)
      have kH := DetC.known (has_ok (mx M5 []) _ capT (ls.take i) ls[i] (hST.old (Old.here M5 [])) (by rw [List.length_take]; omega))
      have hnot : ls[i] ∉ ls.take i := by
        intro hm
        obtain ⟨j, hj, e⟩ := List.getElem_of_mem hm
        rw [List.length_take] at hj
        rw [List.getElem_take] at e
        have := (List.getElem_inj hnd).1 e
        omega
      rw [decide_eq_false hnot] at kH
      have kB1 := fun M => DetC.known (below_ok M ls[pn] ls[i] (by omega))
      have kB2 := fun M => DetC.known (below_ok M ls[i] ls[pn] (by omega))
      have hON5 := hON.trans hO5
      by_cases hi1 : i = 0
      · have g5 : ¬ (i : Int) > 0 := by omega
        repeat first | simp -implicitDefEqProofs (disch := first | omega | with_reducible assumption | (simp only [qU, qC]; omega)) only [qT, qA, reduceCtorEq, qB, qC, qD, qE, qF, qG, qH, qI, qJ, qK, qL, reduceIte, t3, t5, t7, t8, t9, t10, t11, b4, zs5, cutL3, kC, g5, undef] | refine OrW.go ?_
        by_cases he : e = 0
        · subst he
          cases hb1 : belowB ls[pn] ls[i] with
          | true =>
            rw [hb1] at kB1
            repeat first | simp -implicitDefEqProofs (disch := first | omega | with_reducible assumption | (simp only [qU, qC]; omega)) only [qT, qA, reduceCtorEq, qB, qC, qD, qE, qF, qG, qH, qI, qJ, qK, qL, reduceIte, t3, t5, t7, t8, t9, t10, t11, r5, tL5, kB1, undef] | refine OrW.go ?_
            rw [LoopK_normal]; refine ⟨_, ?_, i + 1, M5, rfl, rfl, ?qm, ?q3, ?q5, ?q7, ?q8, ?q9, ?q10, ?q11, ?_⟩
            case qm | q3 | q5 | q7 | q8 | q9 | q10 | q11 => first | rfl | (simp -implicitDefEqProofs (disch := first | omega | with_reducible assumption | (simp only [qU, qC]; omega)) only [qT, qA, reduceCtorEq, qB, qC, qD, qE, qF, qG, qH, qI, qJ, qK, qL, reduceIte, t3, t5, t7, t8, t9, t10, t11, Int.natCast_add]; first | done | rfl | (congr 1; omega))
            · omega
            · exact ⟨by omega, hON5⟩
          | false =>
            rw [hb1] at kB1
            cases hb2 : belowB ls[i] ls[pn] with
            | true =>
              rw [hb2] at kB2
              repeat first | simp -implicitDefEqProofs (disch := first | omega | with_reducible assumption | (simp only [qU, qC]; omega)) only [qT, qA, reduceCtorEq, qB, qC, qD, qE, qF, qG, qH, qI, qJ, qK, qL, reduceIte, t3, t5, t7, t8, t9, t10, t11, r5, tL5, kB1, kB2] | refine OrW.go ?_
              rw [LoopK_normal]; refine ⟨_, ?_, i + 1, M5, rfl, rfl, ?qm, ?q3, ?q5, ?q7, ?q8, ?q9, ?q10, ?q11, ?_⟩
              case qm | q3 | q5 | q7 | q8 | q9 | q10 | q11 => first | rfl | (simp -implicitDefEqProofs (disch := first | omega | with_reducible assumption | (simp only [qU, qC]; omega)) only [qT, qA, reduceCtorEq, qB, qC, qD, qE, qF, qG, qH, qI, qJ, qK, qL, reduceIte, t3, t5, t7, t8, t9, t10, t11, Int.natCast_add]; first | done | rfl | (congr 1; omega))
              · omega
              · exact ⟨by omega, hON5⟩
            | false =>
              rw [hb2] at kB2
              have hkp := hkeep' _ hqmem rfl hb1 hb2
              rw [hz] at hkp
              repeat first | simp -implicitDefEqProofs (disch := first | omega | with_reducible assumption | (simp only [qU, qC]; omega)) only [qT, qA, reduceCtorEq, qB, qC, qD, qE, qF, qG, qH, qI, qJ, qK, qL, reduceIte, t3, t5, t7, t8, t9, t10, t11, r5, tL5, kB1, kB2, bM5, tM5, cutL3] | refine OrW.go ?_
              refine RelC.call (at_ok M3 _ u _ ls[i] hc3'' ((hOM.trans hO5).trans (Old.here M5 _)) (by omega) (by omega)) ?_
              rintro v M6 ⟨hO6, c6, rfl, hc6⟩
              rw [hkp] at hc6 ⊢
              simp only at hc6
              have hc6' := hc6
              obtain ⟨a6, cap6, rfl, _⟩ := hc6.ex
              have hz6 := hO6.1
              rw [mx_size] at hz6
              simp only [List.length_cons, List.length_nil] at hz6
              have d6 := (hO6.2 M5.size (by rw [mx_size]; simp)).trans (mx_new0 M5 _)
              have s6 : M5.size < M6.size := by omega
              have d56 := ((hO6.2 N0.size (by rw [mx_size]; omega)).trans (mx_old s5)).trans d5
              have hO7 : Old M5 (M6.set M5.size (.cells [.int .u8 z.k, .string ⟨z.d.toArray⟩, .slice a6 z.es.length cap6] 26 true .exact)) := ⟨by rw [AMem.size_set]; omega, fun y hy => by rw [AMem.get_set_ne _ _ (by omega), hO6.2 y (by rw [mx_size]; omega), mx_old hy]⟩
              have d7 := AMem.get_set_self M6 M5.size (.cells [.int .u8 z.k, .string ⟨z.d.toArray⟩, .slice a6 z.es.length cap6] 26 true .exact)
              have s7 : M5.size < (M6.set M5.size (.cells [.int .u8 z.k, .string ⟨z.d.toArray⟩, .slice a6 z.es.length cap6] 26 true .exact)).size := by rw [AMem.size_set]; exact s6
              repeat first | simp -implicitDefEqProofs (disch := first | omega | with_reducible assumption | (simp only [qU, qC]; omega)) only [qT, qA, reduceCtorEq, qB, qC, qD, qE, qF, qG, qH, qI, qJ, qK, qL, reduceIte, t3, t5, t7, t8, t9, t10, t11, cellsOf_node, splice3, d6, s6, BarA_sl] | refine OrW.go ?_
              generalize M6.set M5.size (.cells [.int .u8 z.k, .string ⟨z.d.toArray⟩, .slice a6 z.es.length cap6] 26 true .exact) = M7 at *
              have d57 := (hO7.2 _ s5).trans d5
              have s57 : N0.size < M7.size := by omega
              have hO37 := ((hOM.trans hO5).trans hO7).trans (Old.here M7 [])
              have kS := DetC.known (same_ok z (by omega) z _ _ _ (hc4'.old hO37) (hc6'.old hO37))
              rw [Tr.same_self] at kS
              repeat first | simp -implicitDefEqProofs (disch := first | omega | with_reducible assumption | (simp only [qU, qC]; omega)) only [qT, qA, reduceCtorEq, qB, qC, qD, qE, qF, qG, qH, qI, qJ, qK, qL, reduceIte, t3, t5, t7, t8, t9, t10, t11, d7, d56, d57, s7, s57, cutL3, kS] | refine OrW.go ?_
              rw [LoopK_normal]; refine ⟨_, ?_, i + 1, M7, rfl, rfl, ?qm, ?q3, ?q5, ?q7, ?q8, ?q9, ?q10, ?q11, ?_⟩
              case qm | q3 | q5 | q7 | q8 | q9 | q10 | q11 => first | rfl | (simp -implicitDefEqProofs (disch := first | omega | with_reducible assumption | (simp only [qU, qC]; omega)) only [qT, qA, reduceCtorEq, qB, qC, qD, qE, qF, qG, qH, qI, qJ, qK, qL, reduceIte, t3, t5, t7, t8, t9, t10, t11, Int.natCast_add]; first | done | rfl | (congr 1; omega))
              · omega
              · exact ⟨by omega, hON5.trans hO7⟩
        · repeat first | simp -implicitDefEqProofs (disch := first | omega | with_reducible assumption | (simp only [qU, qC]; omega)) only [qT, qA, reduceCtorEq, qB, qC, qD, qE, qF, qG, qH, qI, qJ, qK, qL, reduceIte, t3, t5, t7, t8, t9, t10, t11, he, undef] | refine OrW.go ?_
          rw [LoopK_normal]; refine ⟨_, ?_, i + 1, M5, rfl, rfl, ?qm, ?q3, ?q5, ?q7, ?q8, ?q9, ?q10, ?q11, ?_⟩
          case qm | q3 | q5 | q7 | q8 | q9 | q10 | q11 => first | rfl | (simp -implicitDefEqProofs (disch := first | omega | with_reducible assumption | (simp only [qU, qC]; omega)) only [qT, qA, reduceCtorEq, qB, qC, qD, qE, qF, qG, qH, qI, qJ, qK, qL, reduceIte, t3, t5, t7, t8, t9, t10, t11, Int.natCast_add]; first | done | rfl | (congr 1; omega))
          · omega
          · exact ⟨by omega, hON5⟩
      · have g5 : (i : Int) > 0 := by omega
        repeat first | simp -implicitDefEqProofs (disch := first | omega | with_reducible assumption | (simp only [qU, qC]; omega)) only [qT, qA, reduceCtorEq, qB, qC, qD, qE, qF, qG, qH, qI, qJ, qK, qL, reduceIte, t3, t5, t7, t8, t9, t10, t11, b4, zs5, tL5, cutL3, kC, g5, stepOp_slV_v, htk', r5, kH] | refine OrW.go ?_
        by_cases he : e = 0
        · subst he
          cases hb1 : belowB ls[pn] ls[i] with
          | true =>
            rw [hb1] at kB1
            repeat first | simp -implicitDefEqProofs (disch := first | omega | with_reducible assumption | (simp only [qU, qC]; omega)) only [qT, qA, reduceCtorEq, qB, qC, qD, qE, qF, qG, qH, qI, qJ, qK, qL, reduceIte, t3, t5, t7, t8, t9, t10, t11, r5, tL5, kB1, undef] | refine OrW.go ?_
            rw [LoopK_normal]; refine ⟨_, ?_, i + 1, M5, rfl, rfl, ?qm, ?q3, ?q5, ?q7, ?q8, ?q9, ?q10, ?q11, ?_⟩
            case qm | q3 | q5 | q7 | q8 | q9 | q10 | q11 => first | rfl | (simp -implicitDefEqProofs (disch := first | omega | with_reducible assumption | (simp only [qU, qC]; omega)) only [qT, qA, reduceCtorEq, qB, qC, qD, qE, qF, qG, qH, qI, qJ, qK, qL, reduceIte, t3, t5, t7, t8, t9, t10, t11, Int.natCast_add]; first | done | rfl | (congr 1; omega))
            · omega
            · exact ⟨by omega, hON5⟩
          | false =>
            rw [hb1] at kB1
            cases hb2 : belowB ls[i] ls[pn] with
            | true =>
              rw [hb2] at kB2
              repeat first | simp -implicitDefEqProofs (disch := first | omega | with_reducible assumption | (simp only [qU, qC]; omega)) only [qT, qA, reduceCtorEq, qB, qC, qD, qE, qF, qG, qH, qI, qJ, qK, qL, reduceIte, t3, t5, t7, t8, t9, t10, t11, r5, tL5, kB1, kB2] | refine OrW.go ?_
              rw [LoopK_normal]; refine ⟨_, ?_, i + 1, M5, rfl, rfl, ?qm, ?q3, ?q5, ?q7, ?q8, ?q9, ?q10, ?q11, ?_⟩
              case qm | q3 | q5 | q7 | q8 | q9 | q10 | q11 => first | rfl | (simp -implicitDefEqProofs (disch := first | omega | with_reducible assumption | (simp only [qU, qC]; omega)) only [qT, qA, reduceCtorEq, qB, qC, qD, qE, qF, qG, qH, qI, qJ, qK, qL, reduceIte, t3, t5, t7, t8, t9, t10, t11, Int.natCast_add]; first | done | rfl | (congr 1; omega))
              · omega
              · exact ⟨by omega, hON5⟩
            | false =>
              rw [hb2] at kB2
              have hkp := hkeep' _ hqmem rfl hb1 hb2
              rw [hz] at hkp
              repeat first | simp -implicitDefEqProofs (disch := first | omega | with_reducible assumption | (simp only [qU, qC]; omega)) only [qT, qA, reduceCtorEq, qB, qC, qD, qE, qF, qG, qH, qI, qJ, qK, qL, reduceIte, t3, t5, t7, t8, t9, t10, t11, r5, tL5, kB1, kB2, bM5, tM5, cutL3] | refine OrW.go ?_
              refine RelC.call (at_ok M3 _ u _ ls[i] hc3'' ((hOM.trans hO5).trans (Old.here M5 _)) (by omega) (by omega)) ?_
              rintro v M6 ⟨hO6, c6, rfl, hc6⟩
              rw [hkp] at hc6 ⊢
              simp only at hc6
              have hc6' := hc6
              obtain ⟨a6, cap6, rfl, _⟩ := hc6.ex
              have hz6 := hO6.1
              rw [mx_size] at hz6
              simp only [List.length_cons, List.length_nil] at hz6
              have d6 := (hO6.2 M5.size (by rw [mx_size]; simp)).trans (mx_new0 M5 _)
              have s6 : M5.size < M6.size := by omega
              have d56 := ((hO6.2 N0.size (by rw [mx_size]; omega)).trans (mx_old s5)).trans d5
              have hO7 : Old M5 (M6.set M5.size (.cells [.int .u8 z.k, .string ⟨z.d.toArray⟩, .slice a6 z.es.length cap6] 26 true .exact)) := ⟨by rw [AMem.size_set]; omega, fun y hy => by rw [AMem.get_set_ne _ _ (by omega), hO6.2 y (by rw [mx_size]; omega), mx_old hy]⟩
              have d7 := AMem.get_set_self M6 M5.size (.cells [.int .u8 z.k, .string ⟨z.d.toArray⟩, .slice a6 z.es.length cap6] 26 true .exact)
              have s7 : M5.size < (M6.set M5.size (.cells [.int .u8 z.k, .string ⟨z.d.toArray⟩, .slice a6 z.es.length cap6] 26 true .exact)).size := by rw [AMem.size_set]; exact s6
              repeat first | simp -implicitDefEqProofs (disch := first | omega | with_reducible assumption | (simp only [qU, qC]; omega)) only [qT, qA, reduceCtorEq, qB, qC, qD, qE, qF, qG, qH, qI, qJ, qK, qL, reduceIte, t3, t5, t7, t8, t9, t10, t11, cellsOf_node, splice3, d6, s6, BarA_sl] | refine OrW.go ?_
              generalize M6.set M5.size (.cells [.int .u8 z.k, .string ⟨z.d.toArray⟩, .slice a6 z.es.length cap6] 26 true .exact) = M7 at *
              have d57 := (hO7.2 _ s5).trans d5
              have s57 : N0.size < M7.size := by omega
              have hO37 := ((hOM.trans hO5).trans hO7).trans (Old.here M7 [])
              have kS := DetC.known (same_ok z (by omega) z _ _ _ (hc4'.old hO37) (hc6'.old hO37))
              rw [Tr.same_self] at kS
              repeat first | simp -implicitDefEqProofs (disch := first | omega | with_reducible assumption | (simp only [qU, qC]; omega)) only [qT, qA, reduceCtorEq, qB, qC, qD, qE, qF, qG, qH, qI, qJ, qK, qL, reduceIte, t3, t5, t7, t8, t9, t10, t11, d7, d56, d57, s7, s57, cutL3, kS] | refine OrW.go ?_
              rw [LoopK_normal]; refine ⟨_, ?_, i + 1, M7, rfl, rfl, ?qm, ?q3, ?q5, ?q7, ?q8, ?q9, ?q10, ?q11, ?_⟩
              case qm | q3 | q5 | q7 | q8 | q9 | q10 | q11 => first | rfl | (simp -implicitDefEqProofs (disch := first | omega | with_reducible assumption | (simp only [qU, qC]; omega)) only [qT, qA, reduceCtorEq, qB, qC, qD, qE, qF, qG, qH, qI, qJ, qK, qL, reduceIte, t3, t5, t7, t8, t9, t10, t11, Int.natCast_add]; first | done | rfl | (congr 1; omega))
              · omega
              · exact ⟨by omega, hON5.trans hO7⟩
        · repeat first | simp -implicitDefEqProofs (disch := first | omega | with_reducible assumption | (simp only [qU, qC]; omega)) only [qT, qA, reduceCtorEq, qB, qC, qD, qE, qF, qG, qH, qI, qJ, qK, qL, reduceIte, t3, t5, t7, t8, t9, t10, t11, he, undef] | refine OrW.go ?_
          rw [LoopK_normal]; refine ⟨_, ?_, i + 1, M5, rfl, rfl, ?qm, ?q3, ?q5, ?q7, ?q8, ?q9, ?q10, ?q11, ?_⟩
          case qm | q3 | q5 | q7 | q8 | q9 | q10 | q11 => first | rfl | (simp -implicitDefEqProofs (disch := first | omega | with_reducible assumption | (simp only [qU, qC]; omega)) only [qT, qA, reduceCtorEq, qB, qC, qD, qE, qF, qG, qH, qI, qJ, qK, qL, reduceIte, t3, t5, t7, t8, t9, t10, t11, Int.natCast_add]; first | done | rfl | (congr 1; omega))
          · omega
          · exact ⟨by omega, hON5⟩
    · by_cases he : e = 0
      · subst he
        obtain ⟨hp1, hp2⟩ := hputat rfl
        have kR := fun objs => right_ok (mx N0 objs) u _ (hc3''.old (hOM.trans (Old.here N0 objs))) (by omega)
        repeat first | simp -implicitDefEqProofs (disch := first | omega | with_reducible assumption | (simp only [qU, qC]; omega)) only [qT, qA, reduceCtorEq, qB, qC, qD, qE, qF, qG, qH, qI, qJ, qK, qL, reduceIte, F8_l0, t3, t5, t7, t8, t9, t10, t11, h1, bMN, sMN, cutL3] | refine OrW.go ?_
        refine RelC.call (at_ok M3 _ u _ ls[pn] hc3'' (hOM.trans (Old.here N0 [])) (by omega) (by omega)) ?_
        rintro v M4 ⟨hO4', c4, rfl, hc4⟩
        have hO4 := (Old.here N0 []).trans hO4'
        rw [hp1] at hc4 ⊢
        simp only at hc4
        have hc4' := hc4
        obtain ⟨a4, cap4, rfl, _⟩ := hc4.ex
        have bM4 := (hO4.2 _ sMN).trans bMN
        have bx4 := (hO4.2 _ sN').trans bxN
        have tM4 : M3.size < M4.size := Nat.lt_of_lt_of_le sMN hO4.1
        have tx4 : m.size + 1 < M4.size := Nat.lt_of_lt_of_le sN' hO4.1
        have hO34 := (hOM.trans hO4).trans (Old.here M4 [.cells [.int .u8 x.k, .string ⟨x.d.toArray⟩, .slice a4 x.es.length cap4] 26 true .exact])
        have kS := DetC.known (same_ok x (by omega) x _ _ _ (hc4'.old hO34) (hmemx.old hO34))
        rw [Tr.same_self] at kS
        have kR := DetC.known (right_ok _ u _ (hc3''.old hO34) (by omega))
        rw [hp2] at kR
        repeat first | simp -implicitDefEqProofs (disch := first | omega | with_reducible assumption | (simp only [qU, qC]; omega)) only [qT, qA, reduceCtorEq, qB, qC, qD, qE, qF, qG, qH, qI, qJ, qK, qL, reduceIte, t3, t5, t7, t8, t9, t10, t11, cellsOf_node, splice3, cutL3, bM4, bx4, tM4, tx4, kS, kR, kW] | refine OrW.go ?_
        exact ((((Old.here m _).trans hO1).trans hO2).trans hO3).trans hO34
      · repeat first | simp -implicitDefEqProofs (disch := first | omega | with_reducible assumption | (simp only [qU, qC]; omega)) only [qT, qA, reduceCtorEq, qB, qC, qD, qE, qF, qG, qH, qI, qJ, qK, qL, reduceIte, F8_l0, t3, t5, t7, t8, t9, t10, t11, h1, he, kW] | refine OrW.go ?_
        exact (((((Old.here m _).trans hO1).trans hO2).trans hO3).trans hOM).mx _
end Go.Proofs.YtfjgpeoblnpelaaDoor
namespace Go.AM
theorem rep_bytes (n : Nat) : rep [.int .u8 0] n = (List.replicate n (0 : UInt8)).map byteV := by
  induction n with
  | zero => rfl
  | succ n ih => rw [List.replicate_succ, List.map_cons, ← ih]; simp only [rep, List.replicate_succ, List.flatten_cons]; rfl
end Go.AM
namespace Go.Proofs.YtfjgpeoblnpelaaDoor
open Go Go.AM
set_option linter.unusedVariables false
set_option linter.unusedSimpArgs false
set_option maxRecDepth 100000
set_option maxHeartbeats 8000000

theorem fill_36 (k0 : Int) (s0 : ByteArray) (p0 : Option Addr) (n0 c0 : Nat) (k1 : Int) (s1 : ByteArray) (p1 : Option Addr) (n1 c1 : Nat) (k2 : Int) (s2 : ByteArray) (p2 : Option Addr) (n2 c2 : Nat) (k3 : Int) (s3 : ByteArray) (p3 : Option Addr) (n3 c3 : Nat) (k4 : Int) (s4 : ByteArray) (p4 : Option Addr) (n4 c4 : Nat) (k5 : Int) (s5 : ByteArray) (p5 : Option Addr) (n5 c5 : Nat) (k6 : Int) (s6 : ByteArray) (p6 : Option Addr) (n6 c6 : Nat) (k7 : Int) (s7 : ByteArray) (p7 : Option Addr) (n7 c7 : Nat) (k8 : Int) (s8 : ByteArray) (p8 : Option Addr) (n8 c8 : Nat) (k9 : Int) (s9 : ByteArray) (p9 : Option Addr) (n9 c9 : Nat) (k10 : Int) (s10 : ByteArray) (p10 : Option Addr) (n10 c10 : Nat) (k11 : Int) (s11 : ByteArray) (p11 : Option Addr) (n11 c11 : Nat) : fill [.int .u8 0, .string ⟨#[]⟩, .slice none 0 0, .int .u8 0, .string ⟨#[]⟩, .slice none 0 0, .int .u8 0, .string ⟨#[]⟩, .slice none 0 0, .int .u8 0, .string ⟨#[]⟩, .slice none 0 0, .int .u8 0, .string ⟨#[]⟩, .slice none 0 0, .int .u8 0, .string ⟨#[]⟩, .slice none 0 0, .int .u8 0, .string ⟨#[]⟩, .slice none 0 0, .int .u8 0, .string ⟨#[]⟩, .slice none 0 0, .int .u8 0, .string ⟨#[]⟩, .slice none 0 0, .int .u8 0, .string ⟨#[]⟩, .slice none 0 0, .int .u8 0, .string ⟨#[]⟩, .slice none 0 0, .int .u8 0, .string ⟨#[]⟩, .slice none 0 0] [(0, 3, .agg [.int .u8 k0, .string s0, .slice p0 n0 c0].toArray), (3, 3, .agg [.int .u8 k1, .string s1, .slice p1 n1 c1].toArray), (6, 3, .agg [.int .u8 k2, .string s2, .slice p2 n2 c2].toArray), (9, 3, .agg [.int .u8 k3, .string s3, .slice p3 n3 c3].toArray), (12, 3, .agg [.int .u8 k4, .string s4, .slice p4 n4 c4].toArray), (15, 3, .agg [.int .u8 k5, .string s5, .slice p5 n5 c5].toArray), (18, 3, .agg [.int .u8 k6, .string s6, .slice p6 n6 c6].toArray), (21, 3, .agg [.int .u8 k7, .string s7, .slice p7 n7 c7].toArray), (24, 3, .agg [.int .u8 k8, .string s8, .slice p8 n8 c8].toArray), (27, 3, .agg [.int .u8 k9, .string s9, .slice p9 n9 c9].toArray), (30, 3, .agg [.int .u8 k10, .string s10, .slice p10 n10 c10].toArray), (33, 3, .agg [.int .u8 k11, .string s11, .slice p11 n11 c11].toArray)] = some [.int .u8 k0, .string s0, .slice p0 n0 c0, .int .u8 k1, .string s1, .slice p1 n1 c1, .int .u8 k2, .string s2, .slice p2 n2 c2, .int .u8 k3, .string s3, .slice p3 n3 c3, .int .u8 k4, .string s4, .slice p4 n4 c4, .int .u8 k5, .string s5, .slice p5 n5 c5, .int .u8 k6, .string s6, .slice p6 n6 c6, .int .u8 k7, .string s7, .slice p7 n7 c7, .int .u8 k8, .string s8, .slice p8 n8 c8, .int .u8 k9, .string s9, .slice p9 n9 c9, .int .u8 k10, .string s10, .slice p10 n10 c10, .int .u8 k11, .string s11, .slice p11 n11 c11] := by kernel_rfl
theorem fill_n0121 (a b c : Value) (k : Int) (s : ByteArray) (p : Option Addr) (n cap : Nat) : fill [a, b, c] [(0, 1, .int .u8 k), (1, 1, .string s), (2, 1, .slice p n cap)] = some [.int .u8 k, .string s, .slice p n cap] := rfl
theorem known (m : AMem) : PureC Tryd.prog 3 9 [] m (.bool true) := by
  have kFile := fun M l => DetC.known (file_ok M l)
  have kW := fun M => DetC.known (works_ok M)
  refine pure_of_W (fn := Tryd.f9) rfl rfl F9_ok (by simp [F9]) (.bool _) ?_
  repeat first | simp -implicitDefEqProofs (disch := first | omega | with_reducible assumption | (simp only [qU, qC]; omega)) only [qT, qA, reduceCtorEq, qB, qC, qD, qE, qF, qG, qH, qI, qJ, qK, qL, reduceIte, F9] | refine OrW.go ?_
  refine RelC.call (barn_ok m).at ?_
  rintro v M0 ⟨hO0, cb, rfl, hb⟩
  have hb0 := hb
  obtain ⟨ab, capb, rfl, _⟩ := hb.ex
  obtain ⟨zs, hzs, hzl⟩ : ∃ c : List UInt8, rep [.int .u8 0] 256 = c.map byteV ∧ c.length = 256 := ⟨_, rep_bytes _, List.length_replicate⟩
  have hbs : ∀ o0, b2sV (.slice (some ⟨M0.size + 1, 0, none⟩) 256 256) (mx M0 [o0, .cells (zs.map byteV) 5 true .exact]) = some (.string ⟨zs.toArray⟩, mx M0 [o0, .cells (zs.map byteV) 5 true .exact]) := fun o0 => by
    have := BSl.str (m := mx M0 [o0, .cells (zs.map byteV) 5 true .exact]) (a := some ⟨M0.size + 1, 0, none⟩) (cap := 256) (c := zs) (.inr ⟨_, _, _, _, _, _, rfl, by rw [mx_size]; simp, mx_new M0 _ 1, cutL_all (by simp), .inr ⟨openCap_lt (by omega), by omega⟩⟩)
    rwa [hzl] at this
  repeat first | simp -implicitDefEqProofs (disch := first | omega | with_reducible assumption | (simp only [qU, qC]; omega)) only [qT, qA, reduceCtorEq, qB, qC, qD, qE, qF, qG, qH, qI, qJ, qK, qL, reduceIte, cellsOf_node, splice3, hzs, stepOp_b2s_v, hbs] | refine OrW.go ?_
  refine W_loop (fun N qs => ∃ (i : Nat) (l : List UInt8), N = 256 - i ∧ qs.ds = [] ∧ qs.m = mx M0 [.cells [.int .u8 barnT.k, .string ⟨barnT.d.toArray⟩, .slice ab barnT.es.length capb] 26 true .exact, .cells (zs.map byteV) 5 true .exact] ∧ qs.t 1 = .pointer (some ⟨M0.size, 0, none⟩) ∧ qs.t 2 = .string ⟨zs.toArray⟩ ∧ qs.t 3 = .string ⟨l.toArray⟩ ∧ qs.t 4 = .int .i64 i ∧ i ≤ 256 ∧ l.length = i) (256 - (0)) ⟨0, [], rfl, rfl, ?qm, ?q1, ?q2, ?q3, ?q4, ?_⟩ ?_
  case qm | q1 | q2 | q3 | q4 => first | rfl | (simp -implicitDefEqProofs (disch := first | omega | with_reducible assumption | (simp only [qU, qC]; omega)) only [qT, qA, reduceCtorEq, qB, qC, qD, qE, qF, qG, qH, qI, qJ, qK, qL, reduceIte]; first | done | rfl | (congr 1; omega))
  · exact ⟨by omega, rfl⟩
  · rintro N t m1 ds ⟨i, l, rfl, hds, hm, t1, t2, t3, t4, hp⟩
    simp only at hds hm t1 t2 t3 t4
    subst hds; replace hm := hm.symm; subst hm
    obtain ⟨hi0, hll⟩ := hp
    by_cases h1 : (i : Int) < 256
    · repeat first | simp -implicitDefEqProofs (disch := first | omega | with_reducible assumption | (simp only [qU, qC]; omega)) only [qT, qA, reduceCtorEq, qB, qC, qD, qE, qF, qG, qH, qI, qJ, qK, qL, reduceIte, F9_l0, t1, t2, t3, t4, h1] | refine OrW.go ?_
      rw [LoopK_normal]; refine ⟨_, ?_, i + 1, l ++ [110], rfl, rfl, ?qm, ?q1, ?q2, ?q3, ?q4, ?_⟩
      case qm | q1 | q2 | q3 | q4 => first | rfl | (simp -implicitDefEqProofs (disch := first | omega | with_reducible assumption | (simp only [qU, qC]; omega)) only [qT, qA, reduceCtorEq, qB, qC, qD, qE, qF, qG, qH, qI, qJ, qK, qL, reduceIte, t1, t2, t3, t4, Int.natCast_add]; first | done | rfl | (congr 1; omega))
      · omega
      · exact ⟨by omega, by simp [hll]⟩
    · have hl255 : (255 : Int) ≤ (l.length : Int) := by omega
      have hl256 : 255 ≤ l.length := by omega
      repeat first | simp -implicitDefEqProofs (disch := first | omega | with_reducible assumption | (simp only [qU, qC]; omega)) only [qT, qA, reduceCtorEq, qB, qC, qD, qE, qF, qG, qH, qI, qJ, qK, qL, reduceIte, F9_l0, t1, t2, t3, t4, h1, hl255, hl256] | refine OrW.go ?_
      obtain ⟨ws, hws, hwl⟩ : ∃ ws : List (List UInt8), [[], [46], [46, 46], [46, 46, 46], [97, 47, 98], [97, 0], [97], [255], [32], l, l.take 255, [47]] = ws ∧ ∀ s ∈ ws, s.length ≤ 256 := ⟨_, rfl, fun s hs => by
        simp only [List.mem_cons, List.not_mem_nil, or_false] at hs
        rcases hs with rfl | rfl | rfl | rfl | rfl | rfl | rfl | rfl | rfl | rfl | rfl | rfl <;> first | (simp; done) | (simp; omega) | omega⟩
      have hw12 : ws.length = 12 := by rw [← hws]; rfl
      have hrow : ∀ q : List Value, q = ws.map strC → q = ws.map strC := fun _ h => h
      have hcells : [Value.string ⟨#[]⟩, .string ⟨#[46]⟩, .string ⟨#[46, 46]⟩, .string ⟨#[46, 46, 46]⟩, .string ⟨#[97, 47, 98]⟩, .string ⟨#[97, 0]⟩, .string ⟨#[97]⟩, .string ⟨#[255]⟩, .string ⟨#[32]⟩, .string ⟨l.toArray⟩, .string ⟨(l.take 255).toArray⟩, .string ⟨#[47]⟩] = ws.map strC := by rw [← hws]; rfl
      rw [hcells]
      have hS0 : StrS (mx M0 [.cells [.int .u8 barnT.k, .string ⟨barnT.d.toArray⟩, .slice ab barnT.es.length capb] 26 true .exact, .cells (zs.map byteV) 5 true .exact, .cells (ws.map strC) 9 true .exact]) (some ⟨M0.size + 2, 0, none⟩) 12 ws := by
        have := StrS.lit (m := mx M0 [.cells [.int .u8 barnT.k, .string ⟨barnT.d.toArray⟩, .slice ab barnT.es.length capb] 26 true .exact, .cells (zs.map byteV) 5 true .exact, .cells (ws.map strC) 9 true .exact]) (b := M0.size + 2) (ls := ws) (by rw [mx_size]; simp) (mx_new M0 _ 2) (by omega)
        rwa [hw12] at this
      refine W_loop (fun N qs => ∃ (i : Nat) (N0 : AMem), N = 12 - i ∧ qs.ds = [] ∧ qs.m = mx N0 [] ∧ qs.t 1 = .pointer (some ⟨M0.size, 0, none⟩) ∧ qs.t 2 = .string ⟨zs.toArray⟩ ∧ qs.t 3 = .string ⟨l.toArray⟩ ∧ qs.t 30 = .slice (some ⟨M0.size + 2, 0, none⟩) 12 12 ∧ qs.t 31 = .int .i64 12 ∧ qs.t 32 = .int .i64 i ∧ i ≤ 12 ∧ Old (mx M0 [.cells [.int .u8 barnT.k, .string ⟨barnT.d.toArray⟩, .slice ab barnT.es.length capb] 26 true .exact, .cells (zs.map byteV) 5 true .exact, .cells (ws.map strC) 9 true .exact]) N0) (12 - (0)) ⟨0, mx M0 [.cells [.int .u8 barnT.k, .string ⟨barnT.d.toArray⟩, .slice ab barnT.es.length capb] 26 true .exact, .cells (zs.map byteV) 5 true .exact, .cells (ws.map strC) 9 true .exact], rfl, rfl, ?qm, ?q1, ?q2, ?q3, ?q30, ?q31, ?q32, ?_⟩ ?_
      case qm | q1 | q2 | q3 | q30 | q31 | q32 => first | rfl | (simp -implicitDefEqProofs (disch := first | omega | with_reducible assumption | (simp only [qU, qC]; omega)) only [qT, qA, reduceCtorEq, qB, qC, qD, qE, qF, qG, qH, qI, qJ, qK, qL, reduceIte, t1, t2, t3, t4, mx_mx, List.append_nil]; first | done | rfl | (congr 1; omega))
      · exact ⟨Nat.zero_le _, .refl _⟩
      · rintro N t m1 ds ⟨i, N0, rfl, hds, hm, t1, t2, t3, t30, t31, t32, hp⟩
        simp only at hds hm t1 t2 t3 t30 t31 t32
        subst hds; replace hm := hm.symm; subst hm
        obtain ⟨hi0, hON⟩ := hp
        have hOM := (Old.here M0 _).trans hON
        have hz := hON.1
        rw [mx_size] at hz
        simp only [List.length_cons, List.length_nil] at hz
        have sN : M0.size < N0.size := by omega
        have bN : N0.get M0.size = .cells [.int .u8 barnT.k, .string ⟨barnT.d.toArray⟩, .slice ab barnT.es.length capb] 26 true .exact := (hON.2 _ (by rw [mx_size]; simp)).trans (mx_new0 _ _)
        have hbN := hb0.old hOM
        have kN := fun M (l : List UInt8) (h : l.length ≤ 9223372036854775807) => DetC.known (lawName M l h)
        have kA := fun objs (l : List UInt8) (h : l.length ≤ 9223372036854775807) => DetC.known (lawAtP (mx N0 objs) barnT _ l (hbN.old (Old.here N0 objs)) h)
        have kPf := fun objs (d l : List UInt8) (h : l.length ≤ 9223372036854775807) => DetC.known (lawPutP (mx N0 objs) barnT (.nd 1 d []) _ _ l (hbN.old (Old.here N0 objs)) (TrC.leaf _ 1 d) h)
        have kPb := fun objs (l : List UInt8) (h : l.length ≤ 9223372036854775807) => DetC.known (lawPutP (mx N0 objs) barnT barnT _ _ l (hbN.old (Old.here N0 objs)) (hbN.old (Old.here N0 objs)) h)
        have kR3 := fun M d => DetC.known (lawRight M (.nd 3 d []) _ (TrC.leaf M 3 d))
        by_cases h2 : (i : Int) < 12
        · have hi : i < ws.length := by omega
          obtain ⟨b', o', eb, hbb, r0⟩ := (hS0.old hON).get (i := i) hi
          cases eb
          rw [Nat.zero_add] at r0
          have sN2 : M0.size + 2 < N0.size := by omega
          have hsl := hwl ws[i] (List.getElem_mem hi)
          have kRd' : Known Tryd.prog 3 4 [.agg [.int .u8 4, .string ⟨#[]⟩, .slice (some ⟨N0.size, 0, none⟩) 1 1].toArray] (mx N0 [.cells [.string ⟨ws[i].toArray⟩, .int .u8 1, .string ⟨#[]⟩, .slice none 0 0] 48 true .exact]) (.bool true) (mx N0 [.cells [.string ⟨ws[i].toArray⟩, .int .u8 1, .string ⟨#[]⟩, .slice none 0 0] 48 true .exact]) := DetC.known (lawRight (mx N0 [.cells [.string ⟨ws[i].toArray⟩, .int .u8 1, .string ⟨#[]⟩, .slice none 0 0] 48 true .exact]) (.nd 4 [] [.mk ws[i] (.nd 1 [] [])]) _ (trC_mk (k := 4) (d := []) (SlE.lit (b := N0.size) (es := [.mk ws[i] (.nd 1 [] [])]) (by rw [mx_size]; simp) (mx_new0 N0 _) (EsC.cons (c := [.string ⟨ws[i].toArray⟩, .int .u8 1, .string ⟨#[]⟩, .slice none 0 0]) (EnC.of (e := .mk ws[i] (.nd 1 [] [])) (TrC.leaf _ _ _)) (EsC.nil _)) (by simp))))
          have hcat : ∀ (p q : List UInt8), p.length ≤ 10 → q.length ≤ 256 → (p ++ q).length ≤ 9223372036854775807 := fun p q h1 h2 => by rw [List.length_append]; omega
          have f1 := kA [] ws[i] (by omega)
          have f2 := kA [] (100 :: 47 :: ws[i]) (by simp only [List.length_cons]; omega)
          have f3 := kPf [] [110] ws[i] (by omega)
          have f4 := kPb [] (100 :: 47 :: ws[i]) (by simp only [List.length_cons]; omega)
          have f5 := kPb [] (ws[i] ++ [47, 113]) (by rw [List.length_append]; simp only [List.length_cons, List.length_nil]; omega)
          have f0 := kN (mx N0 []) ws[i] (by omega)
          have kF1 := fun M => kFile M [110]
          have kF0 := fun M => kFile M []
          repeat first | simp -implicitDefEqProofs (disch := first | omega | with_reducible assumption | (simp only [qU, qC]; omega)) only [qT, qA, reduceCtorEq, qB, qC, qD, qE, qF, qG, qH, qI, qJ, qK, qL, reduceIte, F9_l1, t1, t2, t3, t30, t31, t32, h2, r0, bN, sN, sN2, cutL3, f0, f1, f2, f3, f4, f5, kF0, kF1, kRd', kR3, fill_n01, fill_n011, fill_n021, fill_e13, fill_e04] | refine OrW.go ?_
          rw [LoopK_normal]; refine ⟨_, ?_, i + 1, mx N0 [.cells [.string ⟨ws[i].toArray⟩, .int .u8 1, .string ⟨#[]⟩, .slice none 0 0] 48 true .exact], rfl, rfl, ?qm, ?q1, ?q2, ?q3, ?q30, ?q31, ?q32, ?_⟩
          case qm | q1 | q2 | q3 | q30 | q31 | q32 => first | rfl | (simp -implicitDefEqProofs (disch := first | omega | with_reducible assumption | (simp only [qU, qC]; omega)) only [qT, qA, reduceCtorEq, qB, qC, qD, qE, qF, qG, qH, qI, qJ, qK, qL, reduceIte, t1, t2, t3, t30, t31, t32, Int.natCast_add, mx_mx, List.append_nil]; first | done | rfl | (congr 1; omega))
          · omega
          · exact ⟨by omega, hON.mx _⟩
        · repeat first | simp -implicitDefEqProofs (disch := first | omega | with_reducible assumption | (simp only [qU, qC]; omega)) only [qT, qA, reduceCtorEq, qB, qC, qD, qE, qF, qG, qH, qI, qJ, qK, qL, reduceIte, F9_l1, t1, t2, t3, t30, t31, t32, h2, bN, sN, cutL3] | refine OrW.go ?_
          refine RelC.call (refPaths_ok (mx N0 []) barnT _ (hbN.old (Old.here N0 [])) (by decide +kernel)) ?_
          rintro v M1 ⟨hO1', ap, capp, rfl, hSp⟩
          have hO1 := (Old.here N0 []).trans hO1'
          have bM1 := (hO1.2 _ sN).trans bN
          have sM1 : M0.size < M1.size := Nat.lt_of_lt_of_le sN hO1.1
          have hb1 := hbN.old hO1
          have hpl : ∀ s ∈ pathsR barnT, s.length ≤ 100 := by decide +kernel
          have hpn : (pathsR barnT).length ≤ 100 := by decide +kernel
          generalize pathsR barnT = ps at *
          repeat first | simp -implicitDefEqProofs (disch := first | omega | with_reducible assumption | (simp only [qU, qC]; omega)) only [qT, qA, reduceCtorEq, qB, qC, qD, qE, qF, qG, qH, qI, qJ, qK, qL, reduceIte] | refine OrW.go ?_
          refine W_loop (fun N qs => ∃ (i : Nat) (N1 : AMem), N = ps.length - i ∧ qs.ds = [] ∧ qs.m = mx N1 [] ∧ qs.t 1 = .pointer (some ⟨M0.size, 0, none⟩) ∧ qs.t 2 = .string ⟨zs.toArray⟩ ∧ qs.t 3 = .string ⟨l.toArray⟩ ∧ qs.t 7 = .slice ap ps.length capp ∧ qs.t 8 = .int .i64 i ∧ i ≤ ps.length ∧ Old M1 N1) (ps.length - (0)) ⟨0, M1, rfl, rfl, ?qm, ?q1, ?q2, ?q3, ?q7, ?q8, ?_⟩ ?_
          case qm | q1 | q2 | q3 | q7 | q8 => first | rfl | (simp -implicitDefEqProofs (disch := first | omega | with_reducible assumption | (simp only [qU, qC]; omega)) only [qT, qA, reduceCtorEq, qB, qC, qD, qE, qF, qG, qH, qI, qJ, qK, qL, reduceIte, t1, t2, t3, t30, t31, t32]; first | done | rfl | (congr 1; omega))
          · exact ⟨Nat.zero_le _, .refl _⟩
          · rintro N t m1 ds ⟨i, N1, rfl, hds, hm, t1, t2, t3, t7, t8, hp⟩
            simp only at hds hm t1 t2 t3 t7 t8
            subst hds; replace hm := hm.symm; subst hm
            obtain ⟨hi0, hO2⟩ := hp
            have bN1 := (hO2.2 _ sM1).trans bM1
            have sN1 : M0.size < N1.size := Nat.lt_of_lt_of_le sM1 hO2.1
            have hbN1 := hb1.old hO2
            have kF0 := fun M => kFile M []
            by_cases h3 : (i : Int) < (ps.length : Int)
            · repeat first | simp -implicitDefEqProofs (disch := first | omega | with_reducible assumption | (simp only [qU, qC]; omega)) only [qT, qA, reduceCtorEq, qB, qC, qD, qE, qF, qG, qH, qI, qJ, qK, qL, reduceIte, F9_l2, t1, t2, t3, t7, t8, h3, bN1, sN1, cutL3, fill_n01, fill_n011, fill_n021, fill_n0121, fill_e13, fill_e04, fill_8, fill_36, kF0, hl255, hl256, BarA_sl] | refine OrW.go ?_
              have hbB := hbN1.old (Old.here N1 [.cells [.string ⟨#[97]⟩, .int .u8 barnT.k, .string ⟨barnT.d.toArray⟩, .slice ab barnT.es.length capb] 48 true .exact, .cells [.string ⟨#[]⟩, .int .u8 0, .string ⟨#[]⟩, .slice none 0 0] 48 true .exact, .cells [.string ⟨#[98]⟩, .int .u8 1, .string ⟨#[]⟩, .slice none 0 0, .string ⟨#[97]⟩, .int .u8 1, .string ⟨#[]⟩, .slice none 0 0] 48 true .exact, .cells [.string ⟨#[97]⟩, .int .u8 1, .string ⟨#[]⟩, .slice none 0 0, .string ⟨#[97]⟩, .int .u8 barnT.k, .string ⟨barnT.d.toArray⟩, .slice ab barnT.es.length capb] 48 true .exact, .cells [.int .u8 0, .string ⟨#[]⟩, .slice none 0 0, .int .u8 5, .string ⟨#[]⟩, .slice none 0 0, .int .u8 1, .string ⟨#[120]⟩, .slice none 0 0, .int .u8 1, .string ⟨#[]⟩, .slice (some ⟨N1.size, 0, none⟩) 1 1, .int .u8 3, .string ⟨#[]⟩, .slice none 0 0, .int .u8 3, .string ⟨#[116]⟩, .slice (some ⟨N1.size + 1, 0, none⟩) 1 1, .int .u8 3, .string ⟨zs.toArray⟩, .slice none 0 0, .int .u8 3, .string ⟨l.toArray⟩, .slice none 0 0, .int .u8 3, .string ⟨(l.take 255).toArray⟩, .slice none 0 0, .int .u8 4, .string ⟨#[120]⟩, .slice none 0 0, .int .u8 4, .string ⟨#[]⟩, .slice (some ⟨N1.size + 2, 0, none⟩) 2 2, .int .u8 4, .string ⟨#[]⟩, .slice (some ⟨N1.size + 3, 0, none⟩) 2 2] 26 true .exact])
              obtain ⟨R, hR⟩ : ∃ R : List Value, R = [.int .u8 0, .string ⟨#[]⟩, .slice none 0 0, .int .u8 5, .string ⟨#[]⟩, .slice none 0 0, .int .u8 1, .string ⟨#[120]⟩, .slice none 0 0, .int .u8 1, .string ⟨#[]⟩, .slice (some ⟨N1.size, 0, none⟩) 1 1, .int .u8 3, .string ⟨#[]⟩, .slice none 0 0, .int .u8 3, .string ⟨#[116]⟩, .slice (some ⟨N1.size + 1, 0, none⟩) 1 1, .int .u8 3, .string ⟨zs.toArray⟩, .slice none 0 0, .int .u8 3, .string ⟨l.toArray⟩, .slice none 0 0, .int .u8 3, .string ⟨(l.take 255).toArray⟩, .slice none 0 0, .int .u8 4, .string ⟨#[120]⟩, .slice none 0 0, .int .u8 4, .string ⟨#[]⟩, .slice (some ⟨N1.size + 2, 0, none⟩) 2 2, .int .u8 4, .string ⟨#[]⟩, .slice (some ⟨N1.size + 3, 0, none⟩) 2 2] := ⟨_, rfl⟩
              have hrow : ∀ j, j < 12 → ∃ u a c, cutL R (j * 3) 3 = some [.int .u8 (Tr.k u), .string ⟨(Tr.d u).toArray⟩, .slice a (Tr.es u).length c] ∧ TrC (mx N1 [.cells [.string ⟨#[97]⟩, .int .u8 barnT.k, .string ⟨barnT.d.toArray⟩, .slice ab barnT.es.length capb] 48 true .exact, .cells [.string ⟨#[]⟩, .int .u8 0, .string ⟨#[]⟩, .slice none 0 0] 48 true .exact, .cells [.string ⟨#[98]⟩, .int .u8 1, .string ⟨#[]⟩, .slice none 0 0, .string ⟨#[97]⟩, .int .u8 1, .string ⟨#[]⟩, .slice none 0 0] 48 true .exact, .cells [.string ⟨#[97]⟩, .int .u8 1, .string ⟨#[]⟩, .slice none 0 0, .string ⟨#[97]⟩, .int .u8 barnT.k, .string ⟨barnT.d.toArray⟩, .slice ab barnT.es.length capb] 48 true .exact, .cells [.int .u8 0, .string ⟨#[]⟩, .slice none 0 0, .int .u8 5, .string ⟨#[]⟩, .slice none 0 0, .int .u8 1, .string ⟨#[120]⟩, .slice none 0 0, .int .u8 1, .string ⟨#[]⟩, .slice (some ⟨N1.size, 0, none⟩) 1 1, .int .u8 3, .string ⟨#[]⟩, .slice none 0 0, .int .u8 3, .string ⟨#[116]⟩, .slice (some ⟨N1.size + 1, 0, none⟩) 1 1, .int .u8 3, .string ⟨zs.toArray⟩, .slice none 0 0, .int .u8 3, .string ⟨l.toArray⟩, .slice none 0 0, .int .u8 3, .string ⟨(l.take 255).toArray⟩, .slice none 0 0, .int .u8 4, .string ⟨#[120]⟩, .slice none 0 0, .int .u8 4, .string ⟨#[]⟩, .slice (some ⟨N1.size + 2, 0, none⟩) 2 2, .int .u8 4, .string ⟨#[]⟩, .slice (some ⟨N1.size + 3, 0, none⟩) 2 2] 26 true .exact]) u [.int .u8 u.k, .string ⟨u.d.toArray⟩, .slice a u.es.length c] := by
                intro j hj
                subst hR
                rcases j with _ | _ | _ | _ | _ | _ | _ | _ | _ | _ | _ | _ | j
                · exact ⟨(.nd 0 [] []), _, _, rfl, TrC.leaf _ 0 []⟩
                · exact ⟨(.nd 5 [] []), _, _, rfl, TrC.leaf _ 5 []⟩
                · exact ⟨(.nd 1 [120] []), _, _, rfl, TrC.leaf _ 1 [120]⟩
                · exact ⟨(.nd 1 [] [.mk [97] barnT]), _, _, rfl, trC_mk (k := 1) (d := []) (SlE.lit (b := N1.size) (es := [.mk [97] barnT]) (by rw [mx_size]; simp) (mx_new0 N1 _) (EsC.cons (c := [.string ⟨#[97]⟩, .int .u8 barnT.k, .string ⟨barnT.d.toArray⟩, .slice ab barnT.es.length capb]) (EnC.of (e := .mk [97] barnT) hbB) (EsC.nil _)) (by simp))⟩
                · exact ⟨(.nd 3 [] []), _, _, rfl, TrC.leaf _ 3 []⟩
                · exact ⟨(.nd 3 [116] [.mk [] (.nd 0 [] [])]), _, _, rfl, trC_mk (k := 3) (d := [116]) (SlE.lit (b := N1.size + 1) (es := [.mk [] (.nd 0 [] [])]) (by rw [mx_size]; simp) (mx_new N1 _ 1) (EsC.cons (c := [.string ⟨#[]⟩, .int .u8 0, .string ⟨#[]⟩, .slice none 0 0]) (EnC.of (e := .mk [] (.nd 0 [] [])) (TrC.leaf _ _ _)) (EsC.nil _)) (by simp))⟩
                · exact ⟨(.nd 3 zs []), _, _, rfl, TrC.leaf _ 3 zs⟩
                · exact ⟨(.nd 3 l []), _, _, rfl, TrC.leaf _ 3 l⟩
                · exact ⟨(.nd 3 (l.take 255) []), _, _, rfl, TrC.leaf _ 3 (l.take 255)⟩
                · exact ⟨(.nd 4 [120] []), _, _, rfl, TrC.leaf _ 4 [120]⟩
                · exact ⟨(.nd 4 [] [.mk [98] (.nd 1 [] []), .mk [97] (.nd 1 [] [])]), _, _, rfl, trC_mk (k := 4) (d := []) (SlE.lit (b := N1.size + 2) (es := [.mk [98] (.nd 1 [] []), .mk [97] (.nd 1 [] [])]) (by rw [mx_size]; simp) (mx_new N1 _ 2) (EsC.cons (c := [.string ⟨#[98]⟩, .int .u8 1, .string ⟨#[]⟩, .slice none 0 0]) (EnC.of (e := .mk [98] (.nd 1 [] [])) (TrC.leaf _ _ _)) (EsC.cons (c := [.string ⟨#[97]⟩, .int .u8 1, .string ⟨#[]⟩, .slice none 0 0]) (EnC.of (e := .mk [97] (.nd 1 [] [])) (TrC.leaf _ _ _)) (EsC.nil _))) (by simp))⟩
                · exact ⟨(.nd 4 [] [.mk [97] (.nd 1 [] []), .mk [97] barnT]), _, _, rfl, trC_mk (k := 4) (d := []) (SlE.lit (b := N1.size + 3) (es := [.mk [97] (.nd 1 [] []), .mk [97] barnT]) (by rw [mx_size]; simp) (mx_new N1 _ 3) (EsC.cons (c := [.string ⟨#[97]⟩, .int .u8 1, .string ⟨#[]⟩, .slice none 0 0]) (EnC.of (e := .mk [97] (.nd 1 [] [])) (TrC.leaf _ _ _)) (EsC.cons (c := [.string ⟨#[97]⟩, .int .u8 barnT.k, .string ⟨barnT.d.toArray⟩, .slice ab barnT.es.length capb]) (EnC.of (e := .mk [97] barnT) hbB) (EsC.nil _))) (by simp))⟩
                · omega
              rw [← hR] at hrow ⊢
              have hBR := mx_new N1 [.cells [.string ⟨#[97]⟩, .int .u8 barnT.k, .string ⟨barnT.d.toArray⟩, .slice ab barnT.es.length capb] 48 true .exact, .cells [.string ⟨#[]⟩, .int .u8 0, .string ⟨#[]⟩, .slice none 0 0] 48 true .exact, .cells [.string ⟨#[98]⟩, .int .u8 1, .string ⟨#[]⟩, .slice none 0 0, .string ⟨#[97]⟩, .int .u8 1, .string ⟨#[]⟩, .slice none 0 0] 48 true .exact, .cells [.string ⟨#[97]⟩, .int .u8 1, .string ⟨#[]⟩, .slice none 0 0, .string ⟨#[97]⟩, .int .u8 barnT.k, .string ⟨barnT.d.toArray⟩, .slice ab barnT.es.length capb] 48 true .exact, .cells R 26 true .exact] 4
              simp only [List.getD_cons_succ, List.getD_cons_zero] at hBR
              have hOB := Old.here N1 [.cells [.string ⟨#[97]⟩, .int .u8 barnT.k, .string ⟨barnT.d.toArray⟩, .slice ab barnT.es.length capb] 48 true .exact, .cells [.string ⟨#[]⟩, .int .u8 0, .string ⟨#[]⟩, .slice none 0 0] 48 true .exact, .cells [.string ⟨#[98]⟩, .int .u8 1, .string ⟨#[]⟩, .slice none 0 0, .string ⟨#[97]⟩, .int .u8 1, .string ⟨#[]⟩, .slice none 0 0] 48 true .exact, .cells [.string ⟨#[97]⟩, .int .u8 1, .string ⟨#[]⟩, .slice none 0 0, .string ⟨#[97]⟩, .int .u8 barnT.k, .string ⟨barnT.d.toArray⟩, .slice ab barnT.es.length capb] 48 true .exact, .cells R 26 true .exact]
              have sB : N1.size + 4 < (mx N1 [.cells [.string ⟨#[97]⟩, .int .u8 barnT.k, .string ⟨barnT.d.toArray⟩, .slice ab barnT.es.length capb] 48 true .exact, .cells [.string ⟨#[]⟩, .int .u8 0, .string ⟨#[]⟩, .slice none 0 0] 48 true .exact, .cells [.string ⟨#[98]⟩, .int .u8 1, .string ⟨#[]⟩, .slice none 0 0, .string ⟨#[97]⟩, .int .u8 1, .string ⟨#[]⟩, .slice none 0 0] 48 true .exact, .cells [.string ⟨#[97]⟩, .int .u8 1, .string ⟨#[]⟩, .slice none 0 0, .string ⟨#[97]⟩, .int .u8 barnT.k, .string ⟨barnT.d.toArray⟩, .slice ab barnT.es.length capb] 48 true .exact, .cells R 26 true .exact]).size := by rw [mx_size]; simp
              have e0 : mx N1 [.cells [.string ⟨#[97]⟩, .int .u8 barnT.k, .string ⟨barnT.d.toArray⟩, .slice ab barnT.es.length capb] 48 true .exact, .cells [.string ⟨#[]⟩, .int .u8 0, .string ⟨#[]⟩, .slice none 0 0] 48 true .exact, .cells [.string ⟨#[98]⟩, .int .u8 1, .string ⟨#[]⟩, .slice none 0 0, .string ⟨#[97]⟩, .int .u8 1, .string ⟨#[]⟩, .slice none 0 0] 48 true .exact, .cells [.string ⟨#[97]⟩, .int .u8 1, .string ⟨#[]⟩, .slice none 0 0, .string ⟨#[97]⟩, .int .u8 barnT.k, .string ⟨barnT.d.toArray⟩, .slice ab barnT.es.length capb] 48 true .exact, .cells R 26 true .exact] = mx (mx N1 [.cells [.string ⟨#[97]⟩, .int .u8 barnT.k, .string ⟨barnT.d.toArray⟩, .slice ab barnT.es.length capb] 48 true .exact, .cells [.string ⟨#[]⟩, .int .u8 0, .string ⟨#[]⟩, .slice none 0 0] 48 true .exact, .cells [.string ⟨#[98]⟩, .int .u8 1, .string ⟨#[]⟩, .slice none 0 0, .string ⟨#[97]⟩, .int .u8 1, .string ⟨#[]⟩, .slice none 0 0] 48 true .exact, .cells [.string ⟨#[97]⟩, .int .u8 1, .string ⟨#[]⟩, .slice none 0 0, .string ⟨#[97]⟩, .int .u8 barnT.k, .string ⟨barnT.d.toArray⟩, .slice ab barnT.es.length capb] 48 true .exact, .cells R 26 true .exact]) [] := by rw [mx_mx, List.append_nil]
              rw [e0]
              generalize hB : mx N1 [.cells [.string ⟨#[97]⟩, .int .u8 barnT.k, .string ⟨barnT.d.toArray⟩, .slice ab barnT.es.length capb] 48 true .exact, .cells [.string ⟨#[]⟩, .int .u8 0, .string ⟨#[]⟩, .slice none 0 0] 48 true .exact, .cells [.string ⟨#[98]⟩, .int .u8 1, .string ⟨#[]⟩, .slice none 0 0, .string ⟨#[97]⟩, .int .u8 1, .string ⟨#[]⟩, .slice none 0 0] 48 true .exact, .cells [.string ⟨#[97]⟩, .int .u8 1, .string ⟨#[]⟩, .slice none 0 0, .string ⟨#[97]⟩, .int .u8 barnT.k, .string ⟨barnT.d.toArray⟩, .slice ab barnT.es.length capb] 48 true .exact, .cells R 26 true .exact] = B at *
              have hO12 := hO2.trans hOB
              refine W_loop (fun N qs => ∃ (j : Nat) (N2 : AMem), N = 12 - j ∧ qs.ds = [] ∧ qs.m = mx N2 [] ∧ qs.t 1 = .pointer (some ⟨M0.size, 0, none⟩) ∧ qs.t 2 = .string ⟨zs.toArray⟩ ∧ qs.t 3 = .string ⟨l.toArray⟩ ∧ qs.t 7 = .slice ap ps.length capp ∧ qs.t 8 = .int .i64 i ∧ qs.t 130 = .slice (some ⟨N1.size + 4, 0, none⟩) 12 12 ∧ qs.t 131 = .int .i64 12 ∧ qs.t 132 = .int .i64 j ∧ j ≤ 12 ∧ Old B N2) (12 - (0)) ⟨0, B, rfl, rfl, ?qm, ?q1, ?q2, ?q3, ?q7, ?q8, ?q130, ?q131, ?q132, ?_⟩ ?_
              case qm | q1 | q2 | q3 | q7 | q8 | q130 | q131 | q132 => first | rfl | (simp -implicitDefEqProofs (disch := first | omega | with_reducible assumption | (simp only [qU, qC]; omega)) only [qT, qA, reduceCtorEq, qB, qC, qD, qE, qF, qG, qH, qI, qJ, qK, qL, reduceIte, t1, t2, t3, t7, t8]; first | done | rfl | (congr 1; omega))
              · exact ⟨Nat.zero_le _, .refl _⟩
              · rintro N t m1 ds ⟨j, N2, rfl, hds, hm, t1, t2, t3, t7, t8, t130, t131, t132, hp⟩
                simp only at hds hm t1 t2 t3 t7 t8 t130 t131 t132
                subst hds; replace hm := hm.symm; subst hm
                obtain ⟨hj0, hO3⟩ := hp
                have hO13 := hO12.trans hO3
                have bN2 := (hO13.2 _ sM1).trans bM1
                have sN2 : M0.size < N2.size := Nat.lt_of_lt_of_le sM1 hO13.1
                by_cases h4 : (j : Int) < 12
                · obtain ⟨u, au, cu, hcut, hu⟩ := hrow j (by omega)
                  have hR2 : rdO (N2.get (N1.size + 4)) (j * 3) 3 = some [.int .u8 u.k, .string ⟨u.d.toArray⟩, .slice au u.es.length cu] := by
                    rw [hO3.2 _ sB, hBR]; exact hcut
                  have sR2 : N1.size + 4 < N2.size := Nat.lt_of_lt_of_le sB hO3.1
                  obtain ⟨b9, o9, rfl, hb9, p0⟩ := (hSp.old hO13).get (i := i) (by omega)
                  have hps := hpl ps[i] (List.getElem_mem (by omega))
                  have hbX := hb1.old (hO13.trans (Old.here N2 [.cells [.int .u8 u.k, .string ⟨u.d.toArray⟩, .slice au u.es.length cu] 26 true .exact]))
                  have huX := hu.old (hO3.trans (Old.here N2 [.cells [.int .u8 u.k, .string ⟨u.d.toArray⟩, .slice au u.es.length cu] 26 true .exact]))
                  have g1 := DetC.known (lawPutP _ barnT u _ _ ps[i] hbX huX (by omega))
                  have g2 := DetC.known (lawAtP _ barnT _ (ps[i] ++ [47, 97]) hbX (by rw [List.length_append]; simp only [List.length_cons, List.length_nil]; omega))
                  have g3 := DetC.known (lawPathsP _ barnT u _ _ (i : Int) hbX huX ⟨by omega, by omega⟩)
                  have g4 := DetC.known (lawRight _ u _ huX)
                  have g5 := DetC.known (lawSame _ barnT u _ _ hbX huX)
                  have g6 := DetC.known (lawAtP _ u _ [97, 47, 100] huX (by simp))
                  repeat first | simp -implicitDefEqProofs (disch := first | omega | with_reducible assumption | (simp only [qU, qC]; omega)) only [qT, qA, reduceCtorEq, qB, qC, qD, qE, qF, qG, qH, qI, qJ, qK, qL, reduceIte, F9_l3, t1, t2, t3, t7, t8, t130, t131, t132, h4, hR2, sR2, p0, hb9, bN2, sN2, cutL3, cellsOf_node, splice3, g1, g2, g3, g4, g5, g6] | refine OrW.go ?_
                  rw [LoopK_normal]; refine ⟨_, ?_, j + 1, mx N2 [.cells [.int .u8 u.k, .string ⟨u.d.toArray⟩, .slice au u.es.length cu] 26 true .exact], rfl, rfl, ?qm, ?q1, ?q2, ?q3, ?q7, ?q8, ?q130, ?q131, ?q132, ?_⟩
                  case qm | q1 | q2 | q3 | q7 | q8 | q130 | q131 | q132 => first | rfl | (simp -implicitDefEqProofs (disch := first | omega | with_reducible assumption | (simp only [qU, qC]; omega)) only [qT, qA, reduceCtorEq, qB, qC, qD, qE, qF, qG, qH, qI, qJ, qK, qL, reduceIte, t1, t2, t3, t7, t8, t130, t131, t132, Int.natCast_add, mx_mx, List.append_nil]; first | done | rfl | (congr 1; omega))
                  · omega
                  · exact ⟨by omega, hO3.mx _⟩
                · repeat first | simp -implicitDefEqProofs (disch := first | omega | with_reducible assumption | (simp only [qU, qC]; omega)) only [qT, qA, reduceCtorEq, qB, qC, qD, qE, qF, qG, qH, qI, qJ, qK, qL, reduceIte, F9_l3, t1, t2, t3, t7, t8, t130, t131, t132, h4] | refine OrW.go ?_
                  rw [LoopK_normal]; refine ⟨_, ?_, i + 1, N2, rfl, rfl, ?qm, ?q1, ?q2, ?q3, ?q7, ?q8, ?_⟩
                  case qm | q1 | q2 | q3 | q7 | q8 => first | rfl | (simp -implicitDefEqProofs (disch := first | omega | with_reducible assumption | (simp only [qU, qC]; omega)) only [qT, qA, reduceCtorEq, qB, qC, qD, qE, qF, qG, qH, qI, qJ, qK, qL, reduceIte, t1, t2, t3, t7, t8, t130, t131, t132, Int.natCast_add]; first | done | rfl | (congr 1; omega))
                  · omega
                  · exact ⟨by omega, hO13⟩
            · obtain ⟨z5, hz5, hl5⟩ : ∃ c : List UInt8, rep [.int .u8 0] 65537 = c.map byteV ∧ c.length = 65537 := ⟨_, rep_bytes _, List.length_replicate⟩
              have hb5 : b2sV (.slice (some ⟨N1.size, 0, none⟩) 65537 65537) (mx N1 [.cells (z5.map byteV) 5 true .exact]) = some (.string ⟨z5.toArray⟩, mx N1 [.cells (z5.map byteV) 5 true .exact]) := by
                have := BSl.str (m := mx N1 [.cells (z5.map byteV) 5 true .exact]) (a := some ⟨N1.size, 0, none⟩) (cap := 65537) (c := z5) (.inr ⟨_, _, _, _, _, _, rfl, by rw [mx_size]; simp, mx_new0 N1 _, cutL_all (by simp), .inr ⟨openCap_lt (by omega), by omega⟩⟩)
                rwa [hl5] at this
              have kZ5 := fun M => kFile M z5
              repeat first | simp -implicitDefEqProofs (disch := first | omega | with_reducible assumption | (simp only [qU, qC]; omega)) only [qT, qA, reduceCtorEq, qB, qC, qD, qE, qF, qG, qH, qI, qJ, qK, qL, reduceIte, F9_l2, t1, t2, t3, t7, t8, h3, hz5, stepOp_b2s_v, hb5, kZ5, cellsOf_node, splice3, fill_n01] | refine OrW.go ?_
              have hbase : ∀ y, y < N1.size + 2 → True := fun _ _ => trivial
              refine W_loop (fun N qs => ∃ (i : Nat) (N2 : AMem) (a4 : Option Addr) (cap4 : Nat), N = 4096 - i ∧ qs.ds = [] ∧ qs.m = mx N2 [] ∧ qs.t 11 = .pointer (some ⟨N1.size + 1, 0, none⟩) ∧ qs.t 12 = .pointer (some ⟨N1.size + 2, 0, none⟩) ∧ qs.t 13 = .int .i64 i ∧ i ≤ 4096 ∧ N1.size + 3 ≤ N2.size ∧ (∀ y, y < N1.size + 2 → N2.get y = (mx N1 [.cells (z5.map byteV) 5 true .exact, .cells [.int .u8 1, .string ⟨z5.toArray⟩, .slice none 0 0] 26 true .exact, .cells [.int .u8 4, .string ⟨#[]⟩, .slice none 0 0] 26 true .exact]).get y) ∧ N2.get (N1.size + 2) = .cells [.int .u8 4, .string ⟨#[]⟩, .slice a4 i cap4] 26 true .exact ∧ EBuf N1 (mx N1 [.cells (z5.map byteV) 5 true .exact, .cells [.int .u8 1, .string ⟨z5.toArray⟩, .slice none 0 0] 26 true .exact, .cells [.int .u8 4, .string ⟨#[]⟩, .slice none 0 0] 26 true .exact]) N2 (.slice a4 i cap4) (wideE i)) (4096 - (0)) ⟨0, mx N1 [.cells (z5.map byteV) 5 true .exact, .cells [.int .u8 1, .string ⟨z5.toArray⟩, .slice none 0 0] 26 true .exact, .cells [.int .u8 4, .string ⟨#[]⟩, .slice none 0 0] 26 true .exact], none, 0, rfl, rfl, ?qm, ?q11, ?q12, ?q13, ?_⟩ ?_
              case qm | q11 | q12 | q13 => first | rfl | (simp -implicitDefEqProofs (disch := first | omega | with_reducible assumption | (simp only [qU, qC]; omega)) only [qT, qA, reduceCtorEq, qB, qC, qD, qE, qF, qG, qH, qI, qJ, qK, qL, reduceIte, mx_mx, List.append_nil]; first | done | rfl | (congr 1; omega))
              · exact ⟨Nat.zero_le _, by rw [mx_size]; simp, fun y hy => rfl, mx_new N1 _ 2, EBuf.nil _ _ _⟩
              · rintro N t m1 ds ⟨i, N2, a4, cap4, rfl, hds, hm, t11, t12, t13, hp⟩
                simp only at hds hm t11 t12 t13
                subst hds; replace hm := hm.symm; subst hm
                obtain ⟨hi4, hz4, hsame, hbx, hEB⟩ := hp
                have s12 : N1.size + 2 < N2.size := by omega
                by_cases h5 : (i : Int) < 4096
                · obtain ⟨d1, hd1, q1⟩ : ∃ d : Nat, d = i / 256 ∧ (i : Int).tdiv 256 = (d : Int) := ⟨_, rfl, by rw [Int.tdiv_eq_ediv_of_nonneg (by omega)]; omega⟩
                  obtain ⟨d0, hd0, q0⟩ : ∃ d : Nat, d = i / 16 ∧ (i : Int).tdiv 16 = (d : Int) := ⟨_, rfl, by rw [Int.tdiv_eq_ediv_of_nonneg (by omega)]; omega⟩
                  obtain ⟨d2, hd2, q2⟩ : ∃ d : Nat, d = d0 % 16 ∧ (d0 : Int).tmod 16 = (d : Int) := ⟨_, rfl, by rw [Int.tmod_eq_emod_of_nonneg (by omega)]; omega⟩
                  obtain ⟨d3, hd3, q3⟩ : ∃ d : Nat, d = i % 16 ∧ (i : Int).tmod 16 = (d : Int) := ⟨_, rfl, by rw [Int.tmod_eq_emod_of_nonneg (by omega)]; omega⟩
                  have r0 : d0 ≤ 255 := by omega
                  have r1 : d1 ≤ 15 := by omega
                  have r2 : d2 ≤ 15 := by omega
                  have r3 : d3 ≤ 15 := by omega
                  have eN : wName i = [UInt8.ofNat (65 + d1), UInt8.ofNat (97 + d2), UInt8.ofNat (97 + d3)] := by rw [wName, hd1, hd2, hd3, hd0]
                  obtain ⟨nm, hnm⟩ : ∃ nm, nm = wName i := ⟨_, rfl⟩
                  have hnl : nm.length = 3 := by rw [hnm]; rfl
                  have w1 : IntKind.i64.wrap (65 + (d1 : Int)) = 65 + (d1 : Int) := wrap_i64 (by omega) (by omega)
                  have w2 : IntKind.i64.wrap (97 + (d2 : Int)) = 97 + (d2 : Int) := wrap_i64 (by omega) (by omega)
                  have w3 : IntKind.i64.wrap (97 + (d3 : Int)) = 97 + (d3 : Int) := wrap_i64 (by omega) (by omega)
                  have w0 : ∀ x : Nat, x ≤ 255 → IntKind.i64.wrap (x : Int) = (x : Int) := fun x h => wrap_i64 (by omega) (by omega)
                  have w01 := w0 d1 (by omega)
                  have w00 := w0 d0 (by omega)
                  have w02 := w0 d2 (by omega)
                  have w03 := w0 d3 (by omega)
                  have bof : ∀ n : Nat, IntKind.u8.wrap (n : Int) = ((UInt8.ofNat n).toNat : Int) := fun n => by simp [IntKind.wrap, IntKind.bits, IntKind.signed]
                  have x1 : IntKind.u8.wrap (65 + (d1 : Int)) = ((UInt8.ofNat (65 + d1)).toNat : Int) := bof (65 + d1)
                  have x2 : IntKind.u8.wrap (97 + (d2 : Int)) = ((UInt8.ofNat (97 + d2)).toNat : Int) := bof (97 + d2)
                  have x3 : IntKind.u8.wrap (97 + (d3 : Int)) = ((UInt8.ofNat (97 + d3)).toNat : Int) := bof (97 + d3)
                  have hby : [Value.int .u8 ((UInt8.ofNat (65 + d1)).toNat : Int), .int .u8 ((UInt8.ofNat (97 + d2)).toNat : Int), .int .u8 ((UInt8.ofNat (97 + d3)).toNat : Int)] = nm.map byteV := by rw [hnm, eN]; rfl
                  have hb6 : ∀ o, b2sV (.slice (some ⟨N2.size, 0, none⟩) 3 3) (mx N2 [.cells (nm.map byteV) 5 true .exact, o]) = some (.string ⟨nm.toArray⟩, mx N2 [.cells (nm.map byteV) 5 true .exact, o]) := fun o => by
                    have := BSl.str (m := mx N2 [.cells (nm.map byteV) 5 true .exact, o]) (a := some ⟨N2.size, 0, none⟩) (cap := 3) (c := nm) (.inr ⟨_, _, _, _, _, _, rfl, by rw [mx_size]; simp, mx_new0 N2 _, cutL_all (by simp), .inr ⟨openCap_lt (by omega), by omega⟩⟩)
                    rwa [hnl] at this
                  have hsrc : SlX N1 (mx N2 [.cells (nm.map byteV) 5 true .exact, .cells [.string ⟨nm.toArray⟩, .int .u8 1, .string ⟨#[]⟩, .slice none 0 0] 48 true .exact]) (some ⟨N2.size + 1, 0, none⟩) 1 [.mk (wName i) leaf] := by
                    have := SlX.one (m1 := N1) (m := mx N2 [.cells (nm.map byteV) 5 true .exact]) (s := nm) (x := leaf) (TrC.leaf N1 1 [])
                    rw [mx_mx, mx_size] at this
                    rw [← hnm]; exact this
                  obtain ⟨v5, M5, happ, hEB5, hk5⟩ := EBuf.app (hEB.old (Old.here N2 [.cells (nm.map byteV) 5 true .exact, .cells [.string ⟨nm.toArray⟩, .int .u8 1, .string ⟨#[]⟩, .slice none 0 0] 48 true .exact])) (by rw [mx_size, mx_size]; simp only [List.length_cons, List.length_nil]; omega) hsrc (by rw [wideE_len]; simp only [List.length_cons, List.length_nil]; omega)
                  rw [← wideE_succ] at hEB5
                  rw [mx_mx, show zE = [.string ⟨#[]⟩, .int .u8 0, .string ⟨#[]⟩, .slice none 0 0] from rfl] at happ
                  simp only [List.cons_append, List.nil_append, List.length_cons, List.length_nil, Nat.zero_add] at happ
                  have hz5' := hk5.1
                  rw [mx_size] at hz5'
                  simp only [List.length_cons, List.length_nil] at hz5'
                  have hkeep : ∀ y, y < N1.size + 3 → M5.get y = N2.get y := by
                    intro y hy
                    refine (hk5.2 y (by rw [mx_size]; omega) ?_).trans (mx_old (by omega))
                    rintro ⟨n, he⟩
                    rcases hEB with ⟨_, h⟩ | ⟨b, Z, q1, q2, q3, _⟩
                    · rw [h] at he; cases he
                    · rw [q3] at he
                      cases he
                      rw [mx_size] at q1
                      simp only [List.length_cons, List.length_nil] at q1
                      omega
                  have hbx5 := (hkeep (N1.size + 2) (by omega)).trans hbx
                  have s5 : N1.size + 2 < M5.size := by omega
                  rcases hEB5 with ⟨h, _⟩ | ⟨bZ, Z, z1, z2, rfl, z4, z5⟩
                  · exact absurd (congrArg List.length h) (by rw [wideE_len]; simp)
                  rw [wideE_len] at happ
                  rw [mx_size] at z1
                  simp only [List.length_cons, List.length_nil] at z1
                  repeat first | simp -implicitDefEqProofs (disch := first | omega | with_reducible assumption | (simp only [qU, qC]; omega)) only [qT, qA, reduceCtorEq, qB, qC, qD, qE, qF, qG, qH, qI, qJ, qK, qL, reduceIte, F9_l4, t11, t12, t13, h5, hbx, s12, cutL3_2, kF0, q1, q0, q2, q3, w1, w2, w3, w01, w00, w02, w03, x1, x2, x3, hby, stepOp_b2s_v, hb6, fill_e13, fill_e04, stepOp_app_v, happ, hbx5, s5, splice3_2, cellsOf_node] | refine OrW.go ?_
                  rw [LoopK_normal]; refine ⟨_, ?_, i + 1, M5.set (N1.size + 2) (.cells [.int .u8 4, .string ⟨#[]⟩, .slice (some ⟨bZ, 0, none⟩) (i + 1) openCap] 26 true .exact), some ⟨bZ, 0, none⟩, openCap, rfl, rfl, ?qm, ?q11, ?q12, ?q13, ?_⟩
                  case qm | q11 | q12 | q13 => first | rfl | (simp -implicitDefEqProofs (disch := first | omega | with_reducible assumption | (simp only [qU, qC]; omega)) only [qT, qA, reduceCtorEq, qB, qC, qD, qE, qF, qG, qH, qI, qJ, qK, qL, reduceIte, t11, t12, t13, Int.natCast_add]; first | done | rfl | (congr 1; omega))
                  · omega
                  · have hsz : ∀ o, (M5.set (N1.size + 2) o).size = M5.size := fun o => AMem.size_set _ _ _
                    have hlb : N1.size + 3 ≤ bZ := by omega
                    refine ⟨by omega, by rw [hsz]; omega, fun y hy => ?_, AMem.get_set_self _ _ _, .inr ⟨bZ, Z, by rw [mx_size]; simp only [List.length_cons, List.length_nil]; omega, by rw [hsz]; exact z2, by rw [wideE_len], ?_, z5⟩⟩
                    · rw [AMem.get_set_ne _ _ (by omega), hkeep y (by omega)]
                      exact hsame y hy
                    · rw [AMem.get_set_ne _ _ (by omega)]
                      exact z4
                · have hi : i = 4096 := by omega
                  subst hi
                  have hON2 : Old N1 N2 := ⟨by omega, fun y hy => (hsame y (by omega)).trans (mx_old hy)⟩
                  have hON : Old M0 N2 := ((hOM.trans hO1).trans hO2).trans hON2
                  have bF : N2.get (N1.size + 1) = .cells [.int .u8 1, .string ⟨z5.toArray⟩, .slice none 0 0] 26 true .exact := (hsame _ (by omega)).trans (mx_new N1 _ 1)
                  have sF : N1.size + 1 < N2.size := by omega
                  rcases hEB with ⟨h, _⟩ | ⟨bZ, Z, z1, z2, hv, z4, z5'⟩
                  · exact absurd (congrArg List.length h) (by rw [wideE_len]; simp)
                  rw [wideE_len] at hv
                  cases hv
                  have hWE : SlE N2 (some ⟨bZ, 0, none⟩) openCap (wideE 4096) := ⟨Z, .inr ⟨bZ, 0, _, _, _, _, rfl, z2, z4, by rw [← z5'.len]; exact cutL_all rfl, .inl ⟨rfl, rfl⟩⟩, z5'.old hON2⟩
                  have hW : TrC N2 (.nd 4 [] (wideE 4096)) [.int .u8 4, .string ⟨#[]⟩, .slice (some ⟨bZ, 0, none⟩) 4096 openCap] := by
                    have := trC_mk (k := 4) (d := []) hWE
                    rwa [wideE_len] at this
                  obtain ⟨capL, hsl, hL⟩ := (hWE.x (.refl _)).takeM (by rw [wideE_len]; exact openCap_lt (by omega)) (k := 4095) (by rw [wideE_len]; omega)
                  rw [wideE_take (by omega), wideE_len] at hsl
                  rw [wideE_take (by omega)] at hL
                  have hL' : TrC N2 (.nd 4 [] (wideE 4095)) [.int .u8 4, .string ⟨#[]⟩, .slice (some ⟨bZ, 0, none⟩) 4095 capL] := by
                    have := trC_mk (k := 4) (d := []) (hL : SlE N2 _ _ _)
                    rwa [wideE_len] at this
                  have hsl' := hsl (mx N2 []) (Old.here N2 [])
                  rw [wideE_len, show ((4095 : Nat) : Int) = 4095 from rfl] at hsl'
                  repeat first | simp -implicitDefEqProofs (disch := first | omega | with_reducible assumption | (simp only [qU, qC]; omega)) only [qT, qA, reduceCtorEq, qB, qC, qD, qE, qF, qG, qH, qI, qJ, qK, qL, reduceIte, F9_l4, t11, t12, t13, h5, hbx, s12, cutL3_2, stepOp_slV_v, hsl', fill_n021, kF0, cellsOf_node, splice3] | refine OrW.go ?_
                  have hO3 := Old.here N2 [.cells [.int .u8 4, .string ⟨#[]⟩, .slice (some ⟨bZ, 0, none⟩) 4095 capL] 26 true .exact]
                  refine RelC.call (chain_ok _ leaf _ 32 (TrC.leaf _ 1 []) (by omega)) ?_
                  rintro v N3 ⟨hO4, c4, rfl, hc4⟩
                  have hc40 := hc4
                  obtain ⟨a6, cap6, rfl, _⟩ := hc4.ex
                  have bL3 := (hO4.2 N2.size (by rw [mx_size]; simp)).trans (mx_new0 _ _)
                  have hO24 := hO3.trans hO4
                  have kF0 := fun M => kFile M []
                  repeat first | simp -implicitDefEqProofs (disch := first | omega | with_reducible assumption | (simp only [qU, qC]; omega)) only [qT, qA, reduceCtorEq, qB, qC, qD, qE, qF, qG, qH, qI, qJ, qK, qL, reduceIte, kF0, cellsOf_node, splice3, cutL3] | refine OrW.go ?_
                  have hOb := Old.here N3 [.cells [.int .u8 (chainT leaf 32).k, .string ⟨(chainT leaf 32).d.toArray⟩, .slice a6 (chainT leaf 32).es.length cap6] 26 true .exact, .cells [.int .u8 0, .string ⟨#[]⟩, .slice none 0 0] 26 true .exact]
                  refine RelC.call (chain_ok _ leaf _ 31 (TrC.leaf _ 1 []) (by omega)) ?_
                  rintro v N4 ⟨hO5, c5, rfl, hc5⟩
                  have hc50 := hc5
                  obtain ⟨a7, cap7, rfl, _⟩ := hc5.ex
                  have hO34 := hOb.trans hO5
                  have b15 := (hO5.2 N3.size (by rw [mx_size]; simp)).trans (mx_new0 _ _)
                  have b16 := (hO5.2 (N3.size + 1) (by rw [mx_size]; simp)).trans (mx_new N3 _ 1)
                  simp only [List.getD_cons_succ, List.getD_cons_zero] at b16
                  have s15 : N3.size + 2 ≤ N4.size := by have := hO5.1; rw [mx_size] at this; simpa using this
                  have s15' : N3.size < N4.size := by omega
                  repeat first | simp -implicitDefEqProofs (disch := first | omega | with_reducible assumption | (simp only [qU, qC]; omega)) only [qT, qA, reduceCtorEq, qB, qC, qD, qE, qF, qG, qH, qI, qJ, qK, qL, reduceIte, kF0, cellsOf_node, splice3, cutL3, b15, b16, s15'] | refine OrW.go ?_
                  refine RelC.call (Put_ok (mx N4 []) (mx N4 []) (chainT leaf 32) (chainT leaf 31) _ _ [99, 47, 100] (hc40.old (hO34.trans (Old.here N4 []))) (hc50.old (Old.here N4 [])) (.refl _) (by decide) (by decide) (by decide)) ?_
                  rintro v N5 ⟨hO6, c6, rfl, hc6⟩
                  rw [put_c31] at hc6 ⊢
                  have hc60 := hc6 N5 (Gap.of (.refl _))
                  obtain ⟨a8, cap8, rfl, _⟩ := hc60.ex
                  have hO46 := (Old.here N4 []).trans hO6
                  have s5 : N3.size + 1 < N5.size := by have := hO46.1; omega
                  have b165 := (hO46.2 (N3.size + 1) (by omega)).trans b16
                  repeat first | simp -implicitDefEqProofs (disch := first | omega | with_reducible assumption | (simp only [qU, qC]; omega)) only [qT, qA, reduceCtorEq, qB, qC, qD, qE, qF, qG, qH, qI, qJ, qK, qL, reduceIte, b165, b16, s5, cellsOf_node, splice3, cutL3] | refine OrW.go ?_
                  have hOP0 : ∀ o, Old N3 (N5.set (N3.size + 1) o) := fun o => ⟨by rw [AMem.size_set]; omega, fun y hy => by
                    rw [AMem.get_set_ne _ _ (by omega)]
                    exact (hO46.2 y (by omega)).trans (hO34.2 y hy)⟩
                  have bP0 : ∀ o, (N5.set (N3.size + 1) o).get N3.size = .cells [.int .u8 (chainT leaf 32).k, .string ⟨(chainT leaf 32).d.toArray⟩, .slice a6 (chainT leaf 32).es.length cap6] 26 true .exact := fun o => by
                    rw [AMem.get_set_ne _ _ (by omega)]
                    exact (hO46.2 _ (by omega)).trans b15
                  have hOP := hOP0 (.cells [.int .u8 zT.k, .string ⟨zT.d.toArray⟩, .slice a8 zT.es.length cap8] 26 true .exact)
                  have bP := bP0 (.cells [.int .u8 zT.k, .string ⟨zT.d.toArray⟩, .slice a8 zT.es.length cap8] 26 true .exact)
                  have sP : N3.size < (N5.set (N3.size + 1) (.cells [.int .u8 zT.k, .string ⟨zT.d.toArray⟩, .slice a8 zT.es.length cap8] 26 true .exact)).size := by rw [AMem.size_set]; omega
                  generalize N5.set (N3.size + 1) (.cells [.int .u8 zT.k, .string ⟨zT.d.toArray⟩, .slice a8 zT.es.length cap8] 26 true .exact) = P at *
                  have hO2P := hO24.trans hOP
                  have z23 : N2.size + 1 ≤ N3.size := by have := hO4.1; rw [mx_size] at this; simpa using this
                  have p11 := (hO2P.2 _ sF).trans bF
                  have p12 := (hO2P.2 _ s12).trans hbx
                  have p14 := (hOP.2 N2.size (by omega)).trans bL3
                  have q11 : N1.size + 1 < P.size := by omega
                  have q12 : N1.size + 2 < P.size := by omega
                  have q14 : N2.size < P.size := by omega
                  have hO2X := fun objs => hO2P.trans (Old.here P objs)
                  have cnt1 : ∀ d, (Tr.nd 1 d []).count = 1 := fun d => rfl
                  have e1 : rightT (.nd 1 z5 []) = false := by rw [rightT_file, hl5]; rfl
                  have e2 : rightT (.nd 1 (z5.take 65536) []) = true := by rw [rightT_file, List.length_take, hl5]; rfl
                  have kR1 : Known Tryd.prog 3 14 [.agg [.int .u8 1, .string ⟨z5.toArray⟩, .slice none 0 0].toArray] (mx P []) (.bool false) (mx P []) := by
                    have := DetC.known (right_ok (mx P []) (.nd 1 z5 []) _ (TrC.leaf _ 1 z5) (by rw [cnt1]; omega))
                    rwa [e1] at this
                  have kR2 : Known Tryd.prog 3 14 [.agg [.int .u8 1, .string ⟨(z5.take 65536).toArray⟩, .slice none 0 0].toArray] (mx P []) (.bool true) (mx P []) := by
                    have := DetC.known (right_ok (mx P []) (.nd 1 (z5.take 65536) []) _ (TrC.leaf _ 1 _) (by rw [cnt1]; omega))
                    rwa [e2] at this
                  have kR3 : Known Tryd.prog 3 14 [.agg [.int .u8 4, .string ⟨#[]⟩, .slice (some ⟨bZ, 0, none⟩) 4096 openCap].toArray] (mx P []) (.bool false) (mx P []) := by
                    have := DetC.known (right_ok (mx P []) (.nd 4 [] (wideE 4096)) _ (hW.old (hO2X [])) (by simp only [Tr.count, wide_count]; omega))
                    rwa [right_wide] at this
                  have kR4 : Known Tryd.prog 3 14 [.agg [.int .u8 4, .string ⟨#[]⟩, .slice (some ⟨bZ, 0, none⟩) 4095 capL].toArray] (mx P []) (.bool true) (mx P []) := by
                    have := DetC.known (right_ok (mx P []) (.nd 4 [] (wideE 4095)) _ (hL'.old (hO2X [])) (by simp only [Tr.count, wide_count]; omega))
                    rwa [right_less] at this
                  have kR5 := DetC.known (right_ok (mx P []) (chainT leaf 32) _ (hc40.old (hOP.trans (Old.here P []))) (by decide))
                  rw [right_c32] at kR5
                  have kF5 := fun M => kFile M (z5.take 65536)
                  have h65 : (65536 : Int) ≤ (z5.length : Int) := by omega
                  have h65' : 65536 ≤ z5.length := by omega
                  repeat first | simp -implicitDefEqProofs (disch := first | omega | with_reducible assumption | (simp only [qU, qC]; omega)) only [qT, qA, reduceCtorEq, qB, qC, qD, qE, qF, qG, qH, qI, qJ, qK, qL, reduceIte, t11, t12, t13, p11, p12, p14, bP, q11, q12, q14, sP, cutL3, cutL3_2, kR1, kR2, kR3, kR4, kR5, kF0, kF5, h65, h65', cutL3_1] | refine OrW.go ?_
                  refine RelC.call (chain_ok (mx P []) leaf _ 33 (TrC.leaf _ 1 []) (by omega)) ?_
                  rintro v N6 ⟨hO7, c7, rfl, hc7⟩
                  have hc70 := hc7
                  obtain ⟨a9, cap9, rfl, _⟩ := hc7.ex
                  have kR6 := DetC.known (right_ok (mx N6 []) (chainT leaf 33) _ (hc70.old (Old.here N6 [])) (by decide))
                  rw [right_c33] at kR6
                  have kS : Known Tryd.prog 3 7 [.agg [.int .u8 0, .string ⟨#[]⟩, .slice (some ⟨N6.size, 0, none⟩) 0 0].toArray, .agg [.int .u8 0, .string ⟨#[]⟩, .slice none 0 0].toArray] (mx N6 [.cells [] 48 true .exact]) (.bool true) (mx N6 [.cells [] 48 true .exact]) := DetC.known (lawSame (mx N6 [.cells [] 48 true .exact]) (.nd 0 [] []) (.nd 0 [] []) _ _ (trC_mk (k := 0) (d := []) (SlE.lit (b := N6.size) (es := []) (by rw [mx_size]; simp) (mx_new0 N6 _) (EsC.nil _) (by simp))) (TrC.leaf _ 0 []))
                  have hOF : Old m N6 := hO0.trans (hON.trans ((hO2P.trans (Old.here P [])).trans hO7))
                  repeat first | simp -implicitDefEqProofs (disch := first | omega | with_reducible assumption | (simp only [qU, qC]; omega)) only [qT, qA, reduceCtorEq, qB, qC, qD, qE, qF, qG, qH, qI, qJ, qK, qL, reduceIte, kR6, kS, kW, fill_n021] | refine OrW.go ?_
                  exact hOF.mx _
end Go.Proofs.YtfjgpeoblnpelaaDoor
namespace Go.Proofs.YtfjgpeoblnpelaaDoor.gl
open Go.ChangeShapes Go.WideShapes Go.ChangeAt Go.RowKit
set_option linter.unusedVariables false
set_option maxRecDepth 100000
theorem own : ownKnob Tryd.prog.godebug = none := by kernel_rfl
abbrev laid : List (String × DataW Unit) := [("unicode/utf8.acceptRanges", Rows.laid_unicode_utf8_acceptRanges), ("unicode/utf8.first", Rows.laid_unicode_utf8_first)]

theorem globs {W : World} (h : laidMetH Tryd.prog laid W) : ∃ cs ty frz, W.heap[2]? = some (.cells cs ty frz) := by
  rw [MakeChecks.laidMetH_plain _ _ _ (by kernel_rfl)] at h
  obtain ⟨ps, ⟨g, t, cs, fuel, p, q, hg, ht, hv, hd, _⟩, _⟩ := h
  have k0 : Tryd.prog.globalNamed "unicode/utf8.acceptRanges" = some 2 := by kernel_rfl
  simp only [World.var?, k0, Option.bind_some] at hv
  split at hv
  · rename_i cs' ty frz hh
    exact ⟨cs', ty, frz, hh⟩
  · cases hv
def accCells : List Value := [128, 191, 160, 191, 128, 159, 144, 191, 128, 143, 0, 0, 0, 0, 0, 0, 0, 0, 0, 0, 0, 0, 0, 0, 0, 0, 0, 0, 0, 0, 0, 0].map fun n => .int .u8 n
noncomputable def laidWorld (os : Os) : World :=
  let w0 := World.holding Tryd.prog os ⟨#[], #[], []⟩
  { w0 with heap := (w0.heap.modify 2 fun
      | .cells _ t frozen => .cells accCells.toArray t frozen
      | o => o).modify 1 fun
      | .cells _ t frozen => .cells (Go.Pinned.utf8FirstZ.map fun n : Nat => Value.int .u8 (n : Int)).toArray t frozen
      | o => o }
theorem laidWorld_met (os : Os) (args : Array Value) : laidMetH Tryd.prog laid ((laidWorld os).forCall (fun _ _ => 0) ⟨#[], args, []⟩).memory := by
  rw [MakeChecks.laidMetH_plain _ _ _ (by kernel_rfl)]
  exact laidMet_of_run' 8 (by kernel_rfl) (by kernel_rfl)
end Go.Proofs.YtfjgpeoblnpelaaDoor.gl
namespace Go.Proofs.YtfjgpeoblnpelaaDoor.gl
open Go.ChangeShapes Go.WideShapes Go.ChangeAt Go.RowKit
set_option linter.unusedVariables false
set_option maxRecDepth 100000
set_option maxHeartbeats 1000000

def osOf (ty : TypeId) (l : List (AM.AObj × AM.Loc)) : List (AM.AObj × AM.Loc) :=
  (.dead, ⟨0, 0, 0, 1⟩) :: (.dead, ⟨1, 0, 0, 1⟩) :: (.cells [] ty false (.full 1), ⟨2, 0, 0, 1⟩) :: l
theorem wrtL {ty : TypeId} {l : List (AM.AObj × AM.Loc)} (hl : ∀ x ∈ l, x.1.wrt = false) : ∀ x ∈ osOf ty l, x.1.wrt = false := fun x hx => by
  simp only [osOf, List.mem_cons] at hx
  rcases hx with rfl | rfl | rfl | hx
  · rfl
  · rfl
  · rfl
  · exact hl x hx
theorem rep {W : World} {ty : TypeId} {cs : Array Value} {frz : Nat × Nat} (h : W.heap[2]? = some (.cells cs ty frz))
    {l : List (AM.AObj × AM.Loc)} (hl : ∀ x ∈ l, AM.ObjRel (AM.renOf (osOf ty l)) x.1 x.2 W) (hw : ∀ x ∈ l, x.1.wrt = false) : AM.Rep 3 (AM.memOf (osOf ty l)) (AM.renOf (osOf ty l)) W := by
  refine AM.Rep.of (osOf ty l) (fun g hg => ?_) (fun x hx => ?_) (wrtL hw)
  · match g, hg with
    | 0, _ => exact ⟨_, rfl, rfl, rfl⟩
    | 1, _ => exact ⟨_, rfl, rfl, rfl⟩
    | 2, _ => exact ⟨_, rfl, rfl, rfl⟩
  · simp only [osOf, List.mem_cons] at hx
    rcases hx with rfl | rfl | rfl | hx
    · trivial
    · trivial
    · exact AM.ObjRel.plain (c := []) (o := 0) h (by simp) (fun j hj => by cases hj) (fun v hv => by cases hv) 1 (by omega)
    · exact hl x hx
def Arg (W : World) (k : Nat) (L : List (AM.AObj × AM.Loc)) (F : AM.AMem → AM.Ren → Prop) : Prop :=
  (∀ x ∈ L, x.1.wrt = false) ∧ ∀ (ty : TypeId) (l : List (AM.AObj × AM.Loc)), (∀ j (h : j < L.length), l[k + j]? = some L[j]) → (∀ x ∈ L, AM.ObjRel (AM.renOf (osOf ty l)) x.1 x.2 W) ∧ F (AM.memOf (osOf ty l)) (AM.renOf (osOf ty l))
theorem Arg.none (W : World) (k : Nat) : Arg W k [] fun _ _ => True := ⟨(fun x h => by cases h), fun ty l _ => ⟨(fun x h => by cases h), trivial⟩⟩
theorem Arg.and {W : World} {k : Nat} {L1 L2 : List (AM.AObj × AM.Loc)} {F1 F2 : AM.AMem → AM.Ren → Prop} (h1 : Arg W k L1 F1) (h2 : Arg W (k + L1.length) L2 F2) : Arg W k (L1 ++ L2) fun m ρ => F1 m ρ ∧ F2 m ρ := by
  refine ⟨fun x hx => (List.mem_append.1 hx).elim (h1.1 x) (h2.1 x), fun ty l hl => ?_⟩
  obtain ⟨a1, b1⟩ := h1.2 ty l fun j h => by rw [hl j (by rw [List.length_append]; omega), List.getElem_append_left h]
  obtain ⟨a2, b2⟩ := h2.2 ty l fun j h => by
    rw [Nat.add_assoc, hl (L1.length + j) (by rw [List.length_append]; omega), List.getElem_append_right (by omega)]
    simp only [Nat.add_sub_cancel_left]
  exact ⟨fun x hx => (List.mem_append.1 hx).elim (a1 x) (a2 x), b1, b2⟩
theorem Arg.mono {W : World} {k : Nat} {L : List (AM.AObj × AM.Loc)} {F F' : AM.AMem → AM.Ren → Prop} (h : Arg W k L F) (hf : ∀ m ρ, F m ρ → F' m ρ) : Arg W k L F' :=
  ⟨h.1, fun ty l hl => ⟨(h.2 ty l hl).1, hf _ _ (h.2 ty l hl).2⟩⟩
theorem Arg.all {W : World} {L : List (AM.AObj × AM.Loc)} {F : AM.AMem → AM.Ren → Prop} (h : Arg W 0 L F) (ty : TypeId) : (∀ x ∈ L, AM.ObjRel (AM.renOf (osOf ty L)) x.1 x.2 W) ∧ F (AM.memOf (osOf ty L)) (AM.renOf (osOf ty L)) :=
  h.2 ty L fun j hj => by rw [Nat.zero_add]; exact List.getElem?_eq_getElem hj
inductive TrW (w : World) : AM.Tr → List Value → Prop
  | nil (k : Int) (d : List UInt8) : TrW w (.nd k d []) [.int .u8 k, .string ⟨d.toArray⟩, .slice none 0 0]
  | none (k : Int) (d : List UInt8) (a : Addr) : TrW w (.nd k d []) [.int .u8 k, .string ⟨d.toArray⟩, .slice (some a) 0 0]
  | some (k : Int) (d : List UInt8) (es : List AM.En) (b o cap : Nat) (carr : Array Value) (ty : TypeId) (frz : Nat × Nat) (q : Nat → List Value) (hh : w.heap[b]? = some (.cells carr ty frz)) (hl : o + es.length * 4 ≤ carr.size)
      (hc : ∀ i (h : i < es.length) r, r < 4 → carr.getD (o + (i * 4 + r)) undef = (.string ⟨es[i].n.toArray⟩ :: q i).getD r undef) (hq : ∀ i (h : i < es.length), TrW w es[i].t (q i)) (hcap : cap ≤ 9223372036854775807) (hle : es.length ≤ cap) :
      TrW w (.nd k d es) [.int .u8 k, .string ⟨d.toArray⟩, .slice (some ⟨b, o, Option.none⟩) es.length cap]
theorem TrW.len {w : World} {t : AM.Tr} {cs : List Value} (h : TrW w t cs) : cs.length = 3 := by cases h <;> rfl

end Go.Proofs.YtfjgpeoblnpelaaDoor.gl
namespace Go.Proofs.YtfjgpeoblnpelaaDoor.gl
open Go.ChangeShapes Go.WideShapes Go.ChangeAt Go.RowKit
set_option linter.unusedVariables false
set_option maxRecDepth 100000
set_option maxHeartbeats 1000000

end Go.Proofs.YtfjgpeoblnpelaaDoor.gl
