/- A node put at a path, by the program. -/
import Derived.Test.YtfjgpeoblnpelaaDoorB2
import Derived.Test.YtfjgpeoblnpelaaDoorA5
import Derived.Test.YtfjgpeoblnpelaaDoorRows
import Derived.WalkKit
import Derived.ProofKit
import Derived.OpenShut
import Derived.ShutString
import Derived.ChangeOld
import Derived.Below
import Derived.SizedLaws
import Derived.Handed
import Derived.JoinedOf
import Derived.Deep.Slices
set_option linter.unusedVariables false
set_option linter.unusedSimpArgs false
set_option linter.unnecessarySimpa false
namespace Go.Proofs.YtfjgpeoblnpelaaDoor
open Go Go.AM
set_option linter.unusedVariables false
set_option linter.unusedSimpArgs false
set_option maxRecDepth 100000
set_option maxHeartbeats 2000000

theorem mayT_sort {d : List UInt8} {es : List En} (h : mayT (.nd 4 d es) = true) : SortE es ∧ mayL es = true := by
  rw [mayT_nd, Bool.and_eq_true, checkB] at h
  have h1 := h.1
  simp at h1
  exact ⟨ordE_sort h1.2, h.2⟩
theorem EsC_get3 {m : AMem} {es : List En} {X : List Value} {i : Nat} (h : i < es.length) (hX : EsC m es X) : ∃ a' cap', cutL X (i * 4 + 1) 3 = some [.int .u8 es[i].t.k, .string ⟨es[i].t.d.toArray⟩, .slice a' es[i].t.es.length cap'] ∧ SlE m a' cap' es[i].t.es := by
  obtain ⟨c, h3, h4⟩ := hX.get h
  obtain ⟨q, rfl, h5⟩ := h4.ex
  obtain ⟨a', cap', rfl, h6⟩ := h5.ex
  exact ⟨a', cap', cutL_cutL h3 (show cutL _ 1 3 = _ from rfl), h6⟩
theorem put_ok (x : Tr) : ∀ (ns : List (List UInt8)) (tr : Tr) (m1 m : AMem) (c cx : List Value) (a : Option Addr) (cap : Nat), TrC m1 tr c → TrC m1 x cx → Old m1 m → StrS m a cap ns → mayT tr = true → tr.count ≤ 500000 → ns.length ≤ 1000000 →
    ACall Tryd.prog 3 52 [.agg c.toArray, .slice a ns.length cap, .agg cx.toArray] m fun r M => Old m M ∧ match putT ns tr x with
      | some w => ∃ c', r = .ret (.agg c'.toArray) ∧ ∀ M', Gap m1 m M M' → TrC M' w c'
      | none => r = .pan (errC 30 5) := by
  intro ns
  induction ns with
  | nil =>
    intro tr m1 m c cx a cap hc hx ho hS hmay hn hl
    obtain ⟨a1, cap1, rfl, hE⟩ := hc.ex
    have hx0 := hx
    obtain ⟨a2, cap2, rfl, hE2⟩ := hx.ex
    refine ACall.eqv (m1 := mx m []) (mx_nil_size m) (fun b hb => mx_old hb) (ACall_of_W (fn := Tryd.f52) rfl rfl F52_ok (by simp [F52]) ?_)
    repeat first | simp (implicitDefEqProofs := false) (maxSteps := 1000000) (disch := first | omega | with_reducible assumption | (simp only [lenT, Nat.reduceAdd]; omega)) only [amT, cut, bnd, Nat.reduceBEq, reduceCtorEq, Nat.reduceEqDiff, Nat.reduceAdd, Nat.reduceMul, Nat.reduceSub, Int.reduceToNat, Int.reduceEq, Int.reduceLT, Int.reduceLE, Int.reduceAdd, Int.reduceSub, Int.reduceMul, reduceIte, resVs, resV, packV, initT, addr, F52, cellsOf_node, cutL3, splice3] | refine OrW.go ?_
    exact ⟨_, rfl, fun M' hG => hx0.old (hG.old (ho.trans (Old.here m _)))⟩
  | cons s r ih =>
    intro tr m1 m c cx a cap hc hx ho hS hmay hn hl
    obtain ⟨k, d, es⟩ := tr
    have hc0 := hc
    obtain ⟨a1, cap1, rfl, hE⟩ := trC_nd hc
    have hx0 := hx
    obtain ⟨a2, cap2, rfl, hE2⟩ := hx.ex
    have hcl := countL_len es
    simp only [Tr.count] at hn
    obtain ⟨b0, o0, rfl, hb0, q0⟩ := hS.get (i := 0) (by simp)
    simp only [List.getElem_cons_zero, Nat.add_zero] at q0
    rw [List.length_cons] at hl ⊢
    have g0 : ¬ ((r.length + 1 : Nat) : Int) = 0 := by omega
    have yes := fun M => DetC.known (need_yes M 5)
    have no := fun M => (need_no M 5).pan
    have hoz := ho.1
    by_cases hk : k = 4
    · subst hk
      obtain ⟨hsort, hmayL⟩ := mayT_sort hmay
      have kF := fun objs => find_ok (mx m objs) 4 d es s _ (hc0.old (ho.trans (Old.here m objs))) (by omega)
      simp only [if_true] at kF
      have kF' := fun objs => DetC.known (PurE.ret (kF objs))
      rcases idxE_cases es s with ⟨hi, _⟩ | ⟨j, hj, hi, hjn⟩
      · rw [hi, decide_eq_false (by omega)] at kF'
        by_cases hr : r = []
        · subst hr
          have hp : putT [s] (.nd 4 d es) x = some (.nd 4 d (es.take (placeE es s) ++ .mk s x :: es.drop (placeE es s))) := by rw [putT_new rfl hi, if_pos rfl]
          rw [hp]
          have kB := fun objs => DetC.known (bin66_ok (mx m objs) a1 cap1 es s ((hE.old ho).old (Old.here m objs)) hsort (by omega))
          have hpl := placeE_le es s
          obtain ⟨capA, htk, hA⟩ := (hE.x ho).takeM (SlE.len_lt (by omega)) hpl
          obtain ⟨aB, capB, hdr, hBd⟩ := (hE.x ho).dropM (SlE.len_lt (by omega)) hpl
          have htk' := fun objs => htk (mx m objs) (Old.here m objs)
          have hdr' := fun objs => hdr (mx m objs) (Old.here m objs)
          have lD1 : (es.take (placeE es s)).length ≤ es.length := by rw [List.length_take]; omega
          have lD2 : (es.take (placeE es s)).length + (es.drop (placeE es s)).length = es.length := by rw [List.length_take, List.length_drop]; omega
          generalize placeE es s = p at *
          generalize es.take p = D1 at *
          generalize es.drop p = D2 at *
          refine ACall.eqv (m1 := mx m []) (mx_nil_size m) (fun b hb => mx_old hb) (ACall_of_W (fn := Tryd.f52) rfl rfl F52_ok (by simp [F52]) ?_)
          repeat first | simp (implicitDefEqProofs := false) (maxSteps := 1000000) (disch := first | omega | with_reducible assumption | (simp only [lenT, Nat.reduceAdd]; omega)) only [amT, cut, bnd, Nat.reduceBEq, reduceCtorEq, Nat.reduceEqDiff, Nat.reduceAdd, Nat.reduceMul, Nat.reduceSub, Int.reduceToNat, Int.reduceEq, Int.reduceLT, Int.reduceLE, Int.reduceAdd, Int.reduceSub, Int.reduceMul, reduceIte, resVs, resV, packV, initT, addr, F52, cellsOf_node, cutL3, cutL3_0, cutL3_2, splice3, g0, q0, kF', yes, kB, stepOp_slV_v, htk', hdr', fill_e13, fill_e04] | refine OrW.go ?_
          have hSS : SSE m1 (mx m [.cells [.int .u8 4, .string ⟨d.toArray⟩, .slice a1 es.length cap1] 26 true .exact, .cells [.int .u8 x.k, .string ⟨x.d.toArray⟩, .slice a2 x.es.length cap2] 26 true .exact, .cells zN 26 true .exact, .cells [.string ⟨s.toArray⟩, .int .u8 x.k, .string ⟨x.d.toArray⟩, .slice a2 x.es.length cap2] 48 true .exact, .cells [.slice a1 D1.length capA, .slice (some ⟨m.size + 3, 0, none⟩) 1 1, .slice aB D2.length capB] 24 true .exact]) (some ⟨m.size + 4, 0, none⟩) [D1, [.mk s x], D2] := by
            intro i hi
            have hrow : ∀ c v, cutL [.slice a1 D1.length capA, .slice (some ⟨m.size + 3, 0, none⟩) 1 1, .slice aB D2.length capB] (0 + i) 1 = some [v] → c = v → rdO ((mx m [.cells [.int .u8 4, .string ⟨d.toArray⟩, .slice a1 es.length cap1] 26 true .exact, .cells [.int .u8 x.k, .string ⟨x.d.toArray⟩, .slice a2 x.es.length cap2] 26 true .exact, .cells zN 26 true .exact, .cells [.string ⟨s.toArray⟩, .int .u8 x.k, .string ⟨x.d.toArray⟩, .slice a2 x.es.length cap2] 48 true .exact, .cells [.slice a1 D1.length capA, .slice (some ⟨m.size + 3, 0, none⟩) 1 1, .slice aB D2.length capB] 24 true .exact]).get (m.size + 4)) (0 + i) 1 = some [c] := by
              rintro c v h rfl
              rw [mx_new m _ 4]; exact h
            rcases i with _ | _ | _ | i
            · exact ⟨m.size + 4, 0, a1, capA, rfl, by rw [mx_size]; simp, hrow _ _ rfl rfl, hA.old (Old.here m _)⟩
            · refine ⟨m.size + 4, 0, some ⟨m.size + 3, 0, none⟩, 1, rfl, by rw [mx_size]; simp, hrow _ _ rfl rfl, ?_⟩
              have := (SlX.one (m := mx m [.cells [.int .u8 4, .string ⟨d.toArray⟩, .slice a1 es.length cap1] 26 true .exact, .cells [.int .u8 x.k, .string ⟨x.d.toArray⟩, .slice a2 x.es.length cap2] 26 true .exact, .cells zN 26 true .exact]) (s := s) hx0).old (Old.here _ [.cells [.slice a1 D1.length capA, .slice (some ⟨m.size + 3, 0, none⟩) 1 1, .slice aB D2.length capB] 24 true .exact])
              rw [mx_mx, mx_mx, mx_size] at this
              exact this
            · exact ⟨m.size + 4, 0, aB, capB, rfl, by rw [mx_size]; simp, hrow _ _ rfl rfl, hBd.old (Old.here m _)⟩
            · exfalso; simp only [List.length_cons, List.length_nil] at hi; omega
          have hfl : [D1, [En.mk s x], D2].flatten = D1 ++ .mk s x :: D2 := by simp
          have hfn : (D1 ++ .mk s x :: D2).length = es.length + 1 := by rw [List.length_append, List.length_cons]; omega
          have kC := concat69_ok m1 _ (some ⟨m.size + 4, 0, none⟩) 3 [D1, [.mk s x], D2] hSS (by simp) (by rw [hfl, hfn]; omega) (by rw [hfl, hfn]; omega)
          refine RelC.call kC ?_
          rintro v M ⟨Z, hZ, rfl, rfl⟩
          rw [hfl] at hZ ⊢
          rw [hfn, mx_mx, mx_mx, mx_size]
          repeat first | simp (implicitDefEqProofs := false) (maxSteps := 1000000) (disch := first | omega | with_reducible assumption | (simp only [lenT, Nat.reduceAdd]; omega)) only [amT, cut, bnd, Nat.reduceBEq, reduceCtorEq, Nat.reduceEqDiff, Nat.reduceAdd, Nat.reduceMul, Nat.reduceSub, Int.reduceToNat, Int.reduceEq, Int.reduceLT, Int.reduceLE, Int.reduceAdd, Int.reduceSub, Int.reduceMul, reduceIte, resVs, resV, packV, initT, addr, cutL3, cutL3_2, zN, splice3_2, splice3, cellsOf_node] | refine OrW.go ?_
          refine ⟨_, rfl, fun M' hG => ?_⟩
          have hS' : SlE M' (some ⟨m.size + 5, 0, none⟩) openCap (D1 ++ .mk s x :: D2) := by
            have hG1 := hG.1
            rw [mx_size] at hG1
            simp only [List.length_cons, List.length_nil] at hG1
            refine SlE.whole (e := 48) (w := true) (by omega) ?_ (hZ.old (hG.old (ho.trans (Old.here m _))))
            rw [hG.2 (m.size + 5) (by rw [mx_size]; simp) (by omega)]
            exact mx_new m _ 5
          have := trC_mk (k := 4) (d := d) hS'
          rw [hfn] at this
          exact this
        · have hp : putT (s :: r) (.nd 4 d es) x = none := by rw [putT_new rfl hi, if_neg hr]
          rw [hp]
          have g1 : ¬ ((r.length + 1 : Nat) : Int) = 1 := by
            have := List.length_pos_iff.2 hr
            omega
          refine ACall.eqv (m1 := mx m []) (mx_nil_size m) (fun b hb => mx_old hb) (ACall_of_W (fn := Tryd.f52) rfl rfl F52_ok (by simp [F52]) ?_)
          repeat first | simp (implicitDefEqProofs := false) (maxSteps := 1000000) (disch := first | omega | with_reducible assumption | (simp only [lenT, Nat.reduceAdd]; omega)) only [amT, cut, bnd, Nat.reduceBEq, reduceCtorEq, Nat.reduceEqDiff, Nat.reduceAdd, Nat.reduceMul, Nat.reduceSub, Int.reduceToNat, Int.reduceEq, Int.reduceLT, Int.reduceLE, Int.reduceAdd, Int.reduceSub, Int.reduceMul, reduceIte, resVs, resV, packV, initT, addr, F52, cellsOf_node, cutL3, cutL3_0, splice3, g0, g1, q0, kF', no] | refine OrW.go ?_
      · rw [hi, decide_eq_true (by omega)] at kF'
        have hp := putT_in (d := d) (r := r) (x := x) rfl hj hi
        rw [hp]
        obtain ⟨b2, o2, a', cap', rfl, hbb, hE', q4, q3, q00⟩ := hE.get hj
        have hcg := count_get hj
        have hmayj := (mayL_iff es).1 hmayL j hj
        obtain ⟨X, hX, kC⟩ := clone65_ok m1 (mx m [.cells [.int .u8 4, .string ⟨d.toArray⟩, .slice (some ⟨b2, o2, none⟩) es.length cap1] 26 true .exact, .cells [.int .u8 x.k, .string ⟨x.d.toArray⟩, .slice a2 x.es.length cap2] 26 true .exact, .cells zN 26 true .exact]) _ cap1 es hE (ho.trans (Old.here m _)) (by omega) (by omega)
        have kC' := DetC.known kC
        rw [mx_mx, mx_size] at kC'
        simp only [List.length_cons, List.length_nil, zN, zE, Nat.zero_add, Nat.add_assoc, Nat.reduceAdd] at kC'
        have hXl := hX.len
        obtain ⟨a6, cap6, q6, hE6⟩ := EsC_get3 hj hX
        obtain ⟨a3, cap3, hdrop, hS3⟩ := hS.dropM (k := 1) (SlE.len_lt (by simp only [List.length_cons]; omega)) (by simp)
        simp only [List.drop_succ_cons, List.drop_zero, List.length_cons] at hdrop hS3
        have hdr := fun objs => hdrop (mx m objs) (Old.here m objs)
        have e1 : ((1 : Nat) : Int) = 1 := rfl
        rw [e1] at hdr
        have kI := ih es[j].t m1 (mx m [.cells [.int .u8 4, .string ⟨d.toArray⟩, .slice (some ⟨m.size + 4, 0, none⟩) es.length openCap] 26 true .exact, .cells [.int .u8 x.k, .string ⟨x.d.toArray⟩, .slice a2 x.es.length cap2] 26 true .exact, .cells zN 26 true .exact, .cells [] 48 true .exact, .cells X 48 true (.room zE)]) _ _ a3 cap3 (TrC.of hE6) hx0 (ho.trans (Old.here m _)) (hS3.old (Old.here m _)) hmayj (by omega) (by omega)
        refine ACall.eqv (m1 := mx m []) (mx_nil_size m) (fun b hb => mx_old hb) (ACall_of_W (fn := Tryd.f52) rfl rfl F52_ok (by simp [F52]) ?_)
        repeat first | simp (implicitDefEqProofs := false) (maxSteps := 1000000) (disch := first | omega | with_reducible assumption | (simp only [lenT, Nat.reduceAdd]; omega)) only [amT, cut, bnd, Nat.reduceBEq, reduceCtorEq, Nat.reduceEqDiff, Nat.reduceAdd, Nat.reduceMul, Nat.reduceSub, Int.reduceToNat, Int.reduceEq, Int.reduceLT, Int.reduceLE, Int.reduceAdd, Int.reduceSub, Int.reduceMul, reduceIte, resVs, resV, packV, initT, addr, F52, cellsOf_node, cutL3, cutL3_0, cutL3_2, splice3, splice3_2, g0, q0, kF', kC', q6, hXl, stepOp_slV_v, hdr] | refine OrW.go ?_
        refine (ACall.norm kI).mono ?_
        rintro r' m' ⟨M3, rfl, hO3, hr⟩
        have hm3 : Old m M3 := (Old.here m _).trans hO3
        cases hq : putT r es[j].t x with
        | none =>
          rw [hq] at hr
          subst hr
          repeat first | simp (implicitDefEqProofs := false) (maxSteps := 1000000) (disch := first | omega | with_reducible assumption | (simp only [lenT, Nat.reduceAdd]; omega)) only [amT, cut, bnd, Nat.reduceBEq, reduceCtorEq, Nat.reduceEqDiff, Nat.reduceAdd, Nat.reduceMul, Nat.reduceSub, Int.reduceToNat, Int.reduceEq, Int.reduceLT, Int.reduceLE, Int.reduceAdd, Int.reduceSub, Int.reduceMul, reduceIte, resVs, resV, packV, initT, addr, PanAny_QD] | refine OrW.go ?_
          exact fun _ _ => by first | exact ⟨hm3.mx _, rfl⟩ | exact ⟨hm3.mx _, trivial⟩ | exact hm3.mx _
        | some y =>
          rw [hq] at hr
          obtain ⟨c', rfl, hu⟩ := hr
          have hs3 := hO3.1
          rw [mx_size] at hs3
          simp only [List.length_cons, List.length_nil] at hs3
          have w0 : M3.get m.size = .cells [.int .u8 4, .string ⟨d.toArray⟩, .slice (some ⟨m.size + 4, 0, none⟩) es.length openCap] 26 true .exact := (hO3.2 _ (by rw [mx_size]; simp)).trans (mx_new0 _ _)
          have w2 : M3.get (m.size + 2) = .cells zN 26 true .exact := (hO3.2 _ (by rw [mx_size]; simp)).trans (mx_new _ _ 2)
          have w4 : M3.get (m.size + 4) = .cells X 48 true (.room zE) := (hO3.2 _ (by rw [mx_size]; simp)).trans (mx_new _ _ 4)
          obtain ⟨a5, cap5, rfl, hE5⟩ := (hu M3 (Gap.of ⟨Nat.le_refl _, fun _ _ => rfl⟩)).ex
          have hf : ∀ A B objs, Old m (mx ((M3.set (m.size + 4) A).set (m.size + 2) B) objs) := fun A B objs => ((hm3.set (by omega) A).set (by omega) B).mx objs
          repeat first | simp (implicitDefEqProofs := false) (maxSteps := 1000000) (disch := first | omega | with_reducible assumption | (simp only [lenT, Nat.reduceAdd]; omega)) only [amT, cut, bnd, Nat.reduceBEq, reduceCtorEq, Nat.reduceEqDiff, Nat.reduceAdd, Nat.reduceMul, Nat.reduceSub, Int.reduceToNat, Int.reduceEq, Int.reduceLT, Int.reduceLE, Int.reduceAdd, Int.reduceSub, Int.reduceMul, reduceIte, resVs, resV, packV, initT, addr, w0, w2, w4, cellsOf_node, splice3, cutL3, cutL3_2, zN, hXl] | refine OrW.go ?_
          refine ⟨hf _ _ _, _, rfl, fun M' hG => ?_⟩
          have ho' := hG.old (ho.trans (hf _ _ _))
          obtain ⟨hG1, hG2⟩ := hG
          rw [mx_size, AMem.size_set, AMem.size_set] at hG1
          simp only [List.length_nil] at hG1
          have hu' := hu M' ⟨by omega, fun b hb hb2 => by
            rw [mx_size] at hb2
            simp only [List.length_cons, List.length_nil] at hb2
            rw [hG2 b (by rw [mx_size, AMem.size_set, AMem.size_set]; omega) (by omega), mx_old (by rw [AMem.size_set, AMem.size_set]; omega), AMem.get_set_ne _ _ (by omega), AMem.get_set_ne _ _ (by omega)]⟩
          have hS' : SlE M' (some ⟨m.size + 4, 0, none⟩) openCap (es.set j (.mk s y)) := by
            have hX' := EsC.set3 (hX.old ho') hj hu'
            rw [hjn] at hX'
            refine SlE.whole (e := 48) (w := true) (by omega) ?_ hX'
            rw [hG2 (m.size + 4) (by rw [mx_size, AMem.size_set, AMem.size_set]; omega) (by omega), mx_old (by rw [AMem.size_set, AMem.size_set]; omega), AMem.get_set_ne _ _ (by omega), AMem.get_set_self]
          have := trC_mk (k := 4) (d := d) hS'
          rw [List.length_set] at this
          exact this
    · have hp := putT_kind (d := d) (es := es) (s := s) (r := r) (x := x) hk
      rw [hp]
      have kF := fun objs => find_ok (mx m objs) k d es s _ (hc0.old (ho.trans (Old.here m objs))) (by omega)
      simp only [if_neg hk] at kF
      have kF' := fun objs => (kF objs).pan
      refine ACall.eqv (m1 := mx m []) (mx_nil_size m) (fun b hb => mx_old hb) (ACall_of_W (fn := Tryd.f52) rfl rfl F52_ok (by simp [F52]) ?_)
      repeat first | simp (implicitDefEqProofs := false) (maxSteps := 1000000) (disch := first | omega | with_reducible assumption | (simp only [lenT, Nat.reduceAdd]; omega)) only [amT, cut, bnd, Nat.reduceBEq, reduceCtorEq, Nat.reduceEqDiff, Nat.reduceAdd, Nat.reduceMul, Nat.reduceSub, Int.reduceToNat, Int.reduceEq, Int.reduceLT, Int.reduceLE, Int.reduceAdd, Int.reduceSub, Int.reduceMul, reduceIte, resVs, resV, packV, initT, addr, F52, cellsOf_node, cutL3, cutL3_0, splice3, hk, g0, q0, kF', PanAny_QD] | refine OrW.go ?_
      exact fun _ _ => trivial
end Go.Proofs.YtfjgpeoblnpelaaDoor
namespace Go.AM
theorem countL_set : ∀ (es : List En) (i : Nat) (hi : i < es.length) (e : En), countL (es.set i e) + es[i].t.count = countL es + e.t.count
  | [], i, hi, e => by simp at hi
  | e0 :: es, 0, hi, e => by simp only [List.set_cons_zero, countL, En.count_t, List.getElem_cons_zero]; omega
  | e0 :: es, i + 1, hi, e => by
    have := countL_set es i (by simpa using hi) e
    simp only [List.set_cons_succ, countL, En.count_t, List.getElem_cons_succ]; omega
theorem weightL_set : ∀ (es : List En) (i : Nat) (hi : i < es.length) (e : En), weightL (es.set i e) + (es[i].n.length + es[i].t.weight) = weightL es + (e.n.length + e.t.weight)
  | [], i, hi, e => by simp at hi
  | e0 :: es, 0, hi, e => by simp only [List.set_cons_zero, weightL, En.weight_t, List.getElem_cons_zero]; omega
  | e0 :: es, i + 1, hi, e => by
    have := weightL_set es i (by simpa using hi) e
    simp only [List.set_cons_succ, weightL, En.weight_t, List.getElem_cons_succ]; omega
end Go.AM
namespace Go.Proofs.YtfjgpeoblnpelaaDoor
open Go Go.AM
set_option linter.unusedVariables false
set_option linter.unusedSimpArgs false
set_option maxRecDepth 100000
set_option maxHeartbeats 2000000

theorem putT_le (x : Tr) (L : Nat) : ∀ (ns : List (List UInt8)) (t w : Tr), (∀ s ∈ ns, s.length ≤ L) → putT ns t x = some w → w.count ≤ t.count + x.count ∧ w.weight ≤ t.weight + x.weight + L := by
  intro ns
  induction ns with
  | nil =>
    intro t w hL h
    cases h
    exact ⟨by omega, by omega⟩
  | cons s r ih =>
    intro t w hL h
    obtain ⟨k, d, es⟩ := t
    by_cases hk : k = 4
    · rcases idxE_cases es s with ⟨hi, _⟩ | ⟨j, hj, hi, hjn⟩
      · rw [putT_new hk hi] at h
        split at h
        · cases h
          have hs := hL s (by simp)
          have e1 : countL es = countL (es.take (placeE es s)) + countL (es.drop (placeE es s)) := by rw [← countL_app, List.take_append_drop]
          have e2 : weightL es = weightL (es.take (placeE es s)) + weightL (es.drop (placeE es s)) := by rw [← weightL_app, List.take_append_drop]
          simp only [Tr.count, Tr.weight, countL_app, weightL_app, countL, weightL, En.count_t, En.weight_t, En.t, En.n]
          omega
        · cases h
      · rw [putT_in hk hj hi] at h
        cases hq : putT r es[j].t x with
        | none => rw [hq] at h; cases h
        | some y =>
          rw [hq] at h
          cases h
          have h1 := ih es[j].t y (fun s' hs' => hL s' (by simp [hs'])) hq
          have h2 := countL_set es j hj (.mk s y)
          have h3 := weightL_set es j hj (.mk s y)
          have h4 := count_get hj
          have h5 := weight_get hj
          have h6 : es[j].n.length = s.length := by rw [hjn]
          have e1 : (En.mk s y).t = y := rfl
          have e2 : (En.mk s y).n = s := rfl
          rw [e1] at h2 h3
          rw [e2] at h3
          simp only [Tr.count, Tr.weight]
          omega
    · rw [putT_kind hk] at h; cases h
/-- What Put answers. -/
def putR (t : Tr) (l : List UInt8) (x : Tr) : Int × Tr := if rightT t && rightT x then (match namesR l with
    | none => (2, zT)
    | some ns => match putT ns t x with
      | none => (5, zT)
      | some w => if rightT w then (0, w) else (70, zT)) else (70, zT)
theorem rightT_may {t : Tr} (h : rightT t = true) : mayT t = true := by
  rw [rightT, Bool.and_eq_true] at h; exact h.2
theorem putE {t : Tmps} {M : AMem} {b e : Nat} {k : Int} {c : List Value} {sp sp2 : Spare} {T T2 : TypeId} {w w2 : Bool} (h4 : t 6 = .pointer (some ⟨b, 0, none⟩)) (h5 : t 7 = .pointer (some ⟨e, 0, none⟩)) (hl : c.length = 3)
    (hb : M.get b = .cells c T w sp) (he : M.get e = .cells [.int .i64 k] T2 w2 sp2) {Q : AEnd → AMem → Prop} (h : Q (.ret (.tuple #[.agg c.toArray, .int .i64 k])) M) : finA F26.res t Q .ret M := by
  have e1 : rd M b 0 3 = some c := by rw [rd_def, hb]; exact cutL_all hl
  have e2 : rd M e 0 1 = some [.int .i64 k] := by rw [rd_def, he]; rfl
  have : resVs F26.res t M = some [.agg c.toArray, .int .i64 k] := by
    simp [F26, resVs, resV, h4, h5, addr, e1, e2]
  show (match resVs F26.res t M with | some l => Q (.ret (packV l)) M | none => False)
  rw [this]
  exact h
theorem put_pan {t : Tmps} {m M : AMem} {k : Int} {x y z : Value} (h4 : t 6 = .pointer (some ⟨m.size + 2, 0, none⟩)) (h5 : t 7 = .pointer (some ⟨m.size + 3, 0, none⟩)) (hs : m.size + 4 ≤ M.size) (hO : Old m M) (h1 : M.get (m.size + 2) = .cells [x, y, z] 26 true .exact) {v : Value} (h2 : M.get (m.size + 3) = .cells [v] 30 true .exact) {R : Value → AMem → Prop}
    (hR : ∀ M', Old m M' → R (.tuple #[.agg zN.toArray, .int .i64 k]) M') :
    RetKX Tryd.prog 3 F26.res (fun r m' => ∃ v, r = .ret v ∧ (m.size ≤ m'.size → R v m')) (.pan (errC 30 k)) ⟨t, mx M [], [{ target := .fn (.func 51) #[.pointer (some ⟨m.size + 3, 0, none⟩), .pointer (some ⟨m.size + 2, 0, none⟩)], args := #[] ++ #[] }]⟩ := by
  refine RetKX_one (u := .pan (errC 30 k)) (.inr (.inr ⟨_, rfl, rfl⟩)) ?_
  refine ACallD.mono (d51_yes (mx M []) (m.size + 3) (m.size + 2) k (by rw [mx_nil_size]; omega) ((mx_old (by omega)).trans h2) (by rw [mx_nil_size]; omega) ((mx_old (by omega)).trans h1) (by omega)) ?_
  rintro e u m' ⟨rfl, rfl, rfl⟩
  refine ⟨.ret, rfl, ?_⟩
  refine putE h4 h5 rfl (T := 26) (w := true) (sp := .exact) (T2 := 30) (w2 := true) (sp2 := .exact) (k := k) ?_ ?_ ⟨_, rfl, fun _ => hR _ ?_⟩
  · rw [mx_old (by simp only [AMem.size_set, mx_nil_size]; omega), AMem.get_set_self]
  · rw [mx_old (by simp only [AMem.size_set, mx_nil_size]; omega), AMem.get_set_ne _ _ (by omega), AMem.get_set_self]
  · refine ((((hO.mx []).set (by omega) _).set (by omega) _).mx _)
theorem Put_ok (m1 m : AMem) (tr x : Tr) (c cx : List Value) (l : List UInt8) (hc : TrC m1 tr c) (hx : TrC m1 x cx) (ho : Old m1 m) (hn : tr.count ≤ 200000) (hnx : x.count ≤ 200000) (hl : l.length ≤ 900000) : RelC Tryd.prog 3 26 [.agg c.toArray, .string ⟨l.toArray⟩, .agg cx.toArray] m fun v M =>
    Old m M ∧ ∃ c', v = .tuple #[.agg c'.toArray, .int .i64 (putR tr l x).1] ∧ ∀ M', Gap m1 m M M' → TrC M' (putR tr l x).2 c' := by
  have hc0 := hc
  have hx0 := hx
  obtain ⟨a, cap, rfl, hE⟩ := hc.ex
  obtain ⟨a2, cap2, rfl, hE2⟩ := hx.ex
  have k1 := fun objs => tree_ok (mx m objs) tr _ (hc0.old (ho.trans (Old.here m objs))) (by omega)
  have k2 := fun objs => tree_ok (mx m objs) x _ (hx0.old (ho.trans (Old.here m objs))) (by omega)
  cases hr1 : rightT tr with
  | false =>
    have hat : putR tr l x = (70, zT) := by rw [putR, hr1]; rfl
    rw [hr1] at k1
    have k1' := fun objs => (k1 objs).pan
    refine rel_of_WX (fn := Tryd.f26) rfl rfl F26_ok (by simp [F26]) ?_
    repeat first | simp (implicitDefEqProofs := false) (maxSteps := 1000000) (disch := first | omega | with_reducible assumption | (simp only [lenT, Nat.reduceAdd]; omega)) only [amT, cut, bnd, Nat.reduceBEq, reduceCtorEq, Nat.reduceEqDiff, Nat.reduceAdd, Nat.reduceMul, Nat.reduceSub, Int.reduceToNat, Int.reduceEq, Int.reduceLT, Int.reduceLE, Int.reduceAdd, Int.reduceSub, Int.reduceMul, reduceIte, resVs, resV, packV, initT, addr, F26, cellsOf_node, W_dfr, DfrK_v, DfrV_func, cutL3, k1'] | refine OrW.go ?_
    have hz4 : ∀ o0 o1 o2 o3, m.size + 4 ≤ (mx m [o0, o1, o2, o3]).size := fun _ _ _ _ => by rw [mx_size]; simp
    have e0 : ∀ objs, mx m objs = mx (mx m objs) [] := fun objs => by rw [mx_mx, List.append_nil]
    rw [e0]
    refine put_pan (m := m) (x := .int .u8 0) (y := .string ⟨#[]⟩) (z := .slice none 0 0) ?_ ?_ (hz4 _ _ _ _) (Old.here m _) (mx_new m _ 2) (mx_new m _ 3) fun M' hM => ⟨hM, zN, by rw [hat], by rw [hat]; exact fun M' _ => trC_zT M'⟩
    · simp (implicitDefEqProofs := false) (maxSteps := 1000000) (disch := first | omega | with_reducible assumption | (simp only [lenT, Nat.reduceAdd]; omega)) only [amT, cut, bnd, Nat.reduceBEq, reduceCtorEq, Nat.reduceEqDiff, Nat.reduceAdd, Nat.reduceMul, Nat.reduceSub, Int.reduceToNat, Int.reduceEq, Int.reduceLT, Int.reduceLE, Int.reduceAdd, Int.reduceSub, Int.reduceMul, reduceIte, resVs, resV, packV, initT, addr]
    · simp (implicitDefEqProofs := false) (maxSteps := 1000000) (disch := first | omega | with_reducible assumption | (simp only [lenT, Nat.reduceAdd]; omega)) only [amT, cut, bnd, Nat.reduceBEq, reduceCtorEq, Nat.reduceEqDiff, Nat.reduceAdd, Nat.reduceMul, Nat.reduceSub, Int.reduceToNat, Int.reduceEq, Int.reduceLT, Int.reduceLE, Int.reduceAdd, Int.reduceSub, Int.reduceMul, reduceIte, resVs, resV, packV, initT, addr]
  | true =>
    rw [hr1] at k1
    have k1' := fun objs => DetC.known (PurE.ret (k1 objs))
    cases hr2 : rightT x with
    | false =>
      have hat : putR tr l x = (70, zT) := by rw [putR, hr1, hr2]; rfl
      rw [hr2] at k2
      have k2' := fun objs => (k2 objs).pan
      refine rel_of_WX (fn := Tryd.f26) rfl rfl F26_ok (by simp [F26]) ?_
      repeat first | simp (implicitDefEqProofs := false) (maxSteps := 1000000) (disch := first | omega | with_reducible assumption | (simp only [lenT, Nat.reduceAdd]; omega)) only [amT, cut, bnd, Nat.reduceBEq, reduceCtorEq, Nat.reduceEqDiff, Nat.reduceAdd, Nat.reduceMul, Nat.reduceSub, Int.reduceToNat, Int.reduceEq, Int.reduceLT, Int.reduceLE, Int.reduceAdd, Int.reduceSub, Int.reduceMul, reduceIte, resVs, resV, packV, initT, addr, F26, cellsOf_node, W_dfr, DfrK_v, DfrV_func, cutL3, k1', k2'] | refine OrW.go ?_
      have hz4 : ∀ o0 o1 o2 o3, m.size + 4 ≤ (mx m [o0, o1, o2, o3]).size := fun _ _ _ _ => by rw [mx_size]; simp
      have e0 : ∀ objs, mx m objs = mx (mx m objs) [] := fun objs => by rw [mx_mx, List.append_nil]
      rw [e0]
      refine put_pan (m := m) (x := .int .u8 0) (y := .string ⟨#[]⟩) (z := .slice none 0 0) ?_ ?_ (hz4 _ _ _ _) (Old.here m _) (mx_new m _ 2) (mx_new m _ 3) fun M' hM => ⟨hM, zN, by rw [hat], by rw [hat]; exact fun M' _ => trC_zT M'⟩
      · simp (implicitDefEqProofs := false) (maxSteps := 1000000) (disch := first | omega | with_reducible assumption | (simp only [lenT, Nat.reduceAdd]; omega)) only [amT, cut, bnd, Nat.reduceBEq, reduceCtorEq, Nat.reduceEqDiff, Nat.reduceAdd, Nat.reduceMul, Nat.reduceSub, Int.reduceToNat, Int.reduceEq, Int.reduceLT, Int.reduceLE, Int.reduceAdd, Int.reduceSub, Int.reduceMul, reduceIte, resVs, resV, packV, initT, addr]
      · simp (implicitDefEqProofs := false) (maxSteps := 1000000) (disch := first | omega | with_reducible assumption | (simp only [lenT, Nat.reduceAdd]; omega)) only [amT, cut, bnd, Nat.reduceBEq, reduceCtorEq, Nat.reduceEqDiff, Nat.reduceAdd, Nat.reduceMul, Nat.reduceSub, Int.reduceToNat, Int.reduceEq, Int.reduceLT, Int.reduceLE, Int.reduceAdd, Int.reduceSub, Int.reduceMul, reduceIte, resVs, resV, packV, initT, addr]
    | true =>
      rw [hr2] at k2
      have k2' := fun objs => DetC.known (PurE.ret (k2 objs))
      have kS := split_ok (mx m [.cells [.int .u8 tr.k, .string ⟨tr.d.toArray⟩, .slice a tr.es.length cap] 26 true .exact, .cells [.int .u8 x.k, .string ⟨x.d.toArray⟩, .slice a2 x.es.length cap2] 26 true .exact, .cells zN 26 true .exact, .cells [.int .i64 0] 30 true .exact]) l (by omega)
      refine rel_of_WX (fn := Tryd.f26) rfl rfl F26_ok (by simp [F26]) ?_
      repeat first | simp (implicitDefEqProofs := false) (maxSteps := 1000000) (disch := first | omega | with_reducible assumption | (simp only [lenT, Nat.reduceAdd]; omega)) only [amT, cut, bnd, Nat.reduceBEq, reduceCtorEq, Nat.reduceEqDiff, Nat.reduceAdd, Nat.reduceMul, Nat.reduceSub, Int.reduceToNat, Int.reduceEq, Int.reduceLT, Int.reduceLE, Int.reduceAdd, Int.reduceSub, Int.reduceMul, reduceIte, resVs, resV, packV, initT, addr, F26, cellsOf_node, W_dfr, DfrK_v, DfrV_func, cutL3, k1', k2'] | refine OrW.go ?_
      refine (ACall.norm kS).mono ?_
      rintro r m' ⟨M0, rfl, hO0, hr⟩
      have hs0 := hO0.1
      rw [mx_size] at hs0
      simp only [List.length_cons, List.length_nil] at hs0
      have hm0 : Old m M0 := (Old.here m _).trans hO0
      have w0 : M0.get m.size = .cells [.int .u8 tr.k, .string ⟨tr.d.toArray⟩, .slice a tr.es.length cap] 26 true .exact := (hO0.2 _ (by rw [mx_size]; simp)).trans (mx_new0 _ _)
      have w1 : M0.get (m.size + 1) = .cells [.int .u8 x.k, .string ⟨x.d.toArray⟩, .slice a2 x.es.length cap2] 26 true .exact := (hO0.2 _ (by rw [mx_size]; simp)).trans (mx_new _ _ 1)
      have w2 : M0.get (m.size + 2) = .cells zN 26 true .exact := (hO0.2 _ (by rw [mx_size]; simp)).trans (mx_new _ _ 2)
      have w3 : M0.get (m.size + 3) = .cells [.int .i64 0] 30 true .exact := (hO0.2 _ (by rw [mx_size]; simp)).trans (mx_new _ _ 3)
      cases hns : namesR l with
      | none =>
        rw [hns] at hr
        subst hr
        have hat : putR tr l x = (2, zT) := by rw [putR, hr1, hr2, hns]; rfl
        repeat first | simp (implicitDefEqProofs := false) (maxSteps := 1000000) (disch := first | omega | with_reducible assumption | (simp only [lenT, Nat.reduceAdd]; omega)) only [amT, cut, bnd, Nat.reduceBEq, reduceCtorEq, Nat.reduceEqDiff, Nat.reduceAdd, Nat.reduceMul, Nat.reduceSub, Int.reduceToNat, Int.reduceEq, Int.reduceLT, Int.reduceLE, Int.reduceAdd, Int.reduceSub, Int.reduceMul, reduceIte, resVs, resV, packV, initT, addr, PanAny_QD] | refine OrW.go ?_
        intro t' ht'
        refine put_pan (m := m) (x := .int .u8 0) (y := .string ⟨#[]⟩) (z := .slice none 0 0) ((ht' 6 (by rfl)).trans ?_) ((ht' 7 (by rfl)).trans ?_) (by omega) hm0 w2 w3 fun M' hM => ⟨hM, zN, by rw [hat], by rw [hat]; exact fun M' _ => trC_zT M'⟩
        · simp (implicitDefEqProofs := false) (maxSteps := 1000000) (disch := first | omega | with_reducible assumption | (simp only [lenT, Nat.reduceAdd]; omega)) only [amT, cut, bnd, Nat.reduceBEq, reduceCtorEq, Nat.reduceEqDiff, Nat.reduceAdd, Nat.reduceMul, Nat.reduceSub, Int.reduceToNat, Int.reduceEq, Int.reduceLT, Int.reduceLE, Int.reduceAdd, Int.reduceSub, Int.reduceMul, reduceIte, resVs, resV, packV, initT, addr]
        · simp (implicitDefEqProofs := false) (maxSteps := 1000000) (disch := first | omega | with_reducible assumption | (simp only [lenT, Nat.reduceAdd]; omega)) only [amT, cut, bnd, Nat.reduceBEq, reduceCtorEq, Nat.reduceEqDiff, Nat.reduceAdd, Nat.reduceMul, Nat.reduceSub, Int.reduceToNat, Int.reduceEq, Int.reduceLT, Int.reduceLE, Int.reduceAdd, Int.reduceSub, Int.reduceMul, reduceIte, resVs, resV, packV, initT, addr]
      | some ns =>
        rw [hns] at hr
        obtain ⟨a1, cap1, rfl, hS, hnew⟩ := hr
        have hnl := namesR_len hns
        have hput : ∀ w, putT ns tr x = some w → w.count ≤ 500000 := fun w h => by
          have := (putT_le x l.length ns tr w (namesR_mem hns) h).1
          omega
        have kP := put_ok x ns tr m1 M0 _ _ a1 cap1 hc0 hx0 (ho.trans hm0) hS (rightT_may hr1) (by omega) (by omega)
        repeat first | simp (implicitDefEqProofs := false) (maxSteps := 1000000) (disch := first | omega | with_reducible assumption | (simp only [lenT, Nat.reduceAdd]; omega)) only [amT, cut, bnd, Nat.reduceBEq, reduceCtorEq, Nat.reduceEqDiff, Nat.reduceAdd, Nat.reduceMul, Nat.reduceSub, Int.reduceToNat, Int.reduceEq, Int.reduceLT, Int.reduceLE, Int.reduceAdd, Int.reduceSub, Int.reduceMul, reduceIte, resVs, resV, packV, initT, addr, w0, w1, cutL3] | refine OrW.go ?_
        refine (ACall.norm (ACall.eqv (m := mx M0 []) (mx_nil_size M0).symm (fun b hb => (mx_nil_get M0 (by rwa [mx_nil_size] at hb)).symm) kP)).mono ?_
        rintro r m' ⟨M1, rfl, hO1, hr⟩
        have hs1 := hO1.1
        have hm1 : Old m M1 := hm0.trans hO1
        have hoz := ho.1
        have x2 : M1.get (m.size + 2) = .cells zN 26 true .exact := (hO1.2 _ (by omega)).trans w2
        have x3 : M1.get (m.size + 3) = .cells [.int .i64 0] 30 true .exact := (hO1.2 _ (by omega)).trans w3
        cases hp : putT ns tr x with
        | none =>
          rw [hp] at hr
          subst hr
          have hat : putR tr l x = (5, zT) := by rw [putR, hr1, hr2, hns]; simp only [Bool.and_self, if_true, hp]
          repeat first | simp (implicitDefEqProofs := false) (maxSteps := 1000000) (disch := first | omega | with_reducible assumption | (simp only [lenT, Nat.reduceAdd]; omega)) only [amT, cut, bnd, Nat.reduceBEq, reduceCtorEq, Nat.reduceEqDiff, Nat.reduceAdd, Nat.reduceMul, Nat.reduceSub, Int.reduceToNat, Int.reduceEq, Int.reduceLT, Int.reduceLE, Int.reduceAdd, Int.reduceSub, Int.reduceMul, reduceIte, resVs, resV, packV, initT, addr, PanAny_QD] | refine OrW.go ?_
          intro t' ht'
          refine put_pan (m := m) (x := .int .u8 0) (y := .string ⟨#[]⟩) (z := .slice none 0 0) ((ht' 6 (by rfl)).trans ?_) ((ht' 7 (by rfl)).trans ?_) (by omega) hm1 x2 x3 fun M' hM => ⟨hM, zN, by rw [hat], by rw [hat]; exact fun M' _ => trC_zT M'⟩
          · simp (implicitDefEqProofs := false) (maxSteps := 1000000) (disch := first | omega | with_reducible assumption | (simp only [lenT, Nat.reduceAdd]; omega)) only [amT, cut, bnd, Nat.reduceBEq, reduceCtorEq, Nat.reduceEqDiff, Nat.reduceAdd, Nat.reduceMul, Nat.reduceSub, Int.reduceToNat, Int.reduceEq, Int.reduceLT, Int.reduceLE, Int.reduceAdd, Int.reduceSub, Int.reduceMul, reduceIte, resVs, resV, packV, initT, addr]
          · simp (implicitDefEqProofs := false) (maxSteps := 1000000) (disch := first | omega | with_reducible assumption | (simp only [lenT, Nat.reduceAdd]; omega)) only [amT, cut, bnd, Nat.reduceBEq, reduceCtorEq, Nat.reduceEqDiff, Nat.reduceAdd, Nat.reduceMul, Nat.reduceSub, Int.reduceToNat, Int.reduceEq, Int.reduceLT, Int.reduceLE, Int.reduceAdd, Int.reduceSub, Int.reduceMul, reduceIte, resVs, resV, packV, initT, addr]
        | some w =>
          rw [hp] at hr
          obtain ⟨c', rfl, hw⟩ := hr
          have hwc := hput w hp
          obtain ⟨a5, cap5, rfl, hE5⟩ := (hw M1 (Gap.of ⟨Nat.le_refl _, fun _ _ => rfl⟩)).ex
          have hG : ∀ A objs, Gap m1 M0 M1 (mx (M1.set (m.size + 2) A) objs) := fun A objs => ⟨by rw [mx_size, AMem.size_set]; omega, fun b hb hb2 => by rw [mx_old (by rw [AMem.size_set]; exact hb), AMem.get_set_ne _ _ (by omega)]⟩
          have k3 := fun A objs => tree_ok (mx (M1.set (m.size + 2) A) objs) w _ (hw _ (hG A objs)) (by omega)
          have y3 : ∀ A, (M1.set (m.size + 2) A).get (m.size + 3) = .cells [.int .i64 0] 30 true .exact := fun A => by rw [AMem.get_set_ne _ _ (by omega)]; exact x3
          have hm2 : ∀ A, Old m (M1.set (m.size + 2) A) := fun A => hm1.set (by omega) A
          cases hr3 : rightT w with
          | false =>
            rw [hr3] at k3
            have k3' := fun A objs => (k3 A objs).pan
            have hat : putR tr l x = (70, zT) := by rw [putR, hr1, hr2, hns]; simp only [Bool.and_self, if_true, hp, hr3]; rfl
            repeat first | simp (implicitDefEqProofs := false) (maxSteps := 1000000) (disch := first | omega | with_reducible assumption | (simp only [lenT, Nat.reduceAdd]; omega)) only [amT, cut, bnd, Nat.reduceBEq, reduceCtorEq, Nat.reduceEqDiff, Nat.reduceAdd, Nat.reduceMul, Nat.reduceSub, Int.reduceToNat, Int.reduceEq, Int.reduceLT, Int.reduceLE, Int.reduceAdd, Int.reduceSub, Int.reduceMul, reduceIte, resVs, resV, packV, initT, addr, x2, zN, cellsOf_node, splice3, cutL3, k3'] | refine OrW.go ?_
            refine put_pan (m := m) ?_ ?_ (by rw [AMem.size_set]; omega) (hm2 _) (AMem.get_set_self _ _ _) (y3 _) fun M' hM => ⟨hM, zN, by rw [hat], by rw [hat]; exact fun M' _ => trC_zT M'⟩
            · simp (implicitDefEqProofs := false) (maxSteps := 1000000) (disch := first | omega | with_reducible assumption | (simp only [lenT, Nat.reduceAdd]; omega)) only [amT, cut, bnd, Nat.reduceBEq, reduceCtorEq, Nat.reduceEqDiff, Nat.reduceAdd, Nat.reduceMul, Nat.reduceSub, Int.reduceToNat, Int.reduceEq, Int.reduceLT, Int.reduceLE, Int.reduceAdd, Int.reduceSub, Int.reduceMul, reduceIte, resVs, resV, packV, initT, addr]
            · simp (implicitDefEqProofs := false) (maxSteps := 1000000) (disch := first | omega | with_reducible assumption | (simp only [lenT, Nat.reduceAdd]; omega)) only [amT, cut, bnd, Nat.reduceBEq, reduceCtorEq, Nat.reduceEqDiff, Nat.reduceAdd, Nat.reduceMul, Nat.reduceSub, Int.reduceToNat, Int.reduceEq, Int.reduceLT, Int.reduceLE, Int.reduceAdd, Int.reduceSub, Int.reduceMul, reduceIte, resVs, resV, packV, initT, addr]
          | true =>
            rw [hr3] at k3
            have k3' := fun A objs => DetC.known (PurE.ret (k3 A objs))
            have hat : putR tr l x = (0, w) := by rw [putR, hr1, hr2, hns]; simp only [Bool.and_self, if_true, hp, hr3]
            repeat first | simp (implicitDefEqProofs := false) (maxSteps := 1000000) (disch := first | omega | with_reducible assumption | (simp only [lenT, Nat.reduceAdd]; omega)) only [amT, cut, bnd, Nat.reduceBEq, reduceCtorEq, Nat.reduceEqDiff, Nat.reduceAdd, Nat.reduceMul, Nat.reduceSub, Int.reduceToNat, Int.reduceEq, Int.reduceLT, Int.reduceLE, Int.reduceAdd, Int.reduceSub, Int.reduceMul, reduceIte, resVs, resV, packV, initT, addr, x2, x3, zN, cellsOf_node, splice3, cutL3, k3'] | refine OrW.go ?_
            refine RetKX_one (u := .ret) (.inr (.inl ⟨rfl, rfl⟩)) ?_
            refine ACallD.mono (d51_no _ (m.size + 3) (m.size + 2)) ?_
            rintro e u' m' ⟨rfl, rfl, rfl⟩
            have hfin : Old m (mx (mx ((M1.set (m.size + 2) (.cells [.int .u8 w.k, .string ⟨w.d.toArray⟩, .slice a5 w.es.length cap5] 26 true .exact)).set (m.size + 3) (.cells [.int .i64 0] 30 true .exact)) []) []) :=
              ((((hm2 _).set (by omega) _).mx []).mx [])
            refine ⟨.ret, rfl, ?_⟩
            refine putE (b := m.size + 2) (e := m.size + 3) (k := 0) (c := [.int .u8 w.k, .string ⟨w.d.toArray⟩, .slice a5 w.es.length cap5]) (T := 26) (w := true) (sp := .exact) (T2 := 30) (w2 := true) (sp2 := .exact) ?_ ?_ rfl ?_ ?_ ⟨_, rfl, fun _ => ⟨hfin, _, by rw [hat], ?_⟩⟩
            · simp (implicitDefEqProofs := false) (maxSteps := 1000000) (disch := first | omega | with_reducible assumption | (simp only [lenT, Nat.reduceAdd]; omega)) only [amT, cut, bnd, Nat.reduceBEq, reduceCtorEq, Nat.reduceEqDiff, Nat.reduceAdd, Nat.reduceMul, Nat.reduceSub, Int.reduceToNat, Int.reduceEq, Int.reduceLT, Int.reduceLE, Int.reduceAdd, Int.reduceSub, Int.reduceMul, reduceIte, resVs, resV, packV, initT, addr]
            · simp (implicitDefEqProofs := false) (maxSteps := 1000000) (disch := first | omega | with_reducible assumption | (simp only [lenT, Nat.reduceAdd]; omega)) only [amT, cut, bnd, Nat.reduceBEq, reduceCtorEq, Nat.reduceEqDiff, Nat.reduceAdd, Nat.reduceMul, Nat.reduceSub, Int.reduceToNat, Int.reduceEq, Int.reduceLT, Int.reduceLE, Int.reduceAdd, Int.reduceSub, Int.reduceMul, reduceIte, resVs, resV, packV, initT, addr]
            · rw [mx_mx, mx_old (by simp only [AMem.size_set]; omega), AMem.get_set_ne _ _ (by omega), AMem.get_set_self]
            · rw [mx_mx, mx_old (by simp only [AMem.size_set]; omega), AMem.get_set_self]
            · rw [hat]
              intro M' hG'
              obtain ⟨hG1, hG2⟩ := hG'
              rw [mx_mx] at hG1 hG2
              rw [mx_size, AMem.size_set, AMem.size_set] at hG1 hG2
              refine hw M' ⟨by omega, fun b hb hb2 => ?_⟩
              rw [hG2 b (by omega) (by omega), mx_old (by rw [AMem.size_set, AMem.size_set]; exact hb), AMem.get_set_ne _ _ (by omega), AMem.get_set_ne _ _ (by omega)]
end Go.Proofs.YtfjgpeoblnpelaaDoor
namespace Go.AM
/-- A name ahead of a path. -/
def preP (n q : List UInt8) : List UInt8 := if q = [] then n else n ++ 47 :: q
mutual
def pathsT : Tr → List (List UInt8)
  | .nd _ _ es => [] :: pathsL es
def pathsL : List En → List (List UInt8)
  | [] => []
  | e :: r => pathsE e ++ pathsL r
def pathsE : En → List (List UInt8)
  | .mk n t => (pathsT t).map (preP n)
end
theorem pathsT_nd (k : Int) (d : List UInt8) (es : List En) : pathsT (.nd k d es) = [] :: pathsL es := by unfold pathsT; rfl
theorem pathsE_eq (e : En) : pathsE e = (pathsT e.t).map (preP e.n) := by cases e; unfold pathsE; rfl
/-- A row of texts that grows; or it has but its first. -/
def PBuf (m M : AMem) (v : Value) (c : List Value) : Prop :=
  Buf m M v c 9 (.string ⟨#[]⟩) ∨ ∃ b x, m.size ≤ b ∧ b < M.size ∧ v = .slice (some ⟨b, 0, none⟩) 1 1 ∧ M.get b = .cells [x] 9 true .exact ∧ c = [x]
theorem PBuf.old {m M M' : AMem} {v : Value} {c : List Value} (h : PBuf m M v c) (ho : Old M M') : PBuf m M' v c := by
  rcases h with h | ⟨b, x, h1, h2, h3, h4, h5⟩
  · rcases h with h | ⟨b, h1, h2, h3, h4⟩
    · exact .inl (.inl h)
    · exact .inl (.inr ⟨b, h1, by have := ho.1; omega, h3, by rw [ho.2 b h2]; exact h4⟩)
  · exact .inr ⟨b, x, h1, by have := ho.1; omega, h3, by rw [ho.2 b h2]; exact h4, h5⟩
theorem PBuf.new {m M : AMem} {v : Value} {c : List Value} (h : PBuf m M v c) : ∀ x o l k, v = .slice (some ⟨x, o, none⟩) l k → m.size ≤ x ∧ x < M.size := by
  intro x o l k hv
  rcases h with (⟨rfl, rfl⟩ | ⟨b, h1, h2, rfl, h4⟩) | ⟨b, y, h1, h2, rfl, _⟩
  · cases hv
  · cases hv; exact ⟨h1, h2⟩
  · cases hv; exact ⟨h1, h2⟩
theorem PBuf.set' {m M : AMem} {v : Value} {c : List Value} {y : Nat} {ob : AObj} (h : PBuf m M v c) (hy : ∀ x o l k, v = .slice (some ⟨x, o, none⟩) l k → x ≠ y) : PBuf m (M.set y ob) v c := by
  rcases h with (⟨rfl, rfl⟩ | ⟨b, h1, h2, rfl, h4⟩) | ⟨b, x, h1, h2, rfl, h4, h5⟩
  · exact .inl (.inl ⟨rfl, rfl⟩)
  · exact .inl (.inr ⟨b, h1, h2, rfl, by rw [AMem.get_set_ne _ _ (hy b _ _ _ rfl)]; exact h4⟩)
  · exact .inr ⟨b, x, h1, h2, rfl, by rw [AMem.get_set_ne _ _ (hy b _ _ _ rfl)]; exact h4, h5⟩
theorem PBuf.app1 {m M : AMem} {v x : Value} {c : List Value} (h : PBuf m M v c) (hm : m.size ≤ M.size) (ho : oneCell x = true) (hn : c.length + 1 ≤ 1000000000) :
    ∃ v' M', appV 9 1 16 [.string ⟨#[]⟩] v (.slice (some ⟨M.size, 0, none⟩) 1 1) (mx M [.cells [x] 9 true .exact]) = some (v', mx M' []) ∧ PBuf m M' v' (c ++ [x]) ∧ Fr v M M' ∧ ∀ y o l k, v' = .slice (some ⟨y, o, none⟩) l k → M.size ≤ y := by
  have hs : srcCells 1 1 (.slice (some ⟨M.size, 0, none⟩) 1 1) (mx M [.cells [x] 9 true .exact]) = some [x] := by
    rw [srcCells_b (Nat.le_refl _) (mx_new0 M _)]; rfl
  have hv : appV 9 1 16 [.string ⟨#[]⟩] v (.slice (some ⟨M.size, 0, none⟩) 1 1) (mx M [.cells [x] 9 true .exact]) = appendTo 9 1 16 [.string ⟨#[]⟩] v 1 [x] (mx M [.cells [x] 9 true .exact]) := by
    simp only [appV, srcLen_slice, hs]
    rw [if_pos ⟨rfl, by omega, by simp [ho], rfl⟩]
  rw [hv]
  rcases h with (⟨rfl, rfl⟩ | ⟨b, h1, h2, rfl, h4⟩) | ⟨b, y, h1, h2, rfl, h4, rfl⟩
  · refine ⟨_, mx M [.cells [x] 9 true .exact, .cells [x] 9 true (.room [.string ⟨#[]⟩])], ?_, .inl (.inr ⟨M.size + 1, by omega, by simp [mx_size], rfl, mx_new M _ 1⟩), ⟨by rw [mx_size]; omega, fun y hy _ => mx_old hy⟩, fun y o l k e => by cases e; omega⟩
    rw [appendTo_nil (by omega) (by omega) (by omega), mx_push, mx_mx, mx_size]; rfl
  · refine ⟨.slice (some ⟨M.size + 1, 0, none⟩) (c ++ [x]).length openCap, mx (M.set b .dead) [.cells [x] 9 true .exact, .cells (c ++ [x]) 9 true (.room [.string ⟨#[]⟩])], ?_, .inl (.inr ⟨M.size + 1, by omega, by simp only [mx_size, AMem.size_set, List.length_cons, List.length_nil]; omega, rfl, mx_new (M.set b .dead) _ 1⟩),
      ⟨by simp only [mx_size, AMem.size_set, List.length_cons, List.length_nil]; omega, fun y hy hne => ?_⟩, fun y o l k e => by cases e; omega⟩
    · rw [appendTo_open (sz := 1) (z' := [.string ⟨#[]⟩]) ((mx_old h2).trans h4) (by decide) rfl (by omega) (show c.length = c.length * 1 by omega) (by omega) (by omega) (by omega), mx_set_old h2, mx_push, mx_mx, mx_size, List.length_append]; rfl
    · have : y ≠ b := fun e => hne 0 c.length openCap (by rw [e])
      rw [mx_old (by rw [AMem.size_set]; exact hy), AMem.get_set_ne _ _ this]
  · refine ⟨.slice (some ⟨M.size + 1, 0, none⟩) 2 openCap, mx M [.cells [x] 9 true .exact, .cells [y, x] 9 true (.room [.string ⟨#[]⟩])], ?_, .inl (.inr ⟨M.size + 1, by omega, by simp [mx_size], rfl, mx_new M _ 1⟩), ⟨by rw [mx_size]; omega, fun y hy _ => mx_old hy⟩, fun y o l k e => by cases e; omega⟩
    have hne : ¬ 1 = openCap := Nat.ne_of_lt (openCap_lt (by omega))
    simp only [appendTo, if_neg hne]
    rw [if_neg (by omega), rd_def, mx_old h2, h4, rdO_cells, show cutL [y] 0 (1 * 1) = some [y] from rfl]
    simp only
    rw [if_pos (by omega), mx_push, mx_size, mx_mx]
    rfl
theorem PBuf.strs {m M : AMem} {v : Value} {ls : List (List UInt8)} (h : PBuf m M v (ls.map strC)) : ∃ a cap, v = .slice a ls.length cap ∧ StrS M a cap ls ∧ ∀ b o, a = some ⟨b, o, none⟩ → m.size ≤ b := by
  rcases h with h | ⟨b, x, h1, h2, rfl, h4, h5⟩
  · exact h.strs2
  · have hl : ls.length = 1 := by rw [← List.length_map (f := strC), h5]; rfl
    refine ⟨some ⟨b, 0, none⟩, 1, by rw [hl], .inr ⟨b, 0, [x], 9, true, .exact, rfl, h2, h4, ?_, .inr ⟨openCap_lt (by omega), by omega⟩⟩, fun _ _ e => by cases e; exact h1⟩
    rw [hl, h5]; rfl
end Go.AM
namespace Go.Proofs.YtfjgpeoblnpelaaDoor
open Go Go.AM
set_option linter.unusedVariables false
set_option linter.unusedSimpArgs false
set_option maxRecDepth 100000
set_option maxHeartbeats 2000000

end Go.Proofs.YtfjgpeoblnpelaaDoor
namespace Go.Proofs.YtfjgpeoblnpelaaDoor
open Go Go.AM
set_option linter.unusedVariables false
set_option linter.unusedSimpArgs false
set_option maxRecDepth 100000
set_option maxHeartbeats 2000000

mutual
/-- The paths, with p ahead, as the program makes them. -/
def onT : Tr → List UInt8 → List (List UInt8)
  | .nd _ _ es, p => p :: onL es p
def onL : List En → List UInt8 → List (List UInt8)
  | [], _ => []
  | e :: r, p => onE e p ++ onL r p
def onE : En → List UInt8 → List (List UInt8)
  | .mk n t, p => onT t (trimR (p ++ [47] ++ n) [47])
end
theorem onT_nd (k : Int) (d : List UInt8) (es : List En) (p : List UInt8) : onT (.nd k d es) p = p :: onL es p := by unfold onT; rfl
theorem onE_eq (e : En) (p : List UInt8) : onE e p = onT e.t (trimR (p ++ [47] ++ e.n) [47]) := by cases e; unfold onE; rfl
theorem onL_app : ∀ (a b : List En) (p : List UInt8), onL (a ++ b) p = onL a p ++ onL b p
  | [], b, p => rfl
  | e :: a, b, p => by simp only [List.cons_append, onL, onL_app a b, List.append_assoc]
theorem onL_succ {es : List En} {i : Nat} (h : i < es.length) (p : List UInt8) : onL (es.take (i + 1)) p = onL (es.take i) p ++ onT es[i].t (trimR (p ++ [47] ++ es[i].n) [47]) := by
  rw [List.take_succ_eq_append_getElem h, onL_app]; simp [onL, onE_eq]
theorem onT_len (t : Tr) : ∀ p, (onT t p).length = t.count := by
  induction t using Tr.ind with
  | h k d es ih =>
    intro p
    rw [onT_nd, Tr.count, List.length_cons, Nat.add_comm]
    congr 1
    induction es with
    | nil => rfl
    | cons e r ihr =>
      simp only [onL, countL, List.length_append, onE_eq, En.count_t]
      rw [ih e (by simp), ihr fun x hx => ih x (by simp [hx])]
theorem onL_len (es : List En) (p : List UInt8) : (onL es p).length = countL es := by
  have := onT_len (.nd 0 [] es) p
  rw [onT_nd, Tr.count, List.length_cons] at this
  omega
theorem trimR_le (l p : List UInt8) : (trimR l p).length ≤ l.length := by
  unfold trimR
  split
  · rw [List.length_drop]; omega
  · exact Nat.le_refl _
/-- A path ahead of a path. -/
def overP (p q : List UInt8) : List UInt8 := if q = [] then p else if p = [] then q else p ++ 47 :: q
theorem nameB_47 {n : List UInt8} (h : nameB n = true) : n ≠ [] ∧ 47 ∉ n := by
  unfold nameB at h
  simp only [Bool.and_eq_true, Bool.not_eq_true', decide_eq_false_iff_not] at h
  refine ⟨h.1.1.1.1, fun hm => ?_⟩
  have h2 := List.any_eq_false.1 h.2 47 hm
  exact h2 (by decide)
def goodP (p : List UInt8) : Prop := p.head? ≠ some 47
theorem trim_over {p n : List UInt8} (hp : goodP p) (hn : nameB n = true) : trimR (p ++ [47] ++ n) [47] = overP p n ∧ goodP (overP p n) := by
  obtain ⟨h1, h2⟩ := nameB_47 hn
  have hg : goodP n := fun e => h2 (by cases n with | nil => cases e | cons x r => simp only [List.head?_cons, Option.some.injEq] at e; subst e; simp)
  cases p with
  | nil =>
    have e : overP [] n = n := by rw [overP, if_neg h1, if_pos rfl]
    rw [e]
    refine ⟨?_, hg⟩
    rw [trimR, if_pos (by simp)]; simp
  | cons x r =>
    have hx : x ≠ 47 := fun e => hp (by rw [e]; rfl)
    have e : overP (x :: r) n = x :: r ++ [47] ++ n := by rw [overP, if_neg h1, if_neg (by simp)]; simp
    rw [e]
    refine ⟨?_, fun e => hx ?_⟩
    · rw [trimR, if_neg]
      rw [List.isPrefixOf_iff_prefix]
      rintro ⟨t, ht⟩
      simp only [List.cons_append, List.nil_append, List.cons.injEq] at ht
      exact hx ht.1.symm
    · simpa using e
theorem over_over {p n q : List UInt8} (hn : n ≠ []) : overP (overP p n) q = overP p (preP n q) := by
  unfold overP preP
  by_cases hq : q = []
  · simp [hq, hn]
  · by_cases hp : p = []
    · simp [hq, hn, hp]
    · simp [hq, hn, hp]
/-- A right tree's paths. -/
theorem onT_eq (t : Tr) : ∀ p, goodP p → mayT t = true → onT t p = (pathsT t).map (overP p) := by
  induction t using Tr.ind with
  | h k d es ih =>
    intro p hp hm
    rw [mayT_nd, Bool.and_eq_true] at hm
    have hnames : ∀ e ∈ es, nameB e.n = true := by
      have h1 := hm.1
      unfold checkB at h1
      rw [Bool.and_eq_true] at h1
      by_cases h4 : k = 4
      · have h2 := h1.2
        rw [h4, if_neg (by omega), if_neg (by omega), if_pos rfl, Bool.and_eq_true] at h2
        exact ordE_name h2.2
      · have h2 := h1.1
        rw [decide_eq_false h4, Bool.false_or] at h2
        have : es = [] := by simpa using h2
        subst this; intro e he; cases he
    have hmay := (mayL_all es).symm.trans hm.2
    rw [List.all_eq_true] at hmay
    rw [onT_nd, pathsT_nd, List.map_cons]
    congr 1
    have key : ∀ (l : List En), (∀ e ∈ l, e ∈ es) → onL l p = (pathsL l).map (overP p) := by
      intro l
      induction l with
      | nil => intro _; rfl
      | cons e r ihr =>
        intro hl
        have he := hl e (by simp)
        have h1 := trim_over hp (hnames e he)
        simp only [onL, pathsL, onE_eq, pathsE_eq, List.map_append, List.map_map]
        rw [h1.1, ih e he _ h1.2 (hmay e he), ihr fun x hx => hl x (by simp [hx])]
        congr 1
        apply List.map_congr_left
        intro q _
        exact over_over (nameB_47 (hnames e he)).1
    exact key es fun _ h => h
theorem onT_paths {t : Tr} (h : mayT t = true) : onT t [] = pathsT t := by
  rw [onT_eq t [] (by simp [goodP]) h]
  have : ∀ q, overP [] q = q := fun q => by unfold overP; split <;> simp_all
  rw [show overP [] = id from funext this, List.map_id]

theorem PBuf_slice {m M : AMem} {v : Value} {c : List Value} (h : PBuf m M v c) : ∃ a n cap, v = .slice a n cap := by
  rcases h with (⟨rfl, rfl⟩ | ⟨b, h1, h2, rfl, h4⟩) | ⟨b, y, h1, h2, rfl, _⟩
  · exact ⟨_, _, _, rfl⟩
  · exact ⟨_, _, _, rfl⟩
  · exact ⟨_, _, _, rfl⟩
/-- What one call of the inner function leaves. -/
structure OnP (mB M : AMem) (bl : Nat) (v : Value) (D : List (List UInt8)) (M' : AMem) : Prop where
  size : M.size ≤ M'.size
  old : ∀ y, y < M.size → y ≠ bl → (∀ o l k, v ≠ .slice (some ⟨y, o, none⟩) l k) → M'.get y = M.get y
  row : ∃ v', M'.get bl = .cells [v'] 35 true .exact ∧ PBuf mB M' v' (D.map strC) ∧ ∀ y o l k, v' = .slice (some ⟨y, o, none⟩) l k → M.size ≤ y
theorem on_ok (t : Tr) : ∀ (p : List UInt8) (m0 mB M : AMem) (bl bf : Nat) (v : Value) (D : List (List UInt8)) (c : List Value), TrC m0 t c → Old m0 M → m0.size ≤ bl → bl < mB.size → bf < mB.size → bf ≠ bl → m0.size ≤ mB.size → mB.size ≤ M.size →
    M.get bl = .cells [v] 35 true .exact → M.get bf = .cells [.func (.func 56) #[] #[.pointer (some ⟨bl, 0, none⟩), .pointer (some ⟨bf, 0, none⟩)]] 69 true .exact → PBuf mB M v (D.map strC) → p.length + t.weight ≤ 2000000 → D.length + t.count ≤ 1000000 →
    ACall Tryd.prog 3 56 [.string ⟨p.toArray⟩, .agg c.toArray, .pointer (some ⟨bl, 0, none⟩), .pointer (some ⟨bf, 0, none⟩)] (mx M []) fun r M' => r = .ret (.tuple #[]) ∧ OnP mB M bl v (D ++ onT t p) M' := by
  induction t using Tr.ind2 with
  | h k d es ih =>
    intro p m0 mB M bl bf v D c hc ho h0 hbl hbf hne hmB hM hl hf hB hw hd
    simp only [Tr.weight] at hw
    simp only [Tr.count] at hd
    have hlen := weightL_len es
    have hlen2 := countL_len es
    obtain ⟨a, cap, rfl, hE⟩ := trC_nd hc
    obtain ⟨v1, M1, happ, hB1, hF1, hfr1⟩ := (hB.old (Old.here M [.cells [.int .u8 k, .string ⟨d.toArray⟩, .slice a es.length cap] 26 true .exact])).app1 (x := strC p) (by rw [mx_size]; omega) rfl (by rw [List.length_map]; omega)
    rw [mx_mx] at happ
    rw [mx_size] at happ
    simp only [List.length_cons, List.length_nil, List.cons_append, List.nil_append, strC, Nat.zero_add] at happ
    have hz1 := hF1.1
    rw [mx_size] at hz1
    simp only [List.length_cons, List.length_nil] at hz1
    have hvn := hB.new
    have old1 : ∀ y, y < M.size → (∀ o l k, v ≠ .slice (some ⟨y, o, none⟩) l k) → M1.get y = M.get y := fun y hy hv => (hF1.2 y (by rw [mx_size]; omega) hv).trans (mx_old hy)
    have box1 : M1.get M.size = .cells [.int .u8 k, .string ⟨d.toArray⟩, .slice a es.length cap] 26 true .exact := (hF1.2 M.size (by rw [mx_size]; simp) (fun o l k e => by have := (hvn _ o l k e).2; omega)).trans (mx_new0 _ _)
    have bl1 : M1.get bl = .cells [v] 35 true .exact := (old1 bl (by omega) (fun o l k e => by have := (hvn _ o l k e).1; omega)).trans hl
    refine ACall_of_W (fn := Tryd.f56) rfl rfl F56_ok (by simp [F56]) ?_
    have g1 : bl < M.size := by omega
    have g2 : bl < M1.size := by omega
    obtain ⟨a9, n9, cap9, rfl⟩ := PBuf_slice hB1
    have x0 : (M1.set bl (.cells [.slice a9 n9 cap9] 35 true .exact)).get M.size = .cells [.int .u8 k, .string ⟨d.toArray⟩, .slice a es.length cap] 26 true .exact := by rw [AMem.get_set_ne _ _ (by omega)]; exact box1
    have x1 := AMem.get_set_self M1 bl (.cells [.slice a9 n9 cap9] 35 true .exact)
    have x2 : ∀ y, y < M.size → y ≠ bl → (∀ o l k, v ≠ .slice (some ⟨y, o, none⟩) l k) → (M1.set bl (.cells [.slice a9 n9 cap9] 35 true .exact)).get y = M.get y := fun y hy hne hv => by rw [AMem.get_set_ne _ _ hne]; exact old1 y hy hv
    have x3 : PBuf mB (M1.set bl (.cells [.slice a9 n9 cap9] 35 true .exact)) (.slice a9 n9 cap9) (D.map strC ++ [strC p]) := by
      refine hB1.set' ?_
      intro y o l k e
      have := (hB1.new y o l k e).1
      omega
    have x4 := AMem.size_set M1 bl (.cells [.slice a9 n9 cap9] 35 true .exact)
    repeat first | simp (implicitDefEqProofs := false) (maxSteps := 1000000) (disch := first | omega | with_reducible assumption | (simp only [lenT, Nat.reduceAdd]; omega)) only [amT, cut, bnd, Nat.reduceBEq, reduceCtorEq, Nat.reduceEqDiff, Nat.reduceAdd, Nat.reduceMul, Nat.reduceSub, Int.reduceToNat, Int.reduceEq, Int.reduceLT, Int.reduceLE, Int.reduceAdd, Int.reduceSub, Int.reduceMul, reduceIte, resVs, resV, packV, initT, addr, F56, cellsOf_node, hl, g1, stepOp_app_v, happ, bl1, g2] | refine OrW.go ?_
    generalize M1.set bl (.cells [.slice a9 n9 cap9] 35 true .exact) = M2 at *
    have g3 : M.size < M2.size := by omega
    rw [mx_size] at hfr1
    simp only [List.length_cons, List.length_nil] at hfr1
    repeat first | simp (implicitDefEqProofs := false) (maxSteps := 1000000) (disch := first | omega | with_reducible assumption | (simp only [lenT, Nat.reduceAdd]; omega)) only [amT, cut, bnd, Nat.reduceBEq, reduceCtorEq, Nat.reduceEqDiff, Nat.reduceAdd, Nat.reduceMul, Nat.reduceSub, Int.reduceToNat, Int.reduceEq, Int.reduceLT, Int.reduceLE, Int.reduceAdd, Int.reduceSub, Int.reduceMul, reduceIte, resVs, resV, packV, initT, addr, x0, box1, g3, cutL3_2] | refine OrW.go ?_
    refine W_loop (fun N qs => ∃ (i : Nat) (N0 : AMem) (w : Value), N = es.length - i ∧ qs.ds = [] ∧ qs.m = mx N0 [] ∧ qs.t 0 = .string ⟨p.toArray⟩ ∧ qs.t 2 = .pointer (some ⟨bl, 0, none⟩) ∧ qs.t 3 = .pointer (some ⟨bf, 0, none⟩) ∧ qs.t 13 = .slice a es.length cap ∧ qs.t 14 = .int .i64 es.length ∧ qs.t 15 = .int .i64 i ∧ i ≤ es.length ∧ M.size < N0.size ∧ (∀ y, y < M.size → y ≠ bl → (∀ o l k, v ≠ .slice (some ⟨y, o, none⟩) l k) → N0.get y = M.get y) ∧ N0.get M.size = .cells [.int .u8 k, .string ⟨d.toArray⟩, .slice a es.length cap] 26 true .exact ∧ N0.get bl = .cells [w] 35 true .exact ∧ PBuf mB N0 w ((D ++ p :: onL (es.take i) p).map strC) ∧ ∀ y o l k, w = .slice (some ⟨y, o, none⟩) l k → M.size < y) (es.length - (0)) ⟨0, M2, .slice a9 n9 cap9, rfl, rfl, ?qm, ?q0, ?q2, ?q3, ?q13, ?q14, ?q15, ?_⟩ ?_
    case qm | q0 | q2 | q3 | q13 | q14 | q15 => first | rfl | (simp (implicitDefEqProofs := false) (maxSteps := 1000000) (disch := first | omega | with_reducible assumption | (simp only [lenT, Nat.reduceAdd]; omega)) only [amT, cut, bnd, Nat.reduceBEq, reduceCtorEq, Nat.reduceEqDiff, Nat.reduceAdd, Nat.reduceMul, Nat.reduceSub, Int.reduceToNat, Int.reduceEq, Int.reduceLT, Int.reduceLE, Int.reduceAdd, Int.reduceSub, Int.reduceMul, reduceIte, resVs, resV, packV, initT, addr]; first | done | rfl | (congr 1; omega))
    · exact ⟨Nat.zero_le _, g3, x2, x0, x1, by simpa [onL] using x3, fun y o l k e => by have := hfr1 y o l k e; omega⟩
    · rintro N t m1 ds ⟨i, N0, w, rfl, hds, hm, t0, t2, t3, t13, t14, t15, hp⟩
      simp only at hds hm t0 t2 t3 t13 t14 t15
      subst hds; replace hm := hm.symm; subst hm
      obtain ⟨hi0, hz, hsame, hbox, hlw, hBw, hfw⟩ := hp
      have hfN : N0.get bf = M.get bf := hsame bf (by omega) hne (fun o l k e => by have := (hvn _ o l k e).1; omega)
      rw [hf] at hfN
      have hO : Old m0 N0 := ⟨by omega, fun y hy => (hsame y (by omega) (by omega) (fun o l k e => by have := (hvn _ o l k e).1; omega)).trans (ho.2 y hy)⟩
      by_cases h1 : (i : Int) < (es.length : Int)
      · have hi : i < es.length := by omega
        obtain ⟨b, o, a', cap', rfl, hbb, hE', q4, q3, q0⟩ := hE.get hi
        have hwt := weight_get hi
        have hcs := countL_succ hi
        have hcl := countL_le es (i + 1)
        have hol := onL_len (es.take i) p
        have htl := trimR_le (p ++ [47] ++ es[i].n) [47]
        rw [List.length_append, List.length_append, List.length_singleton] at htl
        have kT := fun M => DetC.known (trim_ok M (p ++ [47] ++ es[i].n) [47])
        have kI := ih i hi (trimR (p ++ [47] ++ es[i].n) [47]) m0 mB (mx N0 [.cells [.string ⟨es[i].n.toArray⟩, .int .u8 es[i].t.k, .string ⟨es[i].t.d.toArray⟩, .slice a' es[i].t.es.length cap'] 48 true .exact]) bl bf w (D ++ p :: onL (es.take i) p) _ (TrC.of hE')
          (hO.trans (Old.here N0 _)) h0 hbl hbf hne hmB (by rw [mx_size]; omega) ((mx_old (by omega)).trans hlw) ((mx_old (by omega)).trans hfN) (hBw.old (Old.here N0 _)) (by omega) (by rw [List.length_append, List.length_cons, hol]; omega)
        rw [mx_mx, List.append_nil] at kI
        rw [← hO.2 b hbb] at q4
        have g4 : bf < N0.size := by omega
        repeat first | simp (implicitDefEqProofs := false) (maxSteps := 1000000) (disch := first | omega | with_reducible assumption | (simp only [lenT, Nat.reduceAdd]; omega)) only [amT, cut, bnd, Nat.reduceBEq, reduceCtorEq, Nat.reduceEqDiff, Nat.reduceAdd, Nat.reduceMul, Nat.reduceSub, Int.reduceToNat, Int.reduceEq, Int.reduceLT, Int.reduceLE, Int.reduceAdd, Int.reduceSub, Int.reduceMul, reduceIte, resVs, resV, packV, initT, addr, F56_l0, t0, t2, t3, t13, t14, t15, h1, q4, cellsOf_entry, splice4', cutL4_0, cutL4_t, hfN, g4, kT] | refine OrW.go ?_
        refine (ACall.norm kI).mono ?_
        rintro r' m' ⟨N1, rfl, rfl, hs, hold, w', hw1, hw2, hw3⟩
        rw [mx_size] at hs hold hw3
        simp only [List.length_cons, List.length_nil] at hs hold hw3
        repeat first | simp (implicitDefEqProofs := false) (maxSteps := 1000000) (disch := first | omega | with_reducible assumption | (simp only [lenT, Nat.reduceAdd]; omega)) only [amT, cut, bnd, Nat.reduceBEq, reduceCtorEq, Nat.reduceEqDiff, Nat.reduceAdd, Nat.reduceMul, Nat.reduceSub, Int.reduceToNat, Int.reduceEq, Int.reduceLT, Int.reduceLE, Int.reduceAdd, Int.reduceSub, Int.reduceMul, reduceIte, resVs, resV, packV, initT, addr, t0, t2, t3, t13, t14, t15] | refine OrW.go ?_
        rw [LoopK_normal]; refine ⟨_, ?_, i + 1, N1, w', rfl, rfl, ?qm, ?q0, ?q2, ?q3, ?q13, ?q14, ?q15, ?_⟩
        case qm | q0 | q2 | q3 | q13 | q14 | q15 => first | rfl | (simp (implicitDefEqProofs := false) (maxSteps := 1000000) (disch := first | omega | with_reducible assumption | (simp only [lenT, Nat.reduceAdd]; omega)) only [amT, cut, bnd, Nat.reduceBEq, reduceCtorEq, Nat.reduceEqDiff, Nat.reduceAdd, Nat.reduceMul, Nat.reduceSub, Int.reduceToNat, Int.reduceEq, Int.reduceLT, Int.reduceLE, Int.reduceAdd, Int.reduceSub, Int.reduceMul, reduceIte, resVs, resV, packV, initT, addr, t0, t2, t3, t13, t14, t15, Int.natCast_add]; first | done | rfl | (congr 1; omega))
        · omega
        · refine ⟨by omega, by omega, fun y hy hyb hv => ?_, ?_, hw1, ?_, fun y o l k e => by have := hw3 y o l k e; omega⟩
          · rw [hold y (by omega) hyb (fun o l k e => by have := hfw y o l k e; omega), mx_old (by omega)]
            exact hsame y hy hyb hv
          · rw [hold M.size (by omega) (by omega) (fun o l k e => by have := hfw _ o l k e; omega), mx_old hz]
            exact hbox
          · rw [onL_succ hi]
            simpa [List.append_assoc] using hw2
      · obtain rfl : i = es.length := by omega
        rw [List.take_length] at hBw
        repeat first | simp (implicitDefEqProofs := false) (maxSteps := 1000000) (disch := first | omega | with_reducible assumption | (simp only [lenT, Nat.reduceAdd]; omega)) only [amT, cut, bnd, Nat.reduceBEq, reduceCtorEq, Nat.reduceEqDiff, Nat.reduceAdd, Nat.reduceMul, Nat.reduceSub, Int.reduceToNat, Int.reduceEq, Int.reduceLT, Int.reduceLE, Int.reduceAdd, Int.reduceSub, Int.reduceMul, reduceIte, resVs, resV, packV, initT, addr, F56_l0, t0, t2, t3, t13, t14, t15, h1] | refine OrW.go ?_
        refine ⟨?_, ?_, w, ?_, ?_, ?_⟩
        · rw [mx_nil_size]; omega
        · intro y hy hyb hv
          rw [mx_old (by omega)]; exact hsame y hy hyb hv
        · rw [mx_old (by omega)]; exact hlw
        · rw [onT_nd]; exact hBw.old (Old.here N0 [])
        · intro y o l k e
          have := hfw y o l k e
          omega
theorem cellsOf_fn (f : Fn) (a b : Array Value) : cellsOf (.func f a b) = some [.func f a b] := rfl
/-- A tree's paths, if it is right. -/
def pathsR (t : Tr) : List (List UInt8) := if rightT t then pathsT t else []
theorem filPaths_ok (m : AMem) (t : Tr) (c : List Value) (hc : TrC m t c) (hn : t.weight ≤ 1000000) : RelC Tryd.prog 3 30 [.agg c.toArray] m fun v M => Old m M ∧ ∃ a cap, v = .slice a (pathsR t).length cap ∧ StrS M a cap (pathsR t) := by
  have hc0 := hc
  have hcw := t.count_le
  obtain ⟨a, cap, rfl, hE⟩ := hc.ex
  have kR := DetC.known (right_ok (mx m [.cells [.int .u8 t.k, .string ⟨t.d.toArray⟩, .slice a t.es.length cap] 26 true .exact]) t _ (hc0.old (Old.here m _)) (by omega))
  refine rel_of_W (fn := Tryd.f30) rfl rfl F30_ok (by simp [F30]) ?_
  cases hr : rightT t with
  | false =>
    rw [hr] at kR
    have hp : pathsR t = [] := by rw [pathsR, hr]; rfl
    rw [hp]
    repeat first | simp (implicitDefEqProofs := false) (maxSteps := 1000000) (disch := first | omega | with_reducible assumption | (simp only [lenT, Nat.reduceAdd]; omega)) only [amT, cut, bnd, Nat.reduceBEq, reduceCtorEq, Nat.reduceEqDiff, Nat.reduceAdd, Nat.reduceMul, Nat.reduceSub, Int.reduceToNat, Int.reduceEq, Int.reduceLT, Int.reduceLE, Int.reduceAdd, Int.reduceSub, Int.reduceMul, reduceIte, resVs, resV, packV, initT, addr, F30, cellsOf_node, cutL3, kR] | refine OrW.go ?_
    exact ⟨_, rfl, fun _ => ⟨none, 0, rfl, StrS.nil _⟩⟩
  | true =>
    rw [hr] at kR
    have hp : pathsR t = pathsT t := by rw [pathsR, hr]; rfl
    rw [hp, ← onT_paths (rightT_may hr)]
    repeat first | simp (implicitDefEqProofs := false) (maxSteps := 1000000) (disch := first | omega | with_reducible assumption | (simp only [lenT, Nat.reduceAdd]; omega)) only [amT, cut, bnd, Nat.reduceBEq, reduceCtorEq, Nat.reduceEqDiff, Nat.reduceAdd, Nat.reduceMul, Nat.reduceSub, Int.reduceToNat, Int.reduceEq, Int.reduceLT, Int.reduceLE, Int.reduceAdd, Int.reduceSub, Int.reduceMul, reduceIte, resVs, resV, packV, initT, addr, F30, cellsOf_node, cellsOf_fn, cutL3, kR] | refine OrW.go ?_
    have kO := on_ok t [] m (mx m [.cells [.int .u8 t.k, .string ⟨t.d.toArray⟩, .slice a t.es.length cap] 26 true .exact, .cells [.slice none 0 0] 35 true .exact, .cells [.func (.func 56) #[] #[.pointer (some ⟨m.size + 1, 0, none⟩), .pointer (some ⟨m.size + 2, 0, none⟩)]] 69 true .exact])
      (mx m [.cells [.int .u8 t.k, .string ⟨t.d.toArray⟩, .slice a t.es.length cap] 26 true .exact, .cells [.slice none 0 0] 35 true .exact, .cells [.func (.func 56) #[] #[.pointer (some ⟨m.size + 1, 0, none⟩), .pointer (some ⟨m.size + 2, 0, none⟩)]] 69 true .exact])
      (m.size + 1) (m.size + 2) (.slice none 0 0) [] _ hc0 (Old.here m _) (by omega) (by rw [mx_size]; simp) (by rw [mx_size]; simp) (by omega) (by rw [mx_size]; omega) (Nat.le_refl _) (mx_new m _ 1) (mx_new m _ 2) (.inl (.inl ⟨rfl, rfl⟩)) (by simp only [List.length_nil]; omega) (by simp only [List.length_nil]; omega)
    rw [mx_mx, List.append_nil] at kO
    refine (ACall.norm kO).mono ?_
    rintro r' m' ⟨M, rfl, rfl, hs, hold, v', h1, h2, h3⟩
    rw [mx_size] at hs hold
    simp only [List.length_cons, List.length_nil] at hs hold
    obtain ⟨a2, cap2, rfl, hS, _⟩ := PBuf.strs h2
    rw [List.nil_append] at hS
    have hO : Old m M := ⟨by omega, fun y hy => (hold y (by omega) (by omega) (fun o l k e => by cases e)).trans (mx_old hy)⟩
    repeat first | simp (implicitDefEqProofs := false) (maxSteps := 1000000) (disch := first | omega | with_reducible assumption | (simp only [lenT, Nat.reduceAdd]; omega)) only [amT, cut, bnd, Nat.reduceBEq, reduceCtorEq, Nat.reduceEqDiff, Nat.reduceAdd, Nat.reduceMul, Nat.reduceSub, Int.reduceToNat, Int.reduceEq, Int.reduceLT, Int.reduceLE, Int.reduceAdd, Int.reduceSub, Int.reduceMul, reduceIte, resVs, resV, packV, initT, addr, h1] | refine OrW.go ?_
    exact ⟨_, rfl, fun _ => ⟨hO.mx _, _, _, rfl, hS.old (Old.here M [])⟩⟩
end Go.Proofs.YtfjgpeoblnpelaaDoor
namespace Go.Proofs.YtfjgpeoblnpelaaDoor
open Go Go.AM
set_option linter.unusedVariables false
set_option linter.unusedSimpArgs false
set_option maxRecDepth 100000
set_option maxHeartbeats 2000000

theorem fill_n01 (a b c : Value) (k : Int) : fill [a, b, c] [(0, 1, .int .u8 k)] = some [.int .u8 k, b, c] := rfl
theorem fill_n011 (a b c : Value) (k : Int) (s : ByteArray) : fill [a, b, c] [(0, 1, .int .u8 k), (1, 1, .string s)] = some [.int .u8 k, .string s, c] := rfl
theorem fill_n021 (a b c : Value) (k : Int) (p : Option Addr) (n cap : Nat) : fill [a, b, c] [(0, 1, .int .u8 k), (2, 1, .slice p n cap)] = some [.int .u8 k, b, .slice p n cap] := rfl
theorem file_ok (m : AMem) (l : List UInt8) : PureC Tryd.prog 3 35 [.string ⟨l.toArray⟩] m (.agg [.int .u8 1, .string ⟨l.toArray⟩, .slice none 0 0].toArray) := by
  refine pure_of_W (fn := Tryd.f35) rfl rfl F35_ok (by simp [F35]) (.agg fun v hv => ?_) ?_
  · simp only [List.mem_toArray, List.mem_cons, List.not_mem_nil, or_false] at hv
    rcases hv with rfl | rfl | rfl
    · exact .int _ _
    · exact .string _
    · exact .nilSlice _ _
  · repeat first | simp (implicitDefEqProofs := false) (maxSteps := 1000000) (disch := first | omega | with_reducible assumption | (simp only [lenT, Nat.reduceAdd]; omega)) only [amT, cut, bnd, Nat.reduceBEq, reduceCtorEq, Nat.reduceEqDiff, Nat.reduceAdd, Nat.reduceMul, Nat.reduceSub, Int.reduceToNat, Int.reduceEq, Int.reduceLT, Int.reduceLE, Int.reduceAdd, Int.reduceSub, Int.reduceMul, reduceIte, resVs, resV, packV, initT, addr, F35, fill_n01, fill_n011, cellsOf_node, splice3, cutL3] | refine OrW.go ?_
theorem SlE.lit {m : AMem} {b : Nat} {es : List En} {X : List Value} {e : TypeId} {w : Bool} {sp : Spare} (hb : b < m.size) (h : m.get b = .cells X e w sp) (hX : EsC m es X) (hn : es.length ≤ 1000000) : SlE m (some ⟨b, 0, none⟩) es.length es :=
  ⟨X, .inr ⟨b, 0, _, _, _, _, rfl, hb, h, by rw [← hX.len]; exact cutL_all rfl, .inr ⟨SlE.len_lt (by omega), Nat.le_refl _⟩⟩, hX⟩
theorem StrS.lit {m : AMem} {b : Nat} {ls : List (List UInt8)} {e : TypeId} {w : Bool} {sp : Spare} (hb : b < m.size) (h : m.get b = .cells (ls.map strC) e w sp) (hn : ls.length ≤ 1000000) : StrS m (some ⟨b, 0, none⟩) ls.length ls :=
  .inr ⟨b, 0, _, _, _, _, rfl, hb, h, by rw [Nat.mul_one, ← List.length_map (f := strC)]; exact cutL_all rfl, .inr ⟨SlE.len_lt (by omega), Nat.le_refl _⟩⟩
theorem TrC.leaf (m : AMem) (k : Int) (d : List UInt8) : TrC m (.nd k d []) [.int .u8 k, .string ⟨d.toArray⟩, .slice none 0 0] := trC_mk (SlE.nil m)
def nX : Tr := .nd 3 [46, 46, 47, 97] []
def nD : Tr := .nd 4 [] [.mk [120] nX]
def nW : Tr := .nd 4 [] [.mk [97] (.nd 1 [104, 105] []), .mk [100] nD]
def nP : Tr := .nd 4 [] [.mk [97] (.nd 1 [104, 105] []), .mk [100] (.nd 4 [] [.mk [120] nX, .mk [121] (.nd 1 [] [])])]
theorem w_at1 : atR nW [100, 47, 120] = (0, nX) := by kernel_rfl
theorem w_at2 : atR nW [100, 47, 121] = (5, zT) := by kernel_rfl
theorem w_at3 : atR nW [47, 100] = (2, zT) := by kernel_rfl
theorem w_put : putR nW [100, 47, 121] (.nd 1 [] []) = (0, nP) := by kernel_rfl
theorem w_right : rightT nW = true := by kernel_rfl
theorem w_paths : pathsR nW = [[], [97], [100], [100, 47, 120]] := by kernel_rfl
theorem w_paths2 : pathsR nP = [[], [97], [100], [100, 47, 120], [100, 47, 121]] := by kernel_rfl
theorem w_count : nW.count = 4 := by kernel_rfl
theorem w_depth : nW.depth = 2 := by kernel_rfl
theorem w_size : nW.size = 6 := by kernel_rfl
theorem w_name : nameB [97] = true := by kernel_rfl
theorem fill_8 (z0 z1 z2 z3 z4 z5 z6 z7 : Value) (s0 : ByteArray) (k : Int) (s : ByteArray) (p : Option Addr) (n cap : Nat) (s0' : ByteArray) (k' : Int) (s' : ByteArray) (p' : Option Addr) (n' cap' : Nat) :
    fill [z0, z1, z2, z3, z4, z5, z6, z7] [(0, 4, .agg [.string s0, .int .u8 k, .string s, .slice p n cap].toArray), (4, 4, .agg [.string s0', .int .u8 k', .string s', .slice p' n' cap'].toArray)] =
      some [.string s0, .int .u8 k, .string s, .slice p n cap, .string s0', .int .u8 k', .string s', .slice p' n' cap'] := rfl
theorem works_ok (m : AMem) : PureC Tryd.prog 3 12 [] m (.bool true) := by
  have kF := fun M l => DetC.known (file_ok M l)
  have kF0 := fun M => kF M []
  have kF1 := fun M => kF M [104, 105]
  refine pure_of_W (fn := Tryd.f12) rfl rfl F12_ok (by simp [F12]) (.bool _) ?_
  repeat first | simp (implicitDefEqProofs := false) (maxSteps := 1000000) (disch := first | omega | with_reducible assumption | (simp only [lenT, Nat.reduceAdd]; omega)) only [amT, cut, bnd, Nat.reduceBEq, reduceCtorEq, Nat.reduceEqDiff, Nat.reduceAdd, Nat.reduceMul, Nat.reduceSub, Int.reduceToNat, Int.reduceEq, Int.reduceLT, Int.reduceLE, Int.reduceAdd, Int.reduceSub, Int.reduceMul, reduceIte, resVs, resV, packV, initT, addr, F12, fill_n01, fill_n011, fill_n021, fill_e13, fill_e04, fill_8, cellsOf_node, splice3, cutL3, kF1] | refine OrW.go ?_
  have hD : TrC (mx m [.cells [.string ⟨#[120]⟩, .int .u8 3, .string ⟨#[46, 46, 47, 97]⟩, .slice none 0 0] 48 true .exact, .cells [.int .u8 4, .string ⟨#[]⟩, .slice (some ⟨m.size, 0, none⟩) 1 1] 26 true .exact, .cells [.string ⟨#[97]⟩, .int .u8 1, .string ⟨#[104, 105]⟩, .slice none 0 0, .string ⟨#[100]⟩, .int .u8 4, .string ⟨#[]⟩, .slice (some ⟨m.size, 0, none⟩) 1 1] 48 true .exact,
      .cells [.int .u8 4, .string ⟨#[]⟩, .slice (some ⟨m.size + 2, 0, none⟩) 2 2] 26 true .exact]) nD [.int .u8 4, .string ⟨#[]⟩, .slice (some ⟨m.size, 0, none⟩) 1 1] :=
    trC_mk (k := 4) (d := []) (SlE.lit (b := m.size) (es := [.mk [120] nX]) (by rw [mx_size]; simp) (mx_new0 m _) (EsC.cons (c := [.string ⟨#[120]⟩, .int .u8 3, .string ⟨#[46, 46, 47, 97]⟩, .slice none 0 0]) (EnC.of (e := .mk [120] nX) (TrC.leaf _ _ _)) (EsC.nil _)) (by simp))
  have hT : TrC (mx m [.cells [.string ⟨#[120]⟩, .int .u8 3, .string ⟨#[46, 46, 47, 97]⟩, .slice none 0 0] 48 true .exact, .cells [.int .u8 4, .string ⟨#[]⟩, .slice (some ⟨m.size, 0, none⟩) 1 1] 26 true .exact, .cells [.string ⟨#[97]⟩, .int .u8 1, .string ⟨#[104, 105]⟩, .slice none 0 0, .string ⟨#[100]⟩, .int .u8 4, .string ⟨#[]⟩, .slice (some ⟨m.size, 0, none⟩) 1 1] 48 true .exact,
      .cells [.int .u8 4, .string ⟨#[]⟩, .slice (some ⟨m.size + 2, 0, none⟩) 2 2] 26 true .exact]) nW [.int .u8 4, .string ⟨#[]⟩, .slice (some ⟨m.size + 2, 0, none⟩) 2 2] :=
    trC_mk (k := 4) (d := []) (SlE.lit (b := m.size + 2) (es := [.mk [97] (.nd 1 [104, 105] []), .mk [100] nD]) (by rw [mx_size]; simp) (mx_new m _ 2)
      (EsC.cons (c := [.string ⟨#[97]⟩, .int .u8 1, .string ⟨#[104, 105]⟩, .slice none 0 0]) (EnC.of (e := .mk [97] (.nd 1 [104, 105] [])) (TrC.leaf _ _ _)) (EsC.cons (c := [.string ⟨#[100]⟩, .int .u8 4, .string ⟨#[]⟩, .slice (some ⟨m.size, 0, none⟩) 1 1]) (EnC.of (e := .mk [100] nD) hD) (EsC.nil _))) (by simp))
  have b3 := mx_new m [.cells [.string ⟨#[120]⟩, .int .u8 3, .string ⟨#[46, 46, 47, 97]⟩, .slice none 0 0] 48 true .exact, .cells [.int .u8 4, .string ⟨#[]⟩, .slice (some ⟨m.size, 0, none⟩) 1 1] 26 true .exact, .cells [.string ⟨#[97]⟩, .int .u8 1, .string ⟨#[104, 105]⟩, .slice none 0 0, .string ⟨#[100]⟩, .int .u8 4, .string ⟨#[]⟩, .slice (some ⟨m.size, 0, none⟩) 1 1] 48 true .exact,
      .cells [.int .u8 4, .string ⟨#[]⟩, .slice (some ⟨m.size + 2, 0, none⟩) 2 2] 26 true .exact] 3
  have hO0 := Old.here m [.cells [.string ⟨#[120]⟩, .int .u8 3, .string ⟨#[46, 46, 47, 97]⟩, .slice none 0 0] 48 true .exact, .cells [.int .u8 4, .string ⟨#[]⟩, .slice (some ⟨m.size, 0, none⟩) 1 1] 26 true .exact, .cells [.string ⟨#[97]⟩, .int .u8 1, .string ⟨#[104, 105]⟩, .slice none 0 0, .string ⟨#[100]⟩, .int .u8 4, .string ⟨#[]⟩, .slice (some ⟨m.size, 0, none⟩) 1 1] 48 true .exact,
      .cells [.int .u8 4, .string ⟨#[]⟩, .slice (some ⟨m.size + 2, 0, none⟩) 2 2] 26 true .exact]
  have hz0 : m.size + 3 < (mx m [.cells [.string ⟨#[120]⟩, .int .u8 3, .string ⟨#[46, 46, 47, 97]⟩, .slice none 0 0] 48 true .exact, .cells [.int .u8 4, .string ⟨#[]⟩, .slice (some ⟨m.size, 0, none⟩) 1 1] 26 true .exact, .cells [.string ⟨#[97]⟩, .int .u8 1, .string ⟨#[104, 105]⟩, .slice none 0 0, .string ⟨#[100]⟩, .int .u8 4, .string ⟨#[]⟩, .slice (some ⟨m.size, 0, none⟩) 1 1] 48 true .exact,
      .cells [.int .u8 4, .string ⟨#[]⟩, .slice (some ⟨m.size + 2, 0, none⟩) 2 2] 26 true .exact]).size := by rw [mx_size]; simp
  simp only [List.getD_cons_succ, List.getD_cons_zero] at b3
  have hcn : nW.count ≤ 200000 := by decide +kernel
  generalize mx m [.cells [.string ⟨#[120]⟩, .int .u8 3, .string ⟨#[46, 46, 47, 97]⟩, .slice none 0 0] 48 true .exact, .cells [.int .u8 4, .string ⟨#[]⟩, .slice (some ⟨m.size, 0, none⟩) 1 1] 26 true .exact, .cells [.string ⟨#[97]⟩, .int .u8 1, .string ⟨#[104, 105]⟩, .slice none 0 0, .string ⟨#[100]⟩, .int .u8 4, .string ⟨#[]⟩, .slice (some ⟨m.size, 0, none⟩) 1 1] 48 true .exact,
      .cells [.int .u8 4, .string ⟨#[]⟩, .slice (some ⟨m.size + 2, 0, none⟩) 2 2] 26 true .exact] = M0 at *
  -- the first node
  refine RelC.call (at_ok M0 M0 nW _ [100, 47, 120] hT (.refl _) (by omega) (by simp)) ?_
  rintro v M1 ⟨hO1, c1, rfl, hc1⟩
  rw [w_at1] at hc1 ⊢
  obtain ⟨a1, cap1, rfl, _⟩ := hc1.ex
  have hz1 : m.size + 3 < M1.size := Nat.lt_of_lt_of_le hz0 hO1.1
  have b31 := (hO1.2 _ hz0).trans b3
  repeat first | simp (implicitDefEqProofs := false) (maxSteps := 1000000) (disch := first | omega | with_reducible assumption | (simp only [lenT, Nat.reduceAdd]; omega)) only [amT, cut, bnd, Nat.reduceBEq, reduceCtorEq, Nat.reduceEqDiff, Nat.reduceAdd, Nat.reduceMul, Nat.reduceSub, Int.reduceToNat, Int.reduceEq, Int.reduceLT, Int.reduceLE, Int.reduceAdd, Int.reduceSub, Int.reduceMul, reduceIte, resVs, resV, packV, initT, addr, cellsOf_node, splice3, cutL3, b31, hz1] | refine OrW.go ?_
  refine RelC.call (at_ok M0 _ nW _ [100, 47, 121] hT (hO1.trans (Old.here M1 _)) (by omega) (by simp)) ?_
  rintro v M2 ⟨hO2, c2, rfl, hc2⟩
  rw [w_at2] at hc2 ⊢
  obtain ⟨a2, cap2, rfl, _⟩ := hc2.ex
  have hO12 := (Old.here M1 _).trans hO2
  have hz2 : m.size + 3 < M2.size := Nat.lt_of_lt_of_le hz1 hO12.1
  have b32 := (hO12.2 _ hz1).trans b31
  have hzx : M1.size < M2.size := by have := hO2.1; rw [mx_size] at this; simp at this; omega
  have bx2 := (hO2.2 M1.size (by rw [mx_size]; simp)).trans (mx_new0 M1 _)
  repeat first | simp (implicitDefEqProofs := false) (maxSteps := 1000000) (disch := first | omega | with_reducible assumption | (simp only [lenT, Nat.reduceAdd]; omega)) only [amT, cut, bnd, Nat.reduceBEq, reduceCtorEq, Nat.reduceEqDiff, Nat.reduceAdd, Nat.reduceMul, Nat.reduceSub, Int.reduceToNat, Int.reduceEq, Int.reduceLT, Int.reduceLE, Int.reduceAdd, Int.reduceSub, Int.reduceMul, reduceIte, resVs, resV, packV, initT, addr, cellsOf_node, splice3, cutL3, b32, hz2] | refine OrW.go ?_
  refine RelC.call (at_ok M0 _ nW _ [47, 100] hT ((hO1.trans hO12).trans (Old.here M2 _)) (by omega) (by simp)) ?_
  rintro v M3 ⟨hO3, c3, rfl, hc3⟩
  rw [w_at3] at hc3 ⊢
  obtain ⟨a3, cap3, rfl, _⟩ := hc3.ex
  have hO23 := (Old.here M2 _).trans hO3
  have hz3 : m.size + 3 < M3.size := Nat.lt_of_lt_of_le hz2 hO23.1
  have b33 := (hO23.2 _ hz2).trans b32
  have hzx3 : M1.size < M3.size := Nat.lt_of_lt_of_le hzx hO23.1
  have bx3 := (hO23.2 _ hzx).trans bx2
  repeat first | simp (implicitDefEqProofs := false) (maxSteps := 1000000) (disch := first | omega | with_reducible assumption | (simp only [lenT, Nat.reduceAdd]; omega)) only [amT, cut, bnd, Nat.reduceBEq, reduceCtorEq, Nat.reduceEqDiff, Nat.reduceAdd, Nat.reduceMul, Nat.reduceSub, Int.reduceToNat, Int.reduceEq, Int.reduceLT, Int.reduceLE, Int.reduceAdd, Int.reduceSub, Int.reduceMul, reduceIte, resVs, resV, packV, initT, addr, cellsOf_node, splice3, cutL3, b33, hz3, kF0] | refine OrW.go ?_
  refine RelC.call (Put_ok M0 _ nW (.nd 1 [] []) _ _ [100, 47, 121] hT (TrC.leaf _ 1 []) (((hO1.trans hO12).trans hO23).trans (Old.here M3 _)) hcn (by decide +kernel) (by simp)) ?_
  rintro v M4 ⟨hO4, c4, rfl, hc4⟩
  rw [w_put] at hc4 ⊢
  obtain ⟨a4, cap4, rfl, hE4⟩ := (hc4 M4 (Gap.of ⟨Nat.le_refl _, fun _ _ => rfl⟩)).ex
  have hO34 := (Old.here M3 _).trans hO4
  have hs4 := hO4.1
  rw [mx_size] at hs4
  simp only [List.length_cons, List.length_nil] at hs4
  have hz4 : m.size + 3 < M4.size := Nat.lt_of_lt_of_le hz3 hO34.1
  have b34 := (hO34.2 _ hz3).trans b33
  have hzx4 : M1.size < M4.size := Nat.lt_of_lt_of_le hzx3 hO34.1
  have bx4 := (hO34.2 _ hzx3).trans bx3
  have b9 := (hO4.2 (M3.size + 1) (by rw [mx_size]; simp)).trans (mx_new M3 _ 1)
  simp only [List.getD_cons_succ, List.getD_cons_zero] at b9
  have hz9 : M3.size + 1 < M4.size := by omega
  have hO5 : Old M0 (M4.set (M3.size + 1) (.cells [.int .u8 nP.k, .string ⟨nP.d.toArray⟩, .slice a4 nP.es.length cap4] 26 true .exact)) := by
    refine ((hO1.trans hO12).trans hO23).trans ⟨hO34.1, fun y hy => ?_⟩
    rw [AMem.get_set_ne _ _ (by omega)]
    exact hO34.2 y hy
  have hT5 := hT.old hO5
  have hP5 : TrC (M4.set (M3.size + 1) (.cells [.int .u8 nP.k, .string ⟨nP.d.toArray⟩, .slice a4 nP.es.length cap4] 26 true .exact)) nP [.int .u8 nP.k, .string ⟨nP.d.toArray⟩, .slice a4 nP.es.length cap4] := by
    refine hc4 _ ⟨Nat.le_refl _, fun b hb hb2 => AMem.get_set_ne _ _ ?_⟩
    rw [mx_size] at hb2
    simp only [List.length_cons, List.length_nil] at hb2
    have := ((hO1.trans hO12).trans hO23).1
    omega
  have b35 := (AMem.get_set_ne M4 (.cells [.int .u8 nP.k, .string ⟨nP.d.toArray⟩, .slice a4 nP.es.length cap4] 26 true .exact) (show m.size + 3 ≠ M3.size + 1 by omega)).trans b34
  have bx5 := (AMem.get_set_ne M4 (.cells [.int .u8 nP.k, .string ⟨nP.d.toArray⟩, .slice a4 nP.es.length cap4] 26 true .exact) (show M1.size ≠ M3.size + 1 by omega)).trans bx4
  have b95 := AMem.get_set_self M4 (M3.size + 1) (.cells [.int .u8 nP.k, .string ⟨nP.d.toArray⟩, .slice a4 nP.es.length cap4] 26 true .exact)
  have s5 := AMem.size_set M4 (M3.size + 1) (.cells [.int .u8 nP.k, .string ⟨nP.d.toArray⟩, .slice a4 nP.es.length cap4] 26 true .exact)
  have hm5 := hO0.trans hO5
  repeat first | simp (implicitDefEqProofs := false) (maxSteps := 1000000) (disch := first | omega | with_reducible assumption | (simp only [lenT, Nat.reduceAdd]; omega)) only [amT, cut, bnd, Nat.reduceBEq, reduceCtorEq, Nat.reduceEqDiff, Nat.reduceAdd, Nat.reduceMul, Nat.reduceSub, Int.reduceToNat, Int.reduceEq, Int.reduceLT, Int.reduceLE, Int.reduceAdd, Int.reduceSub, Int.reduceMul, reduceIte, resVs, resV, packV, initT, addr, cellsOf_node, splice3, b9, hz9, BarA_sl] | refine OrW.go ?_
  generalize M4.set (M3.size + 1) (.cells [.int .u8 nP.k, .string ⟨nP.d.toArray⟩, .slice a4 nP.es.length cap4] 26 true .exact) = M5 at *
  have z5 : m.size + 3 < M5.size := by omega
  have kC := DetC.known (count_ok _ nW _ (hT5.old (Old.here M5 [])) (by decide +kernel))
  have kD := DetC.known (depth_ok _ nW _ (hT5.old (Old.here M5 [])) (by decide +kernel))
  have kZ := DetC.known (size_ok _ nW _ (hT5.old (Old.here M5 [])) (by decide +kernel))
  rw [w_count] at kC
  rw [w_depth] at kD
  rw [w_size] at kZ
  repeat first | simp (implicitDefEqProofs := false) (maxSteps := 1000000) (disch := first | omega | with_reducible assumption | (simp only [lenT, Nat.reduceAdd]; omega)) only [amT, cut, bnd, Nat.reduceBEq, reduceCtorEq, Nat.reduceEqDiff, Nat.reduceAdd, Nat.reduceMul, Nat.reduceSub, Int.reduceToNat, Int.reduceEq, Int.reduceLT, Int.reduceLE, Int.reduceAdd, Int.reduceSub, Int.reduceMul, reduceIte, resVs, resV, packV, initT, addr, b34, b35, z5, cutL3, kC, kD, kZ] | refine OrW.go ?_
  refine RelC.call (filPaths_ok _ nW _ (hT5.old (Old.here M5 [])) (by decide +kernel)) ?_
  rintro v M6 ⟨hO6, a6, cap6, rfl, hS6⟩
  rw [w_paths] at hS6 ⊢
  have hO56 := (Old.here M5 _).trans hO6
  have z6 := Nat.lt_of_lt_of_le z5 hO56.1
  have b36 := (hO56.2 _ z5).trans b35
  have bx6 := (hO56.2 M1.size (by omega)).trans bx5
  have b96 := (hO56.2 (M3.size + 1) (by omega)).trans b95
  have zx6 : M1.size < M6.size := by have := hO56.1; omega
  have z96 : M3.size + 1 < M6.size := by have := hO56.1; omega
  have kS := DetC.known (sameTexts_ok (mx M6 [.cells [.string ⟨#[]⟩, .string ⟨#[97]⟩, .string ⟨#[100]⟩, .string ⟨#[100, 47, 120]⟩] 9 true .exact]) a6 (some ⟨M6.size, 0, none⟩) cap6 4 [[], [97], [100], [100, 47, 120]] [[], [97], [100], [100, 47, 120]]
    (hS6.old (Old.here M6 _)) (StrS.lit (ls := [[], [97], [100], [100, 47, 120]]) (by rw [mx_size]; simp) (mx_new0 M6 _) (by simp)) (by simp))
  rw [decide_eq_true rfl] at kS
  simp only [List.length_cons, List.length_nil, Nat.zero_add, Nat.reduceAdd] at kS
  have ek : nX.k = 3 := rfl
  have hP6 := hP5.old (hO56.trans (Old.here M6 [.cells [.string ⟨#[]⟩, .string ⟨#[97]⟩, .string ⟨#[100]⟩, .string ⟨#[100, 47, 120]⟩] 9 true .exact]))
  have hT6 := hT5.old (hO56.trans (Old.here M6 [.cells [.string ⟨#[]⟩, .string ⟨#[97]⟩, .string ⟨#[100]⟩, .string ⟨#[100, 47, 120]⟩] 9 true .exact]))
  repeat first | simp (implicitDefEqProofs := false) (maxSteps := 1000000) (disch := first | omega | with_reducible assumption | (simp only [lenT, Nat.reduceAdd]; omega)) only [amT, cut, bnd, Nat.reduceBEq, reduceCtorEq, Nat.reduceEqDiff, Nat.reduceAdd, Nat.reduceMul, Nat.reduceSub, Int.reduceToNat, Int.reduceEq, Int.reduceLT, Int.reduceLE, Int.reduceAdd, Int.reduceSub, Int.reduceMul, reduceIte, resVs, resV, packV, initT, addr, kS, bx6, b96, zx6, z96, cutL3, cutL3_0, ek] | refine OrW.go ?_
  refine RelC.call (filPaths_ok _ nP _ hP6 (by decide +kernel)) ?_
  rintro v M7 ⟨hO7, a7, cap7, rfl, hS7⟩
  rw [w_paths2] at hS7 ⊢
  have hO67 := (Old.here M6 _).trans hO7
  have z7 := Nat.lt_of_lt_of_le z6 hO67.1
  have b37 := (hO67.2 _ z6).trans b36
  have kS2 := DetC.known (sameTexts_ok (mx M7 [.cells [.string ⟨#[]⟩, .string ⟨#[97]⟩, .string ⟨#[100]⟩, .string ⟨#[100, 47, 120]⟩, .string ⟨#[100, 47, 121]⟩] 9 true .exact]) a7 (some ⟨M7.size, 0, none⟩) cap7 5 [[], [97], [100], [100, 47, 120], [100, 47, 121]] [[], [97], [100], [100, 47, 120], [100, 47, 121]]
    (hS7.old (Old.here M7 _)) (StrS.lit (ls := [[], [97], [100], [100, 47, 120], [100, 47, 121]]) (by rw [mx_size]; simp) (mx_new0 M7 _) (by simp)) (by simp))
  rw [decide_eq_true rfl] at kS2
  simp only [List.length_cons, List.length_nil, Nat.zero_add, Nat.reduceAdd] at kS2
  have kN := fun M => DetC.known (name_ok M [97])
  rw [w_name] at kN
  have kR := DetC.known (right_ok _ nW _ (hT6.old (hO7.trans (Old.here M7 [.cells [.string ⟨#[]⟩, .string ⟨#[97]⟩, .string ⟨#[100]⟩, .string ⟨#[100, 47, 120]⟩, .string ⟨#[100, 47, 121]⟩] 9 true .exact]))) (by decide +kernel))
  rw [w_right] at kR
  repeat first | simp (implicitDefEqProofs := false) (maxSteps := 1000000) (disch := first | omega | with_reducible assumption | (simp only [lenT, Nat.reduceAdd]; omega)) only [amT, cut, bnd, Nat.reduceBEq, reduceCtorEq, Nat.reduceEqDiff, Nat.reduceAdd, Nat.reduceMul, Nat.reduceSub, Int.reduceToNat, Int.reduceEq, Int.reduceLT, Int.reduceLE, Int.reduceAdd, Int.reduceSub, Int.reduceMul, reduceIte, resVs, resV, packV, initT, addr, kS2, kN, b37, z7, cutL3, kR] | refine OrW.go ?_
  exact ((hm5.trans hO56).trans hO67).trans (Old.here M7 _)
end Go.Proofs.YtfjgpeoblnpelaaDoor
namespace Go.Proofs.YtfjgpeoblnpelaaDoor
open Go Go.AM
set_option linter.unusedVariables false
set_option linter.unusedSimpArgs false
set_option maxRecDepth 100000
set_option maxHeartbeats 2000000

theorem e2000 : ((2000 : Nat) : Int) = 2000 := rfl
theorem weight_gt {t : Tr} {top : Nat} (h : top < t.weight) : (t.weightR top : Int) > (top : Int) := by
  have := (t.weightR_spec top).2.2 h
  omega
theorem weight_le {t : Tr} {top : Nat} (h : t.weight ≤ top) : ¬ (t.weightR top : Int) > (top : Int) := by
  have := (t.weightR_spec top).2.1 h
  omega
end Go.Proofs.YtfjgpeoblnpelaaDoor
namespace Go.Proofs.YtfjgpeoblnpelaaDoor
open Go Go.AM
set_option linter.unusedVariables false
set_option linter.unusedSimpArgs false
set_option maxRecDepth 100000
set_option maxHeartbeats 2000000

theorem goT_count : ∀ (ns : List (List UInt8)) (t u : Tr), goT t ns = some u → u.count ≤ t.count
  | [], t, u, h => by cases h; exact Nat.le_refl _
  | s :: r, t, u, h => by
    obtain ⟨k, d, es⟩ := t
    by_cases hk : k = 4
    · rcases idxE_cases es s with ⟨hi, _⟩ | ⟨j, hj, hi, _⟩
      · rw [goT, stepT_none (.inr hi)] at h; cases h
      · rw [goT, stepT_some hk hj hi] at h
        have := goT_count r _ _ h
        have := count_get hj
        simp only [Tr.count]; omega
    · rw [goT, stepT_none (.inl hk)] at h; cases h
theorem atR_count (t : Tr) (l : List UInt8) : (atR t l).2.count ≤ t.count := by
  have := t.count_pos
  unfold atR
  split
  · exact this
  · split
    · exact this
    · rename_i h; exact goT_count _ _ _ h
theorem lawAt (m : AMem) (t : Tr) (c : List Value) (l : List UInt8) (hc : TrC m t c) (hl : l.length ≤ 9223372036854775807) : RelC Tryd.prog 3 5 [.agg c.toArray, .string ⟨l.toArray⟩] m fun v _ => v = .bool true := by
  have hc0 := hc
  obtain ⟨a, cap, rfl, hE⟩ := hc.ex
  have hcc := hc0.old (Old.here m [.cells [.int .u8 t.k, .string ⟨t.d.toArray⟩, .slice a t.es.length cap] 26 true .exact])
  have kW := fun M => DetC.known (works_ok M)
  have k0 := DetC.known (weight_ok t _ _ 2000 hcc (by omega))
  refine rel_of_W (fn := Tryd.f5) rfl rfl F5_ok (by simp [F5]) ?_
  by_cases hw : 2000 < t.weight
  · have g := weight_gt hw
    rw [e2000] at k0 g
    repeat first | simp (implicitDefEqProofs := false) (maxSteps := 1000000) (disch := first | omega | with_reducible assumption | (simp only [lenT, Nat.reduceAdd]; omega)) only [amT, cut, bnd, Nat.reduceBEq, reduceCtorEq, Nat.reduceEqDiff, Nat.reduceAdd, Nat.reduceMul, Nat.reduceSub, Int.reduceToNat, Int.reduceEq, Int.reduceLT, Int.reduceLE, Int.reduceAdd, Int.reduceSub, Int.reduceMul, reduceIte, resVs, resV, packV, initT, addr, F5, cellsOf_node, cutL3, k0, g, kW, undef] | refine OrW.go ?_
    exact ⟨_, rfl, fun _ => rfl⟩
  · have g := weight_le (t := t) (top := 2000) (by omega)
    rw [e2000] at k0 g
    by_cases hl2 : (l.length : Int) > 1000
    · repeat first | simp (implicitDefEqProofs := false) (maxSteps := 1000000) (disch := first | omega | with_reducible assumption | (simp only [lenT, Nat.reduceAdd]; omega)) only [amT, cut, bnd, Nat.reduceBEq, reduceCtorEq, Nat.reduceEqDiff, Nat.reduceAdd, Nat.reduceMul, Nat.reduceSub, Int.reduceToNat, Int.reduceEq, Int.reduceLT, Int.reduceLE, Int.reduceAdd, Int.reduceSub, Int.reduceMul, reduceIte, resVs, resV, packV, initT, addr, F5, cellsOf_node, cutL3, k0, g, hl2, kW] | refine OrW.go ?_
      exact ⟨_, rfl, fun _ => rfl⟩
    · have hcw := t.count_le
      have hac := atR_count t l
      repeat first | simp (implicitDefEqProofs := false) (maxSteps := 1000000) (disch := first | omega | with_reducible assumption | (simp only [lenT, Nat.reduceAdd]; omega)) only [amT, cut, bnd, Nat.reduceBEq, reduceCtorEq, Nat.reduceEqDiff, Nat.reduceAdd, Nat.reduceMul, Nat.reduceSub, Int.reduceToNat, Int.reduceEq, Int.reduceLT, Int.reduceLE, Int.reduceAdd, Int.reduceSub, Int.reduceMul, reduceIte, resVs, resV, packV, initT, addr, F5, cellsOf_node, cutL3, k0, g, hl2, kW] | refine OrW.go ?_
      refine RelC.call (at_ok _ _ t _ l hcc (.refl _) (by omega) (by omega)) ?_
      rintro v M1 ⟨hO1, c1, rfl, hc1⟩
      have hz1 := hO1.1
      rw [mx_size] at hz1
      simp only [List.length_cons, List.length_nil] at hz1
      have b1 : M1.get m.size = .cells [.int .u8 t.k, .string ⟨t.d.toArray⟩, .slice a t.es.length cap] 26 true .exact := (hO1.2 _ (by rw [mx_size]; simp)).trans (mx_new0 _ _)
      have hc1' := hc1
      obtain ⟨a1, cap1, rfl, _⟩ := hc1.ex
      have s1 : m.size < M1.size := by omega
      have hO12 := hO1.trans (Old.here M1 [.cells [.int .u8 (atR t l).2.k, .string ⟨(atR t l).2.d.toArray⟩, .slice a1 (atR t l).2.es.length cap1] 26 true .exact])
      repeat first | simp (implicitDefEqProofs := false) (maxSteps := 1000000) (disch := first | omega | with_reducible assumption | (simp only [lenT, Nat.reduceAdd]; omega)) only [amT, cut, bnd, Nat.reduceBEq, reduceCtorEq, Nat.reduceEqDiff, Nat.reduceAdd, Nat.reduceMul, Nat.reduceSub, Int.reduceToNat, Int.reduceEq, Int.reduceLT, Int.reduceLE, Int.reduceAdd, Int.reduceSub, Int.reduceMul, reduceIte, resVs, resV, packV, initT, addr, cellsOf_node, cutL3, splice3, b1, s1] | refine OrW.go ?_
      refine RelC.call (refAt_ok _ t _ l (hcc.old hO12) (by omega) (by omega)) ?_
      rintro v M2 ⟨hO2, c2, rfl, hc2⟩
      have hc2' := hc2
      obtain ⟨a2, cap2, rfl, _⟩ := hc2.ex
      have hz2 := hO2.1
      rw [mx_size] at hz2
      simp only [List.length_cons, List.length_nil] at hz2
      have b2 := (hO2.2 M1.size (by rw [mx_size]; simp)).trans (mx_new0 M1 _)
      have s2 : M1.size < M2.size := by omega
      have k2 := DetC.known (refSame_ok (atR t l).2 (atR t l).2 (mx M2 [.cells [.int .u8 (atR t l).2.k, .string ⟨(atR t l).2.d.toArray⟩, .slice a2 (atR t l).2.es.length cap2] 26 true .exact]) _ _ (hc1'.old ((hO12.trans hO2).trans (Old.here M2 _))) (hc2'.old (hO2.trans (Old.here M2 _))) (by omega))
      rw [Tr.same_self] at k2
      generalize (atR t l).1 = e at *
      repeat first | simp (implicitDefEqProofs := false) (maxSteps := 1000000) (disch := first | omega | with_reducible assumption | (simp only [lenT, Nat.reduceAdd]; omega)) only [amT, cut, bnd, Nat.reduceBEq, reduceCtorEq, Nat.reduceEqDiff, Nat.reduceAdd, Nat.reduceMul, Nat.reduceSub, Int.reduceToNat, Int.reduceEq, Int.reduceLT, Int.reduceLE, Int.reduceAdd, Int.reduceSub, Int.reduceMul, reduceIte, resVs, resV, packV, initT, addr, cellsOf_node, cutL3, splice3, b2, s2, k2, kW] | refine OrW.go ?_
      exact ⟨_, rfl, fun _ => rfl⟩
theorem lawAtA (m : AMem) (t : Tr) (c : List Value) (l : List UInt8) (hc : TrC m t c) (hl : l.length ≤ 9223372036854775807) : ACall Tryd.prog 3 5 [.agg c.toArray, .string ⟨l.toArray⟩] m fun r _ => r = .ret (.bool true) ∧ True :=
  ACall.mono (lawAt m t c l hc hl) fun r _ ⟨v, h1, h2⟩ => ⟨by rw [h1, h2], trivial⟩
end Go.Proofs.YtfjgpeoblnpelaaDoor
namespace Go.Proofs.YtfjgpeoblnpelaaDoor.gl
open Go.ChangeShapes Go.WideShapes Go.ChangeAt Go.RowKit
set_option linter.unusedVariables false
set_option maxRecDepth 100000
theorem own : ownKnob Tryd.prog.godebug = none := by kernel_rfl
theorem laidOut : laidOutB Tryd.prog = true := by kernel_rfl
abbrev laid : List (String × DataW Unit) := [("unicode/utf8.acceptRanges", Rows.laid_unicode_utf8_acceptRanges), ("unicode/utf8.first", Rows.laid_unicode_utf8_first)]

/-- The third listed variable lies where it should. -/
theorem globs {W : World} (h : laidMetH Tryd.prog laid W) : ∃ cs ty frz, W.heap[2]? = some (.cells cs ty frz) := by
  rw [MakeChecks.laidMetH_plain _ _ _ (by kernel_rfl)] at h
  obtain ⟨ps, ⟨g, t, cs, fuel, p, q, hg, ht, hv, hd, _⟩, _⟩ := h
  have k0 : Tryd.prog.globalNamed "unicode/utf8.acceptRanges" = some 2 := by kernel_rfl
  simp only [World.var?, k0, Option.bind_some] at hv
  split at hv
  · rename_i cs' ty frz hh
    exact ⟨cs', ty, frz, hh⟩
  · cases hv
def accCells : List Value := [128, 191, 160, 191, 128, 159, 144, 191, 128, 143, 0, 0, 0, 0, 0, 0, 0, 0, 0, 0, 0, 0, 0, 0, 0, 0, 0, 0, 0, 0, 0, 0].map fun n => .int .u8 n
/-- A world in which they are as listed. -/
noncomputable def laidWorld (os : Os) : World :=
  let w0 := World.holding Tryd.prog os ⟨#[], #[], []⟩
  { w0 with heap := (w0.heap.modify 2 fun
      | .cells _ t frozen => .cells accCells.toArray t frozen
      | o => o).modify 1 fun
      | .cells _ t frozen => .cells (Go.Pinned.utf8FirstZ.map fun n : Nat => Value.int .u8 (n : Int)).toArray t frozen
      | o => o }
theorem laidWorld_met (os : Os) (args : Array Value) : laidMetH Tryd.prog laid ((laidWorld os).forCall (fun _ _ => 0) ⟨#[], args, []⟩).memory := by
  rw [MakeChecks.laidMetH_plain _ _ _ (by kernel_rfl)]
  exact laidMet_of_run' 8 (by kernel_rfl) (by kernel_rfl)
end Go.Proofs.YtfjgpeoblnpelaaDoor.gl
namespace Go.Proofs.YtfjgpeoblnpelaaDoor.gl
open Go.ChangeShapes Go.WideShapes Go.ChangeAt Go.RowKit
set_option linter.unusedVariables false
set_option maxRecDepth 100000
set_option maxHeartbeats 1000000

/-- The memory of which a law speaks: the variables, and what the arguments lead to. -/
def osOf (ty : TypeId) (l : List (AM.AObj × AM.Loc)) : List (AM.AObj × AM.Loc) :=
  (.dead, ⟨0, 0, 0, 1⟩) :: (.dead, ⟨1, 0, 0, 1⟩) :: (.cells [] ty false (.full 1), ⟨2, 0, 0, 1⟩) :: l
theorem wrtL {ty : TypeId} {l : List (AM.AObj × AM.Loc)} (hl : ∀ x ∈ l, x.1.wrt = false) : ∀ x ∈ osOf ty l, x.1.wrt = false := fun x hx => by
  simp only [osOf, List.mem_cons] at hx
  rcases hx with rfl | rfl | rfl | hx
  · rfl
  · rfl
  · rfl
  · exact hl x hx
theorem rep {W : World} {ty : TypeId} {cs : Array Value} {frz : Nat × Nat} (h : W.heap[2]? = some (.cells cs ty frz))
    {l : List (AM.AObj × AM.Loc)} (hl : ∀ x ∈ l, AM.ObjRel (AM.renOf (osOf ty l)) x.1 x.2 W) (hw : ∀ x ∈ l, x.1.wrt = false) : AM.Rep 3 (AM.memOf (osOf ty l)) (AM.renOf (osOf ty l)) W := by
  refine AM.Rep.of (osOf ty l) (fun g hg => ?_) (fun x hx => ?_) (wrtL hw)
  · match g, hg with
    | 0, _ => exact ⟨_, rfl, rfl, rfl⟩
    | 1, _ => exact ⟨_, rfl, rfl, rfl⟩
    | 2, _ => exact ⟨_, rfl, rfl, rfl⟩
  · simp only [osOf, List.mem_cons] at hx
    rcases hx with rfl | rfl | rfl | hx
    · trivial
    · trivial
    · exact AM.ObjRel.plain (c := []) (o := 0) h (by simp) (fun j hj => by cases hj) (fun v hv => by cases hv) 1 (by omega)
    · exact hl x hx
theorem os_at {ty : TypeId} {l : List (AM.AObj × AM.Loc)} {k : Nat} {x : AM.AObj × AM.Loc} (h : l[k]? = some x) : (osOf ty l)[3 + k]? = some x := by
  rw [Nat.add_comm]; exact h
theorem get_at {ty : TypeId} {l : List (AM.AObj × AM.Loc)} {k : Nat} {x : AM.AObj × AM.Loc} (h : l[k]? = some x) : (AM.memOf (osOf ty l)).get (3 + k) = x.1 := by
  simp only [AM.memOf, os_at h]
theorem ren_at {ty : TypeId} {l : List (AM.AObj × AM.Loc)} {k : Nat} {x : AM.AObj × AM.Loc} (h : l[k]? = some x) : AM.renOf (osOf ty l) (3 + k) = some x.2 := by
  simp only [AM.renOf, os_at h, Option.map_some]
theorem lt_at {ty : TypeId} {l : List (AM.AObj × AM.Loc)} {k : Nat} {x : AM.AObj × AM.Loc} (h : l[k]? = some x) : 3 + k < (AM.memOf (osOf ty l)).size := by
  have := (List.getElem?_eq_some_iff.1 h).1
  show 3 + k < l.length + 1 + 1 + 1; omega

/-- An argument whose blocks are those from the k-th on. -/
def Arg (W : World) (k : Nat) (L : List (AM.AObj × AM.Loc)) (F : AM.AMem → AM.Ren → Prop) : Prop :=
  (∀ x ∈ L, x.1.wrt = false) ∧ ∀ (ty : TypeId) (l : List (AM.AObj × AM.Loc)), (∀ j (h : j < L.length), l[k + j]? = some L[j]) → (∀ x ∈ L, AM.ObjRel (AM.renOf (osOf ty l)) x.1 x.2 W) ∧ F (AM.memOf (osOf ty l)) (AM.renOf (osOf ty l))
theorem Arg.none (W : World) (k : Nat) : Arg W k [] fun _ _ => True := ⟨(fun x h => by cases h), fun ty l _ => ⟨(fun x h => by cases h), trivial⟩⟩
theorem Arg.and {W : World} {k : Nat} {L1 L2 : List (AM.AObj × AM.Loc)} {F1 F2 : AM.AMem → AM.Ren → Prop} (h1 : Arg W k L1 F1) (h2 : Arg W (k + L1.length) L2 F2) : Arg W k (L1 ++ L2) fun m ρ => F1 m ρ ∧ F2 m ρ := by
  refine ⟨fun x hx => (List.mem_append.1 hx).elim (h1.1 x) (h2.1 x), fun ty l hl => ?_⟩
  obtain ⟨a1, b1⟩ := h1.2 ty l fun j h => by rw [hl j (by rw [List.length_append]; omega), List.getElem_append_left h]
  obtain ⟨a2, b2⟩ := h2.2 ty l fun j h => by
    rw [Nat.add_assoc, hl (L1.length + j) (by rw [List.length_append]; omega), List.getElem_append_right (by omega)]
    simp only [Nat.add_sub_cancel_left]
  exact ⟨fun x hx => (List.mem_append.1 hx).elim (a1 x) (a2 x), b1, b2⟩
theorem Arg.mono {W : World} {k : Nat} {L : List (AM.AObj × AM.Loc)} {F F' : AM.AMem → AM.Ren → Prop} (h : Arg W k L F) (hf : ∀ m ρ, F m ρ → F' m ρ) : Arg W k L F' :=
  ⟨h.1, fun ty l hl => ⟨(h.2 ty l hl).1, hf _ _ (h.2 ty l hl).2⟩⟩
theorem Arg.all {W : World} {L : List (AM.AObj × AM.Loc)} {F : AM.AMem → AM.Ren → Prop} (h : Arg W 0 L F) (ty : TypeId) : (∀ x ∈ L, AM.ObjRel (AM.renOf (osOf ty L)) x.1 x.2 W) ∧ F (AM.memOf (osOf ty L)) (AM.renOf (osOf ty L)) :=
  h.2 ty L fun j hj => by rw [Nat.zero_add]; exact List.getElem?_eq_getElem hj
/-- n of them, one behind the other. -/
theorem Arg.list {W : World} {α : Type} [Inhabited α] (F : Nat → α → AM.AMem → AM.Ren → Prop) : ∀ (n : Nat), (∀ i, i < n → ∀ k, ∃ L a, Arg W k L (F i a)) → ∀ k, ∃ L, ∃ f : Nat → α, Arg W k L fun m ρ => ∀ i, i < n → F i (f i) m ρ
  | 0, _, k => ⟨[], fun _ => default, (Arg.none W k).mono fun _ _ _ i hi => by omega⟩
  | n + 1, h, k => by
    obtain ⟨L1, f, h1⟩ := Arg.list F n (fun i hi => h i (by omega)) k
    obtain ⟨L2, a, h2⟩ := h n (by omega) (k + L1.length)
    refine ⟨L1 ++ L2, fun i => if i = n then a else f i, (h1.and h2).mono fun m ρ ⟨q1, q2⟩ i hi => ?_⟩
    show F i (if i = n then a else f i) m ρ
    by_cases e : i = n
    · subst e; rw [if_pos rfl]; exact q2
    · rw [if_neg e]; exact q1 i (by omega)

/-- A tree's cells, in a world. -/
inductive TrW (w : World) : AM.Tr → List Value → Prop
  | nil (k : Int) (d : List UInt8) : TrW w (.nd k d []) [.int .u8 k, .string ⟨d.toArray⟩, .slice none 0 0]
  | none (k : Int) (d : List UInt8) (a : Addr) : TrW w (.nd k d []) [.int .u8 k, .string ⟨d.toArray⟩, .slice (some a) 0 0]
  | some (k : Int) (d : List UInt8) (es : List AM.En) (b o cap : Nat) (carr : Array Value) (ty : TypeId) (frz : Nat × Nat) (q : Nat → List Value) (hh : w.heap[b]? = some (.cells carr ty frz)) (hl : o + es.length * 4 ≤ carr.size)
      (hc : ∀ i (h : i < es.length) r, r < 4 → carr.getD (o + (i * 4 + r)) undef = (.string ⟨es[i].n.toArray⟩ :: q i).getD r undef) (hq : ∀ i (h : i < es.length), TrW w es[i].t (q i)) (hcap : cap ≤ 9223372036854775807) (hle : es.length ≤ cap) :
      TrW w (.nd k d es) [.int .u8 k, .string ⟨d.toArray⟩, .slice (some ⟨b, o, Option.none⟩) es.length cap]
theorem TrW.len {w : World} {t : AM.Tr} {cs : List Value} (h : TrW w t cs) : cs.length = 3 := by cases h <;> rfl

/-- A tree as an argument: its blocks are those from the k-th on. -/
theorem arg_tree {W : World} {t : AM.Tr} {cs : List Value} (h : TrW W t cs) : ∀ k, ∃ L q, Arg W k L fun m ρ => AM.TrC m t q ∧ AM.LRel ρ q cs := by
  induction h with
  | nil n d =>
    intro k
    exact ⟨[], [.int .u8 n, .string ⟨d.toArray⟩, .slice none 0 0], (Arg.none W k).mono fun m ρ _ => ⟨AM.trC_mk (AM.SlE.nil m), AM.LRel.cons' (.int _ _) (AM.LRel.cons' (.string _) (AM.LRel.cons' (.nilSlice 0 0) (AM.LRel.nil' _)))⟩⟩
  | none n d a =>
    intro k
    refine ⟨[], [.int .u8 n, .string ⟨d.toArray⟩, .slice (some ⟨2, 0, Option.none⟩) 0 0], fun x hx => (by cases hx), fun ty l _ => ⟨fun x hx => (by cases hx), ?_, ?_⟩⟩
    · have hz : AM.SlE (AM.memOf (osOf ty l)) (some ⟨2, 0, Option.none⟩) 0 [] := by
        refine ⟨[], .inr ⟨2, 0, [], ty, false, .full 1, rfl, by show 2 < l.length + 1 + 1 + 1; omega, rfl, rfl, .inr ⟨?_, Nat.le_refl _⟩⟩, AM.EsC.nil _⟩
        exact AM.openCap_lt (by omega)
      exact AM.trC_mk (k := n) (d := d) hz
    · exact AM.LRel.cons' (.int _ _) (AM.LRel.cons' (.string _) (AM.LRel.cons' (.sliceEnd (b := 2) (o := 0) (L := ⟨2, 0, 0, 1⟩) rfl (.inl rfl)) (AM.LRel.nil' _)))
  | some n d es b o cap carr ty frz q hh hl hc hq hcap hle ih =>
    intro k
    obtain ⟨L, f, hA⟩ := Arg.list (W := W) (α := List Value) (fun i c m ρ => ∀ h : i < es.length, AM.TrC m es[i].t c ∧ AM.LRel ρ c (q i)) es.length (fun i hi k => by
      obtain ⟨L, c, h⟩ := ih i hi k
      exact ⟨L, c, h.mono fun m ρ h _ => h⟩) k
    let row : Nat → List Value := fun i => .string ⟨(es.getD i default).n.toArray⟩ :: f i
    let X : List Value := (List.range (es.length * 4)).map fun j => (row (j / 4)).getD (j % 4) undef
    have hXl : X.length = es.length * 4 := by simp [X]
    have hXg : ∀ i r (hr : r < 4) (hi : i * 4 + r < X.length), X[i * 4 + r] = (row i).getD r undef := fun i r hr hi => by
      simp only [X, List.getElem_map, List.getElem_range]
      rw [show (i * 4 + r) / 4 = i by omega, show (i * 4 + r) % 4 = r by omega]
    have hget : ∀ i (hi : i < es.length), es.getD i default = es[i] := fun i hi => by simp [List.getD, hi]
    refine ⟨L ++ [(.cells X ty false (.full 4), ⟨b, o, es.length * 4, 4⟩)], [.int .u8 n, .string ⟨d.toArray⟩, .slice (some ⟨3 + (k + L.length), 0, Option.none⟩) es.length cap], fun x hx => ?_, fun ty2 l hpl => ?_⟩
    · rcases List.mem_append.1 hx with hx | hx
      · exact hA.1 x hx
      · rw [List.mem_singleton] at hx; subst hx; rfl
    · obtain ⟨a1, b1⟩ := hA.2 ty2 l fun j h => by rw [hpl j (by rw [List.length_append]; omega), List.getElem_append_left h]
      have h0 : l[k + L.length]? = some (.cells X ty false (.full 4), ⟨b, o, es.length * 4, 4⟩) := by
        have := hpl L.length (by rw [List.length_append]; simp)
        rw [this, List.getElem_append_right (Nat.le_refl _)]; simp
      have hE := fun i (hi : i < es.length) => b1 i hi hi
      refine ⟨fun x hx => ?_, ?_, ?_⟩
      · rcases List.mem_append.1 hx with hx | hx
        · exact a1 x hx
        · rw [List.mem_singleton] at hx
          subst hx
          refine ⟨carr, frz, hh, hl, by rw [hXl]; exact Nat.le_refl _, (fun h => by cases h), (fun k h => by cases h; exact ⟨hXl.symm, rfl, by omega⟩), (fun j hj => ?_), (fun z h => by cases h), (fun h => by cases h)⟩
          have hj4 : j / 4 < es.length := by rw [hXl] at hj; omega
          have hjr : j % 4 < 4 := by omega
          have ej : j / 4 * 4 + j % 4 = j := by omega
          have h1 := hXg (j / 4) (j % 4) hjr (by omega)
          have h2 := hc (j / 4) hj4 (j % 4) hjr
          simp only [ej] at h1 h2
          rw [h1, h2]
          have h3 := (hE (j / 4) hj4)
          have hfl := h3.1.len
          have hql := (hq (j / 4) hj4).len
          simp only [row]
          rw [hget _ hj4]
          have key : ∀ r, r < 4 → AM.VRel (AM.renOf (osOf ty2 l)) ((Value.string ⟨es[j / 4].n.toArray⟩ :: f (j / 4)).getD r undef) ((Value.string ⟨es[j / 4].n.toArray⟩ :: q (j / 4)).getD r undef) := by
            intro r hr
            cases r with
            | zero => exact .string _
            | succ r =>
              simp only [List.getD_cons_succ]
              rw [List.getD_eq_getElem?_getD, List.getD_eq_getElem?_getD, List.getElem?_eq_getElem (by omega), List.getElem?_eq_getElem (by omega)]
              exact h3.2.2 r (by omega) (by omega)
          exact key _ hjr
      · have hsl : AM.SlE (AM.memOf (osOf ty2 l)) (some ⟨3 + (k + L.length), 0, Option.none⟩) cap es := by
          have hcells : ∀ j, j ≤ es.length → AM.EsC (AM.memOf (osOf ty2 l)) (es.take j) (X.take (j * 4)) := by
            intro j
            induction j with
            | zero => intro _; simpa using AM.EsC.nil _
            | succ j ihj =>
              intro hj
              have hj' : j < es.length := by omega
              have h1 := ihj (by omega)
              have hfl := (hE j hj').1.len
              have hcut : X.take ((j + 1) * 4) = X.take (j * 4) ++ (.string ⟨es[j].n.toArray⟩ :: f j) := by
                refine List.ext_getElem (by rw [List.length_take, List.length_append, List.length_take, List.length_cons]; omega) fun r q1 q2 => ?_
                rw [List.getElem_take]
                by_cases hr : r < j * 4
                · rw [List.getElem_append_left (by rw [List.length_take]; omega), List.getElem_take]
                · rw [List.getElem_append_right (by rw [List.length_take]; omega)]
                  have hrl : r < (j + 1) * 4 := by rw [List.length_take] at q1; omega
                  have h3 := hXg j (r - j * 4) (by omega) (by omega)
                  simp only [show j * 4 + (r - j * 4) = r by omega] at h3
                  rw [h3]
                  simp only [row, hget j hj', List.length_take, hXl, show min (j * 4) (es.length * 4) = j * 4 by omega]
                  rw [List.getD_eq_getElem?_getD, List.getElem?_eq_getElem (by rw [List.length_cons]; omega)]; rfl
              rw [hcut, List.take_succ_eq_append_getElem hj']
              refine AM.EsC.app h1 ?_
              have := AM.EsC.cons (AM.EnC.of (e := es[j]) (hE j hj').1) (AM.EsC.nil _)
              rwa [List.append_nil] at this
          have hall := hcells es.length (Nat.le_refl _)
          rw [List.take_length, ← hXl, List.take_length] at hall
          refine ⟨X, .inr ⟨3 + (k + L.length), 0, X, ty, false, .full 4, rfl, lt_at h0, get_at h0, by rw [← hXl]; exact AM.cutL_all rfl, .inr ⟨AM.openCap_lt hcap, hle⟩⟩, hall⟩
        exact AM.trC_mk (k := n) (d := d) hsl
      · exact AM.LRel.cons' (.int _ _) (AM.LRel.cons' (.string _) (AM.LRel.cons' (.slice (b := 3 + (k + L.length)) (o := 0) (ren_at h0) (AM.openCap_lt hcap)) (AM.LRel.nil' _)))
end Go.Proofs.YtfjgpeoblnpelaaDoor.gl
namespace Go.Proofs.YtfjgpeoblnpelaaDoor.gl
open Go.ChangeShapes Go.WideShapes Go.ChangeAt Go.RowKit
set_option linter.unusedVariables false
set_option maxRecDepth 100000
set_option maxHeartbeats 1000000

theorem cells_get {w : World} {base n : Nat} {a : Addr} {cs : List Value} (h : w.cells? base a n = some cs) : cs.length = n ∧ ∀ r (hr : r < n), w.cell? (a.add r) = cs[r]? := by
  unfold World.cells? at h
  split at h
  · have hlen : cs.length = n := by
      have : ∀ (l : List Nat) (cs : List Value), l.mapM (fun i => w.cell? (a.add i)) = some cs → cs.length = l.length := by
        intro l
        induction l with
        | nil => intro cs h; simp at h; subst h; rfl
        | cons x l ih =>
          intro cs h
          simp only [List.mapM_cons, Option.bind_eq_bind, Option.bind_eq_some_iff] at h
          obtain ⟨y, _, ys, h2, h3⟩ := h
          cases h3
          simp [ih ys h2]
      have := this _ _ h; simpa using this
    refine ⟨hlen, fun r hr => ?_⟩
    have : ∀ (l : List Nat) (cs : List Value), l.mapM (fun i => w.cell? (a.add i)) = some cs → ∀ r (hr : r < l.length), w.cell? (a.add l[r]) = cs[r]? := by
      intro l
      induction l with
      | nil => intro cs h r hr; cases hr
      | cons x l ih =>
        intro cs h r hr
        simp only [List.mapM_cons, Option.bind_eq_bind, Option.bind_eq_some_iff] at h
        obtain ⟨y, h1, ys, h2, h3⟩ := h
        cases h3
        cases r with
        | zero => simpa using h1
        | succ r => simpa using ih ys h2 r (by simpa using hr)
    have := this _ _ h r (by simpa using hr)
    simpa using this
  · cases h
theorem open_tree {H : Type} {enc : TypeId × Value → H} {w : World} {base : Nat} {hd : Bool} : ∀ (fuel : Nat) (cs : List Value) (y : DataW H × List MemPlace),
    DataW.trod enc Tryd.prog w base (fun _ => true) hd fuel 26 cs = some y → ∃ t, TrW w t cs := by
  have k3 : Tryd.prog.cellsOf 26 = 3 := by kernel_rfl
  have k4 : Tryd.prog.cellsOf 48 = 4 := by kernel_rfl
  have k1 : Tryd.prog.cellsOf 9 = 1 := by kernel_rfl
  have k1' : Tryd.prog.cellsOf 5 = 1 := by kernel_rfl
  have k1'' : Tryd.prog.cellsOf 24 = 1 := by kernel_rfl
  intro fuel
  induction fuel using Nat.strongRecOn with
  | _ fuel ih =>
    intro cs y h
    obtain ⟨xs, n, hf, _, hlen, hxl, hel⟩ := DataW.trod_struct Tryd.underlying26 h
    rw [k3] at hlen
    obtain ⟨c0, c1, c2, rfl⟩ : ∃ a b c, cs = [a, b, c] := by
      match cs, hlen with
      | [a, b, c], _ => exact ⟨a, b, c, rfl⟩
    have hxl : xs.length = 3 := hxl
    have e0 := hel 0 { name := "Kind", type := 5, offset := 0, embedded := false, tag := "", pkgPath := "", byteOffset := 0 } rfl
    have e1 := hel 1 { name := "Data", type := 9, offset := 1, embedded := false, tag := "", pkgPath := "", byteOffset := 8 } rfl
    have e2 := hel 2 { name := "Entries", type := 24, offset := 2, embedded := false, tag := "", pkgPath := "", byteOffset := 24 } rfl
    simp only [k1, k1', k1'', List.drop_zero, List.drop_succ_cons, List.take_succ_cons, List.take_zero] at e0 e1 e2
    rw [List.getElem?_eq_getElem (by omega)] at e0 e1 e2
    obtain ⟨k, rfl, _⟩ := AM.trod_one Tryd.underlying5 e0
    obtain ⟨d, rfl, _⟩ := AM.trod_str Tryd.underlying9 e1
    rcases DataW.trod_slice Tryd.underlying24 e2 with ⟨h2, _⟩ | ⟨a, len, cap, elems, rest, n', hn', h2, _, _, hle, hmax, hel2, hall, hsp, _⟩
    · cases h2
      exact ⟨_, .nil k d⟩
    · cases h2
      rw [k4] at hall hsp
      have each : ∀ i, i < len → ∃ cs', w.cells? base (a.add (i * 4)) 4 = some cs' ∧ ∃ y', DataW.trod enc Tryd.prog w base (fun _ => true) hd n' 48 cs' = some y' := fun i hi => by
        have := hall i hi
        rw [List.getElem?_eq_getElem (by omega)] at this
        rw [Option.bind_eq_some_iff] at this
        obtain ⟨cs', h1, h2⟩ := this
        exact ⟨cs', h1, _, h2⟩
      by_cases h0 : len = 0
      · subst h0
        by_cases hc0 : cap = 0
        · subst hc0
          exact ⟨_, .none k d a⟩
        · obtain ⟨hrl, hr⟩ := hsp rfl
          have := hr 0 (by omega)
          rw [List.getElem?_eq_getElem (by omega), Option.bind_eq_some_iff] at this
          obtain ⟨cs', h1, _⟩ := this
          obtain ⟨hlc, hcr⟩ := cells_get h1
          have hc0 := hcr 0 (by omega)
          obtain ⟨b, o, sp⟩ := a
          rw [List.getElem?_eq_getElem (by omega)] at hc0
          simp only [Nat.add_zero, Nat.zero_mul, Addr.add, if_true, World.cell?] at hc0
          split at hc0 <;> try (simp at hc0; done)
          rename_i carr ty frz hh
          split at hc0 <;> try (simp at hc0; done)
          rename_i hsp
          obtain rfl : sp = Option.none := by cases sp <;> simp_all
          have := (Array.getElem?_eq_some_iff.1 hc0).1
          exact ⟨_, .some k d [] b o cap carr ty frz (fun _ => []) hh (by simp only [List.length_nil]; omega) (fun i hi => by cases hi) (fun i hi => by cases hi) hmax (Nat.zero_le _)⟩
      · obtain ⟨cs', hc', _⟩ := each 0 (by omega)
        obtain ⟨hlc, hcr⟩ := cells_get hc'
        have hc0 := hcr 0 (by omega)
        obtain ⟨b, o, sp⟩ := a
        rw [List.getElem?_eq_getElem (by omega)] at hc0
        simp only [Nat.zero_mul, Addr.add, if_true, World.cell?] at hc0
        split at hc0 <;> try (simp at hc0; done)
        rename_i carr ty frz hh
        split at hc0 <;> try (simp at hc0; done)
        rename_i hsp'
        obtain rfl : sp = Option.none := by cases sp <;> simp_all
        have key : ∀ i, i < len → ∃ z : AM.En × List Value, TrW w z.1.t z.2 ∧ ∀ r, r < 4 → carr[o + (i * 4 + r)]? = some ((Value.string ⟨z.1.n.toArray⟩ :: z.2).getD r undef) := fun i hi => by
          obtain ⟨cs2, hc2, y', ht2⟩ := each i hi
          obtain ⟨hl2, hr2⟩ := cells_get hc2
          obtain ⟨xs2, n2, hf2, _, hlen2, hxl2, hel3⟩ := DataW.trod_struct Tryd.underlying48 ht2
          have hxl2 : xs2.length = 2 := hxl2
          obtain ⟨d0, d1, d2, d3, rfl⟩ : ∃ a b c d, cs2 = [a, b, c, d] := by
            match cs2, hl2 with
            | [a, b, c, d], _ => exact ⟨a, b, c, d, rfl⟩
          have f0 := hel3 0 { name := "Name", type := 9, offset := 0, embedded := false, tag := "", pkgPath := "", byteOffset := 0 } rfl
          have f1 := hel3 1 { name := "Node", type := 26, offset := 1, embedded := false, tag := "", pkgPath := "", byteOffset := 16 } rfl
          simp only [k1, k3, List.drop_zero, List.drop_succ_cons, List.take_succ_cons, List.take_zero] at f0 f1
          rw [List.getElem?_eq_getElem (by omega)] at f0 f1
          obtain ⟨s, rfl, _⟩ := AM.trod_str Tryd.underlying9 f0
          obtain ⟨u, hu⟩ := ih n2 (by omega) _ _ f1
          refine ⟨(.mk s u, [d1, d2, d3]), hu, fun r hr => ?_⟩
          have := hr2 r hr
          rw [List.getElem?_eq_getElem (by simp; omega)] at this
          have e : ((⟨b, o, Option.none⟩ : Addr).add (i * 4)).add r = ⟨b, o + (i * 4 + r), Option.none⟩ := by
            simp only [Addr.add]
            split <;> split <;> simp_all <;> omega
          rw [e] at this
          simp only [World.cell?, hh] at this
          simp only [Option.isSome_none, Bool.false_eq_true, if_false] at this
          rw [this, List.getD_eq_getElem?_getD, List.getElem?_eq_getElem (by simp; omega)]; rfl
        haveI : Inhabited (AM.En × List Value) := ⟨(default, [])⟩
        obtain ⟨f, hfm⟩ := Go.Deep.choose_lt (α := AM.En × List Value) (n := len) key
        have hlenm : ((List.range len).map fun i => (f i).1).length = len := by simp
        have hlast : o + len * 4 ≤ carr.size := by
          have := (Array.getElem?_eq_some_iff.1 ((hfm (len - 1) (by omega)).2 3 (by omega))).1; omega
        have main := TrW.some (w := w) k d ((List.range len).map fun i => (f i).1) b o cap carr ty frz (fun i => (f i).2) hh (by rw [hlenm]; exact hlast)
          (fun i hi r hr => by
            have hi' : i < len := by rw [hlenm] at hi; exact hi
            rw [Array.getD_eq_getD_getElem?, (hfm i hi').2 r hr]; simp)
          (fun i hi => by
            have hi' : i < len := by rw [hlenm] at hi; exact hi
            have := (hfm i hi').1
            simpa using this)
          hmax (by rw [hlenm]; exact hle)
        rw [hlenm] at main
        exact ⟨_, main⟩
theorem node_of {v x y z : Value} (h : v.cells.toList = [x, y, z]) : v = .agg #[x, y, z] := by
  cases v with
  | agg cs =>
    have h : cs.toList = [x, y, z] := h
    have : cs = #[x, y, z] := Array.ext' h
    rw [this]
  | _ => simp [Value.cells] at h
theorem agg_of {v : Value} {cs : List Value} {w : World} {t : AM.Tr} (h : TrW w t cs) (he : v.cells.toList = cs) : v = .agg cs.toArray := by
  cases h with
  | nil k d => exact node_of he
  | none k d a => exact node_of he
  | some k d es b o cap carr ty frz q _ _ _ _ _ _ => exact node_of he
theorem rel_node {ρ : AM.Ren} {q cs : List Value} (h : AM.LRel ρ q cs) : AM.VRel ρ (.agg q.toArray) (.agg cs.toArray) :=
  .agg _ _ (by simpa using h.1) fun i h1 h2 => by simpa using h.2 i (by simpa using h1) (by simpa using h2)
end Go.Proofs.YtfjgpeoblnpelaaDoor.gl
