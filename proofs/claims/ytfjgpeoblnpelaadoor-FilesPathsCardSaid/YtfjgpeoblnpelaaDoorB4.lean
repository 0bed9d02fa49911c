/- The law of Paths. -/
import Derived.Test.YtfjgpeoblnpelaaDoorB3
import Derived.Test.YtfjgpeoblnpelaaDoorA5
import Derived.Test.YtfjgpeoblnpelaaDoorRows
import Derived.WalkKit
import Derived.ProofKit
import Derived.OpenShut
import Derived.ShutString
import Derived.ChangeOld
import Derived.Below
import Derived.SizedLaws
import Derived.Handed
import Derived.JoinedOf
import Derived.Deep.Slices
set_option linter.unusedVariables false
set_option linter.unusedSimpArgs false
set_option linter.unnecessarySimpa false
namespace Go.Proofs.YtfjgpeoblnpelaaDoor
open Go Go.AM
set_option linter.unusedVariables false
set_option linter.unusedSimpArgs false
set_option maxRecDepth 100000
set_option maxHeartbeats 4000000

theorem StrS_takeM {m : AMem} {a : Option Addr} {cap : Nat} {ls : List (List UInt8)} (h : StrS m a cap ls) (hn : ls.length < openCap) {k : Nat} (hk : k ≤ ls.length) :
    ∃ cap', (∀ M, Old m M → slVv 1 (.slice a ls.length cap) none (some (.int .i64 (k : Int))) none M = some (.slice a (ls.take k).length cap', M)) ∧ StrS m a cap' (ls.take k) := by
  obtain ⟨cap', h1, h2⟩ := h.take hn hk
  refine ⟨cap', fun M hO => ?_, h2⟩
  rw [slVv_map _ _ _ _ _ m M, h1]; rfl
  rintro b o l c he
  cases he
  rcases h with ⟨h, _⟩ | ⟨b', o', Y, e, w, sp, h, hb, _⟩
  · cases h
  · cases h; exact hO.2 b hb
theorem e600 : ((600 : Nat) : Int) = 600 := rfl
theorem lawPaths (m : AMem) (tr x : Tr) (c cx : List Value) (k : Int) (hc : TrC m tr c) (hx : TrC m x cx) (hk : -9223372036854775808 ≤ k ∧ k ≤ 9223372036854775807) : RelC Tryd.prog 3 8 [.agg c.toArray, .int .i64 k, .agg cx.toArray] m fun v _ => v = .bool true := by
  have hc0 := hc
  have hx0 := hx
  obtain ⟨a, cap, rfl, hE⟩ := hc.ex
  obtain ⟨ax, capx, rfl, hEx⟩ := hx.ex
  have hcc := hc0.old (Old.here m [.cells [.int .u8 tr.k, .string ⟨tr.d.toArray⟩, .slice a tr.es.length cap] 26 true .exact, .cells [.int .u8 x.k, .string ⟨x.d.toArray⟩, .slice ax x.es.length capx] 26 true .exact])
  have hxx := hx0.old (Old.here m [.cells [.int .u8 tr.k, .string ⟨tr.d.toArray⟩, .slice a tr.es.length cap] 26 true .exact, .cells [.int .u8 x.k, .string ⟨x.d.toArray⟩, .slice ax x.es.length capx] 26 true .exact])
  have kW := fun M => DetC.known (works_ok M)
  have k0 := DetC.known (weight_ok tr _ _ 600 hcc (by omega))
  have k1 := DetC.known (weight_ok x _ _ 600 hxx (by omega))
  refine rel_of_W (fn := Tryd.f8) rfl rfl F8_ok (by simp [F8]) ?_
  by_cases hw : 600 < tr.weight
  · have g := weight_gt hw
    rw [e600] at k0 k1 g
    repeat first | simp (implicitDefEqProofs := false) (maxSteps := 1000000) (disch := first | omega | with_reducible assumption | (simp only [lenT, Nat.reduceAdd]; omega)) only [amT, cut, bnd, Nat.reduceBEq, reduceCtorEq, Nat.reduceEqDiff, Nat.reduceAdd, Nat.reduceMul, Nat.reduceSub, Int.reduceToNat, Int.reduceEq, Int.reduceLT, Int.reduceLE, Int.reduceAdd, Int.reduceSub, Int.reduceMul, reduceIte, resVs, resV, packV, initT, addr, F8, cellsOf_node, cutL3, k0, k1, g, kW, undef] | refine OrW.go ?_
    exact ⟨_, rfl, fun _ => rfl⟩
  have g := weight_le (t := tr) (top := 600) (by omega)
  by_cases hw2 : 600 < x.weight
  · have g2 := weight_gt hw2
    rw [e600] at k0 k1 g g2
    repeat first | simp (implicitDefEqProofs := false) (maxSteps := 1000000) (disch := first | omega | with_reducible assumption | (simp only [lenT, Nat.reduceAdd]; omega)) only [amT, cut, bnd, Nat.reduceBEq, reduceCtorEq, Nat.reduceEqDiff, Nat.reduceAdd, Nat.reduceMul, Nat.reduceSub, Int.reduceToNat, Int.reduceEq, Int.reduceLT, Int.reduceLE, Int.reduceAdd, Int.reduceSub, Int.reduceMul, reduceIte, resVs, resV, packV, initT, addr, F8, cellsOf_node, cutL3, k0, k1, g, g2, kW] | refine OrW.go ?_
    exact ⟨_, rfl, fun _ => rfl⟩
  have g2 := weight_le (t := x) (top := 600) (by omega)
  rw [e600] at k0 k1 g g2
  have hcw := tr.count_le
  have hxw := x.count_le
  repeat first | simp (implicitDefEqProofs := false) (maxSteps := 1000000) (disch := first | omega | with_reducible assumption | (simp only [lenT, Nat.reduceAdd]; omega)) only [amT, cut, bnd, Nat.reduceBEq, reduceCtorEq, Nat.reduceEqDiff, Nat.reduceAdd, Nat.reduceMul, Nat.reduceSub, Int.reduceToNat, Int.reduceEq, Int.reduceLT, Int.reduceLE, Int.reduceAdd, Int.reduceSub, Int.reduceMul, reduceIte, resVs, resV, packV, initT, addr, F8, cellsOf_node, cutL3, k0, k1, g, g2, kW] | refine OrW.go ?_
  refine RelC.call (filPaths_ok _ tr _ hcc (by omega)) ?_
  rintro v M1 ⟨hO1, a1, cap1, rfl, hS1⟩
  have hz1 := hO1.1
  rw [mx_size] at hz1
  simp only [List.length_cons, List.length_nil] at hz1
  have b1 : M1.get m.size = .cells [.int .u8 tr.k, .string ⟨tr.d.toArray⟩, .slice a tr.es.length cap] 26 true .exact := (hO1.2 _ (by rw [mx_size]; simp)).trans (mx_new0 _ _)
  have bx1 : M1.get (m.size + 1) = .cells [.int .u8 x.k, .string ⟨x.d.toArray⟩, .slice ax x.es.length capx] 26 true .exact := (hO1.2 _ (by rw [mx_size]; simp)).trans (mx_new _ _ 1)
  have s1 : m.size < M1.size := by omega
  have s1' : m.size + 1 < M1.size := by omega
  repeat first | simp (implicitDefEqProofs := false) (maxSteps := 1000000) (disch := first | omega | with_reducible assumption | (simp only [lenT, Nat.reduceAdd]; omega)) only [amT, cut, bnd, Nat.reduceBEq, reduceCtorEq, Nat.reduceEqDiff, Nat.reduceAdd, Nat.reduceMul, Nat.reduceSub, Int.reduceToNat, Int.reduceEq, Int.reduceLT, Int.reduceLE, Int.reduceAdd, Int.reduceSub, Int.reduceMul, reduceIte, resVs, resV, packV, initT, addr, cutL3, b1, s1] | refine OrW.go ?_
  refine RelC.call (refPaths_ok _ tr _ ((hcc.old hO1).old (Old.here M1 [])) (by omega)) ?_
  rintro v M2 ⟨hO2', a2, cap2, rfl, hS2⟩
  have hO2 := (Old.here M1 []).trans hO2'
  have hlp : (pathsR tr).length ≤ 600 := by
    unfold pathsR
    split
    · rw [pathsT_len]; omega
    · simp
  have hS1' := hS1.old hO2
  have kT := DetC.known (sameTexts_ok (mx M2 []) a1 a2 cap1 cap2 (pathsR tr) (pathsR tr) (hS1'.old (Old.here M2 [])) (hS2.old (Old.here M2 [])) (by omega))
  rw [decide_eq_true rfl] at kT
  have b2 := (hO2.2 _ s1).trans b1
  have bx2 := (hO2.2 _ s1').trans bx1
  have s2 : m.size < M2.size := Nat.lt_of_lt_of_le s1 hO2.1
  have s2' : m.size + 1 < M2.size := Nat.lt_of_lt_of_le s1' hO2.1
  by_cases hr : rightT tr = true
  case neg =>
    have hp0 : pathsR tr = [] := by rw [pathsR, if_neg hr]
    rw [hp0] at kT ⊢
    simp only [List.length_nil] at kT
    repeat first | simp (implicitDefEqProofs := false) (maxSteps := 1000000) (disch := first | omega | with_reducible assumption | (simp only [lenT, Nat.reduceAdd]; omega)) only [amT, cut, bnd, Nat.reduceBEq, reduceCtorEq, Nat.reduceEqDiff, Nat.reduceAdd, Nat.reduceMul, Nat.reduceSub, Int.reduceToNat, Int.reduceEq, Int.reduceLT, Int.reduceLE, Int.reduceAdd, Int.reduceSub, Int.reduceMul, reduceIte, resVs, resV, packV, initT, addr, kT, kW, List.length_nil] | refine OrW.go ?_
    exact ⟨_, rfl, fun _ => rfl⟩
  have hp0 : pathsR tr = pathsT tr := by rw [pathsR, if_pos hr]
  have hmay := rightT_may hr
  have hnd := pathsT_nodup tr hmay
  have hlen := pathsT_len tr
  have hat := fun q (hq : q ∈ pathsT tr) => atR_path hmay hq
  have hql := pathsT_le tr
  have hcp := tr.count_pos
  have hkeep := fun (p q : List UInt8) (hp : p ∈ pathsT tr) (hq : q ∈ pathsT tr) => put_keep (x := x) hmay hp hq
  rw [hp0] at kT hS1 hS1' hS2 ⊢
  have hpz := pickZ_lt k (n := (pathsT tr).length) (by omega)
  have kP := fun M => DetC.known (pick_ok M k (pathsT tr).length hk (by omega) (by omega))
  generalize pathsT tr = ls at *
  obtain ⟨pn, hpn⟩ : ∃ pn : Nat, pickZ k ls.length = (pn : Int) := ⟨(pickZ k ls.length).toNat, by omega⟩
  rw [hpn] at kP hpz
  have hpl : pn < ls.length := by omega
  have hpmem : ls[pn] ∈ ls := List.getElem_mem hpl
  obtain ⟨bL, oL, rfl, hbL, q0⟩ := hS1'.get hpl
  have g3 : ¬ (ls.length : Int) = 0 := by omega
  have hpq := hql _ hpmem
  repeat first | simp (implicitDefEqProofs := false) (maxSteps := 1000000) (disch := first | omega | with_reducible assumption | (simp only [lenT, Nat.reduceAdd]; omega)) only [amT, cut, bnd, Nat.reduceBEq, reduceCtorEq, Nat.reduceEqDiff, Nat.reduceAdd, Nat.reduceMul, Nat.reduceSub, Int.reduceToNat, Int.reduceEq, Int.reduceLT, Int.reduceLE, Int.reduceAdd, Int.reduceSub, Int.reduceMul, reduceIte, resVs, resV, packV, initT, addr, kT, g3, kP, q0, b2, bx2, s2, s2', cutL3] | refine OrW.go ?_
  refine RelC.call (Put_ok M2 _ tr x _ _ ls[pn] ((hcc.old hO1).old hO2) ((hxx.old hO1).old hO2) (Old.here M2 []) (by omega) (by omega) (by omega)) ?_
  rintro v M3 ⟨hO3', c3, rfl, hc3⟩
  have hO3 := (Old.here M2 []).trans hO3'
  have hc3' := hc3 M3 (Gap.of ⟨Nat.le_refl _, fun _ _ => rfl⟩)
  have hc3'' := hc3'
  obtain ⟨a3, cap3, rfl, _⟩ := hc3'.ex
  have b3 := (hO3.2 _ s2).trans b2
  have bx3 := (hO3.2 _ s2').trans bx2
  have s3 : m.size < M3.size := Nat.lt_of_lt_of_le s2 hO3.1
  have s3' : m.size + 1 < M3.size := Nat.lt_of_lt_of_le s2' hO3.1
  have hS3 := hS1'.old hO3
  have hmem0 : TrC M3 tr [.int .u8 tr.k, .string ⟨tr.d.toArray⟩, .slice a tr.es.length cap] := ((hcc.old hO1).old hO2).old hO3
  have hmemx : TrC M3 x [.int .u8 x.k, .string ⟨x.d.toArray⟩, .slice ax x.es.length capx] := ((hxx.old hO1).old hO2).old hO3
  have hpc := putR_count tr ls[pn] x
  have hE0 : (putR tr ls[pn] x).1 = (putR tr ls[pn] x).1 := rfl
  have hputat := put_at (t := tr) (x := x) (p := ls[pn])
  have hkeep' := fun q (hq : q ∈ ls) => hkeep ls[pn] q hpmem hq
  generalize hR : putR tr ls[pn] x = R at *
  obtain ⟨e, u⟩ := R
  simp only at hc3'' hpc hE0 hputat hkeep'
  repeat first | simp (implicitDefEqProofs := false) (maxSteps := 1000000) (disch := first | omega | with_reducible assumption | (simp only [lenT, Nat.reduceAdd]; omega)) only [amT, cut, bnd, Nat.reduceBEq, reduceCtorEq, Nat.reduceEqDiff, Nat.reduceAdd, Nat.reduceMul, Nat.reduceSub, Int.reduceToNat, Int.reduceEq, Int.reduceLT, Int.reduceLE, Int.reduceAdd, Int.reduceSub, Int.reduceMul, reduceIte, resVs, resV, packV, initT, addr, cellsOf_node, splice3] | refine OrW.go ?_
  refine W_loop (fun N qs => ∃ (i : Nat) (N0 : AMem), N = ls.length - i ∧ qs.ds = [] ∧ qs.m = mx N0 [] ∧ qs.t 3 = .pointer (some ⟨m.size, 0, none⟩) ∧ qs.t 5 = .pointer (some ⟨m.size + 1, 0, none⟩) ∧ qs.t 7 = .slice (some ⟨bL, oL, none⟩) ls.length cap1 ∧ qs.t 8 = .string ⟨ls[pn].toArray⟩ ∧ qs.t 9 = .pointer (some ⟨M3.size, 0, none⟩) ∧ qs.t 10 = .int .i64 e ∧ qs.t 11 = .int .i64 i ∧ i ≤ ls.length ∧ Old (mx M3 [.cells [.int .u8 u.k, .string ⟨u.d.toArray⟩, .slice a3 u.es.length cap3] 26 true .exact]) N0) (ls.length - (0)) ⟨0, mx M3 [.cells [.int .u8 u.k, .string ⟨u.d.toArray⟩, .slice a3 u.es.length cap3] 26 true .exact], rfl, rfl, ?qm, ?q3, ?q5, ?q7, ?q8, ?q9, ?q10, ?q11, ?_⟩ ?_
  case qm | q3 | q5 | q7 | q8 | q9 | q10 | q11 => first | rfl | (simp (implicitDefEqProofs := false) (maxSteps := 1000000) (disch := first | omega | with_reducible assumption | (simp only [lenT, Nat.reduceAdd]; omega)) only [amT, cut, bnd, Nat.reduceBEq, reduceCtorEq, Nat.reduceEqDiff, Nat.reduceAdd, Nat.reduceMul, Nat.reduceSub, Int.reduceToNat, Int.reduceEq, Int.reduceLT, Int.reduceLE, Int.reduceAdd, Int.reduceSub, Int.reduceMul, reduceIte, resVs, resV, packV, initT, addr, mx_mx, List.append_nil]; first | done | rfl | (congr 1; omega))
  · exact ⟨Nat.zero_le _, .refl _⟩
  · rintro N t m1 ds ⟨i, N0, rfl, hds, hm, t3, t5, t7, t8, t9, t10, t11, hp⟩
    simp only at hds hm t3 t5 t7 t8 t9 t10 t11
    subst hds; replace hm := hm.symm; subst hm
    obtain ⟨hi0, hON⟩ := hp
    have hOM := (Old.here M3 _).trans hON
    have hzN := hON.1
    rw [mx_size] at hzN
    simp only [List.length_cons, List.length_nil] at hzN
    have bN := (hOM.2 _ s3).trans b3
    have bxN := (hOM.2 _ s3').trans bx3
    have bMN : N0.get M3.size = .cells [.int .u8 u.k, .string ⟨u.d.toArray⟩, .slice a3 u.es.length cap3] 26 true .exact := (hON.2 _ (by rw [mx_size]; simp)).trans (mx_new0 _ _)
    have sN : m.size < N0.size := by omega
    have sN' : m.size + 1 < N0.size := by omega
    have sMN : M3.size < N0.size := by omega
    by_cases h1 : (i : Int) < (ls.length : Int)
    · have hi : i < ls.length := by omega
      have hqmem : ls[i] ∈ ls := List.getElem_mem hi
      have hqq := hql _ hqmem
      obtain ⟨b', o', eb, hbb, r0⟩ := (hS3.old hOM).get hi
      cases eb
      have hac := atR_count tr ls[i]
      have hat0 := hat _ hqmem
      obtain ⟨z, hz⟩ : ∃ z, atR tr ls[i] = (0, z) := ⟨_, Prod.ext hat0 rfl⟩
      have hzc : z.count ≤ tr.count := by rw [hz] at hac; exact hac
      repeat first | simp (implicitDefEqProofs := false) (maxSteps := 1000000) (disch := first | omega | with_reducible assumption | (simp only [lenT, Nat.reduceAdd]; omega)) only [amT, cut, bnd, Nat.reduceBEq, reduceCtorEq, Nat.reduceEqDiff, Nat.reduceAdd, Nat.reduceMul, Nat.reduceSub, Int.reduceToNat, Int.reduceEq, Int.reduceLT, Int.reduceLE, Int.reduceAdd, Int.reduceSub, Int.reduceMul, reduceIte, resVs, resV, packV, initT, addr, F8_l0, t3, t5, t7, t8, t9, t10, t11, h1, bN, r0, cutL3, sN] | refine OrW.go ?_
      refine RelC.call (at_ok M3 _ tr _ ls[i] hmem0 (hOM.trans (Old.here N0 _)) (by omega) (by omega)) ?_
      rintro v M4 ⟨hO4, c4, rfl, hc4⟩
      rw [hz] at hc4 ⊢
      simp only at hc4
      have hc4' := hc4
      obtain ⟨a4, cap4, rfl, _⟩ := hc4.ex
      have hz4 := hO4.1
      rw [mx_size] at hz4
      simp only [List.length_cons, List.length_nil] at hz4
      have d4 := (hO4.2 N0.size (by rw [mx_size]; simp)).trans (mx_new0 N0 _)
      have s4 : N0.size < M4.size := by omega
      have hO5 : Old N0 (M4.set N0.size (.cells [.int .u8 z.k, .string ⟨z.d.toArray⟩, .slice a4 z.es.length cap4] 26 true .exact)) := ⟨by rw [AMem.size_set]; omega, fun y hy => by rw [AMem.get_set_ne _ _ (by omega), hO4.2 y (by rw [mx_size]; omega), mx_old hy]⟩
      have d5 := AMem.get_set_self M4 N0.size (.cells [.int .u8 z.k, .string ⟨z.d.toArray⟩, .slice a4 z.es.length cap4] 26 true .exact)
      have s5 : N0.size < (M4.set N0.size (.cells [.int .u8 z.k, .string ⟨z.d.toArray⟩, .slice a4 z.es.length cap4] 26 true .exact)).size := by rw [AMem.size_set]; exact s4
      have b4 : (M4.set N0.size (.cells [.int .u8 z.k, .string ⟨z.d.toArray⟩, .slice a4 z.es.length cap4] 26 true .exact)).get m.size = _ := (hO5.2 _ sN).trans bN
      repeat first | simp (implicitDefEqProofs := false) (maxSteps := 1000000) (disch := first | omega | with_reducible assumption | (simp only [lenT, Nat.reduceAdd]; omega)) only [amT, cut, bnd, Nat.reduceBEq, reduceCtorEq, Nat.reduceEqDiff, Nat.reduceAdd, Nat.reduceMul, Nat.reduceSub, Int.reduceToNat, Int.reduceEq, Int.reduceLT, Int.reduceLE, Int.reduceAdd, Int.reduceSub, Int.reduceMul, reduceIte, resVs, resV, packV, initT, addr, cellsOf_node, splice3, d4, s4, BarA_sl] | refine OrW.go ?_
      generalize M4.set N0.size (.cells [.int .u8 z.k, .string ⟨z.d.toArray⟩, .slice a4 z.es.length cap4] 26 true .exact) = M5 at *
      have zs5 : m.size < M5.size := by omega
      have tM5 : M3.size < M5.size := by omega
      have tL5 : bL < M5.size := by omega
      have bM5 := (hO5.2 _ sMN).trans bMN
      have r5 := r0
      rw [← hO5.2 bL hbb] at r5
      have p5 := q0
      rw [← ((hO3.trans hOM).trans hO5).2 bL hbL] at p5
      have kC := DetC.known (count_ok (mx M5 []) tr _ ((hmem0.old hOM).old (hO5.trans (Old.here M5 []))) (by omega))
      rw [← hlen] at kC
      obtain ⟨capT, htk, hST⟩ := StrS_takeM (hS3.old (hOM.trans hO5)) (SlE.len_lt (by omega)) (k := i) (by omega)
      have htk' := fun objs => htk (mx M5 objs) (Old.here M5 objs)
      have kH := DetC.known (has_ok (mx M5 []) _ capT (ls.take i) ls[i] (hST.old (Old.here M5 [])) (by rw [List.length_take]; omega))
      have hnot : ls[i] ∉ ls.take i := by
        intro hm
        obtain ⟨j, hj, e⟩ := List.getElem_of_mem hm
        rw [List.length_take] at hj
        rw [List.getElem_take] at e
        have := (List.getElem_inj hnd).1 e
        omega
      rw [decide_eq_false hnot] at kH
      have kB1 := fun M => DetC.known (below_ok M ls[pn] ls[i] (by omega))
      have kB2 := fun M => DetC.known (below_ok M ls[i] ls[pn] (by omega))
      have hON5 := hON.trans hO5
      by_cases hi1 : i = 0
      · have g5 : ¬ (i : Int) > 0 := by omega
        repeat first | simp (implicitDefEqProofs := false) (maxSteps := 1000000) (disch := first | omega | with_reducible assumption | (simp only [lenT, Nat.reduceAdd]; omega)) only [amT, cut, bnd, Nat.reduceBEq, reduceCtorEq, Nat.reduceEqDiff, Nat.reduceAdd, Nat.reduceMul, Nat.reduceSub, Int.reduceToNat, Int.reduceEq, Int.reduceLT, Int.reduceLE, Int.reduceAdd, Int.reduceSub, Int.reduceMul, reduceIte, resVs, resV, packV, initT, addr, t3, t5, t7, t8, t9, t10, t11, b4, zs5, cutL3, kC, g5, undef] | refine OrW.go ?_
        by_cases he : e = 0
        · subst he
          cases hb1 : belowB ls[pn] ls[i] with
          | true =>
            rw [hb1] at kB1
            repeat first | simp (implicitDefEqProofs := false) (maxSteps := 1000000) (disch := first | omega | with_reducible assumption | (simp only [lenT, Nat.reduceAdd]; omega)) only [amT, cut, bnd, Nat.reduceBEq, reduceCtorEq, Nat.reduceEqDiff, Nat.reduceAdd, Nat.reduceMul, Nat.reduceSub, Int.reduceToNat, Int.reduceEq, Int.reduceLT, Int.reduceLE, Int.reduceAdd, Int.reduceSub, Int.reduceMul, reduceIte, resVs, resV, packV, initT, addr, t3, t5, t7, t8, t9, t10, t11, r5, tL5, kB1, undef] | refine OrW.go ?_
            rw [LoopK_normal]; refine ⟨_, ?_, i + 1, M5, rfl, rfl, ?qm, ?q3, ?q5, ?q7, ?q8, ?q9, ?q10, ?q11, ?_⟩
            case qm | q3 | q5 | q7 | q8 | q9 | q10 | q11 => first | rfl | (simp (implicitDefEqProofs := false) (maxSteps := 1000000) (disch := first | omega | with_reducible assumption | (simp only [lenT, Nat.reduceAdd]; omega)) only [amT, cut, bnd, Nat.reduceBEq, reduceCtorEq, Nat.reduceEqDiff, Nat.reduceAdd, Nat.reduceMul, Nat.reduceSub, Int.reduceToNat, Int.reduceEq, Int.reduceLT, Int.reduceLE, Int.reduceAdd, Int.reduceSub, Int.reduceMul, reduceIte, resVs, resV, packV, initT, addr, t3, t5, t7, t8, t9, t10, t11, Int.natCast_add]; first | done | rfl | (congr 1; omega))
            · omega
            · exact ⟨by omega, hON5⟩
          | false =>
            rw [hb1] at kB1
            cases hb2 : belowB ls[i] ls[pn] with
            | true =>
              rw [hb2] at kB2
              repeat first | simp (implicitDefEqProofs := false) (maxSteps := 1000000) (disch := first | omega | with_reducible assumption | (simp only [lenT, Nat.reduceAdd]; omega)) only [amT, cut, bnd, Nat.reduceBEq, reduceCtorEq, Nat.reduceEqDiff, Nat.reduceAdd, Nat.reduceMul, Nat.reduceSub, Int.reduceToNat, Int.reduceEq, Int.reduceLT, Int.reduceLE, Int.reduceAdd, Int.reduceSub, Int.reduceMul, reduceIte, resVs, resV, packV, initT, addr, t3, t5, t7, t8, t9, t10, t11, r5, tL5, kB1, kB2] | refine OrW.go ?_
              rw [LoopK_normal]; refine ⟨_, ?_, i + 1, M5, rfl, rfl, ?qm, ?q3, ?q5, ?q7, ?q8, ?q9, ?q10, ?q11, ?_⟩
              case qm | q3 | q5 | q7 | q8 | q9 | q10 | q11 => first | rfl | (simp (implicitDefEqProofs := false) (maxSteps := 1000000) (disch := first | omega | with_reducible assumption | (simp only [lenT, Nat.reduceAdd]; omega)) only [amT, cut, bnd, Nat.reduceBEq, reduceCtorEq, Nat.reduceEqDiff, Nat.reduceAdd, Nat.reduceMul, Nat.reduceSub, Int.reduceToNat, Int.reduceEq, Int.reduceLT, Int.reduceLE, Int.reduceAdd, Int.reduceSub, Int.reduceMul, reduceIte, resVs, resV, packV, initT, addr, t3, t5, t7, t8, t9, t10, t11, Int.natCast_add]; first | done | rfl | (congr 1; omega))
              · omega
              · exact ⟨by omega, hON5⟩
            | false =>
              rw [hb2] at kB2
              have hkp := hkeep' _ hqmem rfl hb1 hb2
              rw [hz] at hkp
              repeat first | simp (implicitDefEqProofs := false) (maxSteps := 1000000) (disch := first | omega | with_reducible assumption | (simp only [lenT, Nat.reduceAdd]; omega)) only [amT, cut, bnd, Nat.reduceBEq, reduceCtorEq, Nat.reduceEqDiff, Nat.reduceAdd, Nat.reduceMul, Nat.reduceSub, Int.reduceToNat, Int.reduceEq, Int.reduceLT, Int.reduceLE, Int.reduceAdd, Int.reduceSub, Int.reduceMul, reduceIte, resVs, resV, packV, initT, addr, t3, t5, t7, t8, t9, t10, t11, r5, tL5, kB1, kB2, bM5, tM5, cutL3] | refine OrW.go ?_
              refine RelC.call (at_ok M3 _ u _ ls[i] hc3'' ((hOM.trans hO5).trans (Old.here M5 _)) (by omega) (by omega)) ?_
              rintro v M6 ⟨hO6, c6, rfl, hc6⟩
              rw [hkp] at hc6 ⊢
              simp only at hc6
              have hc6' := hc6
              obtain ⟨a6, cap6, rfl, _⟩ := hc6.ex
              have hz6 := hO6.1
              rw [mx_size] at hz6
              simp only [List.length_cons, List.length_nil] at hz6
              have d6 := (hO6.2 M5.size (by rw [mx_size]; simp)).trans (mx_new0 M5 _)
              have s6 : M5.size < M6.size := by omega
              have d56 := ((hO6.2 N0.size (by rw [mx_size]; omega)).trans (mx_old s5)).trans d5
              have hO7 : Old M5 (M6.set M5.size (.cells [.int .u8 z.k, .string ⟨z.d.toArray⟩, .slice a6 z.es.length cap6] 26 true .exact)) := ⟨by rw [AMem.size_set]; omega, fun y hy => by rw [AMem.get_set_ne _ _ (by omega), hO6.2 y (by rw [mx_size]; omega), mx_old hy]⟩
              have d7 := AMem.get_set_self M6 M5.size (.cells [.int .u8 z.k, .string ⟨z.d.toArray⟩, .slice a6 z.es.length cap6] 26 true .exact)
              have s7 : M5.size < (M6.set M5.size (.cells [.int .u8 z.k, .string ⟨z.d.toArray⟩, .slice a6 z.es.length cap6] 26 true .exact)).size := by rw [AMem.size_set]; exact s6
              repeat first | simp (implicitDefEqProofs := false) (maxSteps := 1000000) (disch := first | omega | with_reducible assumption | (simp only [lenT, Nat.reduceAdd]; omega)) only [amT, cut, bnd, Nat.reduceBEq, reduceCtorEq, Nat.reduceEqDiff, Nat.reduceAdd, Nat.reduceMul, Nat.reduceSub, Int.reduceToNat, Int.reduceEq, Int.reduceLT, Int.reduceLE, Int.reduceAdd, Int.reduceSub, Int.reduceMul, reduceIte, resVs, resV, packV, initT, addr, t3, t5, t7, t8, t9, t10, t11, cellsOf_node, splice3, d6, s6, BarA_sl] | refine OrW.go ?_
              generalize M6.set M5.size (.cells [.int .u8 z.k, .string ⟨z.d.toArray⟩, .slice a6 z.es.length cap6] 26 true .exact) = M7 at *
              have d57 := (hO7.2 _ s5).trans d5
              have s57 : N0.size < M7.size := by omega
              have hO37 := ((hOM.trans hO5).trans hO7).trans (Old.here M7 [])
              have kS := DetC.known (same_ok z (by omega) z _ _ _ (hc4'.old hO37) (hc6'.old hO37))
              rw [Tr.same_self] at kS
              repeat first | simp (implicitDefEqProofs := false) (maxSteps := 1000000) (disch := first | omega | with_reducible assumption | (simp only [lenT, Nat.reduceAdd]; omega)) only [amT, cut, bnd, Nat.reduceBEq, reduceCtorEq, Nat.reduceEqDiff, Nat.reduceAdd, Nat.reduceMul, Nat.reduceSub, Int.reduceToNat, Int.reduceEq, Int.reduceLT, Int.reduceLE, Int.reduceAdd, Int.reduceSub, Int.reduceMul, reduceIte, resVs, resV, packV, initT, addr, t3, t5, t7, t8, t9, t10, t11, d7, d56, d57, s7, s57, cutL3, kS] | refine OrW.go ?_
              rw [LoopK_normal]; refine ⟨_, ?_, i + 1, M7, rfl, rfl, ?qm, ?q3, ?q5, ?q7, ?q8, ?q9, ?q10, ?q11, ?_⟩
              case qm | q3 | q5 | q7 | q8 | q9 | q10 | q11 => first | rfl | (simp (implicitDefEqProofs := false) (maxSteps := 1000000) (disch := first | omega | with_reducible assumption | (simp only [lenT, Nat.reduceAdd]; omega)) only [amT, cut, bnd, Nat.reduceBEq, reduceCtorEq, Nat.reduceEqDiff, Nat.reduceAdd, Nat.reduceMul, Nat.reduceSub, Int.reduceToNat, Int.reduceEq, Int.reduceLT, Int.reduceLE, Int.reduceAdd, Int.reduceSub, Int.reduceMul, reduceIte, resVs, resV, packV, initT, addr, t3, t5, t7, t8, t9, t10, t11, Int.natCast_add]; first | done | rfl | (congr 1; omega))
              · omega
              · exact ⟨by omega, hON5.trans hO7⟩
        · repeat first | simp (implicitDefEqProofs := false) (maxSteps := 1000000) (disch := first | omega | with_reducible assumption | (simp only [lenT, Nat.reduceAdd]; omega)) only [amT, cut, bnd, Nat.reduceBEq, reduceCtorEq, Nat.reduceEqDiff, Nat.reduceAdd, Nat.reduceMul, Nat.reduceSub, Int.reduceToNat, Int.reduceEq, Int.reduceLT, Int.reduceLE, Int.reduceAdd, Int.reduceSub, Int.reduceMul, reduceIte, resVs, resV, packV, initT, addr, t3, t5, t7, t8, t9, t10, t11, he, undef] | refine OrW.go ?_
          rw [LoopK_normal]; refine ⟨_, ?_, i + 1, M5, rfl, rfl, ?qm, ?q3, ?q5, ?q7, ?q8, ?q9, ?q10, ?q11, ?_⟩
          case qm | q3 | q5 | q7 | q8 | q9 | q10 | q11 => first | rfl | (simp (implicitDefEqProofs := false) (maxSteps := 1000000) (disch := first | omega | with_reducible assumption | (simp only [lenT, Nat.reduceAdd]; omega)) only [amT, cut, bnd, Nat.reduceBEq, reduceCtorEq, Nat.reduceEqDiff, Nat.reduceAdd, Nat.reduceMul, Nat.reduceSub, Int.reduceToNat, Int.reduceEq, Int.reduceLT, Int.reduceLE, Int.reduceAdd, Int.reduceSub, Int.reduceMul, reduceIte, resVs, resV, packV, initT, addr, t3, t5, t7, t8, t9, t10, t11, Int.natCast_add]; first | done | rfl | (congr 1; omega))
          · omega
          · exact ⟨by omega, hON5⟩
      · have g5 : (i : Int) > 0 := by omega
        repeat first | simp (implicitDefEqProofs := false) (maxSteps := 1000000) (disch := first | omega | with_reducible assumption | (simp only [lenT, Nat.reduceAdd]; omega)) only [amT, cut, bnd, Nat.reduceBEq, reduceCtorEq, Nat.reduceEqDiff, Nat.reduceAdd, Nat.reduceMul, Nat.reduceSub, Int.reduceToNat, Int.reduceEq, Int.reduceLT, Int.reduceLE, Int.reduceAdd, Int.reduceSub, Int.reduceMul, reduceIte, resVs, resV, packV, initT, addr, t3, t5, t7, t8, t9, t10, t11, b4, zs5, tL5, cutL3, kC, g5, stepOp_slV_v, htk', r5, kH] | refine OrW.go ?_
        by_cases he : e = 0
        · subst he
          cases hb1 : belowB ls[pn] ls[i] with
          | true =>
            rw [hb1] at kB1
            repeat first | simp (implicitDefEqProofs := false) (maxSteps := 1000000) (disch := first | omega | with_reducible assumption | (simp only [lenT, Nat.reduceAdd]; omega)) only [amT, cut, bnd, Nat.reduceBEq, reduceCtorEq, Nat.reduceEqDiff, Nat.reduceAdd, Nat.reduceMul, Nat.reduceSub, Int.reduceToNat, Int.reduceEq, Int.reduceLT, Int.reduceLE, Int.reduceAdd, Int.reduceSub, Int.reduceMul, reduceIte, resVs, resV, packV, initT, addr, t3, t5, t7, t8, t9, t10, t11, r5, tL5, kB1, undef] | refine OrW.go ?_
            rw [LoopK_normal]; refine ⟨_, ?_, i + 1, M5, rfl, rfl, ?qm, ?q3, ?q5, ?q7, ?q8, ?q9, ?q10, ?q11, ?_⟩
            case qm | q3 | q5 | q7 | q8 | q9 | q10 | q11 => first | rfl | (simp (implicitDefEqProofs := false) (maxSteps := 1000000) (disch := first | omega | with_reducible assumption | (simp only [lenT, Nat.reduceAdd]; omega)) only [amT, cut, bnd, Nat.reduceBEq, reduceCtorEq, Nat.reduceEqDiff, Nat.reduceAdd, Nat.reduceMul, Nat.reduceSub, Int.reduceToNat, Int.reduceEq, Int.reduceLT, Int.reduceLE, Int.reduceAdd, Int.reduceSub, Int.reduceMul, reduceIte, resVs, resV, packV, initT, addr, t3, t5, t7, t8, t9, t10, t11, Int.natCast_add]; first | done | rfl | (congr 1; omega))
            · omega
            · exact ⟨by omega, hON5⟩
          | false =>
            rw [hb1] at kB1
            cases hb2 : belowB ls[i] ls[pn] with
            | true =>
              rw [hb2] at kB2
              repeat first | simp (implicitDefEqProofs := false) (maxSteps := 1000000) (disch := first | omega | with_reducible assumption | (simp only [lenT, Nat.reduceAdd]; omega)) only [amT, cut, bnd, Nat.reduceBEq, reduceCtorEq, Nat.reduceEqDiff, Nat.reduceAdd, Nat.reduceMul, Nat.reduceSub, Int.reduceToNat, Int.reduceEq, Int.reduceLT, Int.reduceLE, Int.reduceAdd, Int.reduceSub, Int.reduceMul, reduceIte, resVs, resV, packV, initT, addr, t3, t5, t7, t8, t9, t10, t11, r5, tL5, kB1, kB2] | refine OrW.go ?_
              rw [LoopK_normal]; refine ⟨_, ?_, i + 1, M5, rfl, rfl, ?qm, ?q3, ?q5, ?q7, ?q8, ?q9, ?q10, ?q11, ?_⟩
              case qm | q3 | q5 | q7 | q8 | q9 | q10 | q11 => first | rfl | (simp (implicitDefEqProofs := false) (maxSteps := 1000000) (disch := first | omega | with_reducible assumption | (simp only [lenT, Nat.reduceAdd]; omega)) only [amT, cut, bnd, Nat.reduceBEq, reduceCtorEq, Nat.reduceEqDiff, Nat.reduceAdd, Nat.reduceMul, Nat.reduceSub, Int.reduceToNat, Int.reduceEq, Int.reduceLT, Int.reduceLE, Int.reduceAdd, Int.reduceSub, Int.reduceMul, reduceIte, resVs, resV, packV, initT, addr, t3, t5, t7, t8, t9, t10, t11, Int.natCast_add]; first | done | rfl | (congr 1; omega))
              · omega
              · exact ⟨by omega, hON5⟩
            | false =>
              rw [hb2] at kB2
              have hkp := hkeep' _ hqmem rfl hb1 hb2
              rw [hz] at hkp
              repeat first | simp (implicitDefEqProofs := false) (maxSteps := 1000000) (disch := first | omega | with_reducible assumption | (simp only [lenT, Nat.reduceAdd]; omega)) only [amT, cut, bnd, Nat.reduceBEq, reduceCtorEq, Nat.reduceEqDiff, Nat.reduceAdd, Nat.reduceMul, Nat.reduceSub, Int.reduceToNat, Int.reduceEq, Int.reduceLT, Int.reduceLE, Int.reduceAdd, Int.reduceSub, Int.reduceMul, reduceIte, resVs, resV, packV, initT, addr, t3, t5, t7, t8, t9, t10, t11, r5, tL5, kB1, kB2, bM5, tM5, cutL3] | refine OrW.go ?_
              refine RelC.call (at_ok M3 _ u _ ls[i] hc3'' ((hOM.trans hO5).trans (Old.here M5 _)) (by omega) (by omega)) ?_
              rintro v M6 ⟨hO6, c6, rfl, hc6⟩
              rw [hkp] at hc6 ⊢
              simp only at hc6
              have hc6' := hc6
              obtain ⟨a6, cap6, rfl, _⟩ := hc6.ex
              have hz6 := hO6.1
              rw [mx_size] at hz6
              simp only [List.length_cons, List.length_nil] at hz6
              have d6 := (hO6.2 M5.size (by rw [mx_size]; simp)).trans (mx_new0 M5 _)
              have s6 : M5.size < M6.size := by omega
              have d56 := ((hO6.2 N0.size (by rw [mx_size]; omega)).trans (mx_old s5)).trans d5
              have hO7 : Old M5 (M6.set M5.size (.cells [.int .u8 z.k, .string ⟨z.d.toArray⟩, .slice a6 z.es.length cap6] 26 true .exact)) := ⟨by rw [AMem.size_set]; omega, fun y hy => by rw [AMem.get_set_ne _ _ (by omega), hO6.2 y (by rw [mx_size]; omega), mx_old hy]⟩
              have d7 := AMem.get_set_self M6 M5.size (.cells [.int .u8 z.k, .string ⟨z.d.toArray⟩, .slice a6 z.es.length cap6] 26 true .exact)
              have s7 : M5.size < (M6.set M5.size (.cells [.int .u8 z.k, .string ⟨z.d.toArray⟩, .slice a6 z.es.length cap6] 26 true .exact)).size := by rw [AMem.size_set]; exact s6
              repeat first | simp (implicitDefEqProofs := false) (maxSteps := 1000000) (disch := first | omega | with_reducible assumption | (simp only [lenT, Nat.reduceAdd]; omega)) only [amT, cut, bnd, Nat.reduceBEq, reduceCtorEq, Nat.reduceEqDiff, Nat.reduceAdd, Nat.reduceMul, Nat.reduceSub, Int.reduceToNat, Int.reduceEq, Int.reduceLT, Int.reduceLE, Int.reduceAdd, Int.reduceSub, Int.reduceMul, reduceIte, resVs, resV, packV, initT, addr, t3, t5, t7, t8, t9, t10, t11, cellsOf_node, splice3, d6, s6, BarA_sl] | refine OrW.go ?_
              generalize M6.set M5.size (.cells [.int .u8 z.k, .string ⟨z.d.toArray⟩, .slice a6 z.es.length cap6] 26 true .exact) = M7 at *
              have d57 := (hO7.2 _ s5).trans d5
              have s57 : N0.size < M7.size := by omega
              have hO37 := ((hOM.trans hO5).trans hO7).trans (Old.here M7 [])
              have kS := DetC.known (same_ok z (by omega) z _ _ _ (hc4'.old hO37) (hc6'.old hO37))
              rw [Tr.same_self] at kS
              repeat first | simp (implicitDefEqProofs := false) (maxSteps := 1000000) (disch := first | omega | with_reducible assumption | (simp only [lenT, Nat.reduceAdd]; omega)) only [amT, cut, bnd, Nat.reduceBEq, reduceCtorEq, Nat.reduceEqDiff, Nat.reduceAdd, Nat.reduceMul, Nat.reduceSub, Int.reduceToNat, Int.reduceEq, Int.reduceLT, Int.reduceLE, Int.reduceAdd, Int.reduceSub, Int.reduceMul, reduceIte, resVs, resV, packV, initT, addr, t3, t5, t7, t8, t9, t10, t11, d7, d56, d57, s7, s57, cutL3, kS] | refine OrW.go ?_
              rw [LoopK_normal]; refine ⟨_, ?_, i + 1, M7, rfl, rfl, ?qm, ?q3, ?q5, ?q7, ?q8, ?q9, ?q10, ?q11, ?_⟩
              case qm | q3 | q5 | q7 | q8 | q9 | q10 | q11 => first | rfl | (simp (implicitDefEqProofs := false) (maxSteps := 1000000) (disch := first | omega | with_reducible assumption | (simp only [lenT, Nat.reduceAdd]; omega)) only [amT, cut, bnd, Nat.reduceBEq, reduceCtorEq, Nat.reduceEqDiff, Nat.reduceAdd, Nat.reduceMul, Nat.reduceSub, Int.reduceToNat, Int.reduceEq, Int.reduceLT, Int.reduceLE, Int.reduceAdd, Int.reduceSub, Int.reduceMul, reduceIte, resVs, resV, packV, initT, addr, t3, t5, t7, t8, t9, t10, t11, Int.natCast_add]; first | done | rfl | (congr 1; omega))
              · omega
              · exact ⟨by omega, hON5.trans hO7⟩
        · repeat first | simp (implicitDefEqProofs := false) (maxSteps := 1000000) (disch := first | omega | with_reducible assumption | (simp only [lenT, Nat.reduceAdd]; omega)) only [amT, cut, bnd, Nat.reduceBEq, reduceCtorEq, Nat.reduceEqDiff, Nat.reduceAdd, Nat.reduceMul, Nat.reduceSub, Int.reduceToNat, Int.reduceEq, Int.reduceLT, Int.reduceLE, Int.reduceAdd, Int.reduceSub, Int.reduceMul, reduceIte, resVs, resV, packV, initT, addr, t3, t5, t7, t8, t9, t10, t11, he, undef] | refine OrW.go ?_
          rw [LoopK_normal]; refine ⟨_, ?_, i + 1, M5, rfl, rfl, ?qm, ?q3, ?q5, ?q7, ?q8, ?q9, ?q10, ?q11, ?_⟩
          case qm | q3 | q5 | q7 | q8 | q9 | q10 | q11 => first | rfl | (simp (implicitDefEqProofs := false) (maxSteps := 1000000) (disch := first | omega | with_reducible assumption | (simp only [lenT, Nat.reduceAdd]; omega)) only [amT, cut, bnd, Nat.reduceBEq, reduceCtorEq, Nat.reduceEqDiff, Nat.reduceAdd, Nat.reduceMul, Nat.reduceSub, Int.reduceToNat, Int.reduceEq, Int.reduceLT, Int.reduceLE, Int.reduceAdd, Int.reduceSub, Int.reduceMul, reduceIte, resVs, resV, packV, initT, addr, t3, t5, t7, t8, t9, t10, t11, Int.natCast_add]; first | done | rfl | (congr 1; omega))
          · omega
          · exact ⟨by omega, hON5⟩
    · by_cases he : e = 0
      · subst he
        obtain ⟨hp1, hp2⟩ := hputat rfl
        have kR := fun objs => right_ok (mx N0 objs) u _ (hc3''.old (hOM.trans (Old.here N0 objs))) (by omega)
        repeat first | simp (implicitDefEqProofs := false) (maxSteps := 1000000) (disch := first | omega | with_reducible assumption | (simp only [lenT, Nat.reduceAdd]; omega)) only [amT, cut, bnd, Nat.reduceBEq, reduceCtorEq, Nat.reduceEqDiff, Nat.reduceAdd, Nat.reduceMul, Nat.reduceSub, Int.reduceToNat, Int.reduceEq, Int.reduceLT, Int.reduceLE, Int.reduceAdd, Int.reduceSub, Int.reduceMul, reduceIte, resVs, resV, packV, initT, addr, F8_l0, t3, t5, t7, t8, t9, t10, t11, h1, bMN, sMN, cutL3] | refine OrW.go ?_
        refine RelC.call (at_ok M3 _ u _ ls[pn] hc3'' (hOM.trans (Old.here N0 [])) (by omega) (by omega)) ?_
        rintro v M4 ⟨hO4', c4, rfl, hc4⟩
        have hO4 := (Old.here N0 []).trans hO4'
        rw [hp1] at hc4 ⊢
        simp only at hc4
        have hc4' := hc4
        obtain ⟨a4, cap4, rfl, _⟩ := hc4.ex
        have bM4 := (hO4.2 _ sMN).trans bMN
        have bx4 := (hO4.2 _ sN').trans bxN
        have tM4 : M3.size < M4.size := Nat.lt_of_lt_of_le sMN hO4.1
        have tx4 : m.size + 1 < M4.size := Nat.lt_of_lt_of_le sN' hO4.1
        have hO34 := (hOM.trans hO4).trans (Old.here M4 [.cells [.int .u8 x.k, .string ⟨x.d.toArray⟩, .slice a4 x.es.length cap4] 26 true .exact])
        have kS := DetC.known (same_ok x (by omega) x _ _ _ (hc4'.old hO34) (hmemx.old hO34))
        rw [Tr.same_self] at kS
        have kR := DetC.known (right_ok _ u _ (hc3''.old hO34) (by omega))
        rw [hp2] at kR
        repeat first | simp (implicitDefEqProofs := false) (maxSteps := 1000000) (disch := first | omega | with_reducible assumption | (simp only [lenT, Nat.reduceAdd]; omega)) only [amT, cut, bnd, Nat.reduceBEq, reduceCtorEq, Nat.reduceEqDiff, Nat.reduceAdd, Nat.reduceMul, Nat.reduceSub, Int.reduceToNat, Int.reduceEq, Int.reduceLT, Int.reduceLE, Int.reduceAdd, Int.reduceSub, Int.reduceMul, reduceIte, resVs, resV, packV, initT, addr, t3, t5, t7, t8, t9, t10, t11, cellsOf_node, splice3, cutL3, bM4, bx4, tM4, tx4, kS, kR, kW] | refine OrW.go ?_
        exact ⟨_, rfl, fun _ => rfl⟩
      · repeat first | simp (implicitDefEqProofs := false) (maxSteps := 1000000) (disch := first | omega | with_reducible assumption | (simp only [lenT, Nat.reduceAdd]; omega)) only [amT, cut, bnd, Nat.reduceBEq, reduceCtorEq, Nat.reduceEqDiff, Nat.reduceAdd, Nat.reduceMul, Nat.reduceSub, Int.reduceToNat, Int.reduceEq, Int.reduceLT, Int.reduceLE, Int.reduceAdd, Int.reduceSub, Int.reduceMul, reduceIte, resVs, resV, packV, initT, addr, F8_l0, t3, t5, t7, t8, t9, t10, t11, h1, he, kW] | refine OrW.go ?_
        exact ⟨_, rfl, fun _ => rfl⟩
theorem lawPathsA (m : AMem) (t x : Tr) (c cx : List Value) (k : Int) (hc : TrC m t c) (hx : TrC m x cx) (hk : -9223372036854775808 ≤ k ∧ k ≤ 9223372036854775807) : ACall Tryd.prog 3 8 [.agg c.toArray, .int .i64 k, .agg cx.toArray] m fun r _ => r = .ret (.bool true) ∧ True :=
  ACall.mono (lawPaths m t x c cx k hc hx hk) fun r _ ⟨v, h1, h2⟩ => ⟨by rw [h1, h2], trivial⟩
end Go.Proofs.YtfjgpeoblnpelaaDoor
namespace Go.Proofs.YtfjgpeoblnpelaaDoor.gl
theorem wf_i64k {n : Int} (h : (Lit.int .i64 n).wf = true) : -9223372036854775808 ≤ n ∧ n ≤ 9223372036854775807 := by
  simp [Lit.wf, IntKind.min, IntKind.max, IntKind.signed, IntKind.bits] at h
  omega
end Go.Proofs.YtfjgpeoblnpelaaDoor.gl
namespace Go.Proofs.YtfjgpeoblnpelaaDoor.gl
open Go.ChangeShapes Go.WideShapes Go.ChangeAt Go.RowKit
set_option linter.unusedVariables false
set_option maxRecDepth 100000
theorem own : ownKnob Tryd.prog.godebug = none := by kernel_rfl
theorem laidOut : laidOutB Tryd.prog = true := by kernel_rfl
abbrev laid : List (String × DataW Unit) := [("unicode/utf8.acceptRanges", Rows.laid_unicode_utf8_acceptRanges), ("unicode/utf8.first", Rows.laid_unicode_utf8_first)]

/-- The third listed variable lies where it should. -/
theorem globs {W : World} (h : laidMetH Tryd.prog laid W) : ∃ cs ty frz, W.heap[2]? = some (.cells cs ty frz) := by
  rw [MakeChecks.laidMetH_plain _ _ _ (by kernel_rfl)] at h
  obtain ⟨ps, ⟨g, t, cs, fuel, p, q, hg, ht, hv, hd, _⟩, _⟩ := h
  have k0 : Tryd.prog.globalNamed "unicode/utf8.acceptRanges" = some 2 := by kernel_rfl
  simp only [World.var?, k0, Option.bind_some] at hv
  split at hv
  · rename_i cs' ty frz hh
    exact ⟨cs', ty, frz, hh⟩
  · cases hv
def accCells : List Value := [128, 191, 160, 191, 128, 159, 144, 191, 128, 143, 0, 0, 0, 0, 0, 0, 0, 0, 0, 0, 0, 0, 0, 0, 0, 0, 0, 0, 0, 0, 0, 0].map fun n => .int .u8 n
/-- A world in which they are as listed. -/
noncomputable def laidWorld (os : Os) : World :=
  let w0 := World.holding Tryd.prog os ⟨#[], #[], []⟩
  { w0 with heap := (w0.heap.modify 2 fun
      | .cells _ t frozen => .cells accCells.toArray t frozen
      | o => o).modify 1 fun
      | .cells _ t frozen => .cells (Go.Pinned.utf8FirstZ.map fun n : Nat => Value.int .u8 (n : Int)).toArray t frozen
      | o => o }
theorem laidWorld_met (os : Os) (args : Array Value) : laidMetH Tryd.prog laid ((laidWorld os).forCall (fun _ _ => 0) ⟨#[], args, []⟩).memory := by
  rw [MakeChecks.laidMetH_plain _ _ _ (by kernel_rfl)]
  exact laidMet_of_run' 8 (by kernel_rfl) (by kernel_rfl)
end Go.Proofs.YtfjgpeoblnpelaaDoor.gl
namespace Go.Proofs.YtfjgpeoblnpelaaDoor.gl
open Go.ChangeShapes Go.WideShapes Go.ChangeAt Go.RowKit
set_option linter.unusedVariables false
set_option maxRecDepth 100000
set_option maxHeartbeats 1000000

/-- The memory of which a law speaks: the variables, and what the arguments lead to. -/
def osOf (ty : TypeId) (l : List (AM.AObj × AM.Loc)) : List (AM.AObj × AM.Loc) :=
  (.dead, ⟨0, 0, 0, 1⟩) :: (.dead, ⟨1, 0, 0, 1⟩) :: (.cells [] ty false (.full 1), ⟨2, 0, 0, 1⟩) :: l
theorem wrtL {ty : TypeId} {l : List (AM.AObj × AM.Loc)} (hl : ∀ x ∈ l, x.1.wrt = false) : ∀ x ∈ osOf ty l, x.1.wrt = false := fun x hx => by
  simp only [osOf, List.mem_cons] at hx
  rcases hx with rfl | rfl | rfl | hx
  · rfl
  · rfl
  · rfl
  · exact hl x hx
theorem rep {W : World} {ty : TypeId} {cs : Array Value} {frz : Nat × Nat} (h : W.heap[2]? = some (.cells cs ty frz))
    {l : List (AM.AObj × AM.Loc)} (hl : ∀ x ∈ l, AM.ObjRel (AM.renOf (osOf ty l)) x.1 x.2 W) (hw : ∀ x ∈ l, x.1.wrt = false) : AM.Rep 3 (AM.memOf (osOf ty l)) (AM.renOf (osOf ty l)) W := by
  refine AM.Rep.of (osOf ty l) (fun g hg => ?_) (fun x hx => ?_) (wrtL hw)
  · match g, hg with
    | 0, _ => exact ⟨_, rfl, rfl, rfl⟩
    | 1, _ => exact ⟨_, rfl, rfl, rfl⟩
    | 2, _ => exact ⟨_, rfl, rfl, rfl⟩
  · simp only [osOf, List.mem_cons] at hx
    rcases hx with rfl | rfl | rfl | hx
    · trivial
    · trivial
    · exact AM.ObjRel.plain (c := []) (o := 0) h (by simp) (fun j hj => by cases hj) (fun v hv => by cases hv) 1 (by omega)
    · exact hl x hx
theorem os_at {ty : TypeId} {l : List (AM.AObj × AM.Loc)} {k : Nat} {x : AM.AObj × AM.Loc} (h : l[k]? = some x) : (osOf ty l)[3 + k]? = some x := by
  rw [Nat.add_comm]; exact h
theorem get_at {ty : TypeId} {l : List (AM.AObj × AM.Loc)} {k : Nat} {x : AM.AObj × AM.Loc} (h : l[k]? = some x) : (AM.memOf (osOf ty l)).get (3 + k) = x.1 := by
  simp only [AM.memOf, os_at h]
theorem ren_at {ty : TypeId} {l : List (AM.AObj × AM.Loc)} {k : Nat} {x : AM.AObj × AM.Loc} (h : l[k]? = some x) : AM.renOf (osOf ty l) (3 + k) = some x.2 := by
  simp only [AM.renOf, os_at h, Option.map_some]
theorem lt_at {ty : TypeId} {l : List (AM.AObj × AM.Loc)} {k : Nat} {x : AM.AObj × AM.Loc} (h : l[k]? = some x) : 3 + k < (AM.memOf (osOf ty l)).size := by
  have := (List.getElem?_eq_some_iff.1 h).1
  show 3 + k < l.length + 1 + 1 + 1; omega

/-- An argument whose blocks are those from the k-th on. -/
def Arg (W : World) (k : Nat) (L : List (AM.AObj × AM.Loc)) (F : AM.AMem → AM.Ren → Prop) : Prop :=
  (∀ x ∈ L, x.1.wrt = false) ∧ ∀ (ty : TypeId) (l : List (AM.AObj × AM.Loc)), (∀ j (h : j < L.length), l[k + j]? = some L[j]) → (∀ x ∈ L, AM.ObjRel (AM.renOf (osOf ty l)) x.1 x.2 W) ∧ F (AM.memOf (osOf ty l)) (AM.renOf (osOf ty l))
theorem Arg.none (W : World) (k : Nat) : Arg W k [] fun _ _ => True := ⟨(fun x h => by cases h), fun ty l _ => ⟨(fun x h => by cases h), trivial⟩⟩
theorem Arg.and {W : World} {k : Nat} {L1 L2 : List (AM.AObj × AM.Loc)} {F1 F2 : AM.AMem → AM.Ren → Prop} (h1 : Arg W k L1 F1) (h2 : Arg W (k + L1.length) L2 F2) : Arg W k (L1 ++ L2) fun m ρ => F1 m ρ ∧ F2 m ρ := by
  refine ⟨fun x hx => (List.mem_append.1 hx).elim (h1.1 x) (h2.1 x), fun ty l hl => ?_⟩
  obtain ⟨a1, b1⟩ := h1.2 ty l fun j h => by rw [hl j (by rw [List.length_append]; omega), List.getElem_append_left h]
  obtain ⟨a2, b2⟩ := h2.2 ty l fun j h => by
    rw [Nat.add_assoc, hl (L1.length + j) (by rw [List.length_append]; omega), List.getElem_append_right (by omega)]
    simp only [Nat.add_sub_cancel_left]
  exact ⟨fun x hx => (List.mem_append.1 hx).elim (a1 x) (a2 x), b1, b2⟩
theorem Arg.mono {W : World} {k : Nat} {L : List (AM.AObj × AM.Loc)} {F F' : AM.AMem → AM.Ren → Prop} (h : Arg W k L F) (hf : ∀ m ρ, F m ρ → F' m ρ) : Arg W k L F' :=
  ⟨h.1, fun ty l hl => ⟨(h.2 ty l hl).1, hf _ _ (h.2 ty l hl).2⟩⟩
theorem Arg.all {W : World} {L : List (AM.AObj × AM.Loc)} {F : AM.AMem → AM.Ren → Prop} (h : Arg W 0 L F) (ty : TypeId) : (∀ x ∈ L, AM.ObjRel (AM.renOf (osOf ty L)) x.1 x.2 W) ∧ F (AM.memOf (osOf ty L)) (AM.renOf (osOf ty L)) :=
  h.2 ty L fun j hj => by rw [Nat.zero_add]; exact List.getElem?_eq_getElem hj
/-- n of them, one behind the other. -/
theorem Arg.list {W : World} {α : Type} [Inhabited α] (F : Nat → α → AM.AMem → AM.Ren → Prop) : ∀ (n : Nat), (∀ i, i < n → ∀ k, ∃ L a, Arg W k L (F i a)) → ∀ k, ∃ L, ∃ f : Nat → α, Arg W k L fun m ρ => ∀ i, i < n → F i (f i) m ρ
  | 0, _, k => ⟨[], fun _ => default, (Arg.none W k).mono fun _ _ _ i hi => by omega⟩
  | n + 1, h, k => by
    obtain ⟨L1, f, h1⟩ := Arg.list F n (fun i hi => h i (by omega)) k
    obtain ⟨L2, a, h2⟩ := h n (by omega) (k + L1.length)
    refine ⟨L1 ++ L2, fun i => if i = n then a else f i, (h1.and h2).mono fun m ρ ⟨q1, q2⟩ i hi => ?_⟩
    show F i (if i = n then a else f i) m ρ
    by_cases e : i = n
    · subst e; rw [if_pos rfl]; exact q2
    · rw [if_neg e]; exact q1 i (by omega)

/-- A tree's cells, in a world. -/
inductive TrW (w : World) : AM.Tr → List Value → Prop
  | nil (k : Int) (d : List UInt8) : TrW w (.nd k d []) [.int .u8 k, .string ⟨d.toArray⟩, .slice none 0 0]
  | none (k : Int) (d : List UInt8) (a : Addr) : TrW w (.nd k d []) [.int .u8 k, .string ⟨d.toArray⟩, .slice (some a) 0 0]
  | some (k : Int) (d : List UInt8) (es : List AM.En) (b o cap : Nat) (carr : Array Value) (ty : TypeId) (frz : Nat × Nat) (q : Nat → List Value) (hh : w.heap[b]? = some (.cells carr ty frz)) (hl : o + es.length * 4 ≤ carr.size)
      (hc : ∀ i (h : i < es.length) r, r < 4 → carr.getD (o + (i * 4 + r)) undef = (.string ⟨es[i].n.toArray⟩ :: q i).getD r undef) (hq : ∀ i (h : i < es.length), TrW w es[i].t (q i)) (hcap : cap ≤ 9223372036854775807) (hle : es.length ≤ cap) :
      TrW w (.nd k d es) [.int .u8 k, .string ⟨d.toArray⟩, .slice (some ⟨b, o, Option.none⟩) es.length cap]
theorem TrW.len {w : World} {t : AM.Tr} {cs : List Value} (h : TrW w t cs) : cs.length = 3 := by cases h <;> rfl

/-- A tree as an argument: its blocks are those from the k-th on. -/
theorem arg_tree {W : World} {t : AM.Tr} {cs : List Value} (h : TrW W t cs) : ∀ k, ∃ L q, Arg W k L fun m ρ => AM.TrC m t q ∧ AM.LRel ρ q cs := by
  induction h with
  | nil n d =>
    intro k
    exact ⟨[], [.int .u8 n, .string ⟨d.toArray⟩, .slice none 0 0], (Arg.none W k).mono fun m ρ _ => ⟨AM.trC_mk (AM.SlE.nil m), AM.LRel.cons' (.int _ _) (AM.LRel.cons' (.string _) (AM.LRel.cons' (.nilSlice 0 0) (AM.LRel.nil' _)))⟩⟩
  | none n d a =>
    intro k
    refine ⟨[], [.int .u8 n, .string ⟨d.toArray⟩, .slice (some ⟨2, 0, Option.none⟩) 0 0], fun x hx => (by cases hx), fun ty l _ => ⟨fun x hx => (by cases hx), ?_, ?_⟩⟩
    · have hz : AM.SlE (AM.memOf (osOf ty l)) (some ⟨2, 0, Option.none⟩) 0 [] := by
        refine ⟨[], .inr ⟨2, 0, [], ty, false, .full 1, rfl, by show 2 < l.length + 1 + 1 + 1; omega, rfl, rfl, .inr ⟨?_, Nat.le_refl _⟩⟩, AM.EsC.nil _⟩
        exact AM.openCap_lt (by omega)
      exact AM.trC_mk (k := n) (d := d) hz
    · exact AM.LRel.cons' (.int _ _) (AM.LRel.cons' (.string _) (AM.LRel.cons' (.sliceEnd (b := 2) (o := 0) (L := ⟨2, 0, 0, 1⟩) rfl (.inl rfl)) (AM.LRel.nil' _)))
  | some n d es b o cap carr ty frz q hh hl hc hq hcap hle ih =>
    intro k
    obtain ⟨L, f, hA⟩ := Arg.list (W := W) (α := List Value) (fun i c m ρ => ∀ h : i < es.length, AM.TrC m es[i].t c ∧ AM.LRel ρ c (q i)) es.length (fun i hi k => by
      obtain ⟨L, c, h⟩ := ih i hi k
      exact ⟨L, c, h.mono fun m ρ h _ => h⟩) k
    let row : Nat → List Value := fun i => .string ⟨(es.getD i default).n.toArray⟩ :: f i
    let X : List Value := (List.range (es.length * 4)).map fun j => (row (j / 4)).getD (j % 4) undef
    have hXl : X.length = es.length * 4 := by simp [X]
    have hXg : ∀ i r (hr : r < 4) (hi : i * 4 + r < X.length), X[i * 4 + r] = (row i).getD r undef := fun i r hr hi => by
      simp only [X, List.getElem_map, List.getElem_range]
      rw [show (i * 4 + r) / 4 = i by omega, show (i * 4 + r) % 4 = r by omega]
    have hget : ∀ i (hi : i < es.length), es.getD i default = es[i] := fun i hi => by simp [List.getD, hi]
    refine ⟨L ++ [(.cells X ty false (.full 4), ⟨b, o, es.length * 4, 4⟩)], [.int .u8 n, .string ⟨d.toArray⟩, .slice (some ⟨3 + (k + L.length), 0, Option.none⟩) es.length cap], fun x hx => ?_, fun ty2 l hpl => ?_⟩
    · rcases List.mem_append.1 hx with hx | hx
      · exact hA.1 x hx
      · rw [List.mem_singleton] at hx; subst hx; rfl
    · obtain ⟨a1, b1⟩ := hA.2 ty2 l fun j h => by rw [hpl j (by rw [List.length_append]; omega), List.getElem_append_left h]
      have h0 : l[k + L.length]? = some (.cells X ty false (.full 4), ⟨b, o, es.length * 4, 4⟩) := by
        have := hpl L.length (by rw [List.length_append]; simp)
        rw [this, List.getElem_append_right (Nat.le_refl _)]; simp
      have hE := fun i (hi : i < es.length) => b1 i hi hi
      refine ⟨fun x hx => ?_, ?_, ?_⟩
      · rcases List.mem_append.1 hx with hx | hx
        · exact a1 x hx
        · rw [List.mem_singleton] at hx
          subst hx
          refine ⟨carr, frz, hh, hl, by rw [hXl]; exact Nat.le_refl _, (fun h => by cases h), (fun k h => by cases h; exact ⟨hXl.symm, rfl, by omega⟩), (fun j hj => ?_), (fun z h => by cases h), (fun h => by cases h)⟩
          have hj4 : j / 4 < es.length := by rw [hXl] at hj; omega
          have hjr : j % 4 < 4 := by omega
          have ej : j / 4 * 4 + j % 4 = j := by omega
          have h1 := hXg (j / 4) (j % 4) hjr (by omega)
          have h2 := hc (j / 4) hj4 (j % 4) hjr
          simp only [ej] at h1 h2
          rw [h1, h2]
          have h3 := (hE (j / 4) hj4)
          have hfl := h3.1.len
          have hql := (hq (j / 4) hj4).len
          simp only [row]
          rw [hget _ hj4]
          have key : ∀ r, r < 4 → AM.VRel (AM.renOf (osOf ty2 l)) ((Value.string ⟨es[j / 4].n.toArray⟩ :: f (j / 4)).getD r undef) ((Value.string ⟨es[j / 4].n.toArray⟩ :: q (j / 4)).getD r undef) := by
            intro r hr
            cases r with
            | zero => exact .string _
            | succ r =>
              simp only [List.getD_cons_succ]
              rw [List.getD_eq_getElem?_getD, List.getD_eq_getElem?_getD, List.getElem?_eq_getElem (by omega), List.getElem?_eq_getElem (by omega)]
              exact h3.2.2 r (by omega) (by omega)
          exact key _ hjr
      · have hsl : AM.SlE (AM.memOf (osOf ty2 l)) (some ⟨3 + (k + L.length), 0, Option.none⟩) cap es := by
          have hcells : ∀ j, j ≤ es.length → AM.EsC (AM.memOf (osOf ty2 l)) (es.take j) (X.take (j * 4)) := by
            intro j
            induction j with
            | zero => intro _; simpa using AM.EsC.nil _
            | succ j ihj =>
              intro hj
              have hj' : j < es.length := by omega
              have h1 := ihj (by omega)
              have hfl := (hE j hj').1.len
              have hcut : X.take ((j + 1) * 4) = X.take (j * 4) ++ (.string ⟨es[j].n.toArray⟩ :: f j) := by
                refine List.ext_getElem (by rw [List.length_take, List.length_append, List.length_take, List.length_cons]; omega) fun r q1 q2 => ?_
                rw [List.getElem_take]
                by_cases hr : r < j * 4
                · rw [List.getElem_append_left (by rw [List.length_take]; omega), List.getElem_take]
                · rw [List.getElem_append_right (by rw [List.length_take]; omega)]
                  have hrl : r < (j + 1) * 4 := by rw [List.length_take] at q1; omega
                  have h3 := hXg j (r - j * 4) (by omega) (by omega)
                  simp only [show j * 4 + (r - j * 4) = r by omega] at h3
                  rw [h3]
                  simp only [row, hget j hj', List.length_take, hXl, show min (j * 4) (es.length * 4) = j * 4 by omega]
                  rw [List.getD_eq_getElem?_getD, List.getElem?_eq_getElem (by rw [List.length_cons]; omega)]; rfl
              rw [hcut, List.take_succ_eq_append_getElem hj']
              refine AM.EsC.app h1 ?_
              have := AM.EsC.cons (AM.EnC.of (e := es[j]) (hE j hj').1) (AM.EsC.nil _)
              rwa [List.append_nil] at this
          have hall := hcells es.length (Nat.le_refl _)
          rw [List.take_length, ← hXl, List.take_length] at hall
          refine ⟨X, .inr ⟨3 + (k + L.length), 0, X, ty, false, .full 4, rfl, lt_at h0, get_at h0, by rw [← hXl]; exact AM.cutL_all rfl, .inr ⟨AM.openCap_lt hcap, hle⟩⟩, hall⟩
        exact AM.trC_mk (k := n) (d := d) hsl
      · exact AM.LRel.cons' (.int _ _) (AM.LRel.cons' (.string _) (AM.LRel.cons' (.slice (b := 3 + (k + L.length)) (o := 0) (ren_at h0) (AM.openCap_lt hcap)) (AM.LRel.nil' _)))
end Go.Proofs.YtfjgpeoblnpelaaDoor.gl
namespace Go.Proofs.YtfjgpeoblnpelaaDoor.gl
open Go.ChangeShapes Go.WideShapes Go.ChangeAt Go.RowKit
set_option linter.unusedVariables false
set_option maxRecDepth 100000
set_option maxHeartbeats 1000000

theorem cells_get {w : World} {base n : Nat} {a : Addr} {cs : List Value} (h : w.cells? base a n = some cs) : cs.length = n ∧ ∀ r (hr : r < n), w.cell? (a.add r) = cs[r]? := by
  unfold World.cells? at h
  split at h
  · have hlen : cs.length = n := by
      have : ∀ (l : List Nat) (cs : List Value), l.mapM (fun i => w.cell? (a.add i)) = some cs → cs.length = l.length := by
        intro l
        induction l with
        | nil => intro cs h; simp at h; subst h; rfl
        | cons x l ih =>
          intro cs h
          simp only [List.mapM_cons, Option.bind_eq_bind, Option.bind_eq_some_iff] at h
          obtain ⟨y, _, ys, h2, h3⟩ := h
          cases h3
          simp [ih ys h2]
      have := this _ _ h; simpa using this
    refine ⟨hlen, fun r hr => ?_⟩
    have : ∀ (l : List Nat) (cs : List Value), l.mapM (fun i => w.cell? (a.add i)) = some cs → ∀ r (hr : r < l.length), w.cell? (a.add l[r]) = cs[r]? := by
      intro l
      induction l with
      | nil => intro cs h r hr; cases hr
      | cons x l ih =>
        intro cs h r hr
        simp only [List.mapM_cons, Option.bind_eq_bind, Option.bind_eq_some_iff] at h
        obtain ⟨y, h1, ys, h2, h3⟩ := h
        cases h3
        cases r with
        | zero => simpa using h1
        | succ r => simpa using ih ys h2 r (by simpa using hr)
    have := this _ _ h r (by simpa using hr)
    simpa using this
  · cases h
theorem open_tree {H : Type} {enc : TypeId × Value → H} {w : World} {base : Nat} {hd : Bool} : ∀ (fuel : Nat) (cs : List Value) (y : DataW H × List MemPlace),
    DataW.trod enc Tryd.prog w base (fun _ => true) hd fuel 26 cs = some y → ∃ t, TrW w t cs := by
  have k3 : Tryd.prog.cellsOf 26 = 3 := by kernel_rfl
  have k4 : Tryd.prog.cellsOf 48 = 4 := by kernel_rfl
  have k1 : Tryd.prog.cellsOf 9 = 1 := by kernel_rfl
  have k1' : Tryd.prog.cellsOf 5 = 1 := by kernel_rfl
  have k1'' : Tryd.prog.cellsOf 24 = 1 := by kernel_rfl
  intro fuel
  induction fuel using Nat.strongRecOn with
  | _ fuel ih =>
    intro cs y h
    obtain ⟨xs, n, hf, _, hlen, hxl, hel⟩ := DataW.trod_struct Tryd.underlying26 h
    rw [k3] at hlen
    obtain ⟨c0, c1, c2, rfl⟩ : ∃ a b c, cs = [a, b, c] := by
      match cs, hlen with
      | [a, b, c], _ => exact ⟨a, b, c, rfl⟩
    have hxl : xs.length = 3 := hxl
    have e0 := hel 0 { name := "Kind", type := 5, offset := 0, embedded := false, tag := "", pkgPath := "", byteOffset := 0 } rfl
    have e1 := hel 1 { name := "Data", type := 9, offset := 1, embedded := false, tag := "", pkgPath := "", byteOffset := 8 } rfl
    have e2 := hel 2 { name := "Entries", type := 24, offset := 2, embedded := false, tag := "", pkgPath := "", byteOffset := 24 } rfl
    simp only [k1, k1', k1'', List.drop_zero, List.drop_succ_cons, List.take_succ_cons, List.take_zero] at e0 e1 e2
    rw [List.getElem?_eq_getElem (by omega)] at e0 e1 e2
    obtain ⟨k, rfl, _⟩ := AM.trod_one Tryd.underlying5 e0
    obtain ⟨d, rfl, _⟩ := AM.trod_str Tryd.underlying9 e1
    rcases DataW.trod_slice Tryd.underlying24 e2 with ⟨h2, _⟩ | ⟨a, len, cap, elems, rest, n', hn', h2, _, _, hle, hmax, hel2, hall, hsp, _⟩
    · cases h2
      exact ⟨_, .nil k d⟩
    · cases h2
      rw [k4] at hall hsp
      have each : ∀ i, i < len → ∃ cs', w.cells? base (a.add (i * 4)) 4 = some cs' ∧ ∃ y', DataW.trod enc Tryd.prog w base (fun _ => true) hd n' 48 cs' = some y' := fun i hi => by
        have := hall i hi
        rw [List.getElem?_eq_getElem (by omega)] at this
        rw [Option.bind_eq_some_iff] at this
        obtain ⟨cs', h1, h2⟩ := this
        exact ⟨cs', h1, _, h2⟩
      by_cases h0 : len = 0
      · subst h0
        by_cases hc0 : cap = 0
        · subst hc0
          exact ⟨_, .none k d a⟩
        · obtain ⟨hrl, hr⟩ := hsp rfl
          have := hr 0 (by omega)
          rw [List.getElem?_eq_getElem (by omega), Option.bind_eq_some_iff] at this
          obtain ⟨cs', h1, _⟩ := this
          obtain ⟨hlc, hcr⟩ := cells_get h1
          have hc0 := hcr 0 (by omega)
          obtain ⟨b, o, sp⟩ := a
          rw [List.getElem?_eq_getElem (by omega)] at hc0
          simp only [Nat.add_zero, Nat.zero_mul, Addr.add, if_true, World.cell?] at hc0
          split at hc0 <;> try (simp at hc0; done)
          rename_i carr ty frz hh
          split at hc0 <;> try (simp at hc0; done)
          rename_i hsp
          obtain rfl : sp = Option.none := by cases sp <;> simp_all
          have := (Array.getElem?_eq_some_iff.1 hc0).1
          exact ⟨_, .some k d [] b o cap carr ty frz (fun _ => []) hh (by simp only [List.length_nil]; omega) (fun i hi => by cases hi) (fun i hi => by cases hi) hmax (Nat.zero_le _)⟩
      · obtain ⟨cs', hc', _⟩ := each 0 (by omega)
        obtain ⟨hlc, hcr⟩ := cells_get hc'
        have hc0 := hcr 0 (by omega)
        obtain ⟨b, o, sp⟩ := a
        rw [List.getElem?_eq_getElem (by omega)] at hc0
        simp only [Nat.zero_mul, Addr.add, if_true, World.cell?] at hc0
        split at hc0 <;> try (simp at hc0; done)
        rename_i carr ty frz hh
        split at hc0 <;> try (simp at hc0; done)
        rename_i hsp'
        obtain rfl : sp = Option.none := by cases sp <;> simp_all
        have key : ∀ i, i < len → ∃ z : AM.En × List Value, TrW w z.1.t z.2 ∧ ∀ r, r < 4 → carr[o + (i * 4 + r)]? = some ((Value.string ⟨z.1.n.toArray⟩ :: z.2).getD r undef) := fun i hi => by
          obtain ⟨cs2, hc2, y', ht2⟩ := each i hi
          obtain ⟨hl2, hr2⟩ := cells_get hc2
          obtain ⟨xs2, n2, hf2, _, hlen2, hxl2, hel3⟩ := DataW.trod_struct Tryd.underlying48 ht2
          have hxl2 : xs2.length = 2 := hxl2
          obtain ⟨d0, d1, d2, d3, rfl⟩ : ∃ a b c d, cs2 = [a, b, c, d] := by
            match cs2, hl2 with
            | [a, b, c, d], _ => exact ⟨a, b, c, d, rfl⟩
          have f0 := hel3 0 { name := "Name", type := 9, offset := 0, embedded := false, tag := "", pkgPath := "", byteOffset := 0 } rfl
          have f1 := hel3 1 { name := "Node", type := 26, offset := 1, embedded := false, tag := "", pkgPath := "", byteOffset := 16 } rfl
          simp only [k1, k3, List.drop_zero, List.drop_succ_cons, List.take_succ_cons, List.take_zero] at f0 f1
          rw [List.getElem?_eq_getElem (by omega)] at f0 f1
          obtain ⟨s, rfl, _⟩ := AM.trod_str Tryd.underlying9 f0
          obtain ⟨u, hu⟩ := ih n2 (by omega) _ _ f1
          refine ⟨(.mk s u, [d1, d2, d3]), hu, fun r hr => ?_⟩
          have := hr2 r hr
          rw [List.getElem?_eq_getElem (by simp; omega)] at this
          have e : ((⟨b, o, Option.none⟩ : Addr).add (i * 4)).add r = ⟨b, o + (i * 4 + r), Option.none⟩ := by
            simp only [Addr.add]
            split <;> split <;> simp_all <;> omega
          rw [e] at this
          simp only [World.cell?, hh] at this
          simp only [Option.isSome_none, Bool.false_eq_true, if_false] at this
          rw [this, List.getD_eq_getElem?_getD, List.getElem?_eq_getElem (by simp; omega)]; rfl
        haveI : Inhabited (AM.En × List Value) := ⟨(default, [])⟩
        obtain ⟨f, hfm⟩ := Go.Deep.choose_lt (α := AM.En × List Value) (n := len) key
        have hlenm : ((List.range len).map fun i => (f i).1).length = len := by simp
        have hlast : o + len * 4 ≤ carr.size := by
          have := (Array.getElem?_eq_some_iff.1 ((hfm (len - 1) (by omega)).2 3 (by omega))).1; omega
        have main := TrW.some (w := w) k d ((List.range len).map fun i => (f i).1) b o cap carr ty frz (fun i => (f i).2) hh (by rw [hlenm]; exact hlast)
          (fun i hi r hr => by
            have hi' : i < len := by rw [hlenm] at hi; exact hi
            rw [Array.getD_eq_getD_getElem?, (hfm i hi').2 r hr]; simp)
          (fun i hi => by
            have hi' : i < len := by rw [hlenm] at hi; exact hi
            have := (hfm i hi').1
            simpa using this)
          hmax (by rw [hlenm]; exact hle)
        rw [hlenm] at main
        exact ⟨_, main⟩
theorem node_of {v x y z : Value} (h : v.cells.toList = [x, y, z]) : v = .agg #[x, y, z] := by
  cases v with
  | agg cs =>
    have h : cs.toList = [x, y, z] := h
    have : cs = #[x, y, z] := Array.ext' h
    rw [this]
  | _ => simp [Value.cells] at h
theorem agg_of {v : Value} {cs : List Value} {w : World} {t : AM.Tr} (h : TrW w t cs) (he : v.cells.toList = cs) : v = .agg cs.toArray := by
  cases h with
  | nil k d => exact node_of he
  | none k d a => exact node_of he
  | some k d es b o cap carr ty frz q _ _ _ _ _ _ => exact node_of he
theorem rel_node {ρ : AM.Ren} {q cs : List Value} (h : AM.LRel ρ q cs) : AM.VRel ρ (.agg q.toArray) (.agg cs.toArray) :=
  .agg _ _ (by simpa using h.1) fun i h1 h2 => by simpa using h.2 i (by simpa using h1) (by simpa using h2)
end Go.Proofs.YtfjgpeoblnpelaaDoor.gl
