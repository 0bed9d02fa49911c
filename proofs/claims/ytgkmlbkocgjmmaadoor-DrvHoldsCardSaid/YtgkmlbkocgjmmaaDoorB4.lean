/- Graphs: the stage's theorem. -/
import Derived.Test.YtgkmlbkocgjmmaaDoorB3
import Derived.Test.YtgkmlbkocgjmmaaDoorDrvF8
import Derived.Test.YtgkmlbkocgjmmaaDoorA4
import Derived.Test.YtgkmlbkocgjmmaaDoorRows
import Derived.WalkKit
import Derived.ProofKit
import Derived.OpenShut
import Derived.ShutString
import Derived.ChangeOld
import Derived.Below
import Derived.SizedLaws
import Derived.Handed
import Derived.JoinedOf
import Derived.Deep.Slices
set_option linter.unusedVariables false
set_option linter.unusedSimpArgs false
set_option linter.unnecessarySimpa false
namespace Go.Proofs.YtgkmlbkocgjmmaaDoor
open Go Go.AM
set_option linter.unusedVariables false
set_option linter.unusedSimpArgs false
set_option maxHeartbeats 4000000
set_option maxRecDepth 100000

/-- Texts put together, apart from what was before. -/
structure SRow (m M : AMem) (a : Option Addr) (c : Nat) (l : List (List UInt8)) : Prop where
  old : Old m M
  strs : StrB M (.slice a l.length c) l
  own : ∀ x, ownV (.slice a l.length c) x → m.size ≤ x
theorem SRow.nil (m : AMem) : SRow m m none 0 [] := ⟨Old.refl _, .inl ⟨rfl, rfl⟩, fun x ⟨o, l, c, h⟩ => by cases h⟩
theorem SRow.more {m M M' : AMem} {a : Option Addr} {c : Nat} {l : List (List UInt8)} (h : SRow m M a c l) (ho : Old M M') : SRow m M' a c l := ⟨h.old.trans ho, h.strs.old ho, h.own⟩
theorem SRow.app {m M : AMem} {a : Option Addr} {c : Nat} {l news : List (List UInt8)} {w : Value} (h : SRow m M a c l) (hl : l.length + news.length ≤ 1000000) (hw : srcLen w = some news.length) (hs : srcCells 1 news.length w (mx M []) = some (news.map sV)) :
    ∃ a' c' M', appV 9 1 16 [.string ⟨#[]⟩] (.slice a l.length c) w (mx M []) = some (.slice a' (l ++ news).length c', mx M' []) ∧ SRow m M' a' c' (l ++ news) := by
  obtain ⟨v', M', happ, hB, hk, ho⟩ := h.strs.app (w := w) (news := news) (by omega) hw hs
  obtain ⟨a', c', rfl⟩ := hB.len
  have hO := h.old
  refine ⟨a', c', M', happ, ⟨⟨Nat.le_trans hO.1 hk.1, fun y hy => ?_⟩, hB, fun x hx => ?_⟩⟩
  · rw [hk.2 y (Nat.lt_of_lt_of_le hy hO.1) (fun e => by have := h.own y e; omega)]; exact hO.2 y hy
  · rcases ho x hx with e | e
    · exact h.own x e
    · have := hO.1; omega
theorem SRow.one {m M : AMem} {a : Option Addr} {c : Nat} {l : List (List UInt8)} (h : SRow m M a c l) (hl : l.length ≤ 999999) (s : List UInt8) :
    ∃ a' c' M', appV 9 1 16 [.string ⟨#[]⟩] (.slice a l.length c) (.slice (some ⟨M.size, 0, none⟩) 1 1) (mx M [.cells [.string ⟨s.toArray⟩] 9 true .exact]) = some (.slice a' (l ++ [s]).length c', mx M' []) ∧ SRow m M' a' c' (l ++ [s]) := by
  obtain ⟨a', c', M', happ, hS⟩ := (h.more (Old.here M [.cells [.string ⟨s.toArray⟩] 9 true .exact])).app (w := .slice (some ⟨M.size, 0, none⟩) 1 1) (news := [s]) (by simp; omega) rfl (by rw [List.length_singleton, srcCells_slice (Nat.le_refl _), rd_def, mx_mx, List.append_nil, mx_new0]; rfl)
  rw [mx_mx, List.append_nil] at happ
  exact ⟨a', c', M', happ, hS⟩
/-- The second half of it. -/
def F8_X : ACode := F8.code.tl.tl.tl.tl.tl.tl.tl
theorem F8_cut : F8.code = .seq F8.code.hd (.seq F8.code.tl.hd (.seq F8.code.tl.tl.hd (.seq F8.code.tl.tl.tl.hd (.seq F8.code.tl.tl.tl.tl.hd (.seq F8.code.tl.tl.tl.tl.tl.hd (.seq F8.code.tl.tl.tl.tl.tl.tl.hd F8_X)))))) := rfl
theorem holds_b (m M0 : AMem) (hg : S.Glob m) (hO0 : Old m M0) (a : Option Addr) (c : Nat) (names : List (List UInt8)) (ha : StrR m a names) (hl : names.length ≤ 30) (na : Option Addr) (nc : Nat) (needs : List (List (List UInt8))) (hN : NeedsR m na needs) (hnl : needs.length ≤ 40) (hrow : ∀ i, (rowOf needs i).length ≤ 1000)
    (ra : Option Addr) (rc : Nat) (roots : List (List UInt8)) (hR : Src m ra roots) (hrl : roots.length ≤ 30) (more : List UInt8) (hnd : names.Nodup) (ca : Option Addr) (cc : Nat) (hC : IntB M0 (.slice ca (closO names needs roots).length cc) (closO names needs roots)) (t : Tmps)
    (u0 : t 0 = .slice a names.length c) (u1 : t 1 = .slice na needs.length nc) (u2 : t 2 = .slice ra roots.length rc) (u3 : t 3 = .string ⟨more.toArray⟩) (u11 : t 11 = .slice ca (closO names needs roots).length cc) :
    W Tryd.prog 3 F8_X (RetK F8.res fun r m' => r = .ret (.bool true) ∧ Old m m') ⟨t, mx M0 [], []⟩ := by
  have hcl : (closO names needs roots).length ≤ 30 := by
    have := closR_len (names := names) (needs := needs) (roots := roots)
    unfold closR at this; rw [if_pos hnd] at this; simp only at this; omega
  generalize hcg : closO names needs roots = C at *
  have hCl : ∀ k ∈ C, k < names.length := fun k hk => by rw [← hcg] at hk; exact (mem_clos.1 hk).lt
  simp (implicitDefEqProofs := false) (maxSteps := 1000000) (disch := first | omega | with_reducible assumption | (simp only [lenT, Nat.reduceAdd]; omega)) only [amT, cut, bnd, Nat.reduceBEq, reduceCtorEq, Nat.reduceEqDiff, Nat.reduceAdd, Nat.reduceMul, Nat.reduceSub, Int.reduceToNat, Int.reduceEq, Int.reduceLT, Int.reduceLE, Int.reduceAdd, Int.reduceSub, Int.reduceMul, reduceIte, resVs, resV, packV, initT, addr, F8_X, F8, tl_seq]
  refine W_loop (fun N qs => ∃ (q : Nat) (M : AMem) (oa : Option Addr) (oc : Nat), N = C.length - q ∧ qs.ds = [] ∧ qs.m = mx M [] ∧ qs.t 0 = .slice a names.length c ∧ qs.t 1 = .slice na needs.length nc ∧ qs.t 2 = .slice ra roots.length rc ∧ qs.t 3 = .string ⟨more.toArray⟩ ∧ qs.t 11 = .slice ca C.length cc ∧ qs.t 16 = .slice oa (ownR names (C.take q)).length oc ∧ qs.t 17 = .int .i64 q ∧ q ≤ C.length ∧ SRow M0 M oa oc (ownR names (C.take q))) (C.length - (0)) ⟨0, M0, none, 0, rfl, rfl, ?qm, ?q0, ?q1, ?q2, ?q3, ?q11, ?q16, ?q17, ?_⟩ ?_
  case qm | q0 | q1 | q2 | q3 | q11 | q16 | q17 => first | rfl | (simp (implicitDefEqProofs := false) (maxSteps := 1000000) (disch := first | omega | with_reducible assumption | (simp only [lenT, Nat.reduceAdd]; omega)) only [amT, cut, bnd, Nat.reduceBEq, reduceCtorEq, Nat.reduceEqDiff, Nat.reduceAdd, Nat.reduceMul, Nat.reduceSub, Int.reduceToNat, Int.reduceEq, Int.reduceLT, Int.reduceLE, Int.reduceAdd, Int.reduceSub, Int.reduceMul, reduceIte, resVs, resV, packV, initT, addr, u0, u1, u2, u3, u11, List.take_zero, ownR]; first | done | rfl | (congr 1; omega))
  · exact ⟨by omega, SRow.nil M0⟩
  · rintro N t m1 ds ⟨q, M, oa, oc, rfl, hds, hm, t0, t1, t2, t3, t11, t16, t17, hp⟩
    simp only at hds hm t0 t1 t2 t3 t11 t16 t17
    subst hds; replace hm := hm.symm; subst hm
    obtain ⟨hq, hS⟩ := hp
    have hor : (ownR names (C.take q)).length ≤ q := by unfold ownR; rw [List.length_map, List.length_take]; omega
    by_cases g : (q : Int) < (C.length : Int)
    · have hq' : q < C.length := by omega
      have hkl := hCl _ (List.getElem_mem hq')
      obtain ⟨cb, co, rfl, hcb, hcr⟩ := hC.row q hq'
      obtain ⟨nb, no, rfl, hnb, hnr⟩ := ha C[q] hkl
      simp only [iV] at hcr
      have hcbM : cb < M.size := Nat.lt_of_lt_of_le hcb hS.old.1
      have hnbM : nb < M.size := Nat.lt_of_lt_of_le hnb (Nat.le_trans hO0.1 hS.old.1)
      have hcrM : rdO (M.get cb) (co + q) 1 = some [.int .i64 (C[q] : Nat)] := by rw [hS.old.2 cb hcb]; exact hcr
      have hnrM : rdO (M.get nb) (no + C[q]) 1 = some [.string ⟨names[C[q]].toArray⟩] := by rw [(hO0.trans hS.old).2 nb hnb]; exact hnr
      have hsn : ownR names (C.take (q + 1)) = ownR names (C.take q) ++ [names[C[q]]] := by
        unfold ownR; rw [List.take_succ_eq_append_getElem hq', List.map_append]; simp [List.getD, hkl]
      obtain ⟨a', c', M', happ, hS'⟩ := hS.one (by omega) names[C[q]]
      have g2 : (C[q] : Int) < (names.length : Int) := by omega
      rw [← hsn] at hS' happ
      repeat first | simp (implicitDefEqProofs := false) (maxSteps := 1000000) (disch := first | omega | with_reducible assumption | (simp only [lenT, Nat.reduceAdd]; omega)) only [amT, cut, bnd, Nat.reduceBEq, reduceCtorEq, Nat.reduceEqDiff, Nat.reduceAdd, Nat.reduceMul, Nat.reduceSub, Int.reduceToNat, Int.reduceEq, Int.reduceLT, Int.reduceLE, Int.reduceAdd, Int.reduceSub, Int.reduceMul, reduceIte, resVs, resV, packV, initT, addr, F8_l2, t0, t1, t2, t3, t11, t16, t17, g, hcrM, g2, hnrM, stepOp_app_v, happ] | refine OrW.go ?_
      rw [LoopK_normal]; refine ⟨_, ?_, q + 1, M', a', c', rfl, rfl, ?qm, ?q0, ?q1, ?q2, ?q3, ?q11, ?q16, ?q17, ?_⟩
      case qm | q0 | q1 | q2 | q3 | q11 | q16 | q17 => first | rfl | (simp (implicitDefEqProofs := false) (maxSteps := 1000000) (disch := first | omega | with_reducible assumption | (simp only [lenT, Nat.reduceAdd]; omega)) only [amT, cut, bnd, Nat.reduceBEq, reduceCtorEq, Nat.reduceEqDiff, Nat.reduceAdd, Nat.reduceMul, Nat.reduceSub, Int.reduceToNat, Int.reduceEq, Int.reduceLT, Int.reduceLE, Int.reduceAdd, Int.reduceSub, Int.reduceMul, reduceIte, resVs, resV, packV, initT, addr, t0, t1, t2, t3, t11, t16, t17]; first | done | rfl | (congr 1; omega))
      · omega
      · exact ⟨by omega, hS'⟩
    · obtain rfl : q = C.length := by omega
      rw [List.take_length] at hS t16 hor
      have hOM : Old m M := hO0.trans hS.old
      have hcl1 := closure_ok (mx M []) a c names (ha.old (hOM.mx [])) (by omega) na nc needs (hN.old (hOM.mx [])) (by omega) oa oc (ownR names C) (hS.strs.src.old (Old.here _ [])) (by omega) hrow
      have e1 : closR names needs (ownR names C) = (C, 0) := by unfold closR; rw [if_pos hnd, ← hcg, clos_own hnd]
      rw [e1] at hcl1
      repeat first | simp (implicitDefEqProofs := false) (maxSteps := 1000000) (disch := first | omega | with_reducible assumption | (simp only [lenT, Nat.reduceAdd]; omega)) only [amT, cut, bnd, Nat.reduceBEq, reduceCtorEq, Nat.reduceEqDiff, Nat.reduceAdd, Nat.reduceMul, Nat.reduceSub, Int.reduceToNat, Int.reduceEq, Int.reduceLT, Int.reduceLE, Int.reduceAdd, Int.reduceSub, Int.reduceMul, reduceIte, resVs, resV, packV, initT, addr, F8_l2, t0, t1, t2, t3, t11, t16, t17, g] | refine OrW.go ?_
      refine RelC.call hcl1 ?_
      rintro r M2 ⟨hO2, v2, rfl, hI2⟩
      have hy2 : Old M M2 := (Old.here M []).trans hO2
      have hOM2 : Old m M2 := hOM.trans hy2
      obtain ⟨wa1, wc1, W1, happ1, hW1⟩ := (SRow.nil M2).app (w := .slice ra roots.length rc) (news := roots) (by simp; omega) rfl ((hR.old (hOM2.mx [])).src rc)
      obtain ⟨wa2, wc2, W2, happ2, hW2⟩ := hW1.one (by simp; omega) more
      simp only [List.nil_append, List.length_nil] at happ1 happ2 hW1 hW2
      have hOW2 : Old m W2 := hOM2.trans hW2.old
      have hcl2 := closure_ok (mx W2 []) a c names (ha.old (hOW2.mx [])) (by omega) na nc needs (hN.old (hOW2.mx [])) (by omega) wa2 wc2 (roots ++ [more]) (hW2.strs.src.old (Old.here _ [])) (by simp; omega) hrow
      have e2 : closR names needs (roots ++ [more]) = (closO names needs (roots ++ [more]), 0) := by unfold closR; rw [if_pos hnd]
      rw [e2, show (roots ++ [more]).length = roots.length + 1 by simp] at hcl2
      repeat first | simp (implicitDefEqProofs := false) (maxSteps := 1000000) (disch := first | omega | with_reducible assumption | (simp only [lenT, Nat.reduceAdd]; omega)) only [amT, cut, bnd, Nat.reduceBEq, reduceCtorEq, Nat.reduceEqDiff, Nat.reduceAdd, Nat.reduceMul, Nat.reduceSub, Int.reduceToNat, Int.reduceEq, Int.reduceLT, Int.reduceLE, Int.reduceAdd, Int.reduceSub, Int.reduceMul, reduceIte, resVs, resV, packV, initT, addr, t0, t1, t2, t3, t11, t16, t17, stepOp_app_v, happ1, happ2] | refine OrW.go ?_
      refine RelC.call hcl2 ?_
      rintro r M3 ⟨hO3, v3, rfl, hI3⟩
      have hy3 : Old W2 M3 := (Old.here W2 []).trans hO3
      have hOM3 : Old m M3 := hOW2.trans hy3
      have hC3 : IntB M3 (.slice ca C.length cc) C := hC.old (hS.old.trans (hy2.trans (hW2.old.trans hy3)))
      have hD3 : IntB M3 v2 C := hI2.old (hW2.old.trans hy3)
      have hwl : (closO names needs (roots ++ [more])).length ≤ 30 := by
        have := closR_len (names := names) (needs := needs) (roots := roots ++ [more])
        rw [e2] at this; simp only at this; omega
      have hCW : ∀ k ∈ C, 0 ≤ pz (closO names needs (roots ++ [more])) k := fun k hk => by
        rw [← hcg] at hk
        exact pz_nonneg.2 (mem_clos.2 ((mem_clos.1 hk).mono fun s hs => List.mem_append_left _ hs))
      have hCR : ∀ s ∈ roots, ∀ p, plR names s = some p → 0 ≤ pz C p := fun s hs p hp => by
        rw [← hcg]; exact pz_nonneg.2 (mem_clos.2 (.root hs hp))
      generalize closO names needs (roots ++ [more]) = Wc at hI3 hwl hCW
      obtain ⟨wa, wc, rfl⟩ := hI3.len
      have kp := fun s => DetC.known (place_ok (mx M3 []) a c names s (ha.old (hOM3.mx [])) (by omega))
      have kw := fun n => DetC.known (placeInt_ok (mx M3 []) wa wc Wc n (hI3.row.old (Old.here _ [])) (by omega))
      have kc := fun n => DetC.known (placeInt_ok (mx M3 []) ca cc C n (hC3.row.old (Old.here _ [])) (by omega))
      repeat first | simp (implicitDefEqProofs := false) (maxSteps := 1000000) (disch := first | omega | with_reducible assumption | (simp only [lenT, Nat.reduceAdd]; omega)) only [amT, cut, bnd, Nat.reduceBEq, reduceCtorEq, Nat.reduceEqDiff, Nat.reduceAdd, Nat.reduceMul, Nat.reduceSub, Int.reduceToNat, Int.reduceEq, Int.reduceLT, Int.reduceLE, Int.reduceAdd, Int.reduceSub, Int.reduceMul, reduceIte, resVs, resV, packV, initT, addr, t0, t1, t2, t3, t11, t16, t17] | refine OrW.go ?_
      refine W_loop (fun N qs => ∃ (q : Nat), N = C.length - q ∧ qs.ds = [] ∧ qs.m = mx M3 [] ∧ qs.t 0 = .slice a names.length c ∧ qs.t 2 = .slice ra roots.length rc ∧ qs.t 11 = .slice ca C.length cc ∧ qs.t 18 = v2 ∧ qs.t 19 = .int .i64 0 ∧ qs.t 21 = .slice wa Wc.length wc ∧ qs.t 22 = .int .i64 0 ∧ qs.t 23 = .int .i64 q ∧ q ≤ C.length) (C.length - (0)) ⟨0, rfl, rfl, ?qm, ?q0, ?q2, ?q11, ?q18, ?q19, ?q21, ?q22, ?q23, ?_⟩ ?_
      case qm | q0 | q2 | q11 | q18 | q19 | q21 | q22 | q23 => first | rfl | (simp (implicitDefEqProofs := false) (maxSteps := 1000000) (disch := first | omega | with_reducible assumption | (simp only [lenT, Nat.reduceAdd]; omega)) only [amT, cut, bnd, Nat.reduceBEq, reduceCtorEq, Nat.reduceEqDiff, Nat.reduceAdd, Nat.reduceMul, Nat.reduceSub, Int.reduceToNat, Int.reduceEq, Int.reduceLT, Int.reduceLE, Int.reduceAdd, Int.reduceSub, Int.reduceMul, reduceIte, resVs, resV, packV, initT, addr, t0, t1, t2, t3, t11, t16, t17]; first | done | rfl | (congr 1; omega))
      · omega
      · rintro N t m1 ds ⟨q, rfl, hds, hm, t0, t2, t11, t18, t19, t21, t22, t23, hp⟩
        simp only at hds hm t0 t2 t11 t18 t19 t21 t22 t23
        subst hds; replace hm := hm.symm; subst hm
        by_cases g : (q : Int) < (C.length : Int)
        · have hq' : q < C.length := by omega
          obtain ⟨cb, co, e0, hcb, hcr⟩ := hC3.row q hq'
          simp only [iV] at hcr
          have k1 := kw C[q]
          have g2 : ¬ pz Wc C[q] < 0 := by have := hCW _ (List.getElem_mem hq'); omega
          repeat first | simp (implicitDefEqProofs := false) (maxSteps := 1000000) (disch := first | omega | with_reducible assumption | (simp only [lenT, Nat.reduceAdd]; omega)) only [amT, cut, bnd, Nat.reduceBEq, reduceCtorEq, Nat.reduceEqDiff, Nat.reduceAdd, Nat.reduceMul, Nat.reduceSub, Int.reduceToNat, Int.reduceEq, Int.reduceLT, Int.reduceLE, Int.reduceAdd, Int.reduceSub, Int.reduceMul, reduceIte, resVs, resV, packV, initT, addr, F8_l3, t0, t2, t11, t18, t19, t21, t22, t23, g, e0, hcr, k1, g2] | refine OrW.go ?_
          rw [LoopK_normal]; refine ⟨_, ?_, q + 1, rfl, rfl, ?qm, ?q0, ?q2, ?q11, ?q18, ?q19, ?q21, ?q22, ?q23, ?_⟩
          case qm | q0 | q2 | q11 | q18 | q19 | q21 | q22 | q23 => first | rfl | (simp (implicitDefEqProofs := false) (maxSteps := 1000000) (disch := first | omega | with_reducible assumption | (simp only [lenT, Nat.reduceAdd]; omega)) only [amT, cut, bnd, Nat.reduceBEq, reduceCtorEq, Nat.reduceEqDiff, Nat.reduceAdd, Nat.reduceMul, Nat.reduceSub, Int.reduceToNat, Int.reduceEq, Int.reduceLT, Int.reduceLE, Int.reduceAdd, Int.reduceSub, Int.reduceMul, reduceIte, resVs, resV, packV, initT, addr, t0, t2, t11, t18, t19, t21, t22, t23, e0]; first | done | rfl | (congr 1; omega))
          · omega
          · omega
        · obtain rfl : q = C.length := by omega
          repeat first | simp (implicitDefEqProofs := false) (maxSteps := 1000000) (disch := first | omega | with_reducible assumption | (simp only [lenT, Nat.reduceAdd]; omega)) only [amT, cut, bnd, Nat.reduceBEq, reduceCtorEq, Nat.reduceEqDiff, Nat.reduceAdd, Nat.reduceMul, Nat.reduceSub, Int.reduceToNat, Int.reduceEq, Int.reduceLT, Int.reduceLE, Int.reduceAdd, Int.reduceSub, Int.reduceMul, reduceIte, resVs, resV, packV, initT, addr, F8_l3, t0, t2, t11, t18, t19, t21, t22, t23, g] | refine OrW.go ?_
          refine W_loop (fun N qs => ∃ (q : Nat), N = roots.length - q ∧ qs.ds = [] ∧ qs.m = mx M3 [] ∧ qs.t 0 = .slice a names.length c ∧ qs.t 2 = .slice ra roots.length rc ∧ qs.t 11 = .slice ca C.length cc ∧ qs.t 18 = v2 ∧ qs.t 19 = .int .i64 0 ∧ qs.t 22 = .int .i64 0 ∧ qs.t 24 = .int .i64 q ∧ q ≤ roots.length) (roots.length - (0)) ⟨0, rfl, rfl, ?qm, ?q0, ?q2, ?q11, ?q18, ?q19, ?q22, ?q24, ?_⟩ ?_
          case qm | q0 | q2 | q11 | q18 | q19 | q22 | q24 => first | rfl | (simp (implicitDefEqProofs := false) (maxSteps := 1000000) (disch := first | omega | with_reducible assumption | (simp only [lenT, Nat.reduceAdd]; omega)) only [amT, cut, bnd, Nat.reduceBEq, reduceCtorEq, Nat.reduceEqDiff, Nat.reduceAdd, Nat.reduceMul, Nat.reduceSub, Int.reduceToNat, Int.reduceEq, Int.reduceLT, Int.reduceLE, Int.reduceAdd, Int.reduceSub, Int.reduceMul, reduceIte, resVs, resV, packV, initT, addr, t0, t2, t11, t18, t19, t21, t22, t23]; first | done | rfl | (congr 1; omega))
          · omega
          · rintro N t m1 ds ⟨q, rfl, hds, hm, t0, t2, t11, t18, t19, t22, t24, hp⟩
            simp only at hds hm t0 t2 t11 t18 t19 t22 t24
            subst hds; replace hm := hm.symm; subst hm
            by_cases g : (q : Int) < (roots.length : Int)
            · have hq' : q < roots.length := by omega
              obtain ⟨rb, ro, e0, hrb, hrr⟩ := hR.str q hq'
              have hrbM : rb < M3.size := Nat.lt_of_lt_of_le hrb hOM3.1
              have hrrM : rdO (M3.get rb) (ro + q) 1 = some [.string ⟨roots[q].toArray⟩] := by rw [hOM3.2 rb hrb]; exact hrr
              have k1 := kp roots[q]
              cases hpl : plR names roots[q] with
              | none =>
                have ez : plZ names roots[q] = -1 := by simp [plZ, hpl]
                have gz : ¬ (0 : Int) ≤ -1 := by omega
                rw [ez] at k1
                repeat first | simp (implicitDefEqProofs := false) (maxSteps := 1000000) (disch := first | omega | with_reducible assumption | (simp only [lenT, Nat.reduceAdd]; omega)) only [amT, cut, bnd, Nat.reduceBEq, reduceCtorEq, Nat.reduceEqDiff, Nat.reduceAdd, Nat.reduceMul, Nat.reduceSub, Int.reduceToNat, Int.reduceEq, Int.reduceLT, Int.reduceLE, Int.reduceAdd, Int.reduceSub, Int.reduceMul, reduceIte, resVs, resV, packV, initT, addr, F8_l4, t0, t2, t11, t18, t19, t22, t24, g, e0, hrrM, k1, gz] | refine OrW.go ?_
                rw [LoopK_normal]; refine ⟨_, ?_, q + 1, rfl, rfl, ?qm, ?q0, ?q2, ?q11, ?q18, ?q19, ?q22, ?q24, ?_⟩
                case qm | q0 | q2 | q11 | q18 | q19 | q22 | q24 => first | rfl | (simp (implicitDefEqProofs := false) (maxSteps := 1000000) (disch := first | omega | with_reducible assumption | (simp only [lenT, Nat.reduceAdd]; omega)) only [amT, cut, bnd, Nat.reduceBEq, reduceCtorEq, Nat.reduceEqDiff, Nat.reduceAdd, Nat.reduceMul, Nat.reduceSub, Int.reduceToNat, Int.reduceEq, Int.reduceLT, Int.reduceLE, Int.reduceAdd, Int.reduceSub, Int.reduceMul, reduceIte, resVs, resV, packV, initT, addr, t0, t2, t11, t18, t19, t22, t24, e0]; first | done | rfl | (congr 1; omega))
                · omega
                · omega
              | some p =>
                have ez : plZ names roots[q] = (p : Nat) := by simp [plZ, hpl]
                have gz : (0 : Int) ≤ (p : Int) := by omega
                rw [ez] at k1
                have k2 := kc p
                have g2 : ¬ pz C p < 0 := by have := hCR _ (List.getElem_mem hq') p hpl; omega
                repeat first | simp (implicitDefEqProofs := false) (maxSteps := 1000000) (disch := first | omega | with_reducible assumption | (simp only [lenT, Nat.reduceAdd]; omega)) only [amT, cut, bnd, Nat.reduceBEq, reduceCtorEq, Nat.reduceEqDiff, Nat.reduceAdd, Nat.reduceMul, Nat.reduceSub, Int.reduceToNat, Int.reduceEq, Int.reduceLT, Int.reduceLE, Int.reduceAdd, Int.reduceSub, Int.reduceMul, reduceIte, resVs, resV, packV, initT, addr, F8_l4, t0, t2, t11, t18, t19, t22, t24, g, e0, hrrM, k1, gz, k2, g2] | refine OrW.go ?_
                rw [LoopK_normal]; refine ⟨_, ?_, q + 1, rfl, rfl, ?qm, ?q0, ?q2, ?q11, ?q18, ?q19, ?q22, ?q24, ?_⟩
                case qm | q0 | q2 | q11 | q18 | q19 | q22 | q24 => first | rfl | (simp (implicitDefEqProofs := false) (maxSteps := 1000000) (disch := first | omega | with_reducible assumption | (simp only [lenT, Nat.reduceAdd]; omega)) only [amT, cut, bnd, Nat.reduceBEq, reduceCtorEq, Nat.reduceEqDiff, Nat.reduceAdd, Nat.reduceMul, Nat.reduceSub, Int.reduceToNat, Int.reduceEq, Int.reduceLT, Int.reduceLE, Int.reduceAdd, Int.reduceSub, Int.reduceMul, reduceIte, resVs, resV, packV, initT, addr, t0, t2, t11, t18, t19, t22, t24, e0]; first | done | rfl | (congr 1; omega))
                · omega
                · omega
            · obtain rfl : q = roots.length := by omega
              have ks := same_l hC3 hD3 (by omega) []
              have kw2 := kWorks (hg.old hOM3) []
              repeat first | simp (implicitDefEqProofs := false) (maxSteps := 1000000) (disch := first | omega | with_reducible assumption | (simp only [lenT, Nat.reduceAdd]; omega)) only [amT, cut, bnd, Nat.reduceBEq, reduceCtorEq, Nat.reduceEqDiff, Nat.reduceAdd, Nat.reduceMul, Nat.reduceSub, Int.reduceToNat, Int.reduceEq, Int.reduceLT, Int.reduceLE, Int.reduceAdd, Int.reduceSub, Int.reduceMul, reduceIte, resVs, resV, packV, initT, addr, F8_l4, t0, t2, t11, t18, t19, t22, t24, g, ks, kw2] | refine OrW.go ?_
              exact hOM3.mx []
theorem lawHolds (m : AMem) (hg : S.Glob m) (a : Option Addr) (c : Nat) (names : List (List UInt8)) (ha : StrR m a names) (hl : names.length ≤ 9223372036854775807) (hs : ∀ s ∈ names, s.length ≤ 9223372036854775807) (na : Option Addr) (nc : Nat) (needs : List (List (List UInt8))) (hN : NeedsA m na needs) (hnl : needs.length ≤ 9223372036854775807)
    (ra : Option Addr) (rc : Nat) (roots : List (List UInt8)) (hR : Src m ra roots) (hrl : roots.length ≤ 9223372036854775807) (hrs : ∀ s ∈ roots, s.length ≤ 9223372036854775807) (more : List UInt8) (hml : more.length ≤ 9223372036854775807) :
    PureC Tryd.prog 3 8 [.slice a names.length c, .slice na needs.length nc, .slice ra roots.length rc, .string ⟨more.toArray⟩] m (.bool true) := by
  refine pure_of_W (fn := Tryd.f8) rfl rfl F8_ok (by simp [F8]) (.bool _) ?_
  have kg := DetC.known (graph_ok (mx m []) a c names (ha.old (Old.here _ [])) hl hs na nc needs (hN.old (Old.here _ [])) hnl)
  have kw := kWorks hg []
  have k25 := DetC.known (short_ok (mx m []) ra rc roots (hR.str.old (Old.here _ [])) hrl hrs 30 (by omega))
  rw [show ((30 : Nat) : Int) = 30 from rfl] at k25
  cases hgr : graphB names needs with
  | false =>
    rw [hgr] at kg
    repeat first | simp (implicitDefEqProofs := false) (maxSteps := 1000000) (disch := first | omega | with_reducible assumption | (simp only [lenT, Nat.reduceAdd]; omega)) only [amT, cut, bnd, Nat.reduceBEq, reduceCtorEq, Nat.reduceEqDiff, Nat.reduceAdd, Nat.reduceMul, Nat.reduceSub, Int.reduceToNat, Int.reduceEq, Int.reduceLT, Int.reduceLE, Int.reduceAdd, Int.reduceSub, Int.reduceMul, reduceIte, resVs, resV, packV, initT, addr, F8, kg, kw] | refine OrW.go ?_
  | true =>
    rw [hgr] at kg
    cases hsr : shortB roots 30 with
    | false =>
      rw [hsr] at k25
      repeat first | simp (implicitDefEqProofs := false) (maxSteps := 1000000) (disch := first | omega | with_reducible assumption | (simp only [lenT, Nat.reduceAdd]; omega)) only [amT, cut, bnd, Nat.reduceBEq, reduceCtorEq, Nat.reduceEqDiff, Nat.reduceAdd, Nat.reduceMul, Nat.reduceSub, Int.reduceToNat, Int.reduceEq, Int.reduceLT, Int.reduceLE, Int.reduceAdd, Int.reduceSub, Int.reduceMul, reduceIte, resVs, resV, packV, initT, addr, F8, kg, k25, kw] | refine OrW.go ?_
    | true =>
      rw [hsr] at k25
      by_cases hm : (200 : Int) < (more.length : Int)
      · repeat first | simp (implicitDefEqProofs := false) (maxSteps := 1000000) (disch := first | omega | with_reducible assumption | (simp only [lenT, Nat.reduceAdd]; omega)) only [amT, cut, bnd, Nat.reduceBEq, reduceCtorEq, Nat.reduceEqDiff, Nat.reduceAdd, Nat.reduceMul, Nat.reduceSub, Int.reduceToNat, Int.reduceEq, Int.reduceLT, Int.reduceLE, Int.reduceAdd, Int.reduceSub, Int.reduceMul, reduceIte, resVs, resV, packV, initT, addr, F8, kg, k25, kw, hm] | refine OrW.go ?_
      have hG := graph_few hgr
      have g1 := hG.nlen; have g2 := hG.dlen
      have hNR := hN.needs hG.rows
      have hr30 : roots.length ≤ 30 := by simp [shortB] at hsr; omega
      have hrow := fun i => Nat.le_trans (hG.row i) (show 30 ≤ 1000 by omega)
      rw [F8_cut]
      repeat first | simp (implicitDefEqProofs := false) (maxSteps := 1000000) (disch := first | omega | with_reducible assumption | (simp only [lenT, Nat.reduceAdd]; omega)) only [amT, cut, bnd, Nat.reduceBEq, reduceCtorEq, Nat.reduceEqDiff, Nat.reduceAdd, Nat.reduceMul, Nat.reduceSub, Int.reduceToNat, Int.reduceEq, Int.reduceLT, Int.reduceLE, Int.reduceAdd, Int.reduceSub, Int.reduceMul, reduceIte, resVs, resV, packV, initT, addr, F8, hd_seq, tl_seq, kg, k25, hm] | refine OrW.go ?_
      refine RelC.call (sort_ok (mx m []) a c names (ha.old (Old.here _ [])) (by omega) na nc needs (hNR.old (Old.here _ [])) (by omega)) ?_
      rintro r M1 ⟨hO1, v1, rfl, hI1⟩
      have hz1 : Old m M1 := (Old.here m []).trans hO1
      repeat first | simp (implicitDefEqProofs := false) (maxSteps := 1000000) (disch := first | omega | with_reducible assumption | (simp only [lenT, Nat.reduceAdd]; omega)) only [amT, cut, bnd, Nat.reduceBEq, reduceCtorEq, Nat.reduceEqDiff, Nat.reduceAdd, Nat.reduceMul, Nat.reduceSub, Int.reduceToNat, Int.reduceEq, Int.reduceLT, Int.reduceLE, Int.reduceAdd, Int.reduceSub, Int.reduceMul, reduceIte, resVs, resV, packV, initT, addr] | refine OrW.go ?_
      refine RelC.call (closure_ok (mx M1 []) a c names (ha.old (hz1.mx [])) (by omega) na nc needs (hNR.old (hz1.mx [])) (by omega) ra rc roots (hR.old (hz1.mx [])) (by omega) hrow) ?_
      rintro r M2 ⟨hO2, v2, rfl, hI2⟩
      have hy2 : Old M1 M2 := (Old.here M1 []).trans hO2
      have hz2 := hz1.trans hy2
      have hL := hI1.old hy2
      have kw2 := kWorks (hg.old hz2) []
      by_cases hnd : names.Nodup
      case neg =>
        have e1 := sort_err (needs := needs) hnd
        have e2 : (closR names needs roots).2 = 151 := by unfold closR; rw [if_neg hnd]
        rw [e1, e2]
        repeat first | simp (implicitDefEqProofs := false) (maxSteps := 1000000) (disch := first | omega | with_reducible assumption | (simp only [lenT, Nat.reduceAdd]; omega)) only [amT, cut, bnd, Nat.reduceBEq, reduceCtorEq, Nat.reduceEqDiff, Nat.reduceAdd, Nat.reduceMul, Nat.reduceSub, Int.reduceToNat, Int.reduceEq, Int.reduceLT, Int.reduceLE, Int.reduceAdd, Int.reduceSub, Int.reduceMul, reduceIte, resVs, resV, packV, initT, addr, kw2] | refine OrW.go ?_
        exact hz2.mx []
      have e2 : closR names needs roots = (closO names needs roots, 0) := by unfold closR; rw [if_pos hnd]
      have hcl : (closO names needs roots).length ≤ 30 := by
        have := closR_len (names := names) (needs := needs) (roots := roots)
        rw [e2] at this; simp only at this; omega
      rw [e2] at hI2 ⊢
      simp only at hI2
      have hsl := sortR_len (names := names) (needs := needs)
      have htwo := sort_two (needs := needs) hnd
      have hfa := sort_facts (needs := needs) hnd
      generalize (sortR names needs).1 = l at *
      generalize (sortR names needs).2 = e at *
      obtain ⟨la, lc, rfl⟩ := hL.len
      obtain ⟨ca, cc, rfl⟩ := hI2.len
      have hb := fun t => holds_b m M2 hg hz2 a c names ha (by omega) na nc needs hNR (by omega) hrow ra rc roots hR hr30 more hnd ca cc hI2 t
      have hCC : ∀ i, i ∈ closO names needs roots → ∀ s ∈ rowOf needs i, ∀ p, plR names s = some p → 0 ≤ pz (closO names needs roots) p := fun i hi s hs p hp => pz_nonneg.2 (mem_clos.2 (.step (mem_clos.1 hi) hs hp))
      generalize closO names needs roots = C at *
      have kp := fun s => DetC.known (place_ok (mx M2 []) a c names s (ha.old (hz2.mx [])) (by omega))
      have kl := fun n => DetC.known (placeInt_ok (mx M2 []) la lc l n (hL.row.old (Old.here _ [])) (by omega))
      have kc := fun n => DetC.known (placeInt_ok (mx M2 []) ca cc C n (hI2.row.old (Old.here _ [])) (by omega))
      have step : ∀ (e : Int) (t : Tmps), (e = 0 → (∀ i, i < names.length → 0 ≤ pz l i) ∧ ∀ i, i < names.length → ∀ s ∈ rowOf needs i, ∀ p, plR names s = some p → pz l p < pz l i) → t 0 = .slice a names.length c → t 1 = .slice na needs.length nc → t 2 = .slice ra roots.length rc → t 3 = .string ⟨more.toArray⟩ → t 9 = .slice la l.length lc → t 10 = .int .i64 e → t 11 = .slice ca C.length cc → t 13 = .int .i64 0 →
          W Tryd.prog 3 F8_l0.loop (BlockK 0 (SeqK (W Tryd.prog 3 F8_X (RetK [.t 8] fun r m' => r = .ret (.bool true) ∧ Old m m')) (RetK [.t 8] fun r m' => r = .ret (.bool true) ∧ Old m m'))) ⟨t, mx M2 [], []⟩ := by
        intro e t he u0 u1 u2 u3 u9 u10 u11 u13
        refine W_loop (fun N qs => ∃ (i : Nat), N = names.length - i ∧ qs.ds = [] ∧ qs.m = mx M2 [] ∧ qs.t 0 = .slice a names.length c ∧ qs.t 1 = .slice na needs.length nc ∧ qs.t 2 = .slice ra roots.length rc ∧ qs.t 3 = .string ⟨more.toArray⟩ ∧ qs.t 9 = .slice la l.length lc ∧ qs.t 10 = .int .i64 e ∧ qs.t 11 = .slice ca C.length cc ∧ qs.t 13 = .int .i64 i ∧ i ≤ names.length) (names.length - (0)) ⟨0, rfl, rfl, ?qm, ?q0, ?q1, ?q2, ?q3, ?q9, ?q10, ?q11, ?q13, ?_⟩ ?_
        case qm | q0 | q1 | q2 | q3 | q9 | q10 | q11 | q13 => first | rfl | (simp (implicitDefEqProofs := false) (maxSteps := 1000000) (disch := first | omega | with_reducible assumption | (simp only [lenT, Nat.reduceAdd]; omega)) only [amT, cut, bnd, Nat.reduceBEq, reduceCtorEq, Nat.reduceEqDiff, Nat.reduceAdd, Nat.reduceMul, Nat.reduceSub, Int.reduceToNat, Int.reduceEq, Int.reduceLT, Int.reduceLE, Int.reduceAdd, Int.reduceSub, Int.reduceMul, reduceIte, resVs, resV, packV, initT, addr, u0, u1, u2, u3, u9, u10, u11, u13]; first | done | rfl | (congr 1; omega))
        · omega
        · rintro N t m1 ds ⟨i, rfl, hds, hm, t0, t1, t2, t3, t9, t10, t11, t13, hp⟩
          simp only at hds hm t0 t1 t2 t3 t9 t10 t11 t13
          subst hds; replace hm := hm.symm; subst hm
          by_cases g : (i : Int) < (names.length : Int)
          · have hi' : i < names.length := by omega
            repeat first | simp (implicitDefEqProofs := false) (maxSteps := 1000000) (disch := first | omega | with_reducible assumption | (simp only [lenT, Nat.reduceAdd]; omega)) only [amT, cut, bnd, Nat.reduceBEq, reduceCtorEq, Nat.reduceEqDiff, Nat.reduceAdd, Nat.reduceMul, Nat.reduceSub, Int.reduceToNat, Int.reduceEq, Int.reduceLT, Int.reduceLE, Int.reduceAdd, Int.reduceSub, Int.reduceMul, reduceIte, resVs, resV, packV, initT, addr, F8_l0, t0, t1, t2, t3, t9, t10, t11, t13, g] | refine OrW.go ?_
            refine W_loop (fun N qs => ∃ (k : Nat), N = (rowOf needs i).length - k ∧ qs.ds = [] ∧ qs.m = mx M2 [] ∧ qs.t 0 = .slice a names.length c ∧ qs.t 1 = .slice na needs.length nc ∧ qs.t 2 = .slice ra roots.length rc ∧ qs.t 3 = .string ⟨more.toArray⟩ ∧ qs.t 9 = .slice la l.length lc ∧ qs.t 10 = .int .i64 e ∧ qs.t 11 = .slice ca C.length cc ∧ qs.t 13 = .int .i64 i ∧ qs.t 14 = .int .i64 k ∧ k ≤ (rowOf needs i).length) ((rowOf needs i).length - (0)) ⟨0, rfl, rfl, ?qm, ?q0, ?q1, ?q2, ?q3, ?q9, ?q10, ?q11, ?q13, ?q14, ?_⟩ ?_
            case qm | q0 | q1 | q2 | q3 | q9 | q10 | q11 | q13 | q14 => first | rfl | (simp (implicitDefEqProofs := false) (maxSteps := 1000000) (disch := first | omega | with_reducible assumption | (simp only [lenT, Nat.reduceAdd]; omega)) only [amT, cut, bnd, Nat.reduceBEq, reduceCtorEq, Nat.reduceEqDiff, Nat.reduceAdd, Nat.reduceMul, Nat.reduceSub, Int.reduceToNat, Int.reduceEq, Int.reduceLT, Int.reduceLE, Int.reduceAdd, Int.reduceSub, Int.reduceMul, reduceIte, resVs, resV, packV, initT, addr, t0, t1, t2, t3, t9, t10, t11, t13]; first | done | rfl | (congr 1; omega))
            · omega
            · rintro N t m1 ds ⟨k, rfl, hds, hm, t0, t1, t2, t3, t9, t10, t11, t13, t14, hp⟩
              simp only at hds hm t0 t1 t2 t3 t9 t10 t11 t13 t14
              subst hds; replace hm := hm.symm; subst hm
              have fin : (∃ h : i < needs.length, k < needs[i].length) ∨ ((k = (rowOf needs i).length) ∧ (¬ (i : Int) < (needs.length : Int) ∨ ∃ h : i < needs.length, k = needs[i].length)) := by
                by_cases h : i < needs.length
                · have e1 : rowOf needs i = needs[i] := by simp [rowOf, List.getD, h]
                  rw [e1] at hp ⊢
                  rcases Nat.lt_or_ge k needs[i].length with h2 | h2
                  · exact .inl ⟨h, h2⟩
                  · exact .inr ⟨by omega, .inr ⟨h, by omega⟩⟩
                · have e1 : rowOf needs i = [] := by simp [rowOf, List.getD, h]
                  rw [e1] at hp ⊢
                  exact .inr ⟨by simpa using hp, .inl (by omega)⟩
              rcases fin with ⟨hin, hk⟩ | ⟨hk, hend⟩
              · have gi : (i : Int) < (needs.length : Int) := by omega
                have gk : (k : Int) < (needs[i].length : Int) := by omega
                have e1 : rowOf needs i = needs[i] := by simp [rowOf, List.getD, hin]
                obtain ⟨b, o, rra, rrc, e0, hb1, hr1, hS, _⟩ := hNR i hin
                obtain ⟨b2, o2, e02, hb2, hr2⟩ := hS.str k hk
                have hbM : b < M2.size := Nat.lt_of_lt_of_le hb1 hz2.1
                have hb2M : b2 < M2.size := Nat.lt_of_lt_of_le hb2 hz2.1
                have hr1M : rdO (M2.get b) (o + i) 1 = some [.slice rra needs[i].length rrc] := by rw [hz2.2 b hb1]; exact hr1
                have hr2M : rdO (M2.get b2) (o2 + k) 1 = some [.string ⟨needs[i][k].toArray⟩] := by rw [hz2.2 b2 hb2]; exact hr2
                have hsm : needs[i][k] ∈ rowOf needs i := by rw [e1]; exact List.getElem_mem hk
                have k1 := kp needs[i][k]
                have hkr : k < (rowOf needs i).length := by rw [e1]; exact hk
                cases hpl : plR names needs[i][k] with
                | none =>
                  have ez : plZ names needs[i][k] = -1 := by simp [plZ, hpl]
                  have gz : ¬ (0 : Int) ≤ -1 := by omega
                  rw [ez] at k1
                  repeat first | simp (implicitDefEqProofs := false) (maxSteps := 1000000) (disch := first | omega | with_reducible assumption | (simp only [lenT, Nat.reduceAdd]; omega)) only [amT, cut, bnd, Nat.reduceBEq, reduceCtorEq, Nat.reduceEqDiff, Nat.reduceAdd, Nat.reduceMul, Nat.reduceSub, Int.reduceToNat, Int.reduceEq, Int.reduceLT, Int.reduceLE, Int.reduceAdd, Int.reduceSub, Int.reduceMul, reduceIte, resVs, resV, packV, initT, addr, F8_l1, t0, t1, t2, t3, t9, t10, t11, t13, t14, gi, gk, e0, hr1M, e02, hr2M, k1, gz, undef] | refine OrW.go ?_
                  rw [LoopK_normal]; refine ⟨_, ?_, k + 1, rfl, rfl, ?qm, ?q0, ?q1, ?q2, ?q3, ?q9, ?q10, ?q11, ?q13, ?q14, ?_⟩
                  case qm | q0 | q1 | q2 | q3 | q9 | q10 | q11 | q13 | q14 => first | rfl | (simp (implicitDefEqProofs := false) (maxSteps := 1000000) (disch := first | omega | with_reducible assumption | (simp only [lenT, Nat.reduceAdd]; omega)) only [amT, cut, bnd, Nat.reduceBEq, reduceCtorEq, Nat.reduceEqDiff, Nat.reduceAdd, Nat.reduceMul, Nat.reduceSub, Int.reduceToNat, Int.reduceEq, Int.reduceLT, Int.reduceLE, Int.reduceAdd, Int.reduceSub, Int.reduceMul, reduceIte, resVs, resV, packV, initT, addr, t0, t1, t2, t3, t9, t10, t11, t13, t14, e0]; first | done | rfl | (congr 1; omega))
                  · omega
                  · omega
                | some p =>
                  have ez : plZ names needs[i][k] = (p : Nat) := by simp [plZ, hpl]
                  have gz : (0 : Int) ≤ (p : Int) := by omega
                  rw [ez] at k1
                  have q1 := kl p
                  have q2 := kl i
                  have q3 := kc p
                  have q4 := kc i
                  have hci : ¬ pz C i < 0 → ¬ pz C p < 0 := fun h => by
                    have := hCC i (pz_nonneg.1 (by omega)) _ hsm p hpl
                    omega
                  by_cases h0 : e = 0
                  · have hlt : ¬ pz l i ≤ pz l p := by have := (he h0).2 i hi' _ hsm p hpl; omega
                    by_cases hc : pz C i < 0
                    · have hc' : ¬ 0 ≤ pz C i := by omega
                      repeat first | simp (implicitDefEqProofs := false) (maxSteps := 1000000) (disch := first | omega | with_reducible assumption | (simp only [lenT, Nat.reduceAdd]; omega)) only [amT, cut, bnd, Nat.reduceBEq, reduceCtorEq, Nat.reduceEqDiff, Nat.reduceAdd, Nat.reduceMul, Nat.reduceSub, Int.reduceToNat, Int.reduceEq, Int.reduceLT, Int.reduceLE, Int.reduceAdd, Int.reduceSub, Int.reduceMul, reduceIte, resVs, resV, packV, initT, addr, F8_l1, t0, t1, t2, t3, t9, t10, t11, t13, t14, gi, gk, e0, hr1M, e02, hr2M, k1, gz, h0, q1, q2, q3, q4, hlt, hc'] | refine OrW.go ?_
                      rw [LoopK_normal]; refine ⟨_, ?_, k + 1, rfl, rfl, ?qm, ?q0, ?q1, ?q2, ?q3, ?q9, ?q10, ?q11, ?q13, ?q14, ?_⟩
                      case qm | q0 | q1 | q2 | q3 | q9 | q10 | q11 | q13 | q14 => first | rfl | (simp (implicitDefEqProofs := false) (maxSteps := 1000000) (disch := first | omega | with_reducible assumption | (simp only [lenT, Nat.reduceAdd]; omega)) only [amT, cut, bnd, Nat.reduceBEq, reduceCtorEq, Nat.reduceEqDiff, Nat.reduceAdd, Nat.reduceMul, Nat.reduceSub, Int.reduceToNat, Int.reduceEq, Int.reduceLT, Int.reduceLE, Int.reduceAdd, Int.reduceSub, Int.reduceMul, reduceIte, resVs, resV, packV, initT, addr, t0, t1, t2, t3, t9, t10, t11, t13, t14, e0, h0]; first | done | rfl | (congr 1; omega))
                      · omega
                      · omega
                    · have hc' : 0 ≤ pz C i := by omega
                      have hp' := hci hc
                      repeat first | simp (implicitDefEqProofs := false) (maxSteps := 1000000) (disch := first | omega | with_reducible assumption | (simp only [lenT, Nat.reduceAdd]; omega)) only [amT, cut, bnd, Nat.reduceBEq, reduceCtorEq, Nat.reduceEqDiff, Nat.reduceAdd, Nat.reduceMul, Nat.reduceSub, Int.reduceToNat, Int.reduceEq, Int.reduceLT, Int.reduceLE, Int.reduceAdd, Int.reduceSub, Int.reduceMul, reduceIte, resVs, resV, packV, initT, addr, F8_l1, t0, t1, t2, t3, t9, t10, t11, t13, t14, gi, gk, e0, hr1M, e02, hr2M, k1, gz, h0, q1, q2, q3, q4, hlt, hc', hp'] | refine OrW.go ?_
                      rw [LoopK_normal]; refine ⟨_, ?_, k + 1, rfl, rfl, ?qm, ?q0, ?q1, ?q2, ?q3, ?q9, ?q10, ?q11, ?q13, ?q14, ?_⟩
                      case qm | q0 | q1 | q2 | q3 | q9 | q10 | q11 | q13 | q14 => first | rfl | (simp (implicitDefEqProofs := false) (maxSteps := 1000000) (disch := first | omega | with_reducible assumption | (simp only [lenT, Nat.reduceAdd]; omega)) only [amT, cut, bnd, Nat.reduceBEq, reduceCtorEq, Nat.reduceEqDiff, Nat.reduceAdd, Nat.reduceMul, Nat.reduceSub, Int.reduceToNat, Int.reduceEq, Int.reduceLT, Int.reduceLE, Int.reduceAdd, Int.reduceSub, Int.reduceMul, reduceIte, resVs, resV, packV, initT, addr, t0, t1, t2, t3, t9, t10, t11, t13, t14, e0, h0]; first | done | rfl | (congr 1; omega))
                      · omega
                      · omega
                  · by_cases hc : pz C i < 0
                    · have hc' : ¬ 0 ≤ pz C i := by omega
                      repeat first | simp (implicitDefEqProofs := false) (maxSteps := 1000000) (disch := first | omega | with_reducible assumption | (simp only [lenT, Nat.reduceAdd]; omega)) only [amT, cut, bnd, Nat.reduceBEq, reduceCtorEq, Nat.reduceEqDiff, Nat.reduceAdd, Nat.reduceMul, Nat.reduceSub, Int.reduceToNat, Int.reduceEq, Int.reduceLT, Int.reduceLE, Int.reduceAdd, Int.reduceSub, Int.reduceMul, reduceIte, resVs, resV, packV, initT, addr, F8_l1, t0, t1, t2, t3, t9, t10, t11, t13, t14, gi, gk, e0, hr1M, e02, hr2M, k1, gz, h0, q1, q2, q3, q4, hc', undef] | refine OrW.go ?_
                      rw [LoopK_normal]; refine ⟨_, ?_, k + 1, rfl, rfl, ?qm, ?q0, ?q1, ?q2, ?q3, ?q9, ?q10, ?q11, ?q13, ?q14, ?_⟩
                      case qm | q0 | q1 | q2 | q3 | q9 | q10 | q11 | q13 | q14 => first | rfl | (simp (implicitDefEqProofs := false) (maxSteps := 1000000) (disch := first | omega | with_reducible assumption | (simp only [lenT, Nat.reduceAdd]; omega)) only [amT, cut, bnd, Nat.reduceBEq, reduceCtorEq, Nat.reduceEqDiff, Nat.reduceAdd, Nat.reduceMul, Nat.reduceSub, Int.reduceToNat, Int.reduceEq, Int.reduceLT, Int.reduceLE, Int.reduceAdd, Int.reduceSub, Int.reduceMul, reduceIte, resVs, resV, packV, initT, addr, t0, t1, t2, t3, t9, t10, t11, t13, t14, e0]; first | done | rfl | (congr 1; omega))
                      · omega
                      · omega
                    · have hc' : 0 ≤ pz C i := by omega
                      have hp' := hci hc
                      repeat first | simp (implicitDefEqProofs := false) (maxSteps := 1000000) (disch := first | omega | with_reducible assumption | (simp only [lenT, Nat.reduceAdd]; omega)) only [amT, cut, bnd, Nat.reduceBEq, reduceCtorEq, Nat.reduceEqDiff, Nat.reduceAdd, Nat.reduceMul, Nat.reduceSub, Int.reduceToNat, Int.reduceEq, Int.reduceLT, Int.reduceLE, Int.reduceAdd, Int.reduceSub, Int.reduceMul, reduceIte, resVs, resV, packV, initT, addr, F8_l1, t0, t1, t2, t3, t9, t10, t11, t13, t14, gi, gk, e0, hr1M, e02, hr2M, k1, gz, h0, q1, q2, q3, q4, hc', hp', undef] | refine OrW.go ?_
                      rw [LoopK_normal]; refine ⟨_, ?_, k + 1, rfl, rfl, ?qm, ?q0, ?q1, ?q2, ?q3, ?q9, ?q10, ?q11, ?q13, ?q14, ?_⟩
                      case qm | q0 | q1 | q2 | q3 | q9 | q10 | q11 | q13 | q14 => first | rfl | (simp (implicitDefEqProofs := false) (maxSteps := 1000000) (disch := first | omega | with_reducible assumption | (simp only [lenT, Nat.reduceAdd]; omega)) only [amT, cut, bnd, Nat.reduceBEq, reduceCtorEq, Nat.reduceEqDiff, Nat.reduceAdd, Nat.reduceMul, Nat.reduceSub, Int.reduceToNat, Int.reduceEq, Int.reduceLT, Int.reduceLE, Int.reduceAdd, Int.reduceSub, Int.reduceMul, reduceIte, resVs, resV, packV, initT, addr, t0, t1, t2, t3, t9, t10, t11, t13, t14, e0]; first | done | rfl | (congr 1; omega))
                      · omega
                      · omega
              · have q2 := kl i
                by_cases h0 : e = 0
                · have hlt : ¬ pz l i < 0 := by have := (he h0).1 i hi'; omega
                  rcases hend with gi | ⟨hin, hke⟩
                  · repeat first | simp (implicitDefEqProofs := false) (maxSteps := 1000000) (disch := first | omega | with_reducible assumption | (simp only [lenT, Nat.reduceAdd]; omega)) only [amT, cut, bnd, Nat.reduceBEq, reduceCtorEq, Nat.reduceEqDiff, Nat.reduceAdd, Nat.reduceMul, Nat.reduceSub, Int.reduceToNat, Int.reduceEq, Int.reduceLT, Int.reduceLE, Int.reduceAdd, Int.reduceSub, Int.reduceMul, reduceIte, resVs, resV, packV, initT, addr, F8_l1, t0, t1, t2, t3, t9, t10, t11, t13, t14, gi, h0, q2, hlt, undef] | refine OrW.go ?_
                    rw [LoopK_normal]; refine ⟨_, ?_, i + 1, rfl, rfl, ?qm, ?q0, ?q1, ?q2, ?q3, ?q9, ?q10, ?q11, ?q13, ?_⟩
                    case qm | q0 | q1 | q2 | q3 | q9 | q10 | q11 | q13 => first | rfl | (simp (implicitDefEqProofs := false) (maxSteps := 1000000) (disch := first | omega | with_reducible assumption | (simp only [lenT, Nat.reduceAdd]; omega)) only [amT, cut, bnd, Nat.reduceBEq, reduceCtorEq, Nat.reduceEqDiff, Nat.reduceAdd, Nat.reduceMul, Nat.reduceSub, Int.reduceToNat, Int.reduceEq, Int.reduceLT, Int.reduceLE, Int.reduceAdd, Int.reduceSub, Int.reduceMul, reduceIte, resVs, resV, packV, initT, addr, t0, t1, t2, t3, t9, t10, t11, t13, t14, h0]; first | done | rfl | (congr 1; omega))
                    · omega
                    · omega
                  · have gi : (i : Int) < (needs.length : Int) := by omega
                    have gk : ¬ (k : Int) < (needs[i].length : Int) := by omega
                    obtain ⟨b, o, rra, rrc, e0, hb1, hr1, hS, _⟩ := hNR i hin
                    have hbM : b < M2.size := Nat.lt_of_lt_of_le hb1 hz2.1
                    have hr1M : rdO (M2.get b) (o + i) 1 = some [.slice rra needs[i].length rrc] := by rw [hz2.2 b hb1]; exact hr1
                    repeat first | simp (implicitDefEqProofs := false) (maxSteps := 1000000) (disch := first | omega | with_reducible assumption | (simp only [lenT, Nat.reduceAdd]; omega)) only [amT, cut, bnd, Nat.reduceBEq, reduceCtorEq, Nat.reduceEqDiff, Nat.reduceAdd, Nat.reduceMul, Nat.reduceSub, Int.reduceToNat, Int.reduceEq, Int.reduceLT, Int.reduceLE, Int.reduceAdd, Int.reduceSub, Int.reduceMul, reduceIte, resVs, resV, packV, initT, addr, F8_l1, t0, t1, t2, t3, t9, t10, t11, t13, t14, gi, gk, e0, hr1M, h0, q2, hlt, undef] | refine OrW.go ?_
                    rw [LoopK_normal]; refine ⟨_, ?_, i + 1, rfl, rfl, ?qm, ?q0, ?q1, ?q2, ?q3, ?q9, ?q10, ?q11, ?q13, ?_⟩
                    case qm | q0 | q1 | q2 | q3 | q9 | q10 | q11 | q13 => first | rfl | (simp (implicitDefEqProofs := false) (maxSteps := 1000000) (disch := first | omega | with_reducible assumption | (simp only [lenT, Nat.reduceAdd]; omega)) only [amT, cut, bnd, Nat.reduceBEq, reduceCtorEq, Nat.reduceEqDiff, Nat.reduceAdd, Nat.reduceMul, Nat.reduceSub, Int.reduceToNat, Int.reduceEq, Int.reduceLT, Int.reduceLE, Int.reduceAdd, Int.reduceSub, Int.reduceMul, reduceIte, resVs, resV, packV, initT, addr, t0, t1, t2, t3, t9, t10, t11, t13, t14, e0, h0]; first | done | rfl | (congr 1; omega))
                    · omega
                    · omega
                · rcases hend with gi | ⟨hin, hke⟩
                  · repeat first | simp (implicitDefEqProofs := false) (maxSteps := 1000000) (disch := first | omega | with_reducible assumption | (simp only [lenT, Nat.reduceAdd]; omega)) only [amT, cut, bnd, Nat.reduceBEq, reduceCtorEq, Nat.reduceEqDiff, Nat.reduceAdd, Nat.reduceMul, Nat.reduceSub, Int.reduceToNat, Int.reduceEq, Int.reduceLT, Int.reduceLE, Int.reduceAdd, Int.reduceSub, Int.reduceMul, reduceIte, resVs, resV, packV, initT, addr, F8_l1, t0, t1, t2, t3, t9, t10, t11, t13, t14, gi, h0, q2, undef] | refine OrW.go ?_
                    rw [LoopK_normal]; refine ⟨_, ?_, i + 1, rfl, rfl, ?qm, ?q0, ?q1, ?q2, ?q3, ?q9, ?q10, ?q11, ?q13, ?_⟩
                    case qm | q0 | q1 | q2 | q3 | q9 | q10 | q11 | q13 => first | rfl | (simp (implicitDefEqProofs := false) (maxSteps := 1000000) (disch := first | omega | with_reducible assumption | (simp only [lenT, Nat.reduceAdd]; omega)) only [amT, cut, bnd, Nat.reduceBEq, reduceCtorEq, Nat.reduceEqDiff, Nat.reduceAdd, Nat.reduceMul, Nat.reduceSub, Int.reduceToNat, Int.reduceEq, Int.reduceLT, Int.reduceLE, Int.reduceAdd, Int.reduceSub, Int.reduceMul, reduceIte, resVs, resV, packV, initT, addr, t0, t1, t2, t3, t9, t10, t11, t13, t14]; first | done | rfl | (congr 1; omega))
                    · omega
                    · omega
                  · have gi : (i : Int) < (needs.length : Int) := by omega
                    have gk : ¬ (k : Int) < (needs[i].length : Int) := by omega
                    obtain ⟨b, o, rra, rrc, e0, hb1, hr1, hS, _⟩ := hNR i hin
                    have hbM : b < M2.size := Nat.lt_of_lt_of_le hb1 hz2.1
                    have hr1M : rdO (M2.get b) (o + i) 1 = some [.slice rra needs[i].length rrc] := by rw [hz2.2 b hb1]; exact hr1
                    repeat first | simp (implicitDefEqProofs := false) (maxSteps := 1000000) (disch := first | omega | with_reducible assumption | (simp only [lenT, Nat.reduceAdd]; omega)) only [amT, cut, bnd, Nat.reduceBEq, reduceCtorEq, Nat.reduceEqDiff, Nat.reduceAdd, Nat.reduceMul, Nat.reduceSub, Int.reduceToNat, Int.reduceEq, Int.reduceLT, Int.reduceLE, Int.reduceAdd, Int.reduceSub, Int.reduceMul, reduceIte, resVs, resV, packV, initT, addr, F8_l1, t0, t1, t2, t3, t9, t10, t11, t13, t14, gi, gk, e0, hr1M, h0, q2, undef] | refine OrW.go ?_
                    rw [LoopK_normal]; refine ⟨_, ?_, i + 1, rfl, rfl, ?qm, ?q0, ?q1, ?q2, ?q3, ?q9, ?q10, ?q11, ?q13, ?_⟩
                    case qm | q0 | q1 | q2 | q3 | q9 | q10 | q11 | q13 => first | rfl | (simp (implicitDefEqProofs := false) (maxSteps := 1000000) (disch := first | omega | with_reducible assumption | (simp only [lenT, Nat.reduceAdd]; omega)) only [amT, cut, bnd, Nat.reduceBEq, reduceCtorEq, Nat.reduceEqDiff, Nat.reduceAdd, Nat.reduceMul, Nat.reduceSub, Int.reduceToNat, Int.reduceEq, Int.reduceLT, Int.reduceLE, Int.reduceAdd, Int.reduceSub, Int.reduceMul, reduceIte, resVs, resV, packV, initT, addr, t0, t1, t2, t3, t9, t10, t11, t13, t14, e0]; first | done | rfl | (congr 1; omega))
                    · omega
                    · omega
          · obtain rfl : i = names.length := by omega
            repeat first | simp (implicitDefEqProofs := false) (maxSteps := 1000000) (disch := first | omega | with_reducible assumption | (simp only [lenT, Nat.reduceAdd]; omega)) only [amT, cut, bnd, Nat.reduceBEq, reduceCtorEq, Nat.reduceEqDiff, Nat.reduceAdd, Nat.reduceMul, Nat.reduceSub, Int.reduceToNat, Int.reduceEq, Int.reduceLT, Int.reduceLE, Int.reduceAdd, Int.reduceSub, Int.reduceMul, reduceIte, resVs, resV, packV, initT, addr, F8_l0, t0, t1, t2, t3, t9, t10, t11, t13, g] | refine OrW.go ?_
            exact hb _ (by simp (implicitDefEqProofs := false) (maxSteps := 1000000) (disch := first | omega | with_reducible assumption | (simp only [lenT, Nat.reduceAdd]; omega)) only [amT, cut, bnd, Nat.reduceBEq, reduceCtorEq, Nat.reduceEqDiff, Nat.reduceAdd, Nat.reduceMul, Nat.reduceSub, Int.reduceToNat, Int.reduceEq, Int.reduceLT, Int.reduceLE, Int.reduceAdd, Int.reduceSub, Int.reduceMul, reduceIte, resVs, resV, packV, initT, addr, t0, t1, t2, t3, t9, t10, t11, t13]) (by simp (implicitDefEqProofs := false) (maxSteps := 1000000) (disch := first | omega | with_reducible assumption | (simp only [lenT, Nat.reduceAdd]; omega)) only [amT, cut, bnd, Nat.reduceBEq, reduceCtorEq, Nat.reduceEqDiff, Nat.reduceAdd, Nat.reduceMul, Nat.reduceSub, Int.reduceToNat, Int.reduceEq, Int.reduceLT, Int.reduceLE, Int.reduceAdd, Int.reduceSub, Int.reduceMul, reduceIte, resVs, resV, packV, initT, addr, t0, t1, t2, t3, t9, t10, t11, t13]) (by simp (implicitDefEqProofs := false) (maxSteps := 1000000) (disch := first | omega | with_reducible assumption | (simp only [lenT, Nat.reduceAdd]; omega)) only [amT, cut, bnd, Nat.reduceBEq, reduceCtorEq, Nat.reduceEqDiff, Nat.reduceAdd, Nat.reduceMul, Nat.reduceSub, Int.reduceToNat, Int.reduceEq, Int.reduceLT, Int.reduceLE, Int.reduceAdd, Int.reduceSub, Int.reduceMul, reduceIte, resVs, resV, packV, initT, addr, t0, t1, t2, t3, t9, t10, t11, t13]) (by simp (implicitDefEqProofs := false) (maxSteps := 1000000) (disch := first | omega | with_reducible assumption | (simp only [lenT, Nat.reduceAdd]; omega)) only [amT, cut, bnd, Nat.reduceBEq, reduceCtorEq, Nat.reduceEqDiff, Nat.reduceAdd, Nat.reduceMul, Nat.reduceSub, Int.reduceToNat, Int.reduceEq, Int.reduceLT, Int.reduceLE, Int.reduceAdd, Int.reduceSub, Int.reduceMul, reduceIte, resVs, resV, packV, initT, addr, t0, t1, t2, t3, t9, t10, t11, t13]) (by simp (implicitDefEqProofs := false) (maxSteps := 1000000) (disch := first | omega | with_reducible assumption | (simp only [lenT, Nat.reduceAdd]; omega)) only [amT, cut, bnd, Nat.reduceBEq, reduceCtorEq, Nat.reduceEqDiff, Nat.reduceAdd, Nat.reduceMul, Nat.reduceSub, Int.reduceToNat, Int.reduceEq, Int.reduceLT, Int.reduceLE, Int.reduceAdd, Int.reduceSub, Int.reduceMul, reduceIte, resVs, resV, packV, initT, addr, t0, t1, t2, t3, t9, t10, t11, t13])
      rcases htwo with rfl | rfl
      · obtain ⟨f1, f2, f3⟩ := hfa rfl
        have gl : (l.length : Int) = (names.length : Int) := by omega
        repeat first | simp (implicitDefEqProofs := false) (maxSteps := 1000000) (disch := first | omega | with_reducible assumption | (simp only [lenT, Nat.reduceAdd]; omega)) only [amT, cut, bnd, Nat.reduceBEq, reduceCtorEq, Nat.reduceEqDiff, Nat.reduceAdd, Nat.reduceMul, Nat.reduceSub, Int.reduceToNat, Int.reduceEq, Int.reduceLT, Int.reduceLE, Int.reduceAdd, Int.reduceSub, Int.reduceMul, reduceIte, resVs, resV, packV, initT, addr, gl] | refine OrW.go ?_
        exact step 0 _ (fun _ => ⟨f2, f3⟩) (by simp (implicitDefEqProofs := false) (maxSteps := 1000000) (disch := first | omega | with_reducible assumption | (simp only [lenT, Nat.reduceAdd]; omega)) only [amT, cut, bnd, Nat.reduceBEq, reduceCtorEq, Nat.reduceEqDiff, Nat.reduceAdd, Nat.reduceMul, Nat.reduceSub, Int.reduceToNat, Int.reduceEq, Int.reduceLT, Int.reduceLE, Int.reduceAdd, Int.reduceSub, Int.reduceMul, reduceIte, resVs, resV, packV, initT, addr]) (by simp (implicitDefEqProofs := false) (maxSteps := 1000000) (disch := first | omega | with_reducible assumption | (simp only [lenT, Nat.reduceAdd]; omega)) only [amT, cut, bnd, Nat.reduceBEq, reduceCtorEq, Nat.reduceEqDiff, Nat.reduceAdd, Nat.reduceMul, Nat.reduceSub, Int.reduceToNat, Int.reduceEq, Int.reduceLT, Int.reduceLE, Int.reduceAdd, Int.reduceSub, Int.reduceMul, reduceIte, resVs, resV, packV, initT, addr]) (by simp (implicitDefEqProofs := false) (maxSteps := 1000000) (disch := first | omega | with_reducible assumption | (simp only [lenT, Nat.reduceAdd]; omega)) only [amT, cut, bnd, Nat.reduceBEq, reduceCtorEq, Nat.reduceEqDiff, Nat.reduceAdd, Nat.reduceMul, Nat.reduceSub, Int.reduceToNat, Int.reduceEq, Int.reduceLT, Int.reduceLE, Int.reduceAdd, Int.reduceSub, Int.reduceMul, reduceIte, resVs, resV, packV, initT, addr]) (by simp (implicitDefEqProofs := false) (maxSteps := 1000000) (disch := first | omega | with_reducible assumption | (simp only [lenT, Nat.reduceAdd]; omega)) only [amT, cut, bnd, Nat.reduceBEq, reduceCtorEq, Nat.reduceEqDiff, Nat.reduceAdd, Nat.reduceMul, Nat.reduceSub, Int.reduceToNat, Int.reduceEq, Int.reduceLT, Int.reduceLE, Int.reduceAdd, Int.reduceSub, Int.reduceMul, reduceIte, resVs, resV, packV, initT, addr]) (by simp (implicitDefEqProofs := false) (maxSteps := 1000000) (disch := first | omega | with_reducible assumption | (simp only [lenT, Nat.reduceAdd]; omega)) only [amT, cut, bnd, Nat.reduceBEq, reduceCtorEq, Nat.reduceEqDiff, Nat.reduceAdd, Nat.reduceMul, Nat.reduceSub, Int.reduceToNat, Int.reduceEq, Int.reduceLT, Int.reduceLE, Int.reduceAdd, Int.reduceSub, Int.reduceMul, reduceIte, resVs, resV, packV, initT, addr]) (by simp (implicitDefEqProofs := false) (maxSteps := 1000000) (disch := first | omega | with_reducible assumption | (simp only [lenT, Nat.reduceAdd]; omega)) only [amT, cut, bnd, Nat.reduceBEq, reduceCtorEq, Nat.reduceEqDiff, Nat.reduceAdd, Nat.reduceMul, Nat.reduceSub, Int.reduceToNat, Int.reduceEq, Int.reduceLT, Int.reduceLE, Int.reduceAdd, Int.reduceSub, Int.reduceMul, reduceIte, resVs, resV, packV, initT, addr]) (by simp (implicitDefEqProofs := false) (maxSteps := 1000000) (disch := first | omega | with_reducible assumption | (simp only [lenT, Nat.reduceAdd]; omega)) only [amT, cut, bnd, Nat.reduceBEq, reduceCtorEq, Nat.reduceEqDiff, Nat.reduceAdd, Nat.reduceMul, Nat.reduceSub, Int.reduceToNat, Int.reduceEq, Int.reduceLT, Int.reduceLE, Int.reduceAdd, Int.reduceSub, Int.reduceMul, reduceIte, resVs, resV, packV, initT, addr]) (by simp (implicitDefEqProofs := false) (maxSteps := 1000000) (disch := first | omega | with_reducible assumption | (simp only [lenT, Nat.reduceAdd]; omega)) only [amT, cut, bnd, Nat.reduceBEq, reduceCtorEq, Nat.reduceEqDiff, Nat.reduceAdd, Nat.reduceMul, Nat.reduceSub, Int.reduceToNat, Int.reduceEq, Int.reduceLT, Int.reduceLE, Int.reduceAdd, Int.reduceSub, Int.reduceMul, reduceIte, resVs, resV, packV, initT, addr])
      · repeat first | simp (implicitDefEqProofs := false) (maxSteps := 1000000) (disch := first | omega | with_reducible assumption | (simp only [lenT, Nat.reduceAdd]; omega)) only [amT, cut, bnd, Nat.reduceBEq, reduceCtorEq, Nat.reduceEqDiff, Nat.reduceAdd, Nat.reduceMul, Nat.reduceSub, Int.reduceToNat, Int.reduceEq, Int.reduceLT, Int.reduceLE, Int.reduceAdd, Int.reduceSub, Int.reduceMul, reduceIte, resVs, resV, packV, initT, addr] | refine OrW.go ?_
        exact step 240 _ (fun h => by simp at h) (by simp (implicitDefEqProofs := false) (maxSteps := 1000000) (disch := first | omega | with_reducible assumption | (simp only [lenT, Nat.reduceAdd]; omega)) only [amT, cut, bnd, Nat.reduceBEq, reduceCtorEq, Nat.reduceEqDiff, Nat.reduceAdd, Nat.reduceMul, Nat.reduceSub, Int.reduceToNat, Int.reduceEq, Int.reduceLT, Int.reduceLE, Int.reduceAdd, Int.reduceSub, Int.reduceMul, reduceIte, resVs, resV, packV, initT, addr]) (by simp (implicitDefEqProofs := false) (maxSteps := 1000000) (disch := first | omega | with_reducible assumption | (simp only [lenT, Nat.reduceAdd]; omega)) only [amT, cut, bnd, Nat.reduceBEq, reduceCtorEq, Nat.reduceEqDiff, Nat.reduceAdd, Nat.reduceMul, Nat.reduceSub, Int.reduceToNat, Int.reduceEq, Int.reduceLT, Int.reduceLE, Int.reduceAdd, Int.reduceSub, Int.reduceMul, reduceIte, resVs, resV, packV, initT, addr]) (by simp (implicitDefEqProofs := false) (maxSteps := 1000000) (disch := first | omega | with_reducible assumption | (simp only [lenT, Nat.reduceAdd]; omega)) only [amT, cut, bnd, Nat.reduceBEq, reduceCtorEq, Nat.reduceEqDiff, Nat.reduceAdd, Nat.reduceMul, Nat.reduceSub, Int.reduceToNat, Int.reduceEq, Int.reduceLT, Int.reduceLE, Int.reduceAdd, Int.reduceSub, Int.reduceMul, reduceIte, resVs, resV, packV, initT, addr]) (by simp (implicitDefEqProofs := false) (maxSteps := 1000000) (disch := first | omega | with_reducible assumption | (simp only [lenT, Nat.reduceAdd]; omega)) only [amT, cut, bnd, Nat.reduceBEq, reduceCtorEq, Nat.reduceEqDiff, Nat.reduceAdd, Nat.reduceMul, Nat.reduceSub, Int.reduceToNat, Int.reduceEq, Int.reduceLT, Int.reduceLE, Int.reduceAdd, Int.reduceSub, Int.reduceMul, reduceIte, resVs, resV, packV, initT, addr]) (by simp (implicitDefEqProofs := false) (maxSteps := 1000000) (disch := first | omega | with_reducible assumption | (simp only [lenT, Nat.reduceAdd]; omega)) only [amT, cut, bnd, Nat.reduceBEq, reduceCtorEq, Nat.reduceEqDiff, Nat.reduceAdd, Nat.reduceMul, Nat.reduceSub, Int.reduceToNat, Int.reduceEq, Int.reduceLT, Int.reduceLE, Int.reduceAdd, Int.reduceSub, Int.reduceMul, reduceIte, resVs, resV, packV, initT, addr]) (by simp (implicitDefEqProofs := false) (maxSteps := 1000000) (disch := first | omega | with_reducible assumption | (simp only [lenT, Nat.reduceAdd]; omega)) only [amT, cut, bnd, Nat.reduceBEq, reduceCtorEq, Nat.reduceEqDiff, Nat.reduceAdd, Nat.reduceMul, Nat.reduceSub, Int.reduceToNat, Int.reduceEq, Int.reduceLT, Int.reduceLE, Int.reduceAdd, Int.reduceSub, Int.reduceMul, reduceIte, resVs, resV, packV, initT, addr]) (by simp (implicitDefEqProofs := false) (maxSteps := 1000000) (disch := first | omega | with_reducible assumption | (simp only [lenT, Nat.reduceAdd]; omega)) only [amT, cut, bnd, Nat.reduceBEq, reduceCtorEq, Nat.reduceEqDiff, Nat.reduceAdd, Nat.reduceMul, Nat.reduceSub, Int.reduceToNat, Int.reduceEq, Int.reduceLT, Int.reduceLE, Int.reduceAdd, Int.reduceSub, Int.reduceMul, reduceIte, resVs, resV, packV, initT, addr]) (by simp (implicitDefEqProofs := false) (maxSteps := 1000000) (disch := first | omega | with_reducible assumption | (simp only [lenT, Nat.reduceAdd]; omega)) only [amT, cut, bnd, Nat.reduceBEq, reduceCtorEq, Nat.reduceEqDiff, Nat.reduceAdd, Nat.reduceMul, Nat.reduceSub, Int.reduceToNat, Int.reduceEq, Int.reduceLT, Int.reduceLE, Int.reduceAdd, Int.reduceSub, Int.reduceMul, reduceIte, resVs, resV, packV, initT, addr])
end Go.Proofs.YtgkmlbkocgjmmaaDoor
namespace Go.AM
set_option linter.unusedVariables false
section
variable {P : Program}
/-- A laid row of words. -/
theorem laid_words {w : World} {name : String} {g t e : Nat} {n : Nat} {zs : List UInt32} {cs : Array Value} {fuel : Nat} {p : List MemPlace}
    (hg : P.globalNamed name = some g) (hv : w.var? P name = some cs) (ht : P.underlying t = some (.array n e)) (he : P.underlying e = some (.int .u32)) (hct : P.cellsOf t = n) (hc : P.cellsOf e = 1)
    (hd : DataW.trod (fun _ => ()) P w 0 (fun _ => true) false fuel t cs.toList = some (.agg (zs.map fun z => .lit (.int .u32 (z.toNat : Int))), p)) :
    ∃ ty frz, w.heap[g]? = some (.cells cs ty frz) ∧ cs = (zs.map w32).toArray := by
  obtain ⟨xs, mm, _, ex, hlen, hl, hel⟩ := DataW.trod_array ht hd
  have e1 : zs.map (fun z => DataW.lit (.int .u32 (z.toNat : Int))) = xs.map (·.1) := DataW.agg.inj (Prod.mk.inj ex).1
  rw [hct] at hlen
  have hzl : zs.length = n := by have := congrArg List.length e1; simp at this; omega
  simp only [World.var?, hg, Option.bind_some] at hv
  split at hv <;> simp at hv
  rename_i cs' ty frz hh
  subst hv
  refine ⟨ty, frz, hh, ?_⟩
  apply Array.ext'
  apply List.ext_getElem
  · simp [hzl] at hlen ⊢; omega
  · intro i h1 h2
    have hi : i < n := by simp at hlen h1; omega
    have k := hel i hi
    rw [hc, Nat.mul_one] at k
    have k1 : (cs'.toList.drop i).take 1 = [cs'.toList[i]] := by rw [List.drop_eq_getElem_cons h1]; simp
    rw [k1, List.getElem?_eq_getElem (by omega)] at k
    obtain ⟨z, a0, b0, _⟩ := DataW.trod_int he k
    have a1 : cs'.toList[i] = .int .u32 z := by simpa using a0
    rw [a1]
    have e2 := congrArg (fun l => l[i]?) e1
    simp only [List.getElem?_map, List.getElem?_eq_getElem (show i < zs.length by omega), List.getElem?_eq_getElem (show i < xs.length by omega), Option.map_some, Option.some.injEq, b0] at e2
    simp only [DataW.lit.injEq, Lit.int.injEq, true_and] at e2
    simp [w32, e2]
end
end Go.AM
namespace Go.Proofs.YtgkmlbkocgjmmaaDoor.gl
open Go.ChangeShapes Go.WideShapes Go.ChangeAt Go.RowKit
set_option linter.unusedVariables false
theorem own : ownKnob Tryd.prog.godebug = none := by kernel_rfl
theorem laidOut : laidOutB Tryd.prog = true := by kernel_rfl
abbrev laid : List (String × DataW Unit) := [("tithebarn/sha.constants", Rows.laid_tithebarn_sha_constants), ("tithebarn/sha.begin", Rows.laid_tithebarn_sha_begin)]

/-- The listed variables, where they lie. -/
theorem globs {W : World} (h : laidMetH Tryd.prog laid W) : (∃ ty frz, W.heap[0]? = some (.cells (AM.constW.map AM.w32).toArray ty frz)) ∧ ∃ ty frz, W.heap[1]? = some (.cells (AM.beginW.map AM.w32).toArray ty frz) := by
  rw [MakeChecks.laidMetH_plain _ _ _ (by kernel_rfl)] at h
  obtain ⟨ps, ⟨g, t, cs, fuel, p, q, hg, ht, hv, hd, ⟨g2, t2, cs2, fuel2, p2, q2, hg2, ht2, hv2, hd2, _, _⟩, _⟩, _, _⟩ := h
  have k0 : Tryd.prog.globalNamed "tithebarn/sha.constants" = some 0 := by kernel_rfl
  have k1 : Tryd.prog.globalNamed "tithebarn/sha.begin" = some 1 := by kernel_rfl
  obtain rfl := Option.some.inj (k0.symm.trans hg)
  obtain rfl := Option.some.inj (k1.symm.trans hg2)
  obtain rfl := Option.some.inj ((show (Tryd.prog.globals[0]?).map (·.type) = some 127 by kernel_rfl).symm.trans ht)
  obtain rfl := Option.some.inj ((show (Tryd.prog.globals[1]?).map (·.type) = some 92 by kernel_rfl).symm.trans ht2)
  obtain ⟨ty, frz, h1, rfl⟩ := AM.laid_words (zs := AM.constW) k0 hv Tryd.underlying127 Tryd.underlying91 (by kernel_rfl) (by kernel_rfl) hd
  obtain ⟨ty2, frz2, h2, rfl⟩ := AM.laid_words (zs := AM.beginW) k1 hv2 Tryd.underlying92 Tryd.underlying91 (by kernel_rfl) (by kernel_rfl) hd2
  exact ⟨⟨ty, frz, h1⟩, ⟨ty2, frz2, h2⟩⟩

/-- A world in which they are as listed. -/
noncomputable def laidWorld (os : Os) : World :=
  let w0 := World.holding Tryd.prog os ⟨#[], #[], []⟩
  { w0 with heap := (w0.heap.modify 0 fun
      | .cells _ t frozen => .cells (AM.constW.map AM.w32).toArray t frozen
      | o => o).modify 1 fun
      | .cells _ t frozen => .cells (AM.beginW.map AM.w32).toArray t frozen
      | o => o }
theorem laidWorld_met (os : Os) (args : Array Value) : laidMetH Tryd.prog laid ((laidWorld os).forCall (fun _ _ => 0) ⟨#[], args, []⟩).memory := by
  rw [MakeChecks.laidMetH_plain _ _ _ (by kernel_rfl)]
  exact laidMet_of_run' 8 (by kernel_rfl) (by kernel_rfl)

/-- The memory of which a law speaks: the variables, and what the arguments lead to. -/
def osOf (ty ty2 : TypeId) (l : List (AM.AObj × AM.Loc)) : List (AM.AObj × AM.Loc) :=
  (.cells (AM.constW.map AM.w32) ty false (.full 1), ⟨0, 0, 64, 1⟩) :: (.cells (AM.beginW.map AM.w32) ty2 false (.full 1), ⟨1, 0, 8, 1⟩) :: (.dead, ⟨2, 0, 0, 1⟩) :: l
theorem plain_w (l : List UInt32) : ∀ v ∈ l.map AM.w32, AM.Plain v := fun v hv => by
  simp only [List.mem_map] at hv; obtain ⟨x, _, rfl⟩ := hv; exact AM.plain_w32 _
theorem obj_w {W : World} {ρ : AM.Ren} {g : Nat} {l : List UInt32} {ty : TypeId} {frz : Nat × Nat} (h : W.heap[g]? = some (.cells (l.map AM.w32).toArray ty frz)) {n : Nat} (hn : l.length = n) : AM.ObjRel ρ (.cells (l.map AM.w32) ty false (.full 1)) ⟨g, 0, n, 1⟩ W := by
  have := AM.ObjRel.plain (ρ := ρ) (c := l.map AM.w32) (o := 0) (e := ty) h (by simp) (fun j hj => by simp; simp at hj; simp [hj]) (plain_w l) 1 (by omega)
  rwa [List.length_map, hn] at this
theorem wrtL {ty ty2 : TypeId} {l : List (AM.AObj × AM.Loc)} (hl : ∀ x ∈ l, x.1.wrt = false) : ∀ x ∈ osOf ty ty2 l, x.1.wrt = false := fun x hx => by
  simp only [osOf, List.mem_cons] at hx
  rcases hx with rfl | rfl | rfl | hx
  · rfl
  · rfl
  · rfl
  · exact hl x hx
theorem rep {W : World} {ty ty2 : TypeId} {frz frz2 : Nat × Nat} (h0 : W.heap[0]? = some (.cells (AM.constW.map AM.w32).toArray ty frz)) (h1 : W.heap[1]? = some (.cells (AM.beginW.map AM.w32).toArray ty2 frz2))
    {l : List (AM.AObj × AM.Loc)} (hl : ∀ x ∈ l, AM.ObjRel (AM.renOf (osOf ty ty2 l)) x.1 x.2 W) (hw : ∀ x ∈ l, x.1.wrt = false) : AM.Rep 3 (AM.memOf (osOf ty ty2 l)) (AM.renOf (osOf ty ty2 l)) W := by
  refine AM.Rep.of (osOf ty ty2 l) (fun g hg => ?_) (fun x hx => ?_) (wrtL hw)
  · match g, hg with
    | 0, _ => exact ⟨_, rfl, rfl, rfl⟩
    | 1, _ => exact ⟨_, rfl, rfl, rfl⟩
    | 2, _ => exact ⟨_, rfl, rfl, rfl⟩
  · simp only [osOf, List.mem_cons] at hx
    rcases hx with rfl | rfl | rfl | hx
    · exact obj_w h0 rfl
    · exact obj_w h1 rfl
    · trivial
    · exact hl x hx
theorem glob (ty ty2 : TypeId) (l : List (AM.AObj × AM.Loc)) : S.Glob (AM.memOf (osOf ty ty2 l)) := ⟨⟨ty, _, rfl⟩, ⟨ty2, _, rfl⟩, by show 2 < l.length + 1 + 1 + 1; omega⟩
theorem os_at {ty ty2 : TypeId} {l : List (AM.AObj × AM.Loc)} {k : Nat} {x : AM.AObj × AM.Loc} (h : l[k]? = some x) : (osOf ty ty2 l)[3 + k]? = some x := by
  rw [Nat.add_comm]; exact h
theorem get_at {ty ty2 : TypeId} {l : List (AM.AObj × AM.Loc)} {k : Nat} {x : AM.AObj × AM.Loc} (h : l[k]? = some x) : (AM.memOf (osOf ty ty2 l)).get (3 + k) = x.1 := by
  simp only [AM.memOf, os_at h]
theorem ren_at {ty ty2 : TypeId} {l : List (AM.AObj × AM.Loc)} {k : Nat} {x : AM.AObj × AM.Loc} (h : l[k]? = some x) : AM.renOf (osOf ty ty2 l) (3 + k) = some x.2 := by
  simp only [AM.renOf, os_at h, Option.map_some]
theorem lt_at {ty ty2 : TypeId} {l : List (AM.AObj × AM.Loc)} {k : Nat} {x : AM.AObj × AM.Loc} (h : l[k]? = some x) : 3 + k < (AM.memOf (osOf ty ty2 l)).size := by
  have := (List.getElem?_eq_some_iff.1 h).1
  show 3 + k < l.length + 1 + 1 + 1; omega

/-- An argument whose blocks are those from the k-th on. -/
def Arg (W : World) (k : Nat) (L : List (AM.AObj × AM.Loc)) (F : AM.AMem → AM.Ren → Prop) : Prop :=
  (∀ x ∈ L, x.1.wrt = false) ∧ ∀ (ty ty2 : TypeId) (l : List (AM.AObj × AM.Loc)), (∀ j (h : j < L.length), l[k + j]? = some L[j]) → (∀ x ∈ L, AM.ObjRel (AM.renOf (osOf ty ty2 l)) x.1 x.2 W) ∧ F (AM.memOf (osOf ty ty2 l)) (AM.renOf (osOf ty ty2 l))
theorem Arg.none (W : World) (k : Nat) : Arg W k [] fun _ _ => True := ⟨(fun x h => by cases h), fun ty ty2 l _ => ⟨(fun x h => by cases h), trivial⟩⟩
theorem Arg.and {W : World} {k : Nat} {L1 L2 : List (AM.AObj × AM.Loc)} {F1 F2 : AM.AMem → AM.Ren → Prop} (h1 : Arg W k L1 F1) (h2 : Arg W (k + L1.length) L2 F2) : Arg W k (L1 ++ L2) fun m ρ => F1 m ρ ∧ F2 m ρ := by
  refine ⟨fun x hx => (List.mem_append.1 hx).elim (h1.1 x) (h2.1 x), fun ty ty2 l hl => ?_⟩
  obtain ⟨a1, b1⟩ := h1.2 ty ty2 l fun j h => by rw [hl j (by rw [List.length_append]; omega), List.getElem_append_left h]
  obtain ⟨a2, b2⟩ := h2.2 ty ty2 l fun j h => by
    rw [Nat.add_assoc, hl (L1.length + j) (by rw [List.length_append]; omega), List.getElem_append_right (by omega)]
    simp only [Nat.add_sub_cancel_left]
  exact ⟨fun x hx => (List.mem_append.1 hx).elim (a1 x) (a2 x), b1, b2⟩
theorem Arg.all {W : World} {L : List (AM.AObj × AM.Loc)} {F : AM.AMem → AM.Ren → Prop} (h : Arg W 0 L F) (ty ty2 : TypeId) : (∀ x ∈ L, AM.ObjRel (AM.renOf (osOf ty ty2 L)) x.1 x.2 W) ∧ F (AM.memOf (osOf ty ty2 L)) (AM.renOf (osOf ty ty2 L)) :=
  h.2 ty ty2 L fun j hj => by rw [Nat.zero_add]; exact List.getElem?_eq_getElem hj

/-- A row of texts. -/
theorem arg_strs {W : World} {ls : List (List UInt8)} {v : Value} (h : AM.SlP W (ls.map fun s => .string ⟨s.toArray⟩) v) (k : Nat) : ∃ (x : AM.AObj × AM.Loc) (a : Option Addr) (cap : Nat), (∀ ρ, AM.ObjRel ρ x.1 x.2 W) ∧ Arg W k [x] fun m ρ => Src m a ls ∧ AM.VRel ρ (.slice a ls.length cap) v := by
  have hp : ∀ x ∈ ls.map (fun s : List UInt8 => Value.string ⟨s.toArray⟩), AM.Plain x := fun x hx => by
    simp only [List.mem_map] at hx; obtain ⟨y, _, rfl⟩ := hx; exact .string _
  generalize hc : ls.map (fun s : List UInt8 => Value.string ⟨s.toArray⟩) = c at h hp
  have hcl : c.length = ls.length := by rw [← hc, List.length_map]
  cases h with
  | nil h =>
    subst h
    obtain rfl : ls = [] := List.length_eq_zero_iff.1 (by simpa using hcl.symm)
    exact ⟨(.dead, ⟨2, 0, 0, 1⟩), none, 0, fun _ => trivial, fun x hx => (by rw [List.mem_singleton] at hx; subst hx; rfl), fun ty ty2 l hl => ⟨fun x hx => (by rw [List.mem_singleton] at hx; subst hx; trivial), .inl ⟨rfl, rfl⟩, .nilSlice 0 0⟩⟩
  | none a h =>
    subst h
    obtain rfl : ls = [] := List.length_eq_zero_iff.1 (by simpa using hcl.symm)
    exact ⟨(.dead, ⟨2, 0, 0, 1⟩), some ⟨0, 0, none⟩, 0, fun _ => trivial, fun x hx => (by rw [List.mem_singleton] at hx; subst hx; rfl), fun ty ty2 l hl => ⟨fun x hx => (by rw [List.mem_singleton] at hx; subst hx; trivial),
      .inr ⟨0, 0, rfl, by show 0 < l.length + 1 + 1 + 1; omega, AM.cutL_zero (Nat.zero_le _)⟩, .sliceEnd (b := 0) (o := 0) (L := ⟨0, 0, 64, 1⟩) rfl (.inl rfl)⟩⟩
  | some b o cap carr t frz hh hl hcc hcap hle =>
    have hob : ∀ ρ, AM.ObjRel ρ (.cells c t false (.full 1)) ⟨b, o, c.length, 1⟩ W := fun ρ => AM.ObjRel.plain hh hl hcc hp 1 (by omega)
    refine ⟨(.cells c t false (.full 1), ⟨b, o, c.length, 1⟩), some ⟨3 + k, 0, none⟩, cap, hob, fun x hx => (by rw [List.mem_singleton] at hx; subst hx; rfl), fun ty ty2 l hl => ⟨fun x hx => (by rw [List.mem_singleton] at hx; subst hx; exact hob _), ?_, ?_⟩⟩
    · have h0 := hl 0 (by simp)
      rw [Nat.add_zero] at h0
      refine .inr ⟨3 + k, 0, rfl, lt_at h0, ?_⟩
      rw [get_at h0]
      show AM.cutL c 0 ls.length = _
      rw [← hcl, AM.cutL_all rfl, ← hc]; rfl
    · have h0 := hl 0 (by simp)
      rw [Nat.add_zero] at h0
      rw [← hcl]
      exact .slice (b := 3 + k) (o := 0) (ren_at h0) (AM.openCap_lt hcap)
/-- What a row of rows of texts is, in a world. -/
abbrev RowT := List (List UInt8) × Value
def RowT.ok (W : World) (z : RowT) : Prop := AM.SlP W (z.1.map fun s => .string ⟨s.toArray⟩) z.2 ∧ (∀ y ∈ z.1, y.length ≤ 9223372036854775807) ∧ z.1.length ≤ 9223372036854775807
instance : Inhabited RowT := ⟨([], .bool false)⟩
theorem open_rows {P : Program} {H : Type} {enc : TypeId × Value → H} {w : World} {base : Nat} {hd : Bool} {t e q : TypeId} {cs : List Value} {x : DataW H × List MemPlace} {fuel : Nat}
    (ht : P.underlying t = some (.slice e)) (he : P.underlying e = some (.slice q)) (hq : P.underlying q = some .string) (ce : P.cellsOf e = 1) (cq : P.cellsOf q = 1)
    (h : DataW.trod enc P w base (fun _ => true) hd fuel t cs = some x) : ∃ (v : Value) (l : List RowT), cs = [v] ∧ AM.SlP w (l.map Prod.snd) v ∧ (∀ y ∈ l, RowT.ok w y) ∧ l.length ≤ 9223372036854775807 :=
  AM.open_row (α := RowT) Prod.snd (RowT.ok w) ht ce (fun h => by
    obtain ⟨v, l, e1, h1, h2, h3⟩ := AM.open_strs he hq cq h
    cases e1
    exact ⟨(l, _), rfl, h1, h2, h3⟩) h
theorem arg_rows {W : World} {l : List RowT} {v : Value} (h : AM.SlP W (l.map Prod.snd) v) (hz : ∀ y ∈ l, RowT.ok W y) (k : Nat) : ∃ (L : List (AM.AObj × AM.Loc)) (a : Option Addr) (cap : Nat),
    Arg W k L fun m ρ => NeedsA m a (l.map Prod.fst) ∧ AM.VRel ρ (.slice a (l.map Prod.fst).length cap) v := by
  generalize hc : l.map Prod.snd = c at h
  have hcl : c.length = l.length := by rw [← hc, List.length_map]
  cases h with
  | nil h =>
    subst h
    obtain rfl : l = [] := List.length_eq_zero_iff.1 (by simpa using hcl.symm)
    exact ⟨[], none, 0, (fun x hx => by cases hx), fun ty ty2 l hl => ⟨(fun x hx => by cases hx), (fun i hi => by cases hi), .nilSlice 0 0⟩⟩
  | none a h =>
    subst h
    obtain rfl : l = [] := List.length_eq_zero_iff.1 (by simpa using hcl.symm)
    exact ⟨[], some ⟨0, 0, none⟩, 0, (fun x hx => by cases hx), fun ty ty2 l hl => ⟨(fun x hx => by cases hx), (fun i hi => by cases hi), .sliceEnd (b := 0) (o := 0) (L := ⟨0, 0, 64, 1⟩) rfl (.inl rfl)⟩⟩
  | some b o cap carr t frz hh hl hcc hcap hle =>
    haveI : Inhabited ((AM.AObj × AM.Loc) × Option Addr × Nat) := ⟨((.dead, ⟨2, 0, 0, 1⟩), none, 0)⟩
    have each : ∀ i, i < l.length → ∃ y : (AM.AObj × AM.Loc) × Option Addr × Nat, (∀ ρ, AM.ObjRel ρ y.1.1 y.1.2 W) ∧ Arg W (k + 1 + i) [y.1] fun m ρ => Src m y.2.1 (l.getD i default).1 ∧ AM.VRel ρ (.slice y.2.1 (l.getD i default).1.length y.2.2) (l.getD i default).2 := fun i hi => by
      have e : l.getD i default = l[i] := by simp [List.getD, hi]
      rw [e]
      obtain ⟨x, a, cp, h1, h2⟩ := arg_strs (hz _ (List.getElem_mem hi)).1 (k + 1 + i)
      exact ⟨(x, a, cp), h1, h2⟩
    obtain ⟨y, hy⟩ := Go.Deep.choose_lt (α := (AM.AObj × AM.Loc) × Option Addr × Nat) (n := l.length) each
    let X : List Value := (List.range l.length).map fun i => .slice (y i).2.1 (l.getD i default).1.length (y i).2.2
    have hX : X.length = l.length := by simp [X]
    refine ⟨(.cells X t false (.full 1), ⟨b, o, l.length, 1⟩) :: (List.range l.length).map fun i => (y i).1, some ⟨3 + k, 0, none⟩, cap, fun x hx => ?_, fun ty ty2 os hos => ?_⟩
    · simp only [List.mem_cons, List.mem_map, List.mem_range] at hx
      rcases hx with rfl | ⟨i, hi, rfl⟩
      · rfl
      · exact (hy i hi).2.1 _ (by simp)
    · have h0 : os[k]? = some (.cells X t false (.full 1), ⟨b, o, l.length, 1⟩) := by have := hos 0 (by simp); simpa using this
      have hi1 : ∀ i, i < l.length → os[k + 1 + i]? = some (y i).1 := fun i hi => by
        have := hos (i + 1) (by simp; omega)
        rw [show k + (i + 1) = k + 1 + i by omega] at this
        rw [this]; simp
      have hE := fun i hi => (hy i hi).2.2 ty ty2 os fun j hj => by
        obtain rfl : j = 0 := by simpa using hj
        rw [Nat.add_zero, hi1 i hi]; rfl
      have hget : ∀ i (hi : i < l.length), l.getD i default = l[i] := fun i hi => by simp [List.getD, hi]
      refine ⟨fun x hx => ?_, fun i hi => ?_, ?_⟩
      · simp only [List.mem_cons, List.mem_map, List.mem_range] at hx
        rcases hx with rfl | ⟨i, hi, rfl⟩
        · refine ⟨carr, frz, hh, by rw [← hcl]; exact hl, Nat.le_of_eq hX, (fun h => by cases h), (fun k h => by cases h; exact ⟨hX.symm, rfl, by omega⟩), (fun j hj => ?_), (fun z h => by cases h), fun h => by cases h⟩
          rw [hX] at hj
          have h1 := hcc j (by omega)
          rw [h1]
          have h2 : c[j]'(by omega) = l[j].2 := by simp only [← hc, List.getElem_map]
          rw [h2]
          have h3 := (hE j hj).2.2
          rw [hget j hj] at h3
          simp only [X, List.getElem_map, List.getElem_range]
          rw [hget j hj]
          exact h3
        · exact (hy i hi).1 _
      · have hi' : i < l.length := by simpa using hi
        have hE' := (hE i hi').2.1
        rw [hget i hi'] at hE'
        obtain ⟨q1, q2, q3⟩ := hz _ (List.getElem_mem hi')
        refine ⟨3 + k, 0, (y i).2.1, (y i).2.2, rfl, lt_at h0, ?_, ?_, ?_, ?_⟩
        · rw [get_at h0, AM.rdO_cells, Nat.zero_add]
          unfold AM.cutL
          rw [if_pos (by omega), List.drop_eq_getElem_cons (by omega)]
          simp only [X, List.getElem_map, List.getElem_range, hget i hi']; rfl
        · simpa using hE'
        · simpa using q3
        · simpa using q2
      · rw [List.length_map, ← hcl]
        have : l.length = c.length := hcl.symm
        rw [this] at h0
        exact .slice (b := 3 + k) (o := 0) (ren_at h0) (AM.openCap_lt hcap)
end Go.Proofs.YtgkmlbkocgjmmaaDoor.gl
