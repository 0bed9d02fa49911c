/- The reference: the letters that stand in bytes. -/
import Derived.Test.YtighienjnhglnaaB1
import Derived.Test.YtighienjnhglnaaA4
set_option linter.unusedVariables false
set_option linter.unusedSimpArgs false
set_option linter.unnecessarySimpa false
namespace Go.AM
theorem BSl.sub {m : AMem} {a : Option Addr} {cap : Nat} {c : List UInt8} (h : BSl m a cap c) (hcl : c.length < openCap) {i j : Nat} (hij : i ≤ j) (hj : j ≤ c.length) :
    ∃ a' c', slVv 1 (.slice a c.length cap) (some (.int .i64 (i : Int))) (some (.int .i64 (j : Int))) none m = some (.slice a' (j - i) c', m) ∧ BSl m a' c' ((c.drop i).take (j - i)) := by
  have hc : ∀ len cap : Nat, j ≤ cap → cutV len cap (some (.int .i64 (i : Int))) (some (.int .i64 (j : Int))) none = some (i, j, cap) := fun len cap h2 => by
    simp only [cutV]; rw [if_pos (by omega)]; simp
  have cutL_part : ∀ {X : List Value} {o : Nat} {c : List UInt8} (h : cutL X o c.length = some (c.map byteV)) {i n : Nat} (hn : i + n ≤ c.length), cutL X (o + i) ((c.drop i).take n).length = some (((c.drop i).take n).map byteV) := fun {X o c} h {i n} hn => by
    have h1 := cutL_drop h (k := i) (by omega)
    have h2 := cutL_take h1 (k := n) (by omega)
    rw [List.length_take, List.length_drop, Nat.min_eq_left (by omega), h2, List.map_take, List.map_drop]
  rcases h with ⟨rfl, rfl, rfl⟩ | ⟨x, o, X, e, w, sp, rfl, h2, h3, h4, h5⟩
  · obtain rfl : j = 0 := by simpa using hj
    obtain rfl : i = 0 := by omega
    refine ⟨none, 0, ?_, .inl ⟨rfl, rfl, by simp⟩⟩
    simp only [slVv]
    rw [if_neg (Nat.ne_of_lt zeroCap_lt), hc _ _ (by simp)]
  · have hle := cutL_le h4
    have hp := cutL_part h4 (i := i) (n := j - i) (by omega)
    rcases h5 with ⟨rfl, hs⟩ | ⟨hlt, hle2⟩
    · refine ⟨some ⟨x, o + i, none⟩, openCap, ?_, .inr ⟨x, o + i, X, e, w, sp, rfl, h2, h3, hp, .inl ⟨rfl, hs⟩⟩⟩
      simp only [slVv, if_true, h3]
      rw [if_pos ⟨hs, by simp; omega⟩, hc _ _ (by simp; omega)]
      simp
    · by_cases hci : cap = i
      · refine ⟨some ⟨x, o, none⟩, cap - i, ?_, .inr ⟨x, o, X, e, w, sp, rfl, h2, h3, ?_, .inr ⟨by omega, by rw [List.length_take]; omega⟩⟩⟩
        · simp only [slVv]
          rw [if_neg (Nat.ne_of_lt hlt), hc _ _ (by omega)]
          simp [hci]
        · have : j - i = 0 := by omega
          rw [this, List.take_zero]; exact cutL_zero (by omega)
      · refine ⟨some ⟨x, o + i, none⟩, cap - i, ?_, .inr ⟨x, o + i, X, e, w, sp, rfl, h2, h3, hp, .inr ⟨by omega, by rw [List.length_take]; omega⟩⟩⟩
        simp only [slVv]
        rw [if_neg (Nat.ne_of_lt hlt), hc _ _ (by omega)]
        simp [hci]
end Go.AM
namespace Go.Proofs.Ytighienjnhglnaa
open Go Go.AM
set_option linter.unusedVariables false
set_option linter.unusedSimpArgs false
set_option maxHeartbeats 2000000
set_option maxRecDepth 100000

theorem ok_val (c : UInt8) : okL c = true ↔ 0 ≤ N.valZ c := by
  unfold okL N.valZ
  by_cases h : c ∈ N.alpha
  · simp [h]
  · simp [h]
theorem mem_take_succ {l : List (List UInt8)} {s : List UInt8} {i : Nat} (hi : i < l.length) (h : s ∉ l.take i) (hne : l[i] ≠ s) : s ∉ l.take (i + 1) := by
  rw [List.take_succ_eq_append_getElem hi, List.mem_append, List.mem_singleton]
  rintro (h' | h')
  · exact h h'
  · exact hne h'.symm
theorem has_ok (m : AMem) (a : Option Addr) (c : Nat) (l : List (List UInt8)) (s : List UInt8) (h : StrR m a l) (hl : l.length ≤ 9223372036854775807) :
    PureC Try.prog 1 13 [.slice a l.length c, .string ⟨s.toArray⟩] m (.bool (decide (s ∈ l))) := by
  refine pure_of_W (fn := Try.f13) rfl rfl F13_ok (by simp [F13]) (.bool _) ?_
  simp (implicitDefEqProofs := false) (maxSteps := 1000000) (disch := first | omega | with_reducible assumption | (simp only [lenT, Nat.reduceAdd]; omega)) only [amT, cut, bnd, Nat.reduceBEq, reduceCtorEq, Nat.reduceEqDiff, Nat.reduceAdd, Nat.reduceMul, Nat.reduceSub, Int.reduceToNat, Int.reduceEq, Int.reduceLT, Int.reduceLE, Int.reduceAdd, Int.reduceSub, Int.reduceMul, reduceIte, resVs, resV, packV, initT, addr, F13]
  refine W_loop (fun N qs => ∃ (i : Nat), N = l.length - i ∧ qs.ds = [] ∧ qs.m = mx m [] ∧ qs.t 0 = .slice a l.length c ∧ qs.t 1 = .string ⟨s.toArray⟩ ∧ qs.t 5 = .int .i64 i ∧ i ≤ l.length ∧ s ∉ l.take i) (l.length - (0)) ⟨0, rfl, rfl, ?qm, ?q0, ?q1, ?q5, ?_⟩ ?_
  case qm | q0 | q1 | q5 => first | rfl | (simp (implicitDefEqProofs := false) (maxSteps := 1000000) (disch := first | omega | with_reducible assumption | (simp only [lenT, Nat.reduceAdd]; omega)) only [amT, cut, bnd, Nat.reduceBEq, reduceCtorEq, Nat.reduceEqDiff, Nat.reduceAdd, Nat.reduceMul, Nat.reduceSub, Int.reduceToNat, Int.reduceEq, Int.reduceLT, Int.reduceLE, Int.reduceAdd, Int.reduceSub, Int.reduceMul, reduceIte, resVs, resV, packV, initT, addr]; first | done | rfl | (congr 1; omega))
  · exact ⟨by omega, by simp⟩
  · rintro N t m1 ds ⟨i, rfl, hds, hm, t0, t1, t5, hp⟩
    simp only at hds hm t0 t1 t5
    subst hds; replace hm := hm.symm; subst hm
    obtain ⟨hi, hn⟩ := hp
    by_cases g : (i : Int) < (l.length : Int)
    · have hi' : i < l.length := by omega
      obtain ⟨b1, o1, rfl, hb1, r1⟩ := h i hi'
      by_cases he : l[i] = s
      · have hm : s ∈ l := he ▸ List.getElem_mem hi'
        repeat first | simp (implicitDefEqProofs := false) (maxSteps := 1000000) (disch := first | omega | with_reducible assumption | (simp only [lenT, Nat.reduceAdd]; omega)) only [amT, cut, bnd, Nat.reduceBEq, reduceCtorEq, Nat.reduceEqDiff, Nat.reduceAdd, Nat.reduceMul, Nat.reduceSub, Int.reduceToNat, Int.reduceEq, Int.reduceLT, Int.reduceLE, Int.reduceAdd, Int.reduceSub, Int.reduceMul, reduceIte, resVs, resV, packV, initT, addr, F13_l0, t0, t1, t5, g, r1, strEq_mk, he] | refine OrW.go ?_
        simp [hm]
      · repeat first | simp (implicitDefEqProofs := false) (maxSteps := 1000000) (disch := first | omega | with_reducible assumption | (simp only [lenT, Nat.reduceAdd]; omega)) only [amT, cut, bnd, Nat.reduceBEq, reduceCtorEq, Nat.reduceEqDiff, Nat.reduceAdd, Nat.reduceMul, Nat.reduceSub, Int.reduceToNat, Int.reduceEq, Int.reduceLT, Int.reduceLE, Int.reduceAdd, Int.reduceSub, Int.reduceMul, reduceIte, resVs, resV, packV, initT, addr, F13_l0, t0, t1, t5, g, r1, strEq_mk, he] | refine OrW.go ?_
        rw [LoopK_normal]; refine ⟨_, ?_, i + 1, rfl, rfl, ?qm, ?q0, ?q1, ?q5, ?_⟩
        case qm | q0 | q1 | q5 => first | rfl | (simp (implicitDefEqProofs := false) (maxSteps := 1000000) (disch := first | omega | with_reducible assumption | (simp only [lenT, Nat.reduceAdd]; omega)) only [amT, cut, bnd, Nat.reduceBEq, reduceCtorEq, Nat.reduceEqDiff, Nat.reduceAdd, Nat.reduceMul, Nat.reduceSub, Int.reduceToNat, Int.reduceEq, Int.reduceLT, Int.reduceLE, Int.reduceAdd, Int.reduceSub, Int.reduceMul, reduceIte, resVs, resV, packV, initT, addr, t0, t1, t5]; first | done | rfl | (congr 1; omega))
        · omega
        · exact ⟨by omega, mem_take_succ hi' hn he⟩
    · obtain rfl : i = l.length := by omega
      rw [List.take_length] at hn
      repeat first | simp (implicitDefEqProofs := false) (maxSteps := 1000000) (disch := first | omega | with_reducible assumption | (simp only [lenT, Nat.reduceAdd]; omega)) only [amT, cut, bnd, Nat.reduceBEq, reduceCtorEq, Nat.reduceEqDiff, Nat.reduceAdd, Nat.reduceMul, Nat.reduceSub, Int.reduceToNat, Int.reduceEq, Int.reduceLT, Int.reduceLE, Int.reduceAdd, Int.reduceSub, Int.reduceMul, reduceIte, resVs, resV, packV, initT, addr, F13_l0, t0, t1, t5, g] | refine OrW.go ?_
      simp [hn]
end Go.Proofs.Ytighienjnhglnaa
namespace Go.Proofs.Ytighienjnhglnaa
open Go Go.AM
set_option linter.unusedVariables false
set_option linter.unusedSimpArgs false
set_option maxHeartbeats 2000000
set_option maxRecDepth 100000

def toldB (S : List (List UInt8)) (n : List UInt8) : Bool := decide ((N.parseR n).2.2 = 0) && decide ((N.parseR n).1 ∈ S)
def toldR (S names : List (List UInt8)) : List (List UInt8) := names.filter (toldB S)
def mapS (S : List (List UInt8)) (s : List UInt8) : Option Value := if s ∈ S then some (.int .i64 1) else none
theorem told_ok (m : AMem) (r : Nat) (S : List (List UInt8)) (hm : MapAt m r (mapS S)) (a : Option Addr) (c : Nat) (names : List (List UInt8)) (h : StrR m a names) (hl : names.length ≤ 100000) (hs : ∀ s ∈ names, s.length ≤ 100000) :
    RelC Try.prog 1 24 [.map (some r), .slice a names.length c] m fun v M => ∃ a' c', v = .slice a' (toldR S names).length c' ∧ SRow m M a' c' (toldR S names) := by
  refine rel_of_W (fn := Try.f24) rfl rfl F24_ok (by simp [F24]) ?_
  simp (implicitDefEqProofs := false) (maxSteps := 1000000) (disch := first | omega | with_reducible assumption | (simp only [lenT, Nat.reduceAdd]; omega)) only [amT, cut, bnd, Nat.reduceBEq, reduceCtorEq, Nat.reduceEqDiff, Nat.reduceAdd, Nat.reduceMul, Nat.reduceSub, Int.reduceToNat, Int.reduceEq, Int.reduceLT, Int.reduceLE, Int.reduceAdd, Int.reduceSub, Int.reduceMul, reduceIte, resVs, resV, packV, initT, addr, F24]
  refine W_loop (fun N qs => ∃ (i : Nat) (M : AMem) (sa : Option Addr) (sc : Nat), N = names.length - i ∧ qs.ds = [] ∧ qs.m = mx M [] ∧ qs.t 0 = .map (some r) ∧ qs.t 5 = .slice sa (toldR S (names.take i)).length sc ∧ qs.t 11 = .slice a names.length c ∧ qs.t 12 = .int .i64 names.length ∧ qs.t 13 = .int .i64 i ∧ i ≤ names.length ∧ SRow m M sa sc (toldR S (names.take i))) (names.length - (0)) ⟨0, m, none, 0, rfl, rfl, ?qm, ?q0, ?q5, ?q11, ?q12, ?q13, ?_⟩ ?_
  case qm | q0 | q5 | q11 | q12 | q13 => first | rfl | (simp (implicitDefEqProofs := false) (maxSteps := 1000000) (disch := first | omega | with_reducible assumption | (simp only [lenT, Nat.reduceAdd]; omega)) only [amT, cut, bnd, Nat.reduceBEq, reduceCtorEq, Nat.reduceEqDiff, Nat.reduceAdd, Nat.reduceMul, Nat.reduceSub, Int.reduceToNat, Int.reduceEq, Int.reduceLT, Int.reduceLE, Int.reduceAdd, Int.reduceSub, Int.reduceMul, reduceIte, resVs, resV, packV, initT, addr, List.take_zero, toldR, List.filter_nil, List.length_nil]; first | done | rfl | (congr 1; omega))
  · exact ⟨by omega, SRow.nil m⟩
  · rintro N t m1 ds ⟨i, M, sa, sc, rfl, hds, hm, t0, t5, t11, t12, t13, hp⟩
    simp only at hds hm t0 t5 t11 t12 t13
    subst hds; replace hm := hm.symm; subst hm
    obtain ⟨hi, hS⟩ := hp
    by_cases g : (i : Int) < (names.length : Int)
    · have hi' : i < names.length := by omega
      obtain ⟨b1, o1, rfl, hb1, r1⟩ := h i hi'
      have hb1M : b1 < M.size := Nat.lt_of_lt_of_le hb1 hS.old.1
      have r1M : rdO (M.get b1) (o1 + i) 1 = some [.string ⟨names[i].toArray⟩] := by rw [hS.old.2 b1 hb1]; exact r1
      have hsn : names.take (i + 1) = names.take i ++ [names[i]] := List.take_succ_eq_append_getElem hi'
      have hlen : (toldR S (names.take i)).length ≤ i := by unfold toldR; exact Nat.le_trans (List.length_filter_le _ _) (by rw [List.length_take]; omega)
      have kP := DetC.known (N.parse_ok (mx M []) names[i] (hs _ (List.getElem_mem hi')))
      have kl := ((hm.old hS.old).old (Old.here M [])).look (.int .i64 0) false (N.parseR names[i]).1
      rw [lkRes_one] at kl
      have hts : toldR S (names.take (i + 1)) = toldR S (names.take i) ++ if toldB S names[i] then [names[i]] else [] := by
        unfold toldR; rw [hsn, List.filter_append]; congr 1
        by_cases ht : toldB S names[i] = true <;> simp [ht]
      by_cases h0 : (N.parseR names[i]).2.2 = 0
      · by_cases hin : (N.parseR names[i]).1 ∈ S
        · have ht : toldB S names[i] = true := by simp [toldB, h0, hin]
          rw [ht, if_pos rfl] at hts
          have kl2 : (mapS S (N.parseR names[i]).1).getD (.int .i64 0) = .int .i64 1 := by simp [mapS, hin]
          rw [kl2] at kl
          obtain ⟨a', c', M', happ, hS'⟩ := hS.one (by omega) names[i]
          rw [h0] at kP
          repeat first | simp (implicitDefEqProofs := false) (maxSteps := 1000000) (disch := first | omega | with_reducible assumption | (simp only [lenT, Nat.reduceAdd]; omega)) only [amT, cut, bnd, Nat.reduceBEq, reduceCtorEq, Nat.reduceEqDiff, Nat.reduceAdd, Nat.reduceMul, Nat.reduceSub, Int.reduceToNat, Int.reduceEq, Int.reduceLT, Int.reduceLE, Int.reduceAdd, Int.reduceSub, Int.reduceMul, reduceIte, resVs, resV, packV, initT, addr, F24_l0, t0, t5, t11, t12, t13, g, hb1M, r1M, kP, stepOp_lkp_v, kl, stepOp_app_v, happ] | refine OrW.go ?_
          rw [LoopK_normal]; refine ⟨_, ?_, i + 1, M', a', c', rfl, rfl, ?qm, ?q0, ?q5, ?q11, ?q12, ?q13, ?_⟩
          case qm | q0 | q5 | q11 | q12 | q13 => first | rfl | (simp (implicitDefEqProofs := false) (maxSteps := 1000000) (disch := first | omega | with_reducible assumption | (simp only [lenT, Nat.reduceAdd]; omega)) only [amT, cut, bnd, Nat.reduceBEq, reduceCtorEq, Nat.reduceEqDiff, Nat.reduceAdd, Nat.reduceMul, Nat.reduceSub, Int.reduceToNat, Int.reduceEq, Int.reduceLT, Int.reduceLE, Int.reduceAdd, Int.reduceSub, Int.reduceMul, reduceIte, resVs, resV, packV, initT, addr, t0, t5, t11, t12, t13, hts]; first | done | rfl | (congr 1; omega))
          · omega
          · rw [hts]; exact ⟨by omega, hS'⟩
        · have ht : toldB S names[i] = false := by simp [toldB, hin]
          rw [ht] at hts
          simp only [Bool.false_eq_true, if_false, List.append_nil] at hts
          have kl2 : (mapS S (N.parseR names[i]).1).getD (.int .i64 0) = .int .i64 0 := by simp [mapS, hin]
          rw [kl2] at kl
          rw [h0] at kP
          repeat first | simp (implicitDefEqProofs := false) (maxSteps := 1000000) (disch := first | omega | with_reducible assumption | (simp only [lenT, Nat.reduceAdd]; omega)) only [amT, cut, bnd, Nat.reduceBEq, reduceCtorEq, Nat.reduceEqDiff, Nat.reduceAdd, Nat.reduceMul, Nat.reduceSub, Int.reduceToNat, Int.reduceEq, Int.reduceLT, Int.reduceLE, Int.reduceAdd, Int.reduceSub, Int.reduceMul, reduceIte, resVs, resV, packV, initT, addr, F24_l0, t0, t5, t11, t12, t13, g, hb1M, r1M, kP, stepOp_lkp_v, kl] | refine OrW.go ?_
          rw [LoopK_normal]; refine ⟨_, ?_, i + 1, M, sa, sc, rfl, rfl, ?qm, ?q0, ?q5, ?q11, ?q12, ?q13, ?_⟩
          case qm | q0 | q5 | q11 | q12 | q13 => first | rfl | (simp (implicitDefEqProofs := false) (maxSteps := 1000000) (disch := first | omega | with_reducible assumption | (simp only [lenT, Nat.reduceAdd]; omega)) only [amT, cut, bnd, Nat.reduceBEq, reduceCtorEq, Nat.reduceEqDiff, Nat.reduceAdd, Nat.reduceMul, Nat.reduceSub, Int.reduceToNat, Int.reduceEq, Int.reduceLT, Int.reduceLE, Int.reduceAdd, Int.reduceSub, Int.reduceMul, reduceIte, resVs, resV, packV, initT, addr, t0, t5, t11, t12, t13, hts]; first | done | rfl | (congr 1; omega))
          · omega
          · rw [hts]; exact ⟨by omega, hS⟩
      · have ht : toldB S names[i] = false := by simp [toldB, h0]
        rw [ht] at hts
        simp only [Bool.false_eq_true, if_false, List.append_nil] at hts
        repeat first | simp (implicitDefEqProofs := false) (maxSteps := 1000000) (disch := first | omega | with_reducible assumption | (simp only [lenT, Nat.reduceAdd]; omega)) only [amT, cut, bnd, Nat.reduceBEq, reduceCtorEq, Nat.reduceEqDiff, Nat.reduceAdd, Nat.reduceMul, Nat.reduceSub, Int.reduceToNat, Int.reduceEq, Int.reduceLT, Int.reduceLE, Int.reduceAdd, Int.reduceSub, Int.reduceMul, reduceIte, resVs, resV, packV, initT, addr, F24_l0, t0, t5, t11, t12, t13, g, hb1M, r1M, kP, h0, undef] | refine OrW.go ?_
        rw [LoopK_normal]; refine ⟨_, ?_, i + 1, M, sa, sc, rfl, rfl, ?qm, ?q0, ?q5, ?q11, ?q12, ?q13, ?_⟩
        case qm | q0 | q5 | q11 | q12 | q13 => first | rfl | (simp (implicitDefEqProofs := false) (maxSteps := 1000000) (disch := first | omega | with_reducible assumption | (simp only [lenT, Nat.reduceAdd]; omega)) only [amT, cut, bnd, Nat.reduceBEq, reduceCtorEq, Nat.reduceEqDiff, Nat.reduceAdd, Nat.reduceMul, Nat.reduceSub, Int.reduceToNat, Int.reduceEq, Int.reduceLT, Int.reduceLE, Int.reduceAdd, Int.reduceSub, Int.reduceMul, reduceIte, resVs, resV, packV, initT, addr, t0, t5, t11, t12, t13, hts]; first | done | rfl | (congr 1; omega))
        · omega
        · rw [hts]; exact ⟨by omega, hS⟩
    · obtain rfl : i = names.length := by omega
      rw [List.take_length] at hS t5
      repeat first | simp (implicitDefEqProofs := false) (maxSteps := 1000000) (disch := first | omega | with_reducible assumption | (simp only [lenT, Nat.reduceAdd]; omega)) only [amT, cut, bnd, Nat.reduceBEq, reduceCtorEq, Nat.reduceEqDiff, Nat.reduceAdd, Nat.reduceMul, Nat.reduceSub, Int.reduceToNat, Int.reduceEq, Int.reduceLT, Int.reduceLE, Int.reduceAdd, Int.reduceSub, Int.reduceMul, reduceIte, resVs, resV, packV, initT, addr, F24_l0, t0, t5, t11, t12, t13, g] | refine OrW.go ?_
      exact ⟨_, rfl, fun _ => ⟨sa, sc, rfl, hS.more (Old.here _ _)⟩⟩
/-- Between two rounds of the second loop. -/
structure RefJ (m : AMem) (b : List UInt8) (t : Tmps) (rec : Loop) (k : Nat) (M : AMem) : Prop where
  size : m.size + 5 ≤ M.size
  old : ∀ y, y < m.size → M.get y = m.get y
  seen : M.get (m.size + 1) = .cells [.map (some m.size)] 47 true .exact
  text : M.get (m.size + 2) = .cells [.string ⟨b.toArray⟩] 9 true .exact
  map : MapAt M m.size (mapS ((wins okL b).take k))
  defd : M.get (m.size + 3) = .defd
  loop : M.get (m.size + 4) = .loop .ready none t rec
theorem RefJ.nil {m : AMem} {b : List UInt8} {t : Tmps} {rec : Loop} {k : Nat} {M : AMem} (h : RefJ m b t rec k M) : RefJ m b t rec k (mx M []) := by
  have hz := h.size
  exact ⟨by rw [mx_nil_size]; exact hz, fun y hy => by rw [mx_old (by omega)]; exact h.old y hy, by rw [mx_old (by omega)]; exact h.seen, by rw [mx_old (by omega)]; exact h.text, h.map.old (Old.here _ _), by rw [mx_old (by omega)]; exact h.defd, by rw [mx_old (by omega)]; exact h.loop⟩
theorem ref_round (m : AMem) (b : List UInt8) (t : Tmps) (h5 : t 5 = .pointer (some ⟨m.size + 1, 0, none⟩)) (rec : Loop) (i : Nat) (M : AMem) (hi : i < (wins okL b).length) (hJ : RefJ m b t rec i M) :
    W Try.prog 1 F12_g0 (AssignK (m.size + 4) t rec fun s' => W Try.prog 1 F12_b0 (RoundK (m.size + 4) t rec fun r M' => r = .ret (.bool true) ∧ RefJ m b t rec (i + 1) M') s') ⟨roundT t [11] [.string ⟨(wins okL b)[i].toArray⟩], mx M [], []⟩ := by
  have hz := hJ.size
  have l4 : m.size + 4 < M.size := by omega
  have hloop := hJ.loop
  simp (implicitDefEqProofs := false) (maxSteps := 1000000) (disch := first | omega | with_reducible assumption | (simp only [lenT, Nat.reduceAdd]; omega)) only [amT, cut, bnd, Nat.reduceBEq, reduceCtorEq, Nat.reduceEqDiff, Nat.reduceAdd, Nat.reduceMul, Nat.reduceSub, Int.reduceToNat, Int.reduceEq, Int.reduceLT, Int.reduceLE, Int.reduceAdd, Int.reduceSub, Int.reduceMul, reduceIte, resVs, resV, packV, initT, addr, F12_g0, roundT, List.zip_cons_cons, List.zip_nil_right, List.foldl_cons, List.foldl_nil]
  refine ⟨by rw [mx_old l4]; exact hloop, ?_⟩
  simp only
  rw [mx_set_old l4]
  have hsn : (wins okL b).take (i + 1) = (wins okL b).take i ++ [(wins okL b)[i]] := List.take_succ_eq_append_getElem hi
  have hmap := hJ.map
  have hold := hJ.old
  have hseen := hJ.seen
  have htext := hJ.text
  have hdefd := hJ.defd
  generalize (wins okL b)[i] = w at *
  generalize hL : (wins okL b).take i = L at *
  have e1 : ∀ y, y ≠ m.size + 4 → (M.set (m.size + 4) (.loop .busy none t rec)).get y = M.get y := fun y hy => AMem.get_set_ne _ _ hy
  have e2 : (M.set (m.size + 4) (.loop .busy none t rec)).get (m.size + 4) = .loop .busy none t rec := AMem.get_set_self _ _ _
  have e3 : (M.set (m.size + 4) (.loop .busy none t rec)).size = M.size := rfl
  generalize M.set (m.size + 4) (.loop .busy none t rec) = M1 at *
  have q1 : m.size + 1 < M1.size := by omega
  have q0 : m.size < M1.size := by omega
  have r1 : M1.get (m.size + 1) = .cells [.map (some m.size)] 47 true .exact := by rw [e1 _ (by omega)]; exact hseen
  have hmap1 : MapAt M1 m.size (mapS L) := hmap.keep (by omega) (e1 _ (by omega))
  obtain ⟨o, p1, p2⟩ := (hmap1.old (Old.here M1 [])).put w (v := .int .i64 1) rfl
  rw [mx_set_old q0] at p1 p2
  have f1 : ∀ y, y ≠ m.size → (M1.set m.size o).get y = M1.get y := fun y hy => AMem.get_set_ne _ _ hy
  have f2 : (M1.set m.size o).size = M1.size := rfl
  have p3 := p2.keep (m' := M1.set m.size o) (by rw [mx_nil_size]; exact Nat.le_refl _) (by rw [mx_old (by rw [f2]; exact q0)])
  generalize M1.set m.size o = M2 at *
  repeat first | simp (implicitDefEqProofs := false) (maxSteps := 1000000) (disch := first | omega | with_reducible assumption | (simp only [lenT, Nat.reduceAdd]; omega)) only [amT, cut, bnd, Nat.reduceBEq, reduceCtorEq, Nat.reduceEqDiff, Nat.reduceAdd, Nat.reduceMul, Nat.reduceSub, Int.reduceToNat, Int.reduceEq, Int.reduceLT, Int.reduceLE, Int.reduceAdd, Int.reduceSub, Int.reduceMul, reduceIte, resVs, resV, packV, initT, addr, F12_b0, h5, r1, q1, stepOp_mup_v, p1] | refine OrW.go ?_
  refine ⟨by rw [mx_old (by omega), f1 _ (by omega)]; exact e2, rfl, ?_⟩
  simp only
  rw [mx_set_old (by omega)]
  have hk : ∀ y, y ≠ m.size → y ≠ m.size + 4 → (M2.set (m.size + 4) (.loop .ready none t rec)).get y = M.get y := fun y a b => by rw [AMem.get_set_ne _ _ b, f1 y a, e1 y b]
  refine RefJ.nil ⟨by rw [AMem.size_set]; omega, fun y hy => by rw [hk y (by omega) (by omega)]; exact hold y hy, by rw [hk _ (by omega) (by omega)]; exact hseen, by rw [hk _ (by omega) (by omega)]; exact htext, ?_, by rw [hk _ (by omega) (by omega)]; exact hdefd, AMem.get_set_self _ _ _⟩
  rw [hsn]
  have hfe : mapS (L ++ [w]) = fun s => if s = w then some (Value.int .i64 1) else mapS L s := by
    funext s
    unfold mapS
    by_cases h1 : s = w
    · simp [h1]
    · simp [h1]
  rw [hfe]
  exact p3.keep (by rw [AMem.size_set]; exact Nat.le_refl _) (by rw [AMem.get_set_ne _ _ (by omega)])
theorem ref_loop (m : AMem) (b : List UInt8) (hl : b.length ≤ 1000000) (t : Tmps) (h5 : t 5 = .pointer (some ⟨m.size + 1, 0, none⟩)) (h10 : t 10 = .func (.func 32) #[] #[.pointer (some ⟨m.size + 2, 0, none⟩)]) (Q : AExit → ASt → Prop)
    (hdone : ∀ rec M, RefJ m b t rec (wins okL b).length M → Q .normal ⟨t, mx (M.set (m.size + 4) .dead) [], [⟨.collected (m.size + 3), #[]⟩]⟩) :
    W Try.prog 1 (.rangeF (.t 10) [11] F12_g0 F12_b0) Q ⟨t, mx m [.map #[] 0, .cells [.map (some m.size)] 47 true .exact, .cells [.string ⟨b.toArray⟩] 9 true .exact], []⟩ := by
  refine W_rangeT (gf := 32) (first := #[]) (captured := #[.pointer (some ⟨m.size + 2, 0, none⟩)]) (vs := (wins okL b).map fun w => [.string ⟨w.toArray⟩]) h10 ⟨_, _, rfl, rfl, rfl⟩ (letters1_ok (m.size + 2) b hl) (fun x hx => ?_) (fun rec k M => RefJ m b t rec k M) (m.size + 3) (m.size + 4) (by rw [mx_size]; rfl) rfl (fun rec => ?_) (fun rec i M h => ?_) (fun rec i M hi h => ?_) (fun rec M h => ?_)
  · simp only [List.mem_map] at hx; obtain ⟨w, _, rfl⟩ := hx; rfl
  · refine ⟨by rw [mx_size]; simp, fun y hy => mx_old hy, ?_, ?_, MapAt.new (by rw [mx_size]; simp) ?_, ?_, ?_⟩
    · exact mx_new _ _ 1
    · exact mx_new _ _ 2
    · exact mx_new0 _ _
    · exact mx_new _ _ 3
    · exact mx_new _ _ 4
  · exact ⟨by have := h.size; omega, h.loop, by have := h.size; omega, h.text⟩
  · rw [List.length_map] at hi
    rw [List.getElem_map]
    exact ref_round m b t h5 rec i M hi h
  · rw [List.length_map] at h
    exact hdone rec M h
def refsR (b : List UInt8) (names : List (List UInt8)) : List (List UInt8) := toldR (wins okL b) names
theorem refs_ok (m : AMem) (a : Option Addr) (c : Nat) (b : List UInt8) (hb : BArg m a c b) (hl : b.length ≤ 1000000) (na : Option Addr) (nc : Nat) (names : List (List UInt8)) (h : StrR m na names) (hnl : names.length ≤ 100000) (hs : ∀ s ∈ names, s.length ≤ 100000) :
    RelC Try.prog 1 12 [.slice a b.length c, .slice na names.length nc] m fun v M => ∃ a' c', v = .slice a' (refsR b names).length c' ∧ SRow m M a' c' (refsR b names) := by
  refine rel_of_WD (fn := Try.f12) rfl rfl F12_ok (by simp [F12]) ?_
  let o3 : List AObj := [.map #[] 0, .cells [.map (some m.size)] 47 true .exact]
  have s0 := hb.str _ (Old.here m o3)
  have kL := DetC.known (lettersF_ok (mx m o3) b)
  simp only [o3] at s0 kL
  rw [mx_mx, mx_size] at kL
  simp only [List.length_cons, List.length_nil, Nat.zero_add, Nat.reduceAdd, List.cons_append, List.nil_append] at kL
  have cm : ∀ x, cellsOf (.map x) = some [.map x] := fun _ => rfl
  repeat first | simp (implicitDefEqProofs := false) (maxSteps := 1000000) (disch := first | omega | with_reducible assumption | (simp only [lenT, Nat.reduceAdd]; omega)) only [amT, cut, bnd, Nat.reduceBEq, reduceCtorEq, Nat.reduceEqDiff, Nat.reduceAdd, Nat.reduceMul, Nat.reduceSub, Int.reduceToNat, Int.reduceEq, Int.reduceLT, Int.reduceLE, Int.reduceAdd, Int.reduceSub, Int.reduceMul, reduceIte, resVs, resV, packV, initT, addr, F12, stepOp_mkM, stepOp_b2s_v, s0, kL, cm] | refine OrW.go ?_
  refine ref_loop m b hl _ (by simp (implicitDefEqProofs := false) (maxSteps := 1000000) (disch := first | omega | with_reducible assumption | (simp only [lenT, Nat.reduceAdd]; omega)) only [amT, cut, bnd, Nat.reduceBEq, reduceCtorEq, Nat.reduceEqDiff, Nat.reduceAdd, Nat.reduceMul, Nat.reduceSub, Int.reduceToNat, Int.reduceEq, Int.reduceLT, Int.reduceLE, Int.reduceAdd, Int.reduceSub, Int.reduceMul, reduceIte, resVs, resV, packV, initT, addr]) (by simp (implicitDefEqProofs := false) (maxSteps := 1000000) (disch := first | omega | with_reducible assumption | (simp only [lenT, Nat.reduceAdd]; omega)) only [amT, cut, bnd, Nat.reduceBEq, reduceCtorEq, Nat.reduceEqDiff, Nat.reduceAdd, Nat.reduceMul, Nat.reduceSub, Int.reduceToNat, Int.reduceEq, Int.reduceLT, Int.reduceLE, Int.reduceAdd, Int.reduceSub, Int.reduceMul, reduceIte, resVs, resV, packV, initT, addr]) _ fun rec M hJ => ?_
  have hz := hJ.size
  have hmap := hJ.map
  rw [List.take_length] at hmap
  have r0 : (M.set (m.size + 4) .dead).get (m.size + 1) = .cells [.map (some m.size)] 47 true .exact := by rw [AMem.get_set_ne _ _ (by omega)]; exact hJ.seen
  have q0 : m.size + 1 < (M.set (m.size + 4) .dead).size := by rw [AMem.size_set]; omega
  have hd : (M.set (m.size + 4) .dead).get (m.size + 3) = .defd := by rw [AMem.get_set_ne _ _ (by omega)]; exact hJ.defd
  have hO : Old m (M.set (m.size + 4) .dead) := ⟨by rw [AMem.size_set]; omega, fun y hy => by rw [AMem.get_set_ne _ _ (by omega)]; exact hJ.old y hy⟩
  have q4 : m.size + 3 < (M.set (m.size + 4) .dead).size := by rw [AMem.size_set]; omega
  have hmap2 : MapAt (M.set (m.size + 4) .dead) m.size (mapS (wins okL b)) := hmap.keep (by rw [AMem.size_set]; exact Nat.le_refl _) (AMem.get_set_ne _ _ (by omega))
  generalize M.set (m.size + 4) .dead = N at *
  have kT := told_ok (mx N []) m.size (wins okL b) (hmap2.old (Old.here _ _)) na nc names (h.old (hO.mx [])) hnl hs
  simp (implicitDefEqProofs := false) (maxSteps := 1000000) (disch := first | omega | with_reducible assumption | (simp only [lenT, Nat.reduceAdd]; omega)) only [amT, cut, bnd, Nat.reduceBEq, reduceCtorEq, Nat.reduceEqDiff, Nat.reduceAdd, Nat.reduceMul, Nat.reduceSub, Int.reduceToNat, Int.reduceEq, Int.reduceLT, Int.reduceLE, Int.reduceAdd, Int.reduceSub, Int.reduceMul, reduceIte, resVs, resV, packV, initT, addr, r0, q0]
  refine RelC.call kT ?_
  rintro r M2 ⟨a', c', rfl, hS⟩
  have hO2 : Old N M2 := (Old.here N []).trans hS.old
  have hd2 : M2.get (m.size + 3) = .defd := by rw [hO2.2 _ q4]; exact hd
  have q5 : m.size + 3 < M2.size := Nat.lt_of_lt_of_le q4 hO2.1
  have hown : ∀ x, ownV (.slice a' (toldR (wins okL b) names).length c') x → x ≠ m.size + 3 := fun x hx e => by have := hS.own x hx; rw [mx_nil_size] at this; omega
  simp (implicitDefEqProofs := false) (maxSteps := 1000000) (disch := first | omega | with_reducible assumption | (simp only [lenT, Nat.reduceAdd]; omega)) only [amT, cut, bnd, Nat.reduceBEq, reduceCtorEq, Nat.reduceEqDiff, Nat.reduceAdd, Nat.reduceMul, Nat.reduceSub, Int.reduceToNat, Int.reduceEq, Int.reduceLT, Int.reduceLE, Int.reduceAdd, Int.reduceSub, Int.reduceMul, reduceIte, resVs, resV, packV, initT, addr]
  refine ⟨mx (M2.set (m.size + 3) .dead) [], ?_, ?_⟩
  · simp only [takeD]
    rw [mx_old q5, hd2]
    simp only
    rw [mx_set_old q5]
  · simp (implicitDefEqProofs := false) (maxSteps := 1000000) (disch := first | omega | with_reducible assumption | (simp only [lenT, Nat.reduceAdd]; omega)) only [amT, cut, bnd, Nat.reduceBEq, reduceCtorEq, Nat.reduceEqDiff, Nat.reduceAdd, Nat.reduceMul, Nat.reduceSub, Int.reduceToNat, Int.reduceEq, Int.reduceLT, Int.reduceLE, Int.reduceAdd, Int.reduceSub, Int.reduceMul, reduceIte, resVs, resV, packV, initT, addr]
    refine ⟨_, rfl, fun _ => ⟨a', c', rfl, ⟨?_, ?_, fun x hx => ?_⟩⟩⟩
    · refine Old.mx ⟨by rw [AMem.size_set]; exact Nat.le_trans hO.1 hO2.1, fun y hy => ?_⟩ []
      rw [AMem.get_set_ne _ _ (by omega), hO2.2 y (Nat.lt_of_lt_of_le hy hO.1)]; exact hO.2 y hy
    · exact (hS.strs.keep (O := fun x => x = m.size + 3) ⟨by rw [AMem.size_set]; exact Nat.le_refl _, fun x hx hn => AMem.get_set_ne _ _ hn⟩ hown).old (Old.here _ _)
    · have := hS.own x hx; rw [mx_nil_size] at this; have := hO.1; omega
end Go.Proofs.Ytighienjnhglnaa
namespace Go.Proofs.Ytighienjnhglnaa
open Go Go.AM
set_option linter.unusedVariables false
set_option linter.unusedSimpArgs false
set_option maxHeartbeats 4000000
set_option maxRecDepth 100000

theorem BSl.room {M : AMem} {b : Nat} {c : List UInt8} {e : TypeId} {w : Bool} (hb : b < M.size) (hm : M.get b = .cells (c.map byteV) e w (.room [.int .u8 0])) : BSl M (some ⟨b, 0, none⟩) openCap c :=
  .inr ⟨b, 0, _, e, w, _, rfl, hb, hm, by rw [← List.length_map (f := byteV)]; exact cutL_all rfl, .inl ⟨rfl, rfl⟩⟩
def zz : List UInt8 := List.replicate 32 48
theorem zz_len : zz.length = 32 := rfl
theorem refs_det (m : AMem) (a : Option Addr) (c : Nat) (b : List UInt8) (hb : BArg m a c b) (hl : b.length ≤ 1000000) (na : Option Addr) (nc : Nat) (names : List (List UInt8)) (h : StrR m na names) (hnl : names.length ≤ 100000) (hs : ∀ s ∈ names, s.length ≤ 100000) (hne : refsR b names ≠ []) :
    DetC Try.prog 1 12 [.slice a b.length c, .slice na names.length nc] m (.slice (strA m (refsR b names)) (refsR b names).length (strC (refsR b names))) (mx m (strO (refsR b names))) :=
  det_strs ((refs_ok m a c b hb hl na nc names h hnl hs).mono fun v M ⟨a', c', e, hS⟩ => ⟨hS.old, a', c', e, hS.strs, hS.own, fun h => absurd h hne⟩)
theorem bk_at (M : AMem) (l : List AObj) (k : Nat) (b : List UInt8) (h : l[k]? = some (.cells (b.map byteV) 5 true (.room [.int .u8 0]))) : BSl (mx M l) (some ⟨M.size + k, 0, none⟩) openCap b := by
  have hlt : k < l.length := (List.getElem?_eq_some_iff.1 h).1
  refine BSl.room (e := 5) (w := true) (by rw [mx_size]; omega) (by rw [mx_new]; simp [List.getD, h])
theorem rs_at (M : AMem) (l : List AObj) (k : Nat) (b : List (List UInt8)) {sp : Spare} (h : l[k]? = some (.cells (b.map sV) 9 true sp)) : StrR (mx M l) (some ⟨M.size + k, 0, none⟩) b := (src_at M l k h).str
theorem w0 : allR (zz.drop 1) = [] := by decide +kernel
theorem w1 : allR (zz ++ [48]) = [zz] := by decide +kernel
theorem w2 : allR (101 :: (zz ++ [101])) = [zz] := by decide +kernel
theorem w3 : allR (zz ++ [49]) = [zz, zz.drop 1 ++ [49]] := by decide +kernel
theorem w4 : refsR zz [zz ++ [45, 97], [98]] = [zz ++ [45, 97]] := by decide +kernel
theorem works_ok (m : AMem) : PureC Try.prog 1 6 [] m (.bool true) := by
  refine pure_of_W (fn := Try.f6) rfl rfl F6_ok (by simp [F6]) (.bool _) ?_
  have kZ := DetC.known (N.letters_ok (mx m []) N.zeroD rfl)
  have ez : N.lettersTo (N.zeroD.take 20) 32 = zz := N.f1
  rw [ez] at kZ
  have hz := zz_len
  have w0 := w0; have w1 := w1; have w2 := w2; have w3 := w3; have w4 := w4
  generalize zz = z at kZ hz w0 w1 w2 w3 w4
  have hzi : (z.length : Int) = 32 := by omega
  have hl1 : (List.drop 1 z).length = 31 := by simp [hz]
  have hl2 : ∀ x : UInt8, (z ++ [x]).length = 33 := fun x => by simp [hz]
  have hl3 : (101 :: (z ++ [101])).length = 34 := by simp [hz]
  have k0 := DetC.known (all_det (mx m [.cells ((z.drop 1).map byteV) 5 true (.room [.int .u8 0]), .dead, .dead, .dead, .dead, .dead, .dead, .dead, .dead, .dead]) _ _ (z.drop 1) (.of <| bk_at m [.cells ((z.drop 1).map byteV) 5 true (.room [.int .u8 0]), .dead, .dead, .dead, .dead, .dead, .dead, .dead, .dead, .dead] 0 (z.drop 1) rfl) (by simp; omega))
  have k1 := DetC.known (all_det (mx m [.cells ((z.drop 1).map byteV) 5 true (.room [.int .u8 0]), .cells ((z ++ [48]).map byteV) 5 true (.room [.int .u8 0]), .cells ([z].map sV) 9 true .exact, .dead, .dead, .dead, .dead, .dead, .dead, .dead]) _ _ (z ++ [48]) (.of <| bk_at m [.cells ((z.drop 1).map byteV) 5 true (.room [.int .u8 0]), .cells ((z ++ [48]).map byteV) 5 true (.room [.int .u8 0]), .cells ([z].map sV) 9 true .exact, .dead, .dead, .dead, .dead, .dead, .dead, .dead] 1 (z ++ [48]) rfl) (by simp; omega))
  have s1 := DetC.known (sameTexts_ok (mx m [.cells ((z.drop 1).map byteV) 5 true (.room [.int .u8 0]), .cells ((z ++ [48]).map byteV) 5 true (.room [.int .u8 0]), .cells ([z].map sV) 9 true .exact, .dead, .dead, .dead, .dead, .dead, .dead, .dead, .cells ([z].map sV) 9 true (.room [.string ⟨#[]⟩])]) _ openCap _ 1 ([z]) (rs_at m [.cells ((z.drop 1).map byteV) 5 true (.room [.int .u8 0]), .cells ((z ++ [48]).map byteV) 5 true (.room [.int .u8 0]), .cells ([z].map sV) 9 true .exact, .dead, .dead, .dead, .dead, .dead, .dead, .dead, .cells ([z].map sV) 9 true (.room [.string ⟨#[]⟩])] 10 ([z]) rfl) (rs_at m [.cells ((z.drop 1).map byteV) 5 true (.room [.int .u8 0]), .cells ((z ++ [48]).map byteV) 5 true (.room [.int .u8 0]), .cells ([z].map sV) 9 true .exact, .dead, .dead, .dead, .dead, .dead, .dead, .dead, .cells ([z].map sV) 9 true (.room [.string ⟨#[]⟩])] 2 ([z]) rfl) (by simp))
  have k2 := DetC.known (all_det (mx m [.cells ((z.drop 1).map byteV) 5 true (.room [.int .u8 0]), .cells ((z ++ [48]).map byteV) 5 true (.room [.int .u8 0]), .cells ([z].map sV) 9 true .exact, .cells ((101 :: (z ++ [101])).map byteV) 5 true (.room [.int .u8 0]), .cells ([z].map sV) 9 true .exact, .dead, .dead, .dead, .dead, .dead, .cells ([z].map sV) 9 true (.room [.string ⟨#[]⟩])]) _ _ (101 :: (z ++ [101])) (.of <| bk_at m [.cells ((z.drop 1).map byteV) 5 true (.room [.int .u8 0]), .cells ((z ++ [48]).map byteV) 5 true (.room [.int .u8 0]), .cells ([z].map sV) 9 true .exact, .cells ((101 :: (z ++ [101])).map byteV) 5 true (.room [.int .u8 0]), .cells ([z].map sV) 9 true .exact, .dead, .dead, .dead, .dead, .dead, .cells ([z].map sV) 9 true (.room [.string ⟨#[]⟩])] 3 (101 :: (z ++ [101])) rfl) (by simp; omega))
  have s2 := DetC.known (sameTexts_ok (mx m [.cells ((z.drop 1).map byteV) 5 true (.room [.int .u8 0]), .cells ((z ++ [48]).map byteV) 5 true (.room [.int .u8 0]), .cells ([z].map sV) 9 true .exact, .cells ((101 :: (z ++ [101])).map byteV) 5 true (.room [.int .u8 0]), .cells ([z].map sV) 9 true .exact, .dead, .dead, .dead, .dead, .dead, .cells ([z].map sV) 9 true (.room [.string ⟨#[]⟩]), .cells ([z].map sV) 9 true (.room [.string ⟨#[]⟩])]) _ openCap _ 1 ([z]) (rs_at m [.cells ((z.drop 1).map byteV) 5 true (.room [.int .u8 0]), .cells ((z ++ [48]).map byteV) 5 true (.room [.int .u8 0]), .cells ([z].map sV) 9 true .exact, .cells ((101 :: (z ++ [101])).map byteV) 5 true (.room [.int .u8 0]), .cells ([z].map sV) 9 true .exact, .dead, .dead, .dead, .dead, .dead, .cells ([z].map sV) 9 true (.room [.string ⟨#[]⟩]), .cells ([z].map sV) 9 true (.room [.string ⟨#[]⟩])] 11 ([z]) rfl) (rs_at m [.cells ((z.drop 1).map byteV) 5 true (.room [.int .u8 0]), .cells ((z ++ [48]).map byteV) 5 true (.room [.int .u8 0]), .cells ([z].map sV) 9 true .exact, .cells ((101 :: (z ++ [101])).map byteV) 5 true (.room [.int .u8 0]), .cells ([z].map sV) 9 true .exact, .dead, .dead, .dead, .dead, .dead, .cells ([z].map sV) 9 true (.room [.string ⟨#[]⟩]), .cells ([z].map sV) 9 true (.room [.string ⟨#[]⟩])] 4 ([z]) rfl) (by simp))
  have k3 := DetC.known (all_det (mx m [.cells ((z.drop 1).map byteV) 5 true (.room [.int .u8 0]), .cells ((z ++ [48]).map byteV) 5 true (.room [.int .u8 0]), .cells ([z].map sV) 9 true .exact, .cells ((101 :: (z ++ [101])).map byteV) 5 true (.room [.int .u8 0]), .cells ([z].map sV) 9 true .exact, .cells ((z ++ [49]).map byteV) 5 true (.room [.int .u8 0]), .cells ([z, z.drop 1 ++ [49]].map sV) 9 true .exact, .dead, .dead, .dead, .cells ([z].map sV) 9 true (.room [.string ⟨#[]⟩]), .cells ([z].map sV) 9 true (.room [.string ⟨#[]⟩])]) _ _ (z ++ [49]) (.of <| bk_at m [.cells ((z.drop 1).map byteV) 5 true (.room [.int .u8 0]), .cells ((z ++ [48]).map byteV) 5 true (.room [.int .u8 0]), .cells ([z].map sV) 9 true .exact, .cells ((101 :: (z ++ [101])).map byteV) 5 true (.room [.int .u8 0]), .cells ([z].map sV) 9 true .exact, .cells ((z ++ [49]).map byteV) 5 true (.room [.int .u8 0]), .cells ([z, z.drop 1 ++ [49]].map sV) 9 true .exact, .dead, .dead, .dead, .cells ([z].map sV) 9 true (.room [.string ⟨#[]⟩]), .cells ([z].map sV) 9 true (.room [.string ⟨#[]⟩])] 5 (z ++ [49]) rfl) (by simp; omega))
  have s3 := DetC.known (sameTexts_ok (mx m [.cells ((z.drop 1).map byteV) 5 true (.room [.int .u8 0]), .cells ((z ++ [48]).map byteV) 5 true (.room [.int .u8 0]), .cells ([z].map sV) 9 true .exact, .cells ((101 :: (z ++ [101])).map byteV) 5 true (.room [.int .u8 0]), .cells ([z].map sV) 9 true .exact, .cells ((z ++ [49]).map byteV) 5 true (.room [.int .u8 0]), .cells ([z, z.drop 1 ++ [49]].map sV) 9 true .exact, .dead, .dead, .dead, .cells ([z].map sV) 9 true (.room [.string ⟨#[]⟩]), .cells ([z].map sV) 9 true (.room [.string ⟨#[]⟩]), .cells ([z, z.drop 1 ++ [49]].map sV) 9 true (.room [.string ⟨#[]⟩])]) _ openCap _ 2 ([z, z.drop 1 ++ [49]]) (rs_at m [.cells ((z.drop 1).map byteV) 5 true (.room [.int .u8 0]), .cells ((z ++ [48]).map byteV) 5 true (.room [.int .u8 0]), .cells ([z].map sV) 9 true .exact, .cells ((101 :: (z ++ [101])).map byteV) 5 true (.room [.int .u8 0]), .cells ([z].map sV) 9 true .exact, .cells ((z ++ [49]).map byteV) 5 true (.room [.int .u8 0]), .cells ([z, z.drop 1 ++ [49]].map sV) 9 true .exact, .dead, .dead, .dead, .cells ([z].map sV) 9 true (.room [.string ⟨#[]⟩]), .cells ([z].map sV) 9 true (.room [.string ⟨#[]⟩]), .cells ([z, z.drop 1 ++ [49]].map sV) 9 true (.room [.string ⟨#[]⟩])] 12 ([z, z.drop 1 ++ [49]]) rfl) (rs_at m [.cells ((z.drop 1).map byteV) 5 true (.room [.int .u8 0]), .cells ((z ++ [48]).map byteV) 5 true (.room [.int .u8 0]), .cells ([z].map sV) 9 true .exact, .cells ((101 :: (z ++ [101])).map byteV) 5 true (.room [.int .u8 0]), .cells ([z].map sV) 9 true .exact, .cells ((z ++ [49]).map byteV) 5 true (.room [.int .u8 0]), .cells ([z, z.drop 1 ++ [49]].map sV) 9 true .exact, .dead, .dead, .dead, .cells ([z].map sV) 9 true (.room [.string ⟨#[]⟩]), .cells ([z].map sV) 9 true (.room [.string ⟨#[]⟩]), .cells ([z, z.drop 1 ++ [49]].map sV) 9 true (.room [.string ⟨#[]⟩])] 6 ([z, z.drop 1 ++ [49]]) rfl) (by simp))
  have k4 := DetC.known (refs_det (mx m [.cells ((z.drop 1).map byteV) 5 true (.room [.int .u8 0]), .cells ((z ++ [48]).map byteV) 5 true (.room [.int .u8 0]), .cells ([z].map sV) 9 true .exact, .cells ((101 :: (z ++ [101])).map byteV) 5 true (.room [.int .u8 0]), .cells ([z].map sV) 9 true .exact, .cells ((z ++ [49]).map byteV) 5 true (.room [.int .u8 0]), .cells ([z, z.drop 1 ++ [49]].map sV) 9 true .exact, .cells (z.map byteV) 5 true (.room [.int .u8 0]), .cells ([z ++ [45, 97], [98]].map sV) 9 true .exact, .cells ([z ++ [45, 97]].map sV) 9 true .exact, .cells ([z].map sV) 9 true (.room [.string ⟨#[]⟩]), .cells ([z].map sV) 9 true (.room [.string ⟨#[]⟩]), .cells ([z, z.drop 1 ++ [49]].map sV) 9 true (.room [.string ⟨#[]⟩])]) _ _ z (.of <| bk_at m [.cells ((z.drop 1).map byteV) 5 true (.room [.int .u8 0]), .cells ((z ++ [48]).map byteV) 5 true (.room [.int .u8 0]), .cells ([z].map sV) 9 true .exact, .cells ((101 :: (z ++ [101])).map byteV) 5 true (.room [.int .u8 0]), .cells ([z].map sV) 9 true .exact, .cells ((z ++ [49]).map byteV) 5 true (.room [.int .u8 0]), .cells ([z, z.drop 1 ++ [49]].map sV) 9 true .exact, .cells (z.map byteV) 5 true (.room [.int .u8 0]), .cells ([z ++ [45, 97], [98]].map sV) 9 true .exact, .cells ([z ++ [45, 97]].map sV) 9 true .exact, .cells ([z].map sV) 9 true (.room [.string ⟨#[]⟩]), .cells ([z].map sV) 9 true (.room [.string ⟨#[]⟩]), .cells ([z, z.drop 1 ++ [49]].map sV) 9 true (.room [.string ⟨#[]⟩])] 7 z rfl) (by omega) _ 2 [z ++ [45, 97], [98]] (rs_at m [.cells ((z.drop 1).map byteV) 5 true (.room [.int .u8 0]), .cells ((z ++ [48]).map byteV) 5 true (.room [.int .u8 0]), .cells ([z].map sV) 9 true .exact, .cells ((101 :: (z ++ [101])).map byteV) 5 true (.room [.int .u8 0]), .cells ([z].map sV) 9 true .exact, .cells ((z ++ [49]).map byteV) 5 true (.room [.int .u8 0]), .cells ([z, z.drop 1 ++ [49]].map sV) 9 true .exact, .cells (z.map byteV) 5 true (.room [.int .u8 0]), .cells ([z ++ [45, 97], [98]].map sV) 9 true .exact, .cells ([z ++ [45, 97]].map sV) 9 true .exact, .cells ([z].map sV) 9 true (.room [.string ⟨#[]⟩]), .cells ([z].map sV) 9 true (.room [.string ⟨#[]⟩]), .cells ([z, z.drop 1 ++ [49]].map sV) 9 true (.room [.string ⟨#[]⟩])] 8 [z ++ [45, 97], [98]] rfl) (by simp) (fun s hs => by simp at hs; rcases hs with rfl | rfl <;> simp <;> omega) (by rw [w4]; simp))
  have s4 := DetC.known (sameTexts_ok (mx m [.cells ((z.drop 1).map byteV) 5 true (.room [.int .u8 0]), .cells ((z ++ [48]).map byteV) 5 true (.room [.int .u8 0]), .cells ([z].map sV) 9 true .exact, .cells ((101 :: (z ++ [101])).map byteV) 5 true (.room [.int .u8 0]), .cells ([z].map sV) 9 true .exact, .cells ((z ++ [49]).map byteV) 5 true (.room [.int .u8 0]), .cells ([z, z.drop 1 ++ [49]].map sV) 9 true .exact, .cells (z.map byteV) 5 true (.room [.int .u8 0]), .cells ([z ++ [45, 97], [98]].map sV) 9 true .exact, .cells ([z ++ [45, 97]].map sV) 9 true .exact, .cells ([z].map sV) 9 true (.room [.string ⟨#[]⟩]), .cells ([z].map sV) 9 true (.room [.string ⟨#[]⟩]), .cells ([z, z.drop 1 ++ [49]].map sV) 9 true (.room [.string ⟨#[]⟩]), .cells ([z ++ [45, 97]].map sV) 9 true (.room [.string ⟨#[]⟩])]) _ openCap _ 1 ([z ++ [45, 97]]) (rs_at m [.cells ((z.drop 1).map byteV) 5 true (.room [.int .u8 0]), .cells ((z ++ [48]).map byteV) 5 true (.room [.int .u8 0]), .cells ([z].map sV) 9 true .exact, .cells ((101 :: (z ++ [101])).map byteV) 5 true (.room [.int .u8 0]), .cells ([z].map sV) 9 true .exact, .cells ((z ++ [49]).map byteV) 5 true (.room [.int .u8 0]), .cells ([z, z.drop 1 ++ [49]].map sV) 9 true .exact, .cells (z.map byteV) 5 true (.room [.int .u8 0]), .cells ([z ++ [45, 97], [98]].map sV) 9 true .exact, .cells ([z ++ [45, 97]].map sV) 9 true .exact, .cells ([z].map sV) 9 true (.room [.string ⟨#[]⟩]), .cells ([z].map sV) 9 true (.room [.string ⟨#[]⟩]), .cells ([z, z.drop 1 ++ [49]].map sV) 9 true (.room [.string ⟨#[]⟩]), .cells ([z ++ [45, 97]].map sV) 9 true (.room [.string ⟨#[]⟩])] 13 ([z ++ [45, 97]]) rfl) (rs_at m [.cells ((z.drop 1).map byteV) 5 true (.room [.int .u8 0]), .cells ((z ++ [48]).map byteV) 5 true (.room [.int .u8 0]), .cells ([z].map sV) 9 true .exact, .cells ((101 :: (z ++ [101])).map byteV) 5 true (.room [.int .u8 0]), .cells ([z].map sV) 9 true .exact, .cells ((z ++ [49]).map byteV) 5 true (.room [.int .u8 0]), .cells ([z, z.drop 1 ++ [49]].map sV) 9 true .exact, .cells (z.map byteV) 5 true (.room [.int .u8 0]), .cells ([z ++ [45, 97], [98]].map sV) 9 true .exact, .cells ([z ++ [45, 97]].map sV) 9 true .exact, .cells ([z].map sV) 9 true (.room [.string ⟨#[]⟩]), .cells ([z].map sV) 9 true (.room [.string ⟨#[]⟩]), .cells ([z, z.drop 1 ++ [49]].map sV) 9 true (.room [.string ⟨#[]⟩]), .cells ([z ++ [45, 97]].map sV) 9 true (.room [.string ⟨#[]⟩])] 9 ([z ++ [45, 97]]) rfl) (by simp))
  rw [w0] at k0
  rw [w1] at k1
  rw [w2] at k2
  rw [w3] at k3
  rw [w4] at k4
  simp only [strA, strC, strO, mx_mx, mx_size, List.length_cons, List.length_nil, List.length_append, List.length_drop, hz, if_true, if_neg (List.cons_ne_nil _ _), List.append_nil, List.cons_append, List.nil_append, Nat.zero_add, Nat.reduceAdd, Nat.reduceSub, Nat.add_zero, List.map_cons, List.map_nil, sV] at k0 k1 k2 k3 k4 s1 s2 s3 s4
  repeat first | simp (implicitDefEqProofs := false) (maxSteps := 1000000) (disch := first | omega | with_reducible assumption | (simp only [lenT, Nat.reduceAdd]; omega)) only [amT, cut, bnd, Nat.reduceBEq, reduceCtorEq, Nat.reduceEqDiff, Nat.reduceAdd, Nat.reduceMul, Nat.reduceSub, Int.reduceToNat, Int.reduceEq, Int.reduceLT, Int.reduceLE, Int.reduceAdd, Int.reduceSub, Int.reduceMul, reduceIte, resVs, resV, packV, initT, addr, F6, N.z32, kZ, hzi, hz, hl1, hl2, hl3, k0, k1, k2, k3, k4, s1, s2, s3, s4] | refine OrW.go ?_
  done
end Go.Proofs.Ytighienjnhglnaa
namespace Go.Proofs.Ytighienjnhglnaa
open Go Go.AM
set_option linter.unusedVariables false
set_option linter.unusedSimpArgs false
set_option maxHeartbeats 2000000
set_option maxRecDepth 100000

theorem allR_len (b : List UInt8) : (allR b).length ≤ b.length + 1 := by
  have h1 := onceR_len (wins okL b)
  have h2 := winsTo_len okL b (b.length + 1 - 32)
  unfold allR; unfold wins at *; omega
end Go.Proofs.Ytighienjnhglnaa
namespace Go.Proofs.Ytighienjnhglnaa
open Go Go.AM
set_option linter.unusedVariables false
set_option linter.unusedSimpArgs false

theorem mem_allR {b s : List UInt8} : s ∈ allR b ↔ ∃ j, j + 32 ≤ b.length ∧ s = winAt b j ∧ s.all okL = true := by
  unfold allR; rw [mem_onceR, mem_wins]
theorem win_left {a b : List UInt8} {j : Nat} (h : j + 32 ≤ a.length) : winAt (a ++ b) j = winAt a j := by
  unfold winAt
  rw [List.drop_append_of_le_length (by omega), List.take_append_of_le_length (by rw [List.length_drop]; omega)]
theorem win_right {a b : List UInt8} {j : Nat} : winAt (a ++ b) (a.length + j) = winAt b j := by
  unfold winAt
  rw [← List.drop_drop, List.drop_left]
theorem all_left {a b s : List UInt8} (h : s ∈ allR a) : s ∈ allR (a ++ b) := by
  obtain ⟨j, h1, rfl, h3⟩ := mem_allR.1 h
  exact mem_allR.2 ⟨j, by rw [List.length_append]; omega, (win_left h1).symm, h3⟩
theorem all_right {a b s : List UInt8} (h : s ∈ allR b) : s ∈ allR (a ++ b) := by
  obtain ⟨j, h1, rfl, h3⟩ := mem_allR.1 h
  exact mem_allR.2 ⟨a.length + j, by rw [List.length_append]; omega, win_right.symm, h3⟩
def seamR (a b : List UInt8) : List UInt8 := ((a ++ b).take (min (a.length + b.length) (a.length + 31))).drop (a.length - 31)
theorem all_seam {a b s : List UInt8} (h : s ∈ allR (a ++ b)) : s ∈ allR a ∨ s ∈ allR b ∨ s ∈ allR (seamR a b) := by
  obtain ⟨j, h1, rfl, h3⟩ := mem_allR.1 h
  rw [List.length_append] at h1
  by_cases c1 : j + 32 ≤ a.length
  · left
    rw [win_left c1] at h3 ⊢
    exact mem_allR.2 ⟨j, c1, rfl, h3⟩
  by_cases c2 : a.length ≤ j
  · right; left
    obtain ⟨k, rfl⟩ : ∃ k, j = a.length + k := ⟨j - a.length, by omega⟩
    rw [win_right] at h3 ⊢
    exact mem_allR.2 ⟨k, by omega, rfl, h3⟩
  · right; right
    have hl : (seamR a b).length = min (a.length + b.length) (a.length + 31) - (a.length - 31) := by unfold seamR; rw [List.length_drop, List.length_take, List.length_append]; omega
    have hw : winAt (seamR a b) (j - (a.length - 31)) = winAt (a ++ b) j := by
      unfold winAt seamR
      rw [List.drop_drop, show a.length - 31 + (j - (a.length - 31)) = j by omega, List.drop_take, List.take_take, Nat.min_eq_left (by omega)]
    exact mem_allR.2 ⟨j - (a.length - 31), by omega, hw.symm, h3⟩
theorem letters_ok32 (d : List UInt8) : (N.lettersOf d).all okL = true := List.all_eq_true.2 fun c hc => (ok_val c).2 (N.lettersOf_valid d c hc)
theorem letters_in (a b d : List UInt8) : N.lettersOf d ∈ allR (a ++ N.lettersOf d ++ b) := by
  have hl : (N.lettersOf d).length = 32 := N.lettersOf_length d
  refine mem_allR.2 ⟨a.length, by simp [hl], ?_, letters_ok32 d⟩
  have := win_right (a := a) (b := N.lettersOf d ++ b) (j := 0)
  rw [List.append_assoc, Nat.add_zero] at *
  rw [this, win_left (by rw [hl]; exact Nat.le_refl _)]
  unfold winAt
  rw [List.drop_zero, List.take_of_length_le (by rw [hl]; exact Nat.le_refl _)]
theorem right_x : N.rightB [120] = true := by decide +kernel
def nameX (d : List UInt8) : List UInt8 := N.lettersOf d ++ [45, 120]
theorem name_x (d : List UInt8) : N.nameR d [120] = (nameX d, 0) := by
  unfold N.nameR nameX
  rw [if_pos right_x, List.append_assoc]; rfl
theorem parse_x (d : List UInt8) : N.parseR (nameX d) = (N.lettersOf d, [120], 0) := by
  have hl : (N.lettersOf d).length = 32 := N.lettersOf_length d
  rw [N.parse_eq]
  unfold N.parse2R nameX
  have e1 : (N.lettersOf d ++ [45, 120]).take 32 = N.lettersOf d := by rw [List.take_append_of_le_length (by omega), List.take_of_length_le (by omega)]
  have e2 : (N.lettersOf d ++ [45, 120]).drop 33 = [120] := by
    rw [show 33 = (N.lettersOf d).length + 1 by omega, ← List.drop_drop, List.drop_left]; rfl
  have e3 : (N.lettersOf d ++ [45, 120])[32]? = some 45 := by rw [List.getElem?_append_right (by omega), hl]; rfl
  rw [e1, e2, e3, if_neg]
  simp only [not_or, ne_eq, not_true_eq_false, not_false_eq_true, true_and]
  refine ⟨by simp [hl], ?_, ?_⟩
  · rw [right_x]; simp
  · rw [N.bytesR_of hl (N.lettersOf_valid d)]; simp
theorem refs_x (a b d : List UInt8) : refsR (a ++ N.lettersOf d ++ b) [nameX d] = [nameX d] := by
  have h := letters_in a b d
  unfold allR at h
  rw [mem_onceR] at h
  unfold refsR toldR toldB
  rw [List.append_assoc] at h
  simp [parse_x, h]
end Go.Proofs.Ytighienjnhglnaa
namespace Go.Proofs.Ytighienjnhglnaa
open Go Go.AM
set_option linter.unusedVariables false
set_option linter.unusedSimpArgs false
set_option maxHeartbeats 4000000
set_option maxRecDepth 100000

theorem lawHolds (m : AMem) (a : Option Addr) (ca : Nat) (x : List UInt8) (hx : BArg m a ca x) (hxl : x.length ≤ 9223372036854775807) (b : Option Addr) (cb : Nat) (y : List UInt8) (hy : BArg m b cb y) (hyl : y.length ≤ 9223372036854775807) (d : List UInt8) (hd : d.length = 32) :
    PureC Try.prog 1 4 [.slice a x.length ca, .slice b y.length cb, .agg (d.map byteV).toArray] m (.bool true) := by
  refine pure_of_W (fn := Try.f4) rfl rfl F4_ok (by simp [F4]) (.bool _) ?_
  have kw := DetC.known (works_ok (mx m [.cells (d.map byteV) 29 true .exact]))
  by_cases h1 : (300 : Int) < (x.length : Int)
  · repeat first | simp (implicitDefEqProofs := false) (maxSteps := 1000000) (disch := first | omega | with_reducible assumption | (simp only [lenT, Nat.reduceAdd]; omega)) only [amT, cut, bnd, Nat.reduceBEq, reduceCtorEq, Nat.reduceEqDiff, Nat.reduceAdd, Nat.reduceMul, Nat.reduceSub, Int.reduceToNat, Int.reduceEq, Int.reduceLT, Int.reduceLE, Int.reduceAdd, Int.reduceSub, Int.reduceMul, reduceIte, resVs, resV, packV, initT, addr, F4, h1, kw, hd, undef] | refine OrW.go ?_
  by_cases h2 : (300 : Int) < (y.length : Int)
  · repeat first | simp (implicitDefEqProofs := false) (maxSteps := 1000000) (disch := first | omega | with_reducible assumption | (simp only [lenT, Nat.reduceAdd]; omega)) only [amT, cut, bnd, Nat.reduceBEq, reduceCtorEq, Nat.reduceEqDiff, Nat.reduceAdd, Nat.reduceMul, Nat.reduceSub, Int.reduceToNat, Int.reduceEq, Int.reduceLT, Int.reduceLE, Int.reduceAdd, Int.reduceSub, Int.reduceMul, reduceIte, resVs, resV, packV, initT, addr, F4, h1, h2, kw, hd] | refine OrW.go ?_
  have hxs : x.length ≤ 300 := by omega
  have hys : y.length ≤ 300 := by omega
  have hll : (N.lettersOf d).length = 32 := N.lettersOf_length d
  have kL := DetC.known (N.letters_ok (mx m [.cells (d.map byteV) 29 true .exact]) d hd)
  rw [show N.lettersTo (d.take 20) 32 = N.lettersOf d from rfl] at kL
  have kN := DetC.known (N.name_ok (mx m [.cells (d.map byteV) 29 true .exact]) d [120] hd (by simp))
  rw [name_x] at kN
  have s1 := hx.str _ (Old.here m [.cells (d.map byteV) 29 true .exact])
  have s2 := hy.str _ (Old.here m [.cells (d.map byteV) 29 true .exact])
  have hrx := refs_x x y d
  have hnl : (nameX d).length = 34 := by unfold nameX; rw [List.length_append, hll]; rfl
  generalize N.lettersOf d = L at *
  generalize nameX d = nm at *
  simp only at kN
  have kR := DetC.known (refs_det (mx m [.cells (d.map byteV) 29 true .exact, .cells ((x ++ L ++ y).map byteV) 5 true (.room [.int .u8 0]), .cells ([nm].map sV) 9 true .exact]) _ _ (x ++ L ++ y) (.of <| bk_at m [.cells (d.map byteV) 29 true .exact, .cells ((x ++ L ++ y).map byteV) 5 true (.room [.int .u8 0]), .cells ([nm].map sV) 9 true .exact] 1 (x ++ L ++ y) rfl) (by simp; omega) _ 1 [nm] (rs_at m [.cells (d.map byteV) 29 true .exact, .cells ((x ++ L ++ y).map byteV) 5 true (.room [.int .u8 0]), .cells ([nm].map sV) 9 true .exact] 2 [nm] rfl) (by simp) (fun s hs => by rw [List.mem_singleton] at hs; subst hs; omega) (by rw [hrx]; simp))
  have kS := DetC.known (sameTexts_ok (mx m [.cells (d.map byteV) 29 true .exact, .cells ((x ++ L ++ y).map byteV) 5 true (.room [.int .u8 0]), .cells ([nm].map sV) 9 true .exact, .cells ([nm].map sV) 9 true (.room [.string ⟨#[]⟩]), .cells ([nm].map sV) 9 true .exact]) _ openCap _ 1 [nm] (rs_at m [.cells (d.map byteV) 29 true .exact, .cells ((x ++ L ++ y).map byteV) 5 true (.room [.int .u8 0]), .cells ([nm].map sV) 9 true .exact, .cells ([nm].map sV) 9 true (.room [.string ⟨#[]⟩]), .cells ([nm].map sV) 9 true .exact] 3 [nm] rfl) (rs_at m [.cells (d.map byteV) 29 true .exact, .cells ((x ++ L ++ y).map byteV) 5 true (.room [.int .u8 0]), .cells ([nm].map sV) 9 true .exact, .cells ([nm].map sV) 9 true (.room [.string ⟨#[]⟩]), .cells ([nm].map sV) 9 true .exact] 4 [nm] rfl) (by simp))
  rw [hrx] at kR
  simp only [strA, strC, strO, mx_mx, mx_size, List.length_cons, List.length_nil, List.length_append, if_neg (List.cons_ne_nil _ _), List.append_nil, List.cons_append, List.nil_append, Nat.zero_add, Nat.reduceAdd, Nat.add_zero, List.map_cons, List.map_nil, sV] at kR kS
  have hO0 : Old m (mx m [.cells (d.map byteV) 29 true .exact, .cells ((x ++ L ++ y).map byteV) 5 true (.room [.int .u8 0]), .cells ([nm].map sV) 9 true .exact, .cells ([nm].map sV) 9 true (.room [.string ⟨#[]⟩]), .cells ([nm].map sV) 9 true .exact]) := Old.here _ _
  simp only [List.map_cons, List.map_nil, sV] at hO0
  repeat first | simp (implicitDefEqProofs := false) (maxSteps := 1000000) (disch := first | omega | with_reducible assumption | (simp only [lenT, Nat.reduceAdd]; omega)) only [amT, cut, bnd, Nat.reduceBEq, reduceCtorEq, Nat.reduceEqDiff, Nat.reduceAdd, Nat.reduceMul, Nat.reduceSub, Int.reduceToNat, Int.reduceEq, Int.reduceLT, Int.reduceLE, Int.reduceAdd, Int.reduceSub, Int.reduceMul, reduceIte, resVs, resV, packV, initT, addr, F4, h1, h2, kL, kN, hd, stepOp_b2s_v, s1, s2, kR, kS] | refine OrW.go ?_
  refine RelC.call (all_ok _ a ca x (hx.old hO0) (by omega)) ?_
  rintro r M1 ⟨hO1, a1, c1, rfl, hB1, -, -⟩
  have hz1 : Old m M1 := hO0.trans hO1
  repeat first | simp (implicitDefEqProofs := false) (maxSteps := 1000000) (disch := first | omega | with_reducible assumption | (simp only [lenT, Nat.reduceAdd]; omega)) only [amT, cut, bnd, Nat.reduceBEq, reduceCtorEq, Nat.reduceEqDiff, Nat.reduceAdd, Nat.reduceMul, Nat.reduceSub, Int.reduceToNat, Int.reduceEq, Int.reduceLT, Int.reduceLE, Int.reduceAdd, Int.reduceSub, Int.reduceMul, reduceIte, resVs, resV, packV, initT, addr] | refine OrW.go ?_
  refine RelC.call (all_ok (mx M1 []) b cb y (hy.old (hz1.mx [])) (by omega)) ?_
  rintro r M2 ⟨hO2, a2, c2, rfl, hB2, -, -⟩
  have hy2 : Old M1 M2 := (Old.here M1 []).trans hO2
  have hz2 : Old m M2 := hz1.trans hy2
  have hA3 := all_ok (mx M2 [.cells ((x ++ y).map byteV) 5 true (.room [.int .u8 0])]) _ _ (x ++ y) (.of (BSl.room (b := M2.size) (e := 5) (w := true) (by rw [mx_size]; simp) (mx_new0 _ _))) (by rw [List.length_append]; omega)
  rw [List.length_append] at hA3
  repeat first | simp (implicitDefEqProofs := false) (maxSteps := 1000000) (disch := first | omega | with_reducible assumption | (simp only [lenT, Nat.reduceAdd]; omega)) only [amT, cut, bnd, Nat.reduceBEq, reduceCtorEq, Nat.reduceEqDiff, Nat.reduceAdd, Nat.reduceMul, Nat.reduceSub, Int.reduceToNat, Int.reduceEq, Int.reduceLT, Int.reduceLE, Int.reduceAdd, Int.reduceSub, Int.reduceMul, reduceIte, resVs, resV, packV, initT, addr] | refine OrW.go ?_
  refine RelC.call hA3 ?_
  rintro r M3 ⟨hO3, a3, c3, rfl, hB3, -, -⟩
  have hy3 : Old M2 M3 := (Old.here M2 _).trans hO3
  have hz3 : Old m M3 := hz2.trans hy3
  have P1 := (hB1.old (hy2.trans hy3)).row
  have P2 := (hB2.old hy3).row
  have P3 := hB3.row
  have n1 := allR_len x
  have n2 := allR_len y
  have n3 := allR_len (x ++ y)
  rw [List.length_append] at n3
  have kH := fun s => DetC.known (has_ok (mx M3 []) a3 c3 (allR (x ++ y)) s (P3.old (Old.here _ _)) (by omega))
  repeat first | simp (implicitDefEqProofs := false) (maxSteps := 1000000) (disch := first | omega | with_reducible assumption | (simp only [lenT, Nat.reduceAdd]; omega)) only [amT, cut, bnd, Nat.reduceBEq, reduceCtorEq, Nat.reduceEqDiff, Nat.reduceAdd, Nat.reduceMul, Nat.reduceSub, Int.reduceToNat, Int.reduceEq, Int.reduceLT, Int.reduceLE, Int.reduceAdd, Int.reduceSub, Int.reduceMul, reduceIte, resVs, resV, packV, initT, addr] | refine OrW.go ?_
  refine W_loop (fun N qs => ∃ (i : Nat), N = (allR x).length - i ∧ qs.ds = [] ∧ qs.m = mx M3 [] ∧ qs.t 0 = .slice a x.length ca ∧ qs.t 10 = .string ⟨(x ++ y).toArray⟩ ∧ qs.t 11 = .slice a1 (allR x).length c1 ∧ qs.t 12 = .slice a2 (allR y).length c2 ∧ qs.t 13 = .slice a3 (allR (x ++ y)).length c3 ∧ qs.t 14 = .int .i64 i ∧ i ≤ (allR x).length) ((allR x).length - (0)) ⟨0, rfl, rfl, ?qm, ?q0, ?q10, ?q11, ?q12, ?q13, ?q14, ?_⟩ ?_
  case qm | q0 | q10 | q11 | q12 | q13 | q14 => first | rfl | (simp (implicitDefEqProofs := false) (maxSteps := 1000000) (disch := first | omega | with_reducible assumption | (simp only [lenT, Nat.reduceAdd]; omega)) only [amT, cut, bnd, Nat.reduceBEq, reduceCtorEq, Nat.reduceEqDiff, Nat.reduceAdd, Nat.reduceMul, Nat.reduceSub, Int.reduceToNat, Int.reduceEq, Int.reduceLT, Int.reduceLE, Int.reduceAdd, Int.reduceSub, Int.reduceMul, reduceIte, resVs, resV, packV, initT, addr]; first | done | rfl | (congr 1; omega))
  · omega
  · rintro N t m1 ds ⟨i, rfl, hds, hm, t0, t10, t11, t12, t13, t14, hp⟩
    simp only at hds hm t0 t10 t11 t12 t13 t14
    subst hds; replace hm := hm.symm; subst hm
    by_cases g : (i : Int) < ((allR x).length : Int)
    · have hi' : i < (allR x).length := by omega
      obtain ⟨b1, o1, e0, hb1, r1⟩ := P1 i hi'
      have k1 := kH (allR x)[i]
      rw [decide_eq_true (all_left (List.getElem_mem hi'))] at k1
      repeat first | simp (implicitDefEqProofs := false) (maxSteps := 1000000) (disch := first | omega | with_reducible assumption | (simp only [lenT, Nat.reduceAdd]; omega)) only [amT, cut, bnd, Nat.reduceBEq, reduceCtorEq, Nat.reduceEqDiff, Nat.reduceAdd, Nat.reduceMul, Nat.reduceSub, Int.reduceToNat, Int.reduceEq, Int.reduceLT, Int.reduceLE, Int.reduceAdd, Int.reduceSub, Int.reduceMul, reduceIte, resVs, resV, packV, initT, addr, F4_l0, t0, t10, t11, t12, t13, t14, g, e0, hb1, r1, k1] | refine OrW.go ?_
      rw [LoopK_normal]; refine ⟨_, ?_, i + 1, rfl, rfl, ?qm, ?q0, ?q10, ?q11, ?q12, ?q13, ?q14, ?_⟩
      case qm | q0 | q10 | q11 | q12 | q13 | q14 => first | rfl | (simp (implicitDefEqProofs := false) (maxSteps := 1000000) (disch := first | omega | with_reducible assumption | (simp only [lenT, Nat.reduceAdd]; omega)) only [amT, cut, bnd, Nat.reduceBEq, reduceCtorEq, Nat.reduceEqDiff, Nat.reduceAdd, Nat.reduceMul, Nat.reduceSub, Int.reduceToNat, Int.reduceEq, Int.reduceLT, Int.reduceLE, Int.reduceAdd, Int.reduceSub, Int.reduceMul, reduceIte, resVs, resV, packV, initT, addr, t0, t10, t11, t12, t13, t14, e0]; first | done | rfl | (congr 1; omega))
      · omega
      · omega
    · repeat first | simp (implicitDefEqProofs := false) (maxSteps := 1000000) (disch := first | omega | with_reducible assumption | (simp only [lenT, Nat.reduceAdd]; omega)) only [amT, cut, bnd, Nat.reduceBEq, reduceCtorEq, Nat.reduceEqDiff, Nat.reduceAdd, Nat.reduceMul, Nat.reduceSub, Int.reduceToNat, Int.reduceEq, Int.reduceLT, Int.reduceLE, Int.reduceAdd, Int.reduceSub, Int.reduceMul, reduceIte, resVs, resV, packV, initT, addr, F4_l0, t0, t10, t11, t12, t13, t14, g] | refine OrW.go ?_
      refine W_loop (fun N qs => ∃ (i : Nat), N = (allR y).length - i ∧ qs.ds = [] ∧ qs.m = mx M3 [] ∧ qs.t 0 = .slice a x.length ca ∧ qs.t 10 = .string ⟨(x ++ y).toArray⟩ ∧ qs.t 11 = .slice a1 (allR x).length c1 ∧ qs.t 12 = .slice a2 (allR y).length c2 ∧ qs.t 13 = .slice a3 (allR (x ++ y)).length c3 ∧ qs.t 15 = .int .i64 i ∧ i ≤ (allR y).length) ((allR y).length - (0)) ⟨0, rfl, rfl, ?qm, ?q0, ?q10, ?q11, ?q12, ?q13, ?q15, ?_⟩ ?_
      case qm | q0 | q10 | q11 | q12 | q13 | q15 => first | rfl | (simp (implicitDefEqProofs := false) (maxSteps := 1000000) (disch := first | omega | with_reducible assumption | (simp only [lenT, Nat.reduceAdd]; omega)) only [amT, cut, bnd, Nat.reduceBEq, reduceCtorEq, Nat.reduceEqDiff, Nat.reduceAdd, Nat.reduceMul, Nat.reduceSub, Int.reduceToNat, Int.reduceEq, Int.reduceLT, Int.reduceLE, Int.reduceAdd, Int.reduceSub, Int.reduceMul, reduceIte, resVs, resV, packV, initT, addr, t0, t10, t11, t12, t13, t14]; first | done | rfl | (congr 1; omega))
      · omega
      · rintro N t m1 ds ⟨i, rfl, hds, hm, t0, t10, t11, t12, t13, t15, hp⟩
        simp only at hds hm t0 t10 t11 t12 t13 t15
        subst hds; replace hm := hm.symm; subst hm
        by_cases g : (i : Int) < ((allR y).length : Int)
        · have hi' : i < (allR y).length := by omega
          obtain ⟨b1, o1, e0, hb1, r1⟩ := P2 i hi'
          have k1 := kH (allR y)[i]
          rw [decide_eq_true (all_right (List.getElem_mem hi'))] at k1
          repeat first | simp (implicitDefEqProofs := false) (maxSteps := 1000000) (disch := first | omega | with_reducible assumption | (simp only [lenT, Nat.reduceAdd]; omega)) only [amT, cut, bnd, Nat.reduceBEq, reduceCtorEq, Nat.reduceEqDiff, Nat.reduceAdd, Nat.reduceMul, Nat.reduceSub, Int.reduceToNat, Int.reduceEq, Int.reduceLT, Int.reduceLE, Int.reduceAdd, Int.reduceSub, Int.reduceMul, reduceIte, resVs, resV, packV, initT, addr, F4_l1, t0, t10, t11, t12, t13, t15, g, e0, hb1, r1, k1] | refine OrW.go ?_
          rw [LoopK_normal]; refine ⟨_, ?_, i + 1, rfl, rfl, ?qm, ?q0, ?q10, ?q11, ?q12, ?q13, ?q15, ?_⟩
          case qm | q0 | q10 | q11 | q12 | q13 | q15 => first | rfl | (simp (implicitDefEqProofs := false) (maxSteps := 1000000) (disch := first | omega | with_reducible assumption | (simp only [lenT, Nat.reduceAdd]; omega)) only [amT, cut, bnd, Nat.reduceBEq, reduceCtorEq, Nat.reduceEqDiff, Nat.reduceAdd, Nat.reduceMul, Nat.reduceSub, Int.reduceToNat, Int.reduceEq, Int.reduceLT, Int.reduceLE, Int.reduceAdd, Int.reduceSub, Int.reduceMul, reduceIte, resVs, resV, packV, initT, addr, t0, t10, t11, t12, t13, t15, e0]; first | done | rfl | (congr 1; omega))
          · omega
          · omega
        · have m1 : mnxs true (.int .i64 0) [.int .i64 ((x.length : Int) - 31)] = some (.int .i64 ((x.length - 31 : Nat) : Int)) := by
            simp only [mnxs, if_true]
            congr 2
            split <;> omega
          have m2 : mnxs false (.int .i64 ((x.length + y.length : Nat) : Int)) [.int .i64 ((x.length : Int) + 31)] = some (.int .i64 ((min (x.length + y.length) (x.length + 31) : Nat) : Int)) := by
            simp only [mnxs, if_true, Bool.false_eq_true, if_false]
            congr 2
            split <;> omega
          have hsm : ((x ++ y).take (min (x.length + y.length) (x.length + 31))).drop (x.length - 31) = seamR x y := rfl
          have hl1 : x.length - 31 ≤ min (x.length + y.length) (x.length + 31) := by omega
          have hl2 : min (x.length + y.length) (x.length + 31) ≤ x.length + y.length := by omega
          have hsl : (seamR x y).length ≤ 700 := by unfold seamR; rw [List.length_drop, List.length_take, List.length_append]; omega
          have hse := fun s (h : s ∈ allR (x ++ y)) => all_seam h
          generalize seamR x y = sm at hsm hsl hse
          generalize min (x.length + y.length) (x.length + 31) = hi at *
          generalize x.length - 31 = lo at *
          have hA4 := all_ok (mx M3 [.cells (sm.map byteV) 5 true (.room [.int .u8 0])]) _ _ sm (.of (BSl.room (b := M3.size) (e := 5) (w := true) (by rw [mx_size]; simp) (mx_new0 _ _))) (by omega)
          repeat first | simp (implicitDefEqProofs := false) (maxSteps := 1000000) (disch := first | omega | with_reducible assumption | (simp only [lenT, Nat.reduceAdd]; omega)) only [amT, cut, bnd, Nat.reduceBEq, reduceCtorEq, Nat.reduceEqDiff, Nat.reduceAdd, Nat.reduceMul, Nat.reduceSub, Int.reduceToNat, Int.reduceEq, Int.reduceLT, Int.reduceLE, Int.reduceAdd, Int.reduceSub, Int.reduceMul, reduceIte, resVs, resV, packV, initT, addr, F4_l1, t0, t10, t11, t12, t13, t15, g, stepOp_mnx, m1, m2, hsm] | refine OrW.go ?_
          refine RelC.call hA4 ?_
          rintro r M4 ⟨hO4, a4, c4, rfl, hB4, -, -⟩
          have hy4 : Old M3 M4 := (Old.here M3 _).trans hO4
          have hz4 : Old m M4 := hz3.trans hy4
          have Q1 := P1.old hy4
          have Q2 := P2.old hy4
          have Q3 := P3.old hy4
          have Q4 := hB4.row
          have n4 := allR_len sm
          have k1 := fun s => DetC.known (has_ok (mx M4 []) a1 c1 (allR x) s (Q1.old (Old.here _ _)) (by omega))
          have k2 := fun s => DetC.known (has_ok (mx M4 []) a2 c2 (allR y) s (Q2.old (Old.here _ _)) (by omega))
          have k4 := fun s => DetC.known (has_ok (mx M4 []) a4 c4 (allR sm) s (Q4.old (Old.here _ _)) (by omega))
          have kw2 := DetC.known (works_ok (mx M4 []))
          repeat first | simp (implicitDefEqProofs := false) (maxSteps := 1000000) (disch := first | omega | with_reducible assumption | (simp only [lenT, Nat.reduceAdd]; omega)) only [amT, cut, bnd, Nat.reduceBEq, reduceCtorEq, Nat.reduceEqDiff, Nat.reduceAdd, Nat.reduceMul, Nat.reduceSub, Int.reduceToNat, Int.reduceEq, Int.reduceLT, Int.reduceLE, Int.reduceAdd, Int.reduceSub, Int.reduceMul, reduceIte, resVs, resV, packV, initT, addr, t0, t10, t11, t12, t13, t15] | refine OrW.go ?_
          refine W_loop (fun N qs => ∃ (i : Nat), N = (allR (x ++ y)).length - i ∧ qs.ds = [] ∧ qs.m = mx M4 [] ∧ qs.t 11 = .slice a1 (allR x).length c1 ∧ qs.t 12 = .slice a2 (allR y).length c2 ∧ qs.t 13 = .slice a3 (allR (x ++ y)).length c3 ∧ qs.t 17 = .slice a4 (allR sm).length c4 ∧ qs.t 18 = .int .i64 i ∧ i ≤ (allR (x ++ y)).length) ((allR (x ++ y)).length - (0)) ⟨0, rfl, rfl, ?qm, ?q11, ?q12, ?q13, ?q17, ?q18, ?_⟩ ?_
          case qm | q11 | q12 | q13 | q17 | q18 => first | rfl | (simp (implicitDefEqProofs := false) (maxSteps := 1000000) (disch := first | omega | with_reducible assumption | (simp only [lenT, Nat.reduceAdd]; omega)) only [amT, cut, bnd, Nat.reduceBEq, reduceCtorEq, Nat.reduceEqDiff, Nat.reduceAdd, Nat.reduceMul, Nat.reduceSub, Int.reduceToNat, Int.reduceEq, Int.reduceLT, Int.reduceLE, Int.reduceAdd, Int.reduceSub, Int.reduceMul, reduceIte, resVs, resV, packV, initT, addr, t0, t10, t11, t12, t13, t15]; first | done | rfl | (congr 1; omega))
          · omega
          · rintro N t m1 ds ⟨i, rfl, hds, hm, t11, t12, t13, t17, t18, hp⟩
            simp only at hds hm t11 t12 t13 t17 t18
            subst hds; replace hm := hm.symm; subst hm
            by_cases g : (i : Int) < ((allR (x ++ y)).length : Int)
            · have hi' : i < (allR (x ++ y)).length := by omega
              obtain ⟨b1, o1, e0, hb1, r1⟩ := Q3 i hi'
              have hs := hse _ (List.getElem_mem hi')
              have k1' := k1 (allR (x ++ y))[i]
              have k2' := k2 (allR (x ++ y))[i]
              have k4' := k4 (allR (x ++ y))[i]
              by_cases d1 : (allR (x ++ y))[i] ∈ allR x
              · rw [decide_eq_true d1] at k1'
                repeat first | simp (implicitDefEqProofs := false) (maxSteps := 1000000) (disch := first | omega | with_reducible assumption | (simp only [lenT, Nat.reduceAdd]; omega)) only [amT, cut, bnd, Nat.reduceBEq, reduceCtorEq, Nat.reduceEqDiff, Nat.reduceAdd, Nat.reduceMul, Nat.reduceSub, Int.reduceToNat, Int.reduceEq, Int.reduceLT, Int.reduceLE, Int.reduceAdd, Int.reduceSub, Int.reduceMul, reduceIte, resVs, resV, packV, initT, addr, F4_l2, t11, t12, t13, t17, t18, g, e0, hb1, r1, k1', undef] | refine OrW.go ?_
                rw [LoopK_normal]; refine ⟨_, ?_, i + 1, rfl, rfl, ?qm, ?q11, ?q12, ?q13, ?q17, ?q18, ?_⟩
                case qm | q11 | q12 | q13 | q17 | q18 => first | rfl | (simp (implicitDefEqProofs := false) (maxSteps := 1000000) (disch := first | omega | with_reducible assumption | (simp only [lenT, Nat.reduceAdd]; omega)) only [amT, cut, bnd, Nat.reduceBEq, reduceCtorEq, Nat.reduceEqDiff, Nat.reduceAdd, Nat.reduceMul, Nat.reduceSub, Int.reduceToNat, Int.reduceEq, Int.reduceLT, Int.reduceLE, Int.reduceAdd, Int.reduceSub, Int.reduceMul, reduceIte, resVs, resV, packV, initT, addr, t11, t12, t13, t17, t18, e0]; first | done | rfl | (congr 1; omega))
                · omega
                · omega
              · rw [decide_eq_false d1] at k1'
                by_cases d2 : (allR (x ++ y))[i] ∈ allR y
                · rw [decide_eq_true d2] at k2'
                  repeat first | simp (implicitDefEqProofs := false) (maxSteps := 1000000) (disch := first | omega | with_reducible assumption | (simp only [lenT, Nat.reduceAdd]; omega)) only [amT, cut, bnd, Nat.reduceBEq, reduceCtorEq, Nat.reduceEqDiff, Nat.reduceAdd, Nat.reduceMul, Nat.reduceSub, Int.reduceToNat, Int.reduceEq, Int.reduceLT, Int.reduceLE, Int.reduceAdd, Int.reduceSub, Int.reduceMul, reduceIte, resVs, resV, packV, initT, addr, F4_l2, t11, t12, t13, t17, t18, g, e0, hb1, r1, k1', k2', undef] | refine OrW.go ?_
                  rw [LoopK_normal]; refine ⟨_, ?_, i + 1, rfl, rfl, ?qm, ?q11, ?q12, ?q13, ?q17, ?q18, ?_⟩
                  case qm | q11 | q12 | q13 | q17 | q18 => first | rfl | (simp (implicitDefEqProofs := false) (maxSteps := 1000000) (disch := first | omega | with_reducible assumption | (simp only [lenT, Nat.reduceAdd]; omega)) only [amT, cut, bnd, Nat.reduceBEq, reduceCtorEq, Nat.reduceEqDiff, Nat.reduceAdd, Nat.reduceMul, Nat.reduceSub, Int.reduceToNat, Int.reduceEq, Int.reduceLT, Int.reduceLE, Int.reduceAdd, Int.reduceSub, Int.reduceMul, reduceIte, resVs, resV, packV, initT, addr, t11, t12, t13, t17, t18, e0]; first | done | rfl | (congr 1; omega))
                  · omega
                  · omega
                · rw [decide_eq_false d2] at k2'
                  have d4 : (allR (x ++ y))[i] ∈ allR sm := (hs.resolve_left d1).resolve_left d2
                  rw [decide_eq_true d4] at k4'
                  repeat first | simp (implicitDefEqProofs := false) (maxSteps := 1000000) (disch := first | omega | with_reducible assumption | (simp only [lenT, Nat.reduceAdd]; omega)) only [amT, cut, bnd, Nat.reduceBEq, reduceCtorEq, Nat.reduceEqDiff, Nat.reduceAdd, Nat.reduceMul, Nat.reduceSub, Int.reduceToNat, Int.reduceEq, Int.reduceLT, Int.reduceLE, Int.reduceAdd, Int.reduceSub, Int.reduceMul, reduceIte, resVs, resV, packV, initT, addr, F4_l2, t11, t12, t13, t17, t18, g, e0, hb1, r1, k1', k2', k4'] | refine OrW.go ?_
                  rw [LoopK_normal]; refine ⟨_, ?_, i + 1, rfl, rfl, ?qm, ?q11, ?q12, ?q13, ?q17, ?q18, ?_⟩
                  case qm | q11 | q12 | q13 | q17 | q18 => first | rfl | (simp (implicitDefEqProofs := false) (maxSteps := 1000000) (disch := first | omega | with_reducible assumption | (simp only [lenT, Nat.reduceAdd]; omega)) only [amT, cut, bnd, Nat.reduceBEq, reduceCtorEq, Nat.reduceEqDiff, Nat.reduceAdd, Nat.reduceMul, Nat.reduceSub, Int.reduceToNat, Int.reduceEq, Int.reduceLT, Int.reduceLE, Int.reduceAdd, Int.reduceSub, Int.reduceMul, reduceIte, resVs, resV, packV, initT, addr, t11, t12, t13, t17, t18, e0]; first | done | rfl | (congr 1; omega))
                  · omega
                  · omega
            · repeat first | simp (implicitDefEqProofs := false) (maxSteps := 1000000) (disch := first | omega | with_reducible assumption | (simp only [lenT, Nat.reduceAdd]; omega)) only [amT, cut, bnd, Nat.reduceBEq, reduceCtorEq, Nat.reduceEqDiff, Nat.reduceAdd, Nat.reduceMul, Nat.reduceSub, Int.reduceToNat, Int.reduceEq, Int.reduceLT, Int.reduceLE, Int.reduceAdd, Int.reduceSub, Int.reduceMul, reduceIte, resVs, resV, packV, initT, addr, F4_l2, t11, t12, t13, t17, t18, g, kw2] | refine OrW.go ?_
              exact hz4.mx []
end Go.Proofs.Ytighienjnhglnaa
namespace Go.Proofs.Ytighienjnhglnaa
open Go Go.AM
theorem rep1 {W : World} {l : List (AObj × AM.Loc)} (hl : ∀ x ∈ l, ObjRel (renOf (os0 l)) x.1 x.2 W) (hw : ∀ x ∈ l, x.1.wrt = false) : Rep 1 (memOf (os0 l)) (renOf (os0 l)) W := by
  refine Rep.of (os0 l) (fun g hg => ?_) (fun x hx => ?_) (wrt0 hw)
  · obtain rfl : g = 0 := by omega
    exact ⟨_, rfl, rfl, rfl⟩
  · simp only [os0, List.mem_cons] at hx
    rcases hx with rfl | hx
    · trivial
    · exact hl x hx
theorem arg_b {W : World} {v : Value} (h : SlB W v) (k : Nat) : ∃ (x : AObj × AM.Loc) (a : Option Addr) (cap : Nat) (c : List UInt8), x.1.wrt = false ∧ (∀ ρ, ObjRel ρ x.1 x.2 W) ∧ c.length ≤ 9223372036854775807 ∧
    ∀ l : List (AObj × AM.Loc), l[k]? = some x → BArg (memOf (os0 l)) a cap c ∧ VRel (renOf (os0 l)) (.slice a c.length cap) v := by
  cases h with
  | nil => exact ⟨(.dead, ⟨0, 0, 0, 1⟩), none, 0, [], rfl, fun _ => trivial, by simp, fun l hl => ⟨.of (.inl ⟨rfl, rfl, rfl⟩), .nilSlice 0 0⟩⟩
  | none a => exact ⟨(.dead, ⟨0, 0, 0, 1⟩), some ⟨0, 0, none⟩, 0, [], rfl, fun _ => trivial, by simp, fun l hl => ⟨.zero _ 0 0, .sliceEnd (b := 0) (o := 0) (L := ⟨0, 0, 0, 1⟩) rfl (.inl rfl)⟩⟩
  | some b o cap c carr t frz hh hl hc hcap hle =>
    have ho := fun ρ => ObjRel.plain (ρ := ρ) (c := c.map byteV) (o := o) (e := t) hh (by rw [List.length_map]; exact hl) (fun j hj => by rw [List.getElem_map]; exact hc j (by simpa using hj)) (plain_byteV c) 1 (by omega)
    rw [List.length_map] at ho
    refine ⟨(.cells (c.map byteV) t false (.full 1), ⟨b, o, c.length, 1⟩), some ⟨1 + k, 0, none⟩, cap, c, rfl, ho, Nat.le_trans hle hcap, fun l hk => ⟨.of (.inr ⟨1 + k, 0, _, _, _, _, rfl, lt0_at hk, get0_at hk, ?_, .inr ⟨openCap_lt hcap, hle⟩⟩), ?_⟩⟩
    · rw [← List.length_map (f := byteV)]; exact cutL_all rfl
    · exact .slice (b := 1 + k) (o := 0) (ren0_at hk) (openCap_lt hcap)
end Go.Proofs.Ytighienjnhglnaa
