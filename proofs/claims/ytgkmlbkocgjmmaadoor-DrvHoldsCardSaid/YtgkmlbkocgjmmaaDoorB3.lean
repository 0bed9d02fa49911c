/- Graphs: what the laws ask. -/
import Derived.Test.YtgkmlbkocgjmmaaDoorB2
import Derived.Test.YtgkmlbkocgjmmaaDoorA4
import Derived.Test.YtgkmlbkocgjmmaaDoorDrvF
import Derived.Test.YtgkmlbkocgjmmaaDoorDrvF6
set_option linter.unusedVariables false
set_option linter.unusedSimpArgs false
set_option linter.unnecessarySimpa false
namespace Go.Proofs.YtgkmlbkocgjmmaaDoor
open Go Go.AM
set_option linter.unusedVariables false
set_option linter.unusedSimpArgs false
set_option maxHeartbeats 2000000
set_option maxRecDepth 100000

/-- A row of numbers. -/
def IntR (m : AMem) (a : Option Addr) (l : List Nat) : Prop := ∀ i (h : i < l.length), ∃ b o, a = some ⟨b, o, none⟩ ∧ b < m.size ∧ rdO (m.get b) (o + i) 1 = some [iV l[i]]
theorem IntR.old {m m' : AMem} {a : Option Addr} {l : List Nat} (h : IntR m a l) (ho : Old m m') : IntR m' a l := fun i hi => by
  obtain ⟨b, o, h1, h2, h3⟩ := h i hi
  exact ⟨b, o, h1, Nat.lt_of_lt_of_le h2 ho.1, by rw [ho.2 b h2]; exact h3⟩
theorem intR_cells {m : AMem} {b : Nat} {l : List Nat} (hb : b < m.size) {e : TypeId} {w : Bool} {sp : Spare} (hg : m.get b = .cells (l.map iV) e w sp) : IntR m (some ⟨b, 0, none⟩) l := fun i hi =>
  ⟨b, 0, rfl, hb, by
    rw [hg, rdO_cells, Nat.zero_add]
    unfold cutL
    rw [if_pos (by rw [List.length_map]; omega), List.drop_eq_getElem_cons (by rw [List.length_map]; exact hi), List.getElem_map]; rfl⟩
theorem IntB.row {M : AMem} {a : Option Addr} {n cap : Nat} {l : List Nat} (h : IntB M (.slice a n cap) l) : IntR M a l := by
  rcases h with ⟨rfl, _⟩ | ⟨b, h, h1, h2⟩
  · intro i hi; simp at hi
  · cases h; exact intR_cells h1 h2
theorem sameInts_ok (m : AMem) (a1 : Option Addr) (c1 : Nat) (l1 : List Nat) (h1 : IntR m a1 l1) (a2 : Option Addr) (c2 : Nat) (l2 : List Nat) (h2 : IntR m a2 l2) (hl : l1.length ≤ 9223372036854775807) (hl2 : l2.length ≤ 9223372036854775807) :
    PureC Tryd.prog 3 24 [.slice a1 l1.length c1, .slice a2 l2.length c2] m (.bool (decide (l1 = l2))) := by
  refine pure_of_W (fn := Tryd.f24) rfl rfl F24_ok (by simp [F24]) (.bool _) ?_
  by_cases g0 : (l1.length : Int) = (l2.length : Int)
  · have g1 : l1.length = l2.length := by omega
    repeat first | simp (implicitDefEqProofs := false) (maxSteps := 1000000) (disch := first | omega | with_reducible assumption | (simp only [lenT, Nat.reduceAdd]; omega)) only [amT, cut, bnd, Nat.reduceBEq, reduceCtorEq, Nat.reduceEqDiff, Nat.reduceAdd, Nat.reduceMul, Nat.reduceSub, Int.reduceToNat, Int.reduceEq, Int.reduceLT, Int.reduceLE, Int.reduceAdd, Int.reduceSub, Int.reduceMul, reduceIte, resVs, resV, packV, initT, addr, F24, g0] | refine OrW.go ?_
    refine W_loop (fun N qs => ∃ (i : Nat), N = l1.length - i ∧ qs.ds = [] ∧ qs.m = mx m [] ∧ qs.t 0 = .slice a1 l1.length c1 ∧ qs.t 1 = .slice a2 l2.length c2 ∧ qs.t 5 = .int .i64 i ∧ i ≤ l1.length ∧ ∀ j (hj : j < l1.length), j < i → l1[j] = l2[j]'(by omega)) (l1.length - (0)) ⟨0, rfl, rfl, ?qm, ?q0, ?q1, ?q5, ?_⟩ ?_
    case qm | q0 | q1 | q5 => first | rfl | (simp (implicitDefEqProofs := false) (maxSteps := 1000000) (disch := first | omega | with_reducible assumption | (simp only [lenT, Nat.reduceAdd]; omega)) only [amT, cut, bnd, Nat.reduceBEq, reduceCtorEq, Nat.reduceEqDiff, Nat.reduceAdd, Nat.reduceMul, Nat.reduceSub, Int.reduceToNat, Int.reduceEq, Int.reduceLT, Int.reduceLE, Int.reduceAdd, Int.reduceSub, Int.reduceMul, reduceIte, resVs, resV, packV, initT, addr]; first | done | rfl | (congr 1; omega))
    · exact ⟨by omega, fun j h1 h2 => by omega⟩
    · rintro N t m1 ds ⟨i, rfl, hds, hm, t0, t1, t5, hp⟩
      simp only at hds hm t0 t1 t5
      subst hds; replace hm := hm.symm; subst hm
      obtain ⟨hi, hall⟩ := hp
      by_cases g : (i : Int) < (l1.length : Int)
      · have hi' : i < l1.length := by omega
        have gg : (i : Int) < (l2.length : Int) := by omega
        obtain ⟨b1, o1, rfl, hb1, r1⟩ := h1 i hi'
        obtain ⟨b2, o2, rfl, hb2, r2⟩ := h2 i (by omega)
        simp only [iV] at r1 r2
        by_cases e : (l1[i] : Int) = (l2[i]'(by omega) : Int)
        · repeat first | simp (implicitDefEqProofs := false) (maxSteps := 1000000) (disch := first | omega | with_reducible assumption | (simp only [lenT, Nat.reduceAdd]; omega)) only [amT, cut, bnd, Nat.reduceBEq, reduceCtorEq, Nat.reduceEqDiff, Nat.reduceAdd, Nat.reduceMul, Nat.reduceSub, Int.reduceToNat, Int.reduceEq, Int.reduceLT, Int.reduceLE, Int.reduceAdd, Int.reduceSub, Int.reduceMul, reduceIte, resVs, resV, packV, initT, addr, F24_l0, t0, t1, t5, g, gg, r1, r2, e] | refine OrW.go ?_
          rw [LoopK_normal]; refine ⟨_, ?_, i + 1, rfl, rfl, ?qm, ?q0, ?q1, ?q5, ?_⟩
          case qm | q0 | q1 | q5 => first | rfl | (simp (implicitDefEqProofs := false) (maxSteps := 1000000) (disch := first | omega | with_reducible assumption | (simp only [lenT, Nat.reduceAdd]; omega)) only [amT, cut, bnd, Nat.reduceBEq, reduceCtorEq, Nat.reduceEqDiff, Nat.reduceAdd, Nat.reduceMul, Nat.reduceSub, Int.reduceToNat, Int.reduceEq, Int.reduceLT, Int.reduceLE, Int.reduceAdd, Int.reduceSub, Int.reduceMul, reduceIte, resVs, resV, packV, initT, addr, t0, t1, t5]; first | done | rfl | (congr 1; omega))
          · omega
          · refine ⟨by omega, fun j h1 h2 => ?_⟩
            rcases Nat.lt_or_ge j i with h | h
            · exact hall j h1 h
            · obtain rfl : j = i := by omega
              omega
        · have hne : ¬ l1 = l2 := fun h => e (by subst h; rfl)
          repeat first | simp (implicitDefEqProofs := false) (maxSteps := 1000000) (disch := first | omega | with_reducible assumption | (simp only [lenT, Nat.reduceAdd]; omega)) only [amT, cut, bnd, Nat.reduceBEq, reduceCtorEq, Nat.reduceEqDiff, Nat.reduceAdd, Nat.reduceMul, Nat.reduceSub, Int.reduceToNat, Int.reduceEq, Int.reduceLT, Int.reduceLE, Int.reduceAdd, Int.reduceSub, Int.reduceMul, reduceIte, resVs, resV, packV, initT, addr, F24_l0, t0, t1, t5, g, gg, r1, r2, e] | refine OrW.go ?_
          simp [hne]
      · obtain rfl : i = l1.length := by omega
        have heq : l1 = l2 := List.ext_getElem g1 fun j h1 h2 => hall j h1 h1
        repeat first | simp (implicitDefEqProofs := false) (maxSteps := 1000000) (disch := first | omega | with_reducible assumption | (simp only [lenT, Nat.reduceAdd]; omega)) only [amT, cut, bnd, Nat.reduceBEq, reduceCtorEq, Nat.reduceEqDiff, Nat.reduceAdd, Nat.reduceMul, Nat.reduceSub, Int.reduceToNat, Int.reduceEq, Int.reduceLT, Int.reduceLE, Int.reduceAdd, Int.reduceSub, Int.reduceMul, reduceIte, resVs, resV, packV, initT, addr, F24_l0, t0, t1, t5, g] | refine OrW.go ?_
        simp [heq]
  · have hne : ¬ l1 = l2 := fun h => g0 (by rw [h])
    repeat first | simp (implicitDefEqProofs := false) (maxSteps := 1000000) (disch := first | omega | with_reducible assumption | (simp only [lenT, Nat.reduceAdd]; omega)) only [amT, cut, bnd, Nat.reduceBEq, reduceCtorEq, Nat.reduceEqDiff, Nat.reduceAdd, Nat.reduceMul, Nat.reduceSub, Int.reduceToNat, Int.reduceEq, Int.reduceLT, Int.reduceLE, Int.reduceAdd, Int.reduceSub, Int.reduceMul, reduceIte, resVs, resV, packV, initT, addr, F24, g0] | refine OrW.go ?_
    simp [hne]
def shortB (ls : List (List UInt8)) (top : Nat) : Bool := decide (ls.length ≤ top) && ls.all fun s => decide (s.length ≤ 200)
theorem short_ok (m : AMem) (a : Option Addr) (c : Nat) (ls : List (List UInt8)) (ha : StrR m a ls) (hl : ls.length ≤ 9223372036854775807) (hs : ∀ s ∈ ls, s.length ≤ 9223372036854775807) (top : Nat) (ht : top ≤ 100) :
    PureC Tryd.prog 3 25 [.slice a ls.length c, .int .i64 top] m (.bool (shortB ls top)) := by
  refine pure_of_W (fn := Tryd.f25) rfl rfl F25_ok (by simp [F25]) (.bool _) ?_
  by_cases g0 : (top : Int) < (ls.length : Int)
  · have e : shortB ls top = false := by simp [shortB]; omega
    rw [e]
    repeat first | simp (implicitDefEqProofs := false) (maxSteps := 1000000) (disch := first | omega | with_reducible assumption | (simp only [lenT, Nat.reduceAdd]; omega)) only [amT, cut, bnd, Nat.reduceBEq, reduceCtorEq, Nat.reduceEqDiff, Nat.reduceAdd, Nat.reduceMul, Nat.reduceSub, Int.reduceToNat, Int.reduceEq, Int.reduceLT, Int.reduceLE, Int.reduceAdd, Int.reduceSub, Int.reduceMul, reduceIte, resVs, resV, packV, initT, addr, F25, g0] | refine OrW.go ?_
  · have hlt : ls.length ≤ top := by omega
    repeat first | simp (implicitDefEqProofs := false) (maxSteps := 1000000) (disch := first | omega | with_reducible assumption | (simp only [lenT, Nat.reduceAdd]; omega)) only [amT, cut, bnd, Nat.reduceBEq, reduceCtorEq, Nat.reduceEqDiff, Nat.reduceAdd, Nat.reduceMul, Nat.reduceSub, Int.reduceToNat, Int.reduceEq, Int.reduceLT, Int.reduceLE, Int.reduceAdd, Int.reduceSub, Int.reduceMul, reduceIte, resVs, resV, packV, initT, addr, F25, g0] | refine OrW.go ?_
    refine W_loop (fun N qs => ∃ (i : Nat), N = ls.length - i ∧ qs.ds = [] ∧ qs.m = mx m [] ∧ qs.t 0 = .slice a ls.length c ∧ qs.t 5 = .int .i64 i ∧ i ≤ ls.length ∧ ∀ j (hj : j < ls.length), j < i → ls[j].length ≤ 200) (ls.length - (0)) ⟨0, rfl, rfl, ?qm, ?q0, ?q5, ?_⟩ ?_
    case qm | q0 | q5 => first | rfl | (simp (implicitDefEqProofs := false) (maxSteps := 1000000) (disch := first | omega | with_reducible assumption | (simp only [lenT, Nat.reduceAdd]; omega)) only [amT, cut, bnd, Nat.reduceBEq, reduceCtorEq, Nat.reduceEqDiff, Nat.reduceAdd, Nat.reduceMul, Nat.reduceSub, Int.reduceToNat, Int.reduceEq, Int.reduceLT, Int.reduceLE, Int.reduceAdd, Int.reduceSub, Int.reduceMul, reduceIte, resVs, resV, packV, initT, addr]; first | done | rfl | (congr 1; omega))
    · exact ⟨by omega, fun j h1 h2 => by omega⟩
    · rintro N t m1 ds ⟨i, rfl, hds, hm, t0, t5, hp⟩
      simp only at hds hm t0 t5
      subst hds; replace hm := hm.symm; subst hm
      obtain ⟨hi, hall⟩ := hp
      by_cases g : (i : Int) < (ls.length : Int)
      · have hi' : i < ls.length := by omega
        obtain ⟨b, o, rfl, hb, hr⟩ := ha i hi'
        have hsl := hs _ (List.getElem_mem hi')
        by_cases e : (200 : Int) < (ls[i].length : Int)
        · have ee : shortB ls top = false := by
            have : ls.all (fun s => decide (s.length ≤ 200)) = false := by rw [List.all_eq_false]; exact ⟨_, List.getElem_mem hi', by simp; omega⟩
            simp [shortB, this]
          rw [ee]
          repeat first | simp (implicitDefEqProofs := false) (maxSteps := 1000000) (disch := first | omega | with_reducible assumption | (simp only [lenT, Nat.reduceAdd]; omega)) only [amT, cut, bnd, Nat.reduceBEq, reduceCtorEq, Nat.reduceEqDiff, Nat.reduceAdd, Nat.reduceMul, Nat.reduceSub, Int.reduceToNat, Int.reduceEq, Int.reduceLT, Int.reduceLE, Int.reduceAdd, Int.reduceSub, Int.reduceMul, reduceIte, resVs, resV, packV, initT, addr, F25_l0, t0, t5, g, hr, e] | refine OrW.go ?_
        · repeat first | simp (implicitDefEqProofs := false) (maxSteps := 1000000) (disch := first | omega | with_reducible assumption | (simp only [lenT, Nat.reduceAdd]; omega)) only [amT, cut, bnd, Nat.reduceBEq, reduceCtorEq, Nat.reduceEqDiff, Nat.reduceAdd, Nat.reduceMul, Nat.reduceSub, Int.reduceToNat, Int.reduceEq, Int.reduceLT, Int.reduceLE, Int.reduceAdd, Int.reduceSub, Int.reduceMul, reduceIte, resVs, resV, packV, initT, addr, F25_l0, t0, t5, g, hr, e] | refine OrW.go ?_
          rw [LoopK_normal]; refine ⟨_, ?_, i + 1, rfl, rfl, ?qm, ?q0, ?q5, ?_⟩
          case qm | q0 | q5 => first | rfl | (simp (implicitDefEqProofs := false) (maxSteps := 1000000) (disch := first | omega | with_reducible assumption | (simp only [lenT, Nat.reduceAdd]; omega)) only [amT, cut, bnd, Nat.reduceBEq, reduceCtorEq, Nat.reduceEqDiff, Nat.reduceAdd, Nat.reduceMul, Nat.reduceSub, Int.reduceToNat, Int.reduceEq, Int.reduceLT, Int.reduceLE, Int.reduceAdd, Int.reduceSub, Int.reduceMul, reduceIte, resVs, resV, packV, initT, addr, t0, t5]; first | done | rfl | (congr 1; omega))
          · omega
          · refine ⟨by omega, fun j h1 h2 => ?_⟩
            rcases Nat.lt_or_ge j i with h | h
            · exact hall j h1 h
            · obtain rfl : j = i := by omega
              omega
      · obtain rfl : i = ls.length := by omega
        have ee : shortB ls top = true := by
          have : ls.all (fun s => decide (s.length ≤ 200)) = true := by rw [List.all_eq_true]; intro x hx; obtain ⟨j, hj, rfl⟩ := List.mem_iff_getElem.1 hx; simpa using hall j hj hj
          simp [shortB, this, hlt]
        rw [ee]
        repeat first | simp (implicitDefEqProofs := false) (maxSteps := 1000000) (disch := first | omega | with_reducible assumption | (simp only [lenT, Nat.reduceAdd]; omega)) only [amT, cut, bnd, Nat.reduceBEq, reduceCtorEq, Nat.reduceEqDiff, Nat.reduceAdd, Nat.reduceMul, Nat.reduceSub, Int.reduceToNat, Int.reduceEq, Int.reduceLT, Int.reduceLE, Int.reduceAdd, Int.reduceSub, Int.reduceMul, reduceIte, resVs, resV, packV, initT, addr, F25_l0, t0, t5, g] | refine OrW.go ?_
/-- Rows of texts as they are handed in. -/
def NeedsA (m : AMem) (a : Option Addr) (needs : List (List (List UInt8))) : Prop := ∀ i (h : i < needs.length), ∃ b o ra rc, a = some ⟨b, o, none⟩ ∧ b < m.size ∧ rdO (m.get b) (o + i) 1 = some [.slice ra needs[i].length rc] ∧ Src m ra needs[i] ∧ needs[i].length ≤ 9223372036854775807 ∧ ∀ s ∈ needs[i], s.length ≤ 9223372036854775807
theorem NeedsA.old {m m' : AMem} {a : Option Addr} {ls : List (List (List UInt8))} (h : NeedsA m a ls) (ho : Old m m') : NeedsA m' a ls := fun i hi => by
  obtain ⟨b, o, ra, rc, h1, h2, h3, h4, h5⟩ := h i hi
  exact ⟨b, o, ra, rc, h1, Nat.lt_of_lt_of_le h2 ho.1, by rw [ho.2 b h2]; exact h3, h4.old ho, h5⟩
def graphB (names : List (List UInt8)) (needs : List (List (List UInt8))) : Bool := shortB names 30 && decide (needs.length ≤ 40) && needs.all fun r => shortB r 30
theorem NeedsA.needs {m : AMem} {a : Option Addr} {needs : List (List (List UInt8))} (h : NeedsA m a needs) (hg : needs.all (fun r => shortB r 30) = true) : NeedsR m a needs := fun i hi => by
  obtain ⟨b, o, ra, rc, h1, h2, h3, h4, h5⟩ := h i hi
  have := List.all_eq_true.1 hg _ (List.getElem_mem hi)
  simp [shortB] at this
  exact ⟨b, o, ra, rc, h1, h2, h3, h4, by omega⟩
theorem graph_ok (m : AMem) (a : Option Addr) (c : Nat) (names : List (List UInt8)) (ha : StrR m a names) (hl : names.length ≤ 9223372036854775807) (hs : ∀ s ∈ names, s.length ≤ 9223372036854775807) (na : Option Addr) (nc : Nat) (needs : List (List (List UInt8))) (hN : NeedsA m na needs) (hnl : needs.length ≤ 9223372036854775807) :
    PureC Tryd.prog 3 21 [.slice a names.length c, .slice na needs.length nc] m (.bool (graphB names needs)) := by
  refine pure_of_W (fn := Tryd.f21) rfl rfl F21_ok (by simp [F21]) (.bool _) ?_
  have k1 := DetC.known (short_ok (mx m []) a c names (ha.old (Old.here _ [])) hl hs 30 (by omega))
  rw [show ((30 : Nat) : Int) = 30 from rfl] at k1
  cases hsn : shortB names 30 with
  | false =>
    rw [hsn] at k1
    have e : graphB names needs = false := by simp [graphB, hsn]
    rw [e]
    repeat first | simp (implicitDefEqProofs := false) (maxSteps := 1000000) (disch := first | omega | with_reducible assumption | (simp only [lenT, Nat.reduceAdd]; omega)) only [amT, cut, bnd, Nat.reduceBEq, reduceCtorEq, Nat.reduceEqDiff, Nat.reduceAdd, Nat.reduceMul, Nat.reduceSub, Int.reduceToNat, Int.reduceEq, Int.reduceLT, Int.reduceLE, Int.reduceAdd, Int.reduceSub, Int.reduceMul, reduceIte, resVs, resV, packV, initT, addr, F21, k1] | refine OrW.go ?_
  | true =>
    rw [hsn] at k1
    by_cases g0 : (40 : Int) < (needs.length : Int)
    · have e : graphB names needs = false := by simp [graphB]; intros; omega
      rw [e]
      repeat first | simp (implicitDefEqProofs := false) (maxSteps := 1000000) (disch := first | omega | with_reducible assumption | (simp only [lenT, Nat.reduceAdd]; omega)) only [amT, cut, bnd, Nat.reduceBEq, reduceCtorEq, Nat.reduceEqDiff, Nat.reduceAdd, Nat.reduceMul, Nat.reduceSub, Int.reduceToNat, Int.reduceEq, Int.reduceLT, Int.reduceLE, Int.reduceAdd, Int.reduceSub, Int.reduceMul, reduceIte, resVs, resV, packV, initT, addr, F21, k1, g0] | refine OrW.go ?_
    · have hn40 : needs.length ≤ 40 := by omega
      repeat first | simp (implicitDefEqProofs := false) (maxSteps := 1000000) (disch := first | omega | with_reducible assumption | (simp only [lenT, Nat.reduceAdd]; omega)) only [amT, cut, bnd, Nat.reduceBEq, reduceCtorEq, Nat.reduceEqDiff, Nat.reduceAdd, Nat.reduceMul, Nat.reduceSub, Int.reduceToNat, Int.reduceEq, Int.reduceLT, Int.reduceLE, Int.reduceAdd, Int.reduceSub, Int.reduceMul, reduceIte, resVs, resV, packV, initT, addr, F21, k1, g0] | refine OrW.go ?_
      refine W_loop (fun N qs => ∃ (i : Nat), N = needs.length - i ∧ qs.ds = [] ∧ qs.m = mx m [] ∧ qs.t 1 = .slice na needs.length nc ∧ qs.t 5 = .int .i64 i ∧ i ≤ needs.length ∧ ∀ j (hj : j < needs.length), j < i → shortB needs[j] 30 = true) (needs.length - (0)) ⟨0, rfl, rfl, ?qm, ?q1, ?q5, ?_⟩ ?_
      case qm | q1 | q5 => first | rfl | (simp (implicitDefEqProofs := false) (maxSteps := 1000000) (disch := first | omega | with_reducible assumption | (simp only [lenT, Nat.reduceAdd]; omega)) only [amT, cut, bnd, Nat.reduceBEq, reduceCtorEq, Nat.reduceEqDiff, Nat.reduceAdd, Nat.reduceMul, Nat.reduceSub, Int.reduceToNat, Int.reduceEq, Int.reduceLT, Int.reduceLE, Int.reduceAdd, Int.reduceSub, Int.reduceMul, reduceIte, resVs, resV, packV, initT, addr]; first | done | rfl | (congr 1; omega))
      · exact ⟨by omega, fun j h1 h2 => by omega⟩
      · rintro N t m1 ds ⟨i, rfl, hds, hm, t1, t5, hp⟩
        simp only at hds hm t1 t5
        subst hds; replace hm := hm.symm; subst hm
        obtain ⟨hi, hall⟩ := hp
        by_cases g : (i : Int) < (needs.length : Int)
        · have hi' : i < needs.length := by omega
          obtain ⟨b, o, ra, rc, rfl, hb, hr, hR, hrl, hrs⟩ := hN i hi'
          have k2 := DetC.known (short_ok (mx m []) ra rc needs[i] (hR.str.old (Old.here _ [])) hrl hrs 30 (by omega))
          rw [show ((30 : Nat) : Int) = 30 from rfl] at k2
          cases hsr : shortB needs[i] 30 with
          | false =>
            rw [hsr] at k2
            have ee : graphB names needs = false := by
              have : needs.all (fun r => shortB r 30) = false := by rw [List.all_eq_false]; exact ⟨_, List.getElem_mem hi', by simp [hsr]⟩
              simp [graphB, this]
            rw [ee]
            repeat first | simp (implicitDefEqProofs := false) (maxSteps := 1000000) (disch := first | omega | with_reducible assumption | (simp only [lenT, Nat.reduceAdd]; omega)) only [amT, cut, bnd, Nat.reduceBEq, reduceCtorEq, Nat.reduceEqDiff, Nat.reduceAdd, Nat.reduceMul, Nat.reduceSub, Int.reduceToNat, Int.reduceEq, Int.reduceLT, Int.reduceLE, Int.reduceAdd, Int.reduceSub, Int.reduceMul, reduceIte, resVs, resV, packV, initT, addr, F21_l0, t1, t5, g, hr, k2] | refine OrW.go ?_
          | true =>
            rw [hsr] at k2
            repeat first | simp (implicitDefEqProofs := false) (maxSteps := 1000000) (disch := first | omega | with_reducible assumption | (simp only [lenT, Nat.reduceAdd]; omega)) only [amT, cut, bnd, Nat.reduceBEq, reduceCtorEq, Nat.reduceEqDiff, Nat.reduceAdd, Nat.reduceMul, Nat.reduceSub, Int.reduceToNat, Int.reduceEq, Int.reduceLT, Int.reduceLE, Int.reduceAdd, Int.reduceSub, Int.reduceMul, reduceIte, resVs, resV, packV, initT, addr, F21_l0, t1, t5, g, hr, k2] | refine OrW.go ?_
            rw [LoopK_normal]; refine ⟨_, ?_, i + 1, rfl, rfl, ?qm, ?q1, ?q5, ?_⟩
            case qm | q1 | q5 => first | rfl | (simp (implicitDefEqProofs := false) (maxSteps := 1000000) (disch := first | omega | with_reducible assumption | (simp only [lenT, Nat.reduceAdd]; omega)) only [amT, cut, bnd, Nat.reduceBEq, reduceCtorEq, Nat.reduceEqDiff, Nat.reduceAdd, Nat.reduceMul, Nat.reduceSub, Int.reduceToNat, Int.reduceEq, Int.reduceLT, Int.reduceLE, Int.reduceAdd, Int.reduceSub, Int.reduceMul, reduceIte, resVs, resV, packV, initT, addr, t1, t5]; first | done | rfl | (congr 1; omega))
            · omega
            · refine ⟨by omega, fun j h1 h2 => ?_⟩
              rcases Nat.lt_or_ge j i with h | h
              · exact hall j h1 h
              · obtain rfl : j = i := by omega
                exact hsr
        · obtain rfl : i = needs.length := by omega
          have ee : graphB names needs = true := by
            have : needs.all (fun r => shortB r 30) = true := by rw [List.all_eq_true]; intro x hx; obtain ⟨j, hj, rfl⟩ := List.mem_iff_getElem.1 hx; exact hall j hj hj
            simp [graphB, this, hsn, hn40]
          rw [ee]
          repeat first | simp (implicitDefEqProofs := false) (maxSteps := 1000000) (disch := first | omega | with_reducible assumption | (simp only [lenT, Nat.reduceAdd]; omega)) only [amT, cut, bnd, Nat.reduceBEq, reduceCtorEq, Nat.reduceEqDiff, Nat.reduceAdd, Nat.reduceMul, Nat.reduceSub, Int.reduceToNat, Int.reduceEq, Int.reduceLT, Int.reduceLE, Int.reduceAdd, Int.reduceSub, Int.reduceMul, reduceIte, resVs, resV, packV, initT, addr, F21_l0, t1, t5, g] | refine OrW.go ?_
end Go.Proofs.YtgkmlbkocgjmmaaDoor
namespace Go.AM
set_option linter.unusedVariables false

/-- A word as a cell. -/
def w32 (x : UInt32) : Value := .int .u32 (x.toNat : Int)
theorem w32_def (x : UInt32) : w32 x = .int .u32 (x.toNat : Int) := rfl
theorem plain_w32 (x : UInt32) : Plain (w32 x) := .int _ _
def shrW (x : UInt32) (b : Nat) : UInt32 := UInt32.ofNat (x.toNat >>> b)
def shlW (x : UInt32) (b : Nat) : UInt32 := UInt32.ofNat (x.toNat <<< b)
def rotr (b : Nat) (x : UInt32) : UInt32 := shrW x b ||| shlW x (32 - b)

theorem wrap_u32n (n : Nat) : IntKind.u32.wrap (n : Int) = ((n % 2 ^ 32 : Nat) : Int) := by simp [IntKind.wrap, IntKind.bits, IntKind.signed]
theorem u32_le (x : UInt32) : (x.toNat : Int) ≤ IntKind.u32.max := by
  have := x.toNat_lt; rw [max_u32]; omega
theorem binV_addw (x y : UInt32) : binV .add (w32 x) (w32 y) = some (w32 (x + y)) := by
  rw [w32_def, w32_def, binV_add, w32_def, show (x.toNat : Int) + y.toNat = ((x.toNat + y.toNat : Nat) : Int) by push_cast; rfl, wrap_u32n, UInt32.toNat_add]
theorem binV_andw (x y : UInt32) : binV .and (w32 x) (w32 y) = some (w32 (x &&& y)) := by
  rw [w32_def, w32_def, binV_and, w32_def, ibits_and_nat (u32_le x) (u32_le y), UInt32.toNat_and]
theorem binV_orw (x y : UInt32) : binV .or (w32 x) (w32 y) = some (w32 (x ||| y)) := by
  rw [w32_def, w32_def, binV_or, w32_def, ibits_or_nat (u32_le x) (u32_le y), UInt32.toNat_or]
theorem binV_xorw (x y : UInt32) : binV .xor (w32 x) (w32 y) = some (w32 (x ^^^ y)) := by
  rw [w32_def, w32_def, binV_xor, w32_def, ibits_xor_nat (u32_le x) (u32_le y), UInt32.toNat_xor]
theorem ofInt_w (x : UInt32) : BitVec.ofInt IntKind.u32.bits (x.toNat : Int) = x.toBitVec := by
  apply BitVec.eq_of_toNat_eq
  rw [ofInt_nat (u32_le x)]; rfl
theorem ibits_andNotw (x y : UInt32) : ibits .andNot .u32 (x.toNat : Int) (y.toNat : Int) = ((x &&& ~~~y).toNat : Int) := by
  simp only [ibits, ofInt_w]
  have h : ((x.toBitVec &&& ~~~y.toBitVec).toNat : Int) ≤ IntKind.u32.max := by
    have := (x.toBitVec &&& ~~~y.toBitVec).isLt
    rw [max_u32]; omega
  exact (wrap_small h).trans rfl
theorem binV_andNotw (x y : UInt32) : binV .andNot (w32 x) (w32 y) = some (w32 (x &&& ~~~y)) := by
  rw [w32_def, w32_def, binV_andNot, w32_def, ibits_andNotw]
theorem binV_shrw {k : IntKind} {x : UInt32} {b : Nat} (h : b ≤ 32) : binV .shr (w32 x) (.int k (b : Int)) = some (w32 (shrW x b)) := by
  rw [w32_def, binV_shr _ _ (by omega), w32_def, shr_nat _ _ _ (by simpa [IntKind.bits] using h)]
  have h2 : x.toNat >>> b < 2 ^ 32 := Nat.lt_of_le_of_lt (Nat.shiftRight_le _ _) x.toNat_lt
  simp [shrW, Nat.mod_eq_of_lt h2]
theorem binV_shlw {k : IntKind} {x : UInt32} {b : Nat} (h : b ≤ 32) : binV .shl (w32 x) (.int k (b : Int)) = some (w32 (shlW x b)) := by
  rw [w32_def, binV_shl _ _ (by omega), w32_def]
  simp only [shl, Int.toNat_natCast, show min b IntKind.u32.bits = b by simp [IntKind.bits]; omega]
  rw [show (x.toNat : Int) * 2 ^ b = ((x.toNat * 2 ^ b : Nat) : Int) by push_cast; rfl, wrap_u32n]
  simp [shlW, Nat.shiftLeft_eq]
theorem not_w (x : UInt32) : unV .xor (w32 x) = some (w32 (~~~x)) := by
  have h := ibits_xor_nat (u32_le (0xFFFFFFFF : UInt32)) (u32_le x)
  have h1 : (((0xFFFFFFFF : UInt32).toNat : Nat) : Int) = 4294967295 := rfl
  rw [h1] at h
  have h2 : (~~~x).toNat = (0xFFFFFFFF : UInt32).toNat ^^^ x.toNat := by
    rw [← UInt32.toNat_xor]; congr 1
  rw [w32_def, w32_def, h2, ← h]; rfl
theorem ws_get {l : List UInt32} {i : Nat} (h : i < l.length) : (l.map w32)[i]? = some (w32 l[i]) := by simp [h]
theorem ws_set (l : List UInt32) (i : Nat) (x : UInt32) : (l.map w32).set i (w32 x) = (l.set i x).map w32 := by simp [List.map_set]
theorem cellsOf_w (x : UInt32) : cellsOf (w32 x) = some [w32 x] := rfl
theorem cellsOf_ws (l : List UInt32) : cellsOf (.agg (l.map w32).toArray) = some (l.map w32) := by
  simp [cellsOf, oneCell, w32]

theorem amW : type_of% @binV_addw ∧ type_of% @binV_andw ∧ type_of% @binV_orw ∧ type_of% @binV_xorw ∧ type_of% @binV_andNotw ∧ type_of% @not_w ∧ type_of% @ws_get ∧ type_of% @ws_set ∧ type_of% @cellsOf_w ∧ type_of% @cellsOf_ws :=
  ⟨@binV_addw, @binV_andw, @binV_orw, @binV_xorw, @binV_andNotw, @not_w, @ws_get, @ws_set, @cellsOf_w, @cellsOf_ws⟩
/-! Sums of bits. -/
theorem or_comm_w (a b : UInt32) : a ||| b = b ||| a := by
  apply UInt32.toNat_inj.1; rw [UInt32.toNat_or, UInt32.toNat_or, Nat.or_comm]

/-! ### The function, in plain words -/
def spl {α : Type} (R : List α) (o : Nat) (c : List α) : List α := R.take o ++ c ++ R.drop (o + c.length)
theorem splice_spl (R v : List Value) (o : Nat) : splice R o v = spl R o v := rfl
theorem spl_length {α : Type} {R c : List α} {o : Nat} (h : o + c.length ≤ R.length) : (spl R o c).length = R.length := by simp [spl]; omega
theorem spl_nil {α : Type} (R : List α) (o : Nat) : spl R o [] = R := by simp [spl]
theorem spl_map {α β : Type} (f : α → β) (R c : List α) (o : Nat) : (spl R o c).map f = spl (R.map f) o (c.map f) := by simp [spl, List.map_take, List.map_drop]
theorem spl_get {α : Type} {R c : List α} {o : Nat} (h : o + c.length ≤ R.length) (i : Nat) : (spl R o c)[i]? = if i < o then R[i]? else if i < o + c.length then c[i - o]? else R[i]? := by
  simp only [spl, List.append_assoc]
  by_cases h1 : i < o
  · rw [if_pos h1, List.getElem?_append_left (by simp; omega), List.getElem?_take_of_lt h1]
  · rw [if_neg h1, List.getElem?_append_right (by simp; omega)]
    have hl : (R.take o).length = o := by simp; omega
    rw [hl]
    by_cases h2 : i < o + c.length
    · rw [if_pos h2, List.getElem?_append_left (by omega)]
    · rw [if_neg h2, List.getElem?_append_right (by omega), List.getElem?_drop]; congr 1; omega
theorem spl_cons {α : Type} {R c : List α} {o : Nat} {x : α} (h : o + c.length < R.length) : spl R o (x :: c) = spl (R.set o x) (o + 1) c := by
  apply List.ext_getElem?
  intro i
  rw [spl_get (by simp; omega), spl_get (by simp; omega)]
  simp only [List.length_cons]
  by_cases h1 : i < o
  · rw [if_pos h1, if_pos (by omega), List.getElem?_set_ne (by omega)]
  · rw [if_neg h1]
    by_cases h2 : i = o
    · subst h2; rw [if_pos (by omega), if_pos (by omega), List.getElem?_set_self (by omega)]; simp
    · rw [if_neg (show ¬ i < o + 1 by omega)]
      by_cases h3 : i < o + (c.length + 1)
      · rw [if_pos h3, if_pos (by omega), show i - o = (i - (o + 1)) + 1 by omega, List.getElem?_cons_succ]
      · rw [if_neg h3, if_neg (by omega), List.getElem?_set_ne (by omega)]
theorem spl_snoc {α : Type} {R c : List α} {o k : Nat} {x : α} (hk : k = o + c.length) (h : k < R.length) : (spl R o c).set k x = spl R o (c ++ [x]) := by
  subst hk
  apply List.ext_getElem?
  intro i
  rw [spl_get (by simp; omega)]
  simp only [List.length_append, List.length_singleton]
  by_cases h2 : i = o + c.length
  · subst h2
    rw [List.getElem?_set_self (by rw [spl_length (by omega)]; omega), if_neg (by omega), if_pos (by omega), show o + c.length - o = c.length by omega]; simp
  · rw [List.getElem?_set_ne (by omega), spl_get (by omega)]
    by_cases h1 : i < o
    · rw [if_pos h1, if_pos h1]
    · rw [if_neg h1, if_neg h1]
      by_cases h3 : i < o + c.length
      · rw [if_pos h3, if_pos (by omega), List.getElem?_append_left (by omega)]
      · rw [if_neg h3, if_neg (by omega)]

def zip2 (a b : List UInt32) : List UInt32 := List.zipWith (· + ·) a b
theorem zip2_length {a b : List UInt32} {n : Nat} (ha : a.length = n) (hb : b.length = n) : (zip2 a b).length = n := by simp [zip2, ha, hb]
def beginW : List UInt32 := [1779033703, 3144134277, 1013904242, 2773480762, 1359893119, 2600822924, 528734635, 1541459225]
def movedW (x : UInt32) (k l m : Nat) : UInt32 := rotr k x ^^^ rotr l x ^^^ shrW x m
def turnedW (x : UInt32) (k l m : Nat) : UInt32 := rotr k x ^^^ rotr l x ^^^ rotr m x
def word4 (l : List UInt8) : UInt32 := l.foldl (fun a c => shlW a 8 ||| UInt32.ofNat c.toNat) 0
def wordAt (b : List UInt8) (W : List UInt32) (t : Nat) : UInt32 :=
  if t < 16 then word4 ((b.drop (4 * t)).take 4) else movedW (W.getD (t - 2) 0) 17 19 10 + W.getD (t - 7) 0 + movedW (W.getD (t - 15) 0) 7 18 3 + W.getD (t - 16) 0
def sched (b : List UInt8) : Nat → List UInt32
  | 0 => []
  | t + 1 => sched b t ++ [wordAt b (sched b t) t]
theorem sched_length (b : List UInt8) : ∀ t, (sched b t).length = t
  | 0 => rfl
  | t + 1 => by simp [sched, sched_length b t]
def roundW (v : List UInt32) (k w : UInt32) : List UInt32 := match v with
  | [a, b, c, d, e, f, g, h] =>
    [h + turnedW e 6 11 25 + (e &&& f ||| g &&& ~~~e) + k + w + (turnedW a 2 13 22 + (a &&& b ^^^ a &&& c ^^^ b &&& c)), a, b, c, d + (h + turnedW e 6 11 25 + (e &&& f ||| g &&& ~~~e) + k + w), e, f, g]
  | v => v
theorem roundW_length (v : List UInt32) (k w : UInt32) : (roundW v k w).length = v.length := by unfold roundW; split <;> rfl
def roundsW (K : List UInt32) (b : List UInt8) (v : List UInt32) : Nat → List UInt32
  | 0 => v
  | t + 1 => roundW (roundsW K b v t) (K.getD t 0) ((sched b 64).getD t 0)
theorem roundsW_length (K : List UInt32) (b : List UInt8) (v : List UInt32) : ∀ t, (roundsW K b v t).length = v.length
  | 0 => rfl
  | t + 1 => by rw [roundsW, roundW_length, roundsW_length K b v t]
def constW : List UInt32 := [1116352408, 1899447441, 3049323471, 3921009573, 961987163, 1508970993, 2453635748, 2870763221, 3624381080, 310598401, 607225278, 1426881987, 1925078388, 2162078206, 2614888103, 3248222580, 3835390401, 4022224774, 264347078, 604807628, 770255983, 1249150122, 1555081692, 1996064986, 2554220882, 2821834349, 2952996808, 3210313671, 3336571891, 3584528711, 113926993, 338241895, 666307205, 773529912, 1294757372, 1396182291, 1695183700, 1986661051, 2177026350, 2456956037, 2730485921, 2820302411, 3259730800, 3345764771, 3516065817, 3600352804, 4094571909, 275423344, 430227734, 506948616, 659060556, 883997877, 958139571, 1322822218, 1537002063, 1747873779, 1955562222, 2024104815, 2227730452, 2361852424, 2428436474, 2756734187, 3204031479, 3329325298]
/-- What a block adds. -/
def moreStep (M : List UInt32) (b : List UInt8) : List UInt32 := zip2 M (roundsW constW b (zip2 beginW M) 64)
theorem moreStep_length {M : List UInt32} {b : List UInt8} (h : M.length = 8) : (moreStep M b).length = 8 :=
  zip2_length h (by rw [roundsW_length]; exact zip2_length rfl h)

/-- The first k of one row, the others of another. -/
def mix {α : Type} (k : Nat) (X B : List α) : List α := X.take k ++ B.drop k
theorem mix_zero {α : Type} (X B : List α) : mix 0 X B = B := by simp [mix]
theorem mix_all {α : Type} {k : Nat} {X B : List α} (h : X.length = k) (h' : B.length = k) : mix k X B = X := by
  simp only [mix]; rw [List.take_of_length_le (by omega), List.drop_of_length_le (by omega), List.append_nil]
theorem mix_length {α : Type} {k : Nat} {X B : List α} (h : X.length = B.length) : (mix k X B).length = B.length := by simp [mix]; omega
theorem mix_get {α : Type} {k : Nat} {X B : List α} (h : X.length = B.length) (hk : k < B.length) : (mix k X B)[k]'(by rw [mix_length h]; exact hk) = B[k] := by
  simp only [mix]
  rw [List.getElem_append_right (by simp; omega)]
  simp [List.length_take, show min k X.length = k by omega]
theorem mix_set {α : Type} {k : Nat} {X B : List α} (h : X.length = B.length) (hk : k < X.length) : (mix k X B).set k X[k] = mix (k + 1) X B := by
  apply List.ext_getElem?
  intro i
  have hl : (X.take k).length = k := by simp; omega
  have hl' : (X.take (k + 1)).length = k + 1 := by simp; omega
  by_cases hi : i = k
  · subst hi
    rw [List.getElem?_set_self (by rw [mix_length h]; omega)]
    simp only [mix]
    rw [List.getElem?_append_left (by omega), List.getElem?_take_of_lt (by omega), List.getElem?_eq_getElem hk]
  · rw [List.getElem?_set_ne (by omega)]
    simp only [mix]
    by_cases h1 : i < k
    · rw [List.getElem?_append_left (by omega), List.getElem?_append_left (by omega), List.getElem?_take_of_lt h1, List.getElem?_take_of_lt (by omega)]
    · rw [List.getElem?_append_right (by omega), List.getElem?_append_right (by omega), List.getElem?_drop, List.getElem?_drop, hl, hl']
      congr 1; omega
theorem zip2_get {a b : List UInt32} {i : Nat} (ha : i < a.length) (hb : i < b.length) : (zip2 a b)[i]'(by simp [zip2]; omega) = a[i] + b[i] := by simp [zip2]

structure HS where
  M : List UInt32
  R : List UInt8
  n : Nat
def hs0 : HS := ⟨List.replicate 8 0, List.replicate 64 0, 0⟩
def HS.put1 (s : HS) (c : UInt8) : HS := ⟨if (s.n + 1) % 64 = 0 then moreStep s.M (s.R.set (s.n % 64) c) else s.M, s.R.set (s.n % 64) c, s.n + 1⟩
def HS.put (s : HS) (l : List UInt8) : HS := l.foldl HS.put1 s
theorem HS.put_append (s : HS) (a b : List UInt8) : s.put (a ++ b) = (s.put a).put b := by simp [HS.put]
theorem HS.put_nil (s : HS) : s.put [] = s := rfl
def HS.ok (s : HS) : Prop := s.M.length = 8 ∧ s.R.length = 64
theorem HS.put1_ok {s : HS} (h : s.ok) (c : UInt8) : (s.put1 c).ok := by
  refine ⟨?_, by simp [HS.put1, h.2]⟩
  simp only [HS.put1]; split
  · exact moreStep_length h.1
  · exact h.1
theorem HS.put_ok {s : HS} (h : s.ok) (l : List UInt8) : (s.put l).ok := by
  induction l generalizing s with
  | nil => exact h
  | cons c l ih => exact ih (HS.put1_ok h c)
theorem hs0_ok : hs0.ok := ⟨rfl, rfl⟩
theorem HS.put_n (s : HS) (l : List UInt8) : (s.put l).n = s.n + l.length := by
  induction l generalizing s with
  | nil => rfl
  | cons c l ih => rw [HS.put, List.foldl_cons]; have := ih (s.put1 c); rw [HS.put] at this; rw [this]; simp [HS.put1]; omega

/-- A piece that fits into the block. -/
theorem HS.put_fit {s : HS} (h : s.ok) {c : List UInt8} (hf : s.n % 64 + c.length < 64) : s.put c = ⟨s.M, spl s.R (s.n % 64) c, s.n + c.length⟩ := by
  induction c generalizing s with
  | nil => simp [HS.put, spl_nil]
  | cons x c ih =>
    have h1 : s.put1 x = ⟨s.M, s.R.set (s.n % 64) x, s.n + 1⟩ := by
      simp only [List.length_cons] at hf
      unfold HS.put1; rw [if_neg (by omega)]
    simp only [List.length_cons] at hf
    have h2 : (s.n + 1) % 64 = s.n % 64 + 1 := by omega
    show (s.put1 x).put c = _
    rw [ih (HS.put1_ok h x) (by rw [h1]; simp only; omega), h1]
    simp only [h2, List.length_cons]
    rw [spl_cons (by rw [h.2]; omega)]
    congr 1; omega
theorem HS.put_full {s : HS} (h : s.ok) {c : List UInt8} (hc : c ≠ []) (hf : s.n % 64 + c.length = 64) : s.put c = ⟨moreStep s.M (spl s.R (s.n % 64) c), spl s.R (s.n % 64) c, s.n + c.length⟩ := by
  obtain ⟨a, x, rfl⟩ : ∃ a x, c = a ++ [x] := ⟨c.dropLast, c.getLast hc, (List.dropLast_concat_getLast hc).symm⟩
  simp only [List.length_append, List.length_singleton] at hf
  rw [HS.put_append, HS.put_fit h (by omega)]
  simp only [HS.put, List.foldl_cons, List.foldl_nil, HS.put1]
  have h2 : (s.n + a.length) % 64 = 63 := by omega
  have h3 : (spl s.R (s.n % 64) a).set 63 x = spl s.R (s.n % 64) (a ++ [x]) := spl_snoc (by omega) (by rw [h.2]; omega)
  rw [if_pos (by omega), h2, h3]
  simp only [List.length_append, List.length_singleton, Nat.add_assoc]
/-- The state's cells. -/
def cH (s : HS) : List Value := s.M.map w32 ++ (s.R.map byteV ++ [.int .u64 (s.n : Int)])
theorem cH_length {s : HS} (h : s.ok) : (cH s).length = 73 := by simp [cH, h.1, h.2]
theorem cH_M {s : HS} (h : s.ok) : cutL (cH s) 0 8 = some (s.M.map w32) := by
  have := cH_length h
  simp only [cutL]; rw [if_pos (by omega)]
  have hl : (s.M.map w32).length = 8 := by simp [h.1]
  simp [cH, h.1]
theorem cH_all {s : HS} (h : s.ok) : cutL (cH s) 0 73 = some (cH s) := cutL_all (cH_length h)
theorem cH_n {s : HS} (h : s.ok) : (cH s)[72]? = some (.int .u64 (s.n : Int)) := by
  rw [cH, List.getElem?_append_right (by simp [h.1]), List.getElem?_append_right (by simp [h.1, h.2])]
  simp [h.1, h.2]
theorem cH_Mi {s : HS} (h : s.ok) {i : Nat} (hi : i < 8) : (cH s)[i]? = some (w32 (s.M[i]'(by rw [h.1]; exact hi))) := by
  rw [cH, List.getElem?_append_left (by simp [h.1]; exact hi), ws_get]
theorem cH_Ri {s : HS} (h : s.ok) {i : Nat} (hi : i < 64) : (cH s)[8 + i]? = some (byteV (s.R[i]'(by rw [h.2]; exact hi))) := by
  rw [cH, List.getElem?_append_right (by simp [h.1]), List.getElem?_append_left (by simp [h.1, h.2]; exact hi)]
  simp only [List.length_map, h.1, Nat.add_sub_cancel_left]
  rw [bytes_get]
theorem cH_setM {s : HS} (h : s.ok) {i : Nat} (hi : i < 8) (x : UInt32) : (cH s).set i (w32 x) = cH { s with M := s.M.set i x } := by
  simp only [cH]
  rw [List.set_append_left _ _ (by simp [h.1]; exact hi), ws_set]
theorem cH_setn {s : HS} (h : s.ok) (n : Nat) : (cH s).set 72 (.int .u64 (n : Int)) = cH { s with n := n } := by
  simp only [cH]
  rw [List.set_append_right _ _ (by simp [h.1]), List.set_append_right _ _ (by simp [h.1, h.2])]
  simp [h.1, h.2]
theorem spl_app {α : Type} {A B C c : List α} {o : Nat} (h : o + c.length ≤ B.length) : spl (A ++ (B ++ C)) (A.length + o) c = A ++ (spl B o c ++ C) := by
  have e1 : (A ++ (B ++ C)).take (A.length + o) = A ++ B.take o := by
    rw [List.take_append, List.take_of_length_le (by omega), show A.length + o - A.length = o by omega, List.take_append, show o - B.length = 0 by omega]; simp
  have e2 : (A ++ (B ++ C)).drop (A.length + o + c.length) = B.drop (o + c.length) ++ C := by
    rw [List.drop_append, List.drop_of_length_le (by omega), show A.length + o + c.length - A.length = o + c.length by omega, List.drop_append, show o + c.length - B.length = 0 by omega]; simp
  simp only [spl]; rw [e1, e2]; simp
theorem cH_R {s : HS} (h : s.ok) {at_ : Nat} {c : List UInt8} (hc : at_ + c.length ≤ 64) : splice (cH s) (8 + at_) (c.map byteV) = cH { s with R := spl s.R at_ c } := by
  have h8 : (s.M.map w32).length = 8 := by simp [h.1]
  have := spl_app (A := s.M.map w32) (B := s.R.map byteV) (C := [.int .u64 (s.n : Int)]) (c := c.map byteV) (o := at_) (by simp [h.2]; exact hc)
  rw [h8] at this
  rw [splice_spl, cH, cH, this, spl_map]
theorem plain_cH (s : HS) : ∀ v ∈ cH s, Plain v := fun v hv => by
  simp only [cH, List.mem_append, List.mem_map, List.mem_singleton] at hv
  rcases hv with ⟨x, _, rfl⟩ | ⟨x, _, rfl⟩ | rfl
  · exact plain_w32 _
  · exact .int _ _
  · exact .int _ _
theorem oneCell_w (x : UInt32) : oneCell (w32 x) = true := rfl
theorem len8 {l : List UInt32} (h : l.length = 8) : ∃ a b c d e f g i, l = [a, b, c, d, e, f, g, i] := by
  match l, h with
  | [a, b, c, d, e, f, g, i], _ => exact ⟨a, b, c, d, e, f, g, i, rfl⟩
end Go.AM
namespace Go.Proofs.YtgkmlbkocgjmmaaDoor.S
open Go Go.AM
set_option maxRecDepth 100000
set_option linter.unusedVariables false
set_option linter.unusedSimpArgs false

theorem rot_ok (m : AMem) (x : UInt32) (k : Nat) (h1 : 1 ≤ k) (h2 : k ≤ 31) : PureC Tryd.prog 3 94 [w32 x, .int .i64 (0 - (k : Int))] m (w32 (rotr k x)) := by
  refine pure_of_W (fn := Tryd.f94) rfl rfl F94_ok (by simp [F94]) (plain_w32 _) ?_
  have e1 : ibits .and .u64 (IntKind.u64.wrap (0 - (k : Int))) 31 = ((32 - k : Nat) : Int) := by
    have : ∀ k : Fin 32, 1 ≤ k.val → ibits .and .u64 (IntKind.u64.wrap (0 - (k.val : Int))) 31 = ((32 - k.val : Nat) : Int) := by decide +kernel
    exact this ⟨k, by omega⟩ h1
  have e2 : IntKind.u64.wrap (32 - ((32 - k : Nat) : Int)) = (k : Int) := by rw [wrap_u64 (by omega) (by omega)]; omega
  simp (implicitDefEqProofs := false) (maxSteps := 1000000) (disch := first | omega | with_reducible assumption | (simp only [lenT, Nat.reduceAdd]; omega)) only [amT, cut, bnd, Nat.reduceBEq, reduceCtorEq, Nat.reduceEqDiff, Nat.reduceAdd, Nat.reduceMul, Nat.reduceSub, Int.reduceToNat, Int.reduceEq, Int.reduceLT, Int.reduceLE, Int.reduceAdd, Int.reduceSub, Int.reduceMul, reduceIte, resVs, resV, packV, initT, addr, F94, e1, e2, amW, binV_shrw, binV_shlw]
  rw [or_comm_w]; rfl
theorem kRot {m : AMem} {x : UInt32} {k : Nat} (h1 : 1 ≤ k) (h2 : k ≤ 31) : type_of% (DetC.known (rot_ok m x k h1 h2)) := DetC.known (rot_ok m x k h1 h2)
theorem turned_ok (m : AMem) (x : UInt32) (k l n : Nat) (h1 : 1 ≤ k) (h2 : k ≤ 31) (h3 : 1 ≤ l) (h4 : l ≤ 31) (h5 : 1 ≤ n) (h6 : n ≤ 31) : PureC Tryd.prog 3 89 [w32 x, .int .i64 (k : Int), .int .i64 (l : Int), .int .i64 (n : Int)] m (w32 (turnedW x k l n)) := by
  refine pure_of_W (fn := Tryd.f89) rfl rfl F89_ok (by simp [F89]) (plain_w32 _) ?_
  simp (implicitDefEqProofs := false) (maxSteps := 1000000) (disch := first | omega | with_reducible assumption | (simp only [lenT, Nat.reduceAdd]; omega)) only [amT, cut, bnd, Nat.reduceBEq, reduceCtorEq, Nat.reduceEqDiff, Nat.reduceAdd, Nat.reduceMul, Nat.reduceSub, Int.reduceToNat, Int.reduceEq, Int.reduceLT, Int.reduceLE, Int.reduceAdd, Int.reduceSub, Int.reduceMul, reduceIte, resVs, resV, packV, initT, addr, F89, kRot, amW]
  repeat refine OrW.go ?_
  rfl
theorem moved_ok (m : AMem) (x : UInt32) (k l n : Nat) (h1 : 1 ≤ k) (h2 : k ≤ 31) (h3 : 1 ≤ l) (h4 : l ≤ 31) (h5 : 1 ≤ n) (h6 : n ≤ 31) : PureC Tryd.prog 3 88 [w32 x, .int .i64 (k : Int), .int .i64 (l : Int), .int .i64 (n : Int)] m (w32 (movedW x k l n)) := by
  refine pure_of_W (fn := Tryd.f88) rfl rfl F88_ok (by simp [F88]) (plain_w32 _) ?_
  simp (implicitDefEqProofs := false) (maxSteps := 1000000) (disch := first | omega | with_reducible assumption | (simp only [lenT, Nat.reduceAdd]; omega)) only [amT, cut, bnd, Nat.reduceBEq, reduceCtorEq, Nat.reduceEqDiff, Nat.reduceAdd, Nat.reduceMul, Nat.reduceSub, Int.reduceToNat, Int.reduceEq, Int.reduceLT, Int.reduceLE, Int.reduceAdd, Int.reduceSub, Int.reduceMul, reduceIte, resVs, resV, packV, initT, addr, F88, kRot, amW, binV_shrw]
  repeat refine OrW.go ?_
  rfl
end Go.Proofs.YtgkmlbkocgjmmaaDoor.S
namespace Go.Proofs.YtgkmlbkocgjmmaaDoor.S
open Go Go.AM
set_option maxRecDepth 100000
set_option linter.unusedVariables false
set_option linter.unusedSimpArgs false

theorem beginW_len : beginW.length = 8 := rfl
theorem zero8 : [Value.int .u32 0, .int .u32 0, .int .u32 0, .int .u32 0, .int .u32 0, .int .u32 0, .int .u32 0, .int .u32 0] = (List.replicate 8 (0 : UInt32)).map w32 := rfl
/-- The package's variables, as they are laid. -/
structure Glob (m : AMem) : Prop where
  k : ∃ e sp, m.get 0 = .cells (constW.map w32) e false sp
  b : ∃ e sp, m.get 1 = .cells (beginW.map w32) e false sp
  s : 2 < m.size
theorem Glob.old {m M : AMem} (h : Glob m) (ho : Old m M) : Glob M := ⟨by rw [ho.2 _ (by have := h.s; omega)]; exact h.k, by rw [ho.2 _ (by have := h.s; omega)]; exact h.b, by have := h.s; have := ho.1; omega⟩

theorem plain_ws (l : List UInt32) : Plain (.agg (l.map w32).toArray) := .agg fun v hv => by
  simp at hv; obtain ⟨x, _, rfl⟩ := hv; exact plain_w32 _

theorem state_ok (m : AMem) (b : Nat) (s : HS) (hg : Glob m) (hs : s.ok) (hb : b < m.size) (hm : m.get b = .cells (cH s) 96 true .exact) :
    PureC Tryd.prog 3 77 [.pointer (some ⟨b, 0, none⟩)] m (.agg ((zip2 beginW s.M).map w32).toArray) := by
  refine pure_of_W (fn := Tryd.f77) rfl rfl F77_ok (by simp [F77]) (plain_ws _) ?_
  obtain ⟨eb, spb, g1⟩ := hg.b
  have gs := hg.s
  have c8 := cH_M hs
  have m8 := hs.1
  have z8 : (zip2 beginW s.M).length = 8 := zip2_length rfl m8
  have hbl := beginW_len
  simp (implicitDefEqProofs := false) (maxSteps := 1000000) (disch := first | omega | with_reducible assumption | (simp only [lenT, Nat.reduceAdd]; omega)) only [amT, cut, bnd, Nat.reduceBEq, reduceCtorEq, Nat.reduceEqDiff, Nat.reduceAdd, Nat.reduceMul, Nat.reduceSub, Int.reduceToNat, Int.reduceEq, Int.reduceLT, Int.reduceLE, Int.reduceAdd, Int.reduceSub, Int.reduceMul, reduceIte, resVs, resV, packV, initT, addr, F77, g1, hm, c8, cutL_all, zero8, beginW_len, cellsOf_ws]
  refine W_loop (fun N qs => ∃ (i : Nat), N = 8 - i ∧ qs.ds = [] ∧ qs.m = mx m [.cells ((List.replicate 8 (0 : UInt32)).map w32) 92 true .exact, .cells ((mix i (zip2 beginW s.M) beginW).map w32) 92 true .exact] ∧ qs.t 2 = .pointer (some ⟨m.size, 0, none⟩) ∧ qs.t 3 = .pointer (some ⟨m.size + 1, 0, none⟩) ∧ qs.t 10 = .agg (s.M.map w32).toArray ∧ qs.t 11 = .int .i64 i ∧ i ≤ 8) (8 - (0)) ⟨0, rfl, rfl, ?qm, ?q2, ?q3, ?q10, ?q11, ?_⟩ ?_
  case qm | q2 | q3 | q10 | q11 => first | rfl | (simp (implicitDefEqProofs := false) (maxSteps := 1000000) (disch := first | omega | with_reducible assumption | (simp only [lenT, Nat.reduceAdd]; omega)) only [amT, cut, bnd, Nat.reduceBEq, reduceCtorEq, Nat.reduceEqDiff, Nat.reduceAdd, Nat.reduceMul, Nat.reduceSub, Int.reduceToNat, Int.reduceEq, Int.reduceLT, Int.reduceLE, Int.reduceAdd, Int.reduceSub, Int.reduceMul, reduceIte, resVs, resV, packV, initT, addr, mix_zero]; first | done | rfl | (congr 1; omega))
  · omega
  · rintro N t m1 ds ⟨i, rfl, hds, hm, t2, t3, t10, t11, hp⟩
    simp only at hds hm t2 t3 t10 t11
    subst hds; replace hm := hm.symm; subst hm
    have hl := mix_length (k := i) (show (zip2 beginW s.M).length = beginW.length by rw [z8]; rfl)
    by_cases hi : (i : Int) < 8
    · have h1 := mix_get (k := i) (show (zip2 beginW s.M).length = beginW.length by rw [z8]; rfl) (by rw [beginW_len]; omega)
      have h2 := mix_set (k := i) (show (zip2 beginW s.M).length = beginW.length by rw [z8]; rfl) (by omega)
      have h3 := zip2_get (a := beginW) (b := s.M) (i := i) (by rw [beginW_len]; omega) (by omega)
      rw [h3] at h2
      simp (implicitDefEqProofs := false) (maxSteps := 1000000) (disch := first | omega | with_reducible assumption | (simp only [lenT, Nat.reduceAdd]; omega)) only [amT, cut, bnd, Nat.reduceBEq, reduceCtorEq, Nat.reduceEqDiff, Nat.reduceAdd, Nat.reduceMul, Nat.reduceSub, Int.reduceToNat, Int.reduceEq, Int.reduceLT, Int.reduceLE, Int.reduceAdd, Int.reduceSub, Int.reduceMul, reduceIte, resVs, resV, packV, initT, addr, F77_l0, t2, t3, t10, t11, hi, amW, h1, h2, hl, beginW_len]
      rw [LoopK_normal]; refine ⟨_, ?_, i + 1, rfl, rfl, ?qm, ?q2, ?q3, ?q10, ?q11, ?_⟩
      case qm | q2 | q3 | q10 | q11 => first | rfl | (simp (implicitDefEqProofs := false) (maxSteps := 1000000) (disch := first | omega | with_reducible assumption | (simp only [lenT, Nat.reduceAdd]; omega)) only [amT, cut, bnd, Nat.reduceBEq, reduceCtorEq, Nat.reduceEqDiff, Nat.reduceAdd, Nat.reduceMul, Nat.reduceSub, Int.reduceToNat, Int.reduceEq, Int.reduceLT, Int.reduceLE, Int.reduceAdd, Int.reduceSub, Int.reduceMul, reduceIte, resVs, resV, packV, initT, addr, t2, t3, t10, t11]; first | done | rfl | (congr 1; omega))
      · omega
      · omega
    · have : i = 8 := by omega
      subst this
      have h4 := mix_all z8 beginW_len
      simp (implicitDefEqProofs := false) (maxSteps := 1000000) (disch := first | omega | with_reducible assumption | (simp only [lenT, Nat.reduceAdd]; omega)) only [amT, cut, bnd, Nat.reduceBEq, reduceCtorEq, Nat.reduceEqDiff, Nat.reduceAdd, Nat.reduceMul, Nat.reduceSub, Int.reduceToNat, Int.reduceEq, Int.reduceLT, Int.reduceLE, Int.reduceAdd, Int.reduceSub, Int.reduceMul, reduceIte, resVs, resV, packV, initT, addr, F77_l0, t2, t3, t10, t11, h4, cutL_all, z8, cellsOf_ws]
end Go.Proofs.YtgkmlbkocgjmmaaDoor.S
namespace Go.Proofs.YtgkmlbkocgjmmaaDoor.S
open Go Go.AM
set_option maxRecDepth 100000
set_option linter.unusedVariables false
set_option linter.unusedSimpArgs false

theorem kMovedA {m : AMem} {x : UInt32} : Known Tryd.prog 3 88 [w32 x, .int .i64 17, .int .i64 19, .int .i64 10] m (w32 (movedW x 17 19 10)) m := DetC.known (moved_ok m x 17 19 10 (by omega) (by omega) (by omega) (by omega) (by omega) (by omega))
theorem kMovedB {m : AMem} {x : UInt32} : Known Tryd.prog 3 88 [w32 x, .int .i64 7, .int .i64 18, .int .i64 3] m (w32 (movedW x 7 18 3)) m := DetC.known (moved_ok m x 7 18 3 (by omega) (by omega) (by omega) (by omega) (by omega) (by omega))
theorem kTurnedA {m : AMem} {x : UInt32} : Known Tryd.prog 3 89 [w32 x, .int .i64 6, .int .i64 11, .int .i64 25] m (w32 (turnedW x 6 11 25)) m := DetC.known (turned_ok m x 6 11 25 (by omega) (by omega) (by omega) (by omega) (by omega) (by omega))
theorem kTurnedB {m : AMem} {x : UInt32} : Known Tryd.prog 3 89 [w32 x, .int .i64 2, .int .i64 13, .int .i64 22] m (w32 (turnedW x 2 13 22)) m := DetC.known (turned_ok m x 2 13 22 (by omega) (by omega) (by omega) (by omega) (by omega) (by omega))
theorem kState {m : AMem} {b : Nat} {s : HS} (hg : Glob m) (hs : s.ok) (hb : b < m.size) (hm : m.get b = .cells (cH s) 96 true .exact) : type_of% (DetC.known (state_ok m b s hg hs hb hm)) := DetC.known (state_ok m b s hg hs hb hm)

theorem zero64 : [Value.int .u32 0, .int .u32 0, .int .u32 0, .int .u32 0, .int .u32 0, .int .u32 0, .int .u32 0, .int .u32 0, .int .u32 0, .int .u32 0, .int .u32 0, .int .u32 0, .int .u32 0, .int .u32 0, .int .u32 0, .int .u32 0, .int .u32 0, .int .u32 0, .int .u32 0, .int .u32 0, .int .u32 0, .int .u32 0, .int .u32 0, .int .u32 0, .int .u32 0, .int .u32 0, .int .u32 0, .int .u32 0, .int .u32 0, .int .u32 0, .int .u32 0, .int .u32 0, .int .u32 0, .int .u32 0, .int .u32 0, .int .u32 0, .int .u32 0, .int .u32 0, .int .u32 0, .int .u32 0, .int .u32 0, .int .u32 0, .int .u32 0, .int .u32 0, .int .u32 0, .int .u32 0, .int .u32 0, .int .u32 0, .int .u32 0, .int .u32 0, .int .u32 0, .int .u32 0, .int .u32 0, .int .u32 0, .int .u32 0, .int .u32 0, .int .u32 0, .int .u32 0, .int .u32 0, .int .u32 0, .int .u32 0, .int .u32 0, .int .u32 0, .int .u32 0] = (List.replicate 64 (0 : UInt32)).map w32 := rfl
/-- The words up to a place, behind them one, then nothing. -/
def wRow (R : List UInt8) (i : Nat) (x : UInt32) : List UInt32 := sched R i ++ (x :: List.replicate (63 - i) 0)
theorem wRow_length {R : List UInt8} {i : Nat} {x : UInt32} (h : i < 64) : (wRow R i x).length = 64 := by simp [wRow, sched_length]; omega
theorem wRow_set {R : List UInt8} {i : Nat} (x y : UInt32) : (wRow R i x).set i y = wRow R i y := by
  simp only [wRow]; rw [List.set_append_right _ _ (by rw [sched_length]; omega), sched_length]; simp
theorem wRow_at {R : List UInt8} {i : Nat} {x : UInt32} (h : i < (wRow R i x).length) : (wRow R i x)[i] = x := by
  simp only [wRow]; rw [List.getElem_append_right (by rw [sched_length]; omega)]; simp [sched_length]
theorem wRow_old {R : List UInt8} {i j : Nat} {x : UInt32} (hj : j < i) (h : j < (wRow R i x).length) : (wRow R i x)[j] = (sched R i).getD j 0 := by
  simp only [wRow]; rw [List.getElem_append_left (by rw [sched_length]; omega)]; simp [sched_length, hj]
theorem word4_next (l : List UInt8) (c : UInt8) : word4 (l ++ [c]) = shlW (word4 l) 8 ||| UInt32.ofNat c.toNat := by simp [word4]
theorem w32_of_byte (c : UInt8) : (Value.int .u32 (c.toNat : Int)) = w32 (UInt32.ofNat c.toNat) := by
  have := c.toNat_lt
  simp [w32]
theorem binV_shlw8 {k : IntKind} {x : UInt32} : binV .shl (w32 x) (.int k 8) = some (w32 (shlW x 8)) := binV_shlw (b := 8) (by omega)
def padW (R : List UInt8) (i : Nat) : List UInt32 := sched R i ++ List.replicate (64 - i) 0
theorem padW_zero (R : List UInt8) : padW R 0 = List.replicate 64 0 := rfl
theorem padW_lt {R : List UInt8} {i : Nat} (h : i < 64) : padW R i = wRow R i 0 := by
  simp only [padW, wRow]; rw [show 64 - i = (63 - i) + 1 by omega, List.replicate_succ]
theorem padW_next {R : List UInt8} {i : Nat} (h : i < 64) : wRow R i (wordAt R (sched R i) i) = padW R (i + 1) := by
  simp only [wRow, padW, sched, List.append_assoc, List.singleton_append]
  rw [show 64 - (i + 1) = 63 - i by omega]
theorem padW_all (R : List UInt8) : padW R 64 = sched R 64 := by simp [padW]

theorem sched_ok (m : AMem) (b : Nat) (s : HS) (hs : s.ok) (hb : b < m.size) (hm : m.get b = .cells (cH s) 96 true .exact) (t : Tmps) (Q : AExit → ASt → Prop)
    (t0 : t 0 = .pointer (some ⟨b, 0, none⟩)) (t2 : t 2 = .pointer (some ⟨m.size, 0, none⟩)) (t13 : t 13 = .int .i64 0)
    (h : ∀ t' : Tmps, t' 0 = .pointer (some ⟨b, 0, none⟩) → t' 2 = .pointer (some ⟨m.size, 0, none⟩) → Q (.exit 0) ⟨t', mx m [.cells ((sched s.R 64).map w32) 127 true .exact], []⟩) :
    W Tryd.prog 3 (.loop F76_l0) Q ⟨t, mx m [.cells ((List.replicate 64 (0 : UInt32)).map w32) 127 true .exact], []⟩ := by
  refine W_loop (fun N qs => ∃ (i : Nat), N = 64 - i ∧ qs.ds = [] ∧ qs.m = mx m [.cells ((padW s.R i).map w32) 127 true .exact] ∧ qs.t 0 = .pointer (some ⟨b, 0, none⟩) ∧ qs.t 2 = .pointer (some ⟨m.size, 0, none⟩) ∧ qs.t 13 = .int .i64 i ∧ i ≤ 64) (64 - (0)) ⟨0, rfl, rfl, ?qm, ?q0, ?q2, ?q13, ?_⟩ ?_
  case qm | q0 | q2 | q13 => first | rfl | (simp (implicitDefEqProofs := false) (maxSteps := 1000000) (disch := first | omega | with_reducible assumption | (simp only [lenT, Nat.reduceAdd]; omega)) only [amT, cut, bnd, Nat.reduceBEq, reduceCtorEq, Nat.reduceEqDiff, Nat.reduceAdd, Nat.reduceMul, Nat.reduceSub, Int.reduceToNat, Int.reduceEq, Int.reduceLT, Int.reduceLE, Int.reduceAdd, Int.reduceSub, Int.reduceMul, reduceIte, resVs, resV, packV, initT, addr, padW_zero, t0, t2, t13]; first | done | rfl | (congr 1; omega))
  · omega
  · clear t0 t2 t13
    rintro N t m1 ds ⟨i, rfl, hds, hm, t0, t2, t13, hp⟩
    simp only at hds hm t0 t2 t13
    subst hds; replace hm := hm.symm; subst hm
    by_cases hi : (i : Int) < 64
    · have hi' : i < 64 := by omega
      have hl := wRow_length (R := s.R) (x := 0) hi'
      have hn := padW_next (R := s.R) hi'
      by_cases h16 : (16 : Int) ≤ i
      · have e1 : (i : Int) - 2 = ((i - 2 : Nat) : Int) := by omega
        have e2 : (i : Int) - 7 = ((i - 7 : Nat) : Int) := by omega
        have e3 : (i : Int) - 15 = ((i - 15 : Nat) : Int) := by omega
        have e4 : (i : Int) - 16 = ((i - 16 : Nat) : Int) := by omega
        have hw : wordAt s.R (sched s.R i) i = movedW ((sched s.R i).getD (i - 2) 0) 17 19 10 + (sched s.R i).getD (i - 7) 0 + movedW ((sched s.R i).getD (i - 15) 0) 7 18 3 + (sched s.R i).getD (i - 16) 0 := by
          unfold wordAt; rw [if_neg (by omega)]
        rw [hw] at hn
        simp (implicitDefEqProofs := false) (maxSteps := 1000000) (disch := first | omega | with_reducible assumption | (simp only [lenT, Nat.reduceAdd]; omega)) only [amT, cut, bnd, Nat.reduceBEq, reduceCtorEq, Nat.reduceEqDiff, Nat.reduceAdd, Nat.reduceMul, Nat.reduceSub, Int.reduceToNat, Int.reduceEq, Int.reduceLT, Int.reduceLE, Int.reduceAdd, Int.reduceSub, Int.reduceMul, reduceIte, resVs, resV, packV, initT, addr, F76_l0, t0, t2, t13, hi, h16, padW_lt hi', e1, e2, e3, e4, amW, wRow_old, wRow_set, kMovedA, kMovedB]
        repeat refine OrW.go ?_
        rw [LoopK_normal]; refine ⟨_, ?_, i + 1, rfl, rfl, ?qm, ?q0, ?q2, ?q13, ?_⟩
        case qm | q0 | q2 | q13 => first | rfl | (simp (implicitDefEqProofs := false) (maxSteps := 1000000) (disch := first | omega | with_reducible assumption | (simp only [lenT, Nat.reduceAdd]; omega)) only [amT, cut, bnd, Nat.reduceBEq, reduceCtorEq, Nat.reduceEqDiff, Nat.reduceAdd, Nat.reduceMul, Nat.reduceSub, Int.reduceToNat, Int.reduceEq, Int.reduceLT, Int.reduceLE, Int.reduceAdd, Int.reduceSub, Int.reduceMul, reduceIte, resVs, resV, packV, initT, addr, t0, t2, t13, hn]; first | done | rfl | (congr 1; omega))
        · omega
        · omega
      · have e1 : (4 : Int) * (i : Int) = ((4 * i : Nat) : Int) := by omega
        have e2 : ((4 * i : Nat) : Int) + 4 = ((4 * i + 4 : Nat) : Int) := by omega
        have hw : wordAt s.R (sched s.R i) i = word4 ((s.R.drop (4 * i)).take 4) := by
          unfold wordAt; rw [if_pos (by omega)]
        rw [hw] at hn
        have e3 : 4 * i + 4 - 4 * i = 4 := by omega
        simp (implicitDefEqProofs := false) (maxSteps := 1000000) (disch := first | omega | with_reducible assumption | (simp only [lenT, Nat.reduceAdd]; omega)) only [amT, cut, bnd, Nat.reduceBEq, reduceCtorEq, Nat.reduceEqDiff, Nat.reduceAdd, Nat.reduceMul, Nat.reduceSub, Int.reduceToNat, Int.reduceEq, Int.reduceLT, Int.reduceLE, Int.reduceAdd, Int.reduceSub, Int.reduceMul, reduceIte, resVs, resV, packV, initT, addr, F76_l0, t0, t2, t13, hi, h16, padW_lt hi', e1, e2]
        refine W_loop (fun N qs => ∃ (j : Nat), N = 4 - j ∧ qs.ds = [] ∧ qs.m = mx m [.cells ((wRow s.R i (word4 ((s.R.drop (4 * i)).take j))).map w32) 127 true .exact] ∧ qs.t 0 = .pointer (some ⟨b, 0, none⟩) ∧ qs.t 2 = .pointer (some ⟨m.size, 0, none⟩) ∧ qs.t 3 = .int .i64 i ∧ qs.t 13 = .int .i64 i ∧ qs.t 49 = .slice (some ⟨b, 8 + 4 * i, none⟩) 4 (64 - 4 * i) ∧ qs.t 50 = .int .i64 4 ∧ qs.t 51 = .int .i64 j ∧ j ≤ 4) (4 - (0)) ⟨0, rfl, rfl, ?qm, ?q0, ?q2, ?q3, ?q13, ?q49, ?q50, ?q51, ?_⟩ ?_
        case qm | q0 | q2 | q3 | q13 | q49 | q50 | q51 => first | rfl | (simp (implicitDefEqProofs := false) (maxSteps := 1000000) (disch := first | omega | with_reducible assumption | (simp only [lenT, Nat.reduceAdd]; omega)) only [amT, cut, bnd, Nat.reduceBEq, reduceCtorEq, Nat.reduceEqDiff, Nat.reduceAdd, Nat.reduceMul, Nat.reduceSub, Int.reduceToNat, Int.reduceEq, Int.reduceLT, Int.reduceLE, Int.reduceAdd, Int.reduceSub, Int.reduceMul, reduceIte, resVs, resV, packV, initT, addr, t0, t2, t13, List.take_zero, e3]; first | done | rfl | (congr 1; omega))
        · omega
        · clear t0 t2 t13
          rintro N t m1 ds ⟨j, rfl, hds, hm, t0, t2, t3, t13, t49, t50, t51, hp⟩
          simp only at hds hm t0 t2 t3 t13 t49 t50 t51
          subst hds; replace hm := hm.symm; subst hm
          by_cases hj : (j : Int) < 4
          · have hj' : j < 4 := by omega
            have hl2 := wRow_length (R := s.R) (x := word4 ((s.R.drop (4 * i)).take j)) hi'
            have hR : (cH s)[8 + 4 * i + j]? = some (byteV (s.R[4 * i + j]'(by rw [hs.2]; omega))) := by rw [Nat.add_assoc]; exact cH_Ri hs (by omega)
            have hb4 := (s.R[4 * i + j]'(by rw [hs.2]; omega)).toNat_lt
            have hw4 := word4_next ((s.R.drop (4 * i)).take j) (s.R[4 * i + j]'(by rw [hs.2]; omega))
            have hdl : j < (s.R.drop (4 * i)).length := by rw [List.length_drop, hs.2]; omega
            have ht := List.take_succ_eq_append_getElem hdl
            rw [List.getElem_drop] at ht
            rw [← ht] at hw4
            simp (implicitDefEqProofs := false) (maxSteps := 1000000) (disch := first | omega | with_reducible assumption | (simp only [lenT, Nat.reduceAdd]; omega)) only [amT, cut, bnd, Nat.reduceBEq, reduceCtorEq, Nat.reduceEqDiff, Nat.reduceAdd, Nat.reduceMul, Nat.reduceSub, Int.reduceToNat, Int.reduceEq, Int.reduceLT, Int.reduceLE, Int.reduceAdd, Int.reduceSub, Int.reduceMul, reduceIte, resVs, resV, packV, initT, addr, F76_l1, t0, t2, t3, t13, t49, t50, t51, hj, hm, hR, amW, wRow_at, byteV_def, w32_of_byte, binV_shlw8, wRow_set, ← hw4]
            rw [LoopK_normal]; refine ⟨_, ?_, j + 1, rfl, rfl, ?qm, ?q0, ?q2, ?q3, ?q13, ?q49, ?q50, ?q51, ?_⟩
            case qm | q0 | q2 | q3 | q13 | q49 | q50 | q51 => first | rfl | (simp (implicitDefEqProofs := false) (maxSteps := 1000000) (disch := first | omega | with_reducible assumption | (simp only [lenT, Nat.reduceAdd]; omega)) only [amT, cut, bnd, Nat.reduceBEq, reduceCtorEq, Nat.reduceEqDiff, Nat.reduceAdd, Nat.reduceMul, Nat.reduceSub, Int.reduceToNat, Int.reduceEq, Int.reduceLT, Int.reduceLE, Int.reduceAdd, Int.reduceSub, Int.reduceMul, reduceIte, resVs, resV, packV, initT, addr, t0, t2, t3, t13, t49, t50, t51]; first | done | rfl | (congr 1; omega))
            · omega
            · omega
          · have hj4 : j = 4 := by omega
            subst hj4
            simp (implicitDefEqProofs := false) (maxSteps := 1000000) (disch := first | omega | with_reducible assumption | (simp only [lenT, Nat.reduceAdd]; omega)) only [amT, cut, bnd, Nat.reduceBEq, reduceCtorEq, Nat.reduceEqDiff, Nat.reduceAdd, Nat.reduceMul, Nat.reduceSub, Int.reduceToNat, Int.reduceEq, Int.reduceLT, Int.reduceLE, Int.reduceAdd, Int.reduceSub, Int.reduceMul, reduceIte, resVs, resV, packV, initT, addr, F76_l1, t0, t2, t3, t13, t49, t50, t51]
            rw [LoopK_normal]; refine ⟨_, ?_, i + 1, rfl, rfl, ?qm, ?q0, ?q2, ?q13, ?_⟩
            case qm | q0 | q2 | q13 => first | rfl | (simp (implicitDefEqProofs := false) (maxSteps := 1000000) (disch := first | omega | with_reducible assumption | (simp only [lenT, Nat.reduceAdd]; omega)) only [amT, cut, bnd, Nat.reduceBEq, reduceCtorEq, Nat.reduceEqDiff, Nat.reduceAdd, Nat.reduceMul, Nat.reduceSub, Int.reduceToNat, Int.reduceEq, Int.reduceLT, Int.reduceLE, Int.reduceAdd, Int.reduceSub, Int.reduceMul, reduceIte, resVs, resV, packV, initT, addr, t0, t2, t13, hn]; first | done | rfl | (congr 1; omega))
            · omega
            · omega
    · have h64 : i = 64 := by omega
      subst h64
      simp (implicitDefEqProofs := false) (maxSteps := 1000000) (disch := first | omega | with_reducible assumption | (simp only [lenT, Nat.reduceAdd]; omega)) only [amT, cut, bnd, Nat.reduceBEq, reduceCtorEq, Nat.reduceEqDiff, Nat.reduceAdd, Nat.reduceMul, Nat.reduceSub, Int.reduceToNat, Int.reduceEq, Int.reduceLT, Int.reduceLE, Int.reduceAdd, Int.reduceSub, Int.reduceMul, reduceIte, resVs, resV, packV, initT, addr, F76_l0, t0, t2, t13, padW_all]
      exact h _ (by simp (implicitDefEqProofs := false) (maxSteps := 1000000) (disch := first | omega | with_reducible assumption | (simp only [lenT, Nat.reduceAdd]; omega)) only [amT, cut, bnd, Nat.reduceBEq, reduceCtorEq, Nat.reduceEqDiff, Nat.reduceAdd, Nat.reduceMul, Nat.reduceSub, Int.reduceToNat, Int.reduceEq, Int.reduceLT, Int.reduceLE, Int.reduceAdd, Int.reduceSub, Int.reduceMul, reduceIte, resVs, resV, packV, initT, addr, t0, t2, t13]) (by simp (implicitDefEqProofs := false) (maxSteps := 1000000) (disch := first | omega | with_reducible assumption | (simp only [lenT, Nat.reduceAdd]; omega)) only [amT, cut, bnd, Nat.reduceBEq, reduceCtorEq, Nat.reduceEqDiff, Nat.reduceAdd, Nat.reduceMul, Nat.reduceSub, Int.reduceToNat, Int.reduceEq, Int.reduceLT, Int.reduceLE, Int.reduceAdd, Int.reduceSub, Int.reduceMul, reduceIte, resVs, resV, packV, initT, addr, t0, t2, t13])
end Go.Proofs.YtgkmlbkocgjmmaaDoor.S
namespace Go.Proofs.YtgkmlbkocgjmmaaDoor.S
open Go Go.AM
set_option maxRecDepth 100000
set_option linter.unusedVariables false
set_option linter.unusedSimpArgs false

theorem constW_len : constW.length = 64 := rfl
theorem block_ok (m : AMem) (b : Nat) (s : HS) (hg : Glob m) (hs : s.ok) (hb : b < m.size) (hb2 : 2 < b) (hm : m.get b = .cells (cH s) 96 true .exact) :
    DetC Tryd.prog 3 76 [.pointer (some ⟨b, 0, none⟩)] m (.tuple #[]) (mx (m.set b (.cells (cH { s with M := moreStep s.M s.R }) 96 true .exact)) []) := by
  refine set_of_W (fn := Tryd.f76) rfl rfl F76_ok (by simp [F76]) (.tuple (by simp)) (plain_cH _) ?_
  obtain ⟨ek, spk, g0⟩ := hg.k
  have gs := hg.s
  have hkl := constW_len
  have m8 := hs.1
  have z8 : (zip2 beginW s.M).length = 8 := zip2_length rfl m8
  have hsl := sched_length s.R 64
  have hst := @kState (mx m [.cells ((sched s.R 64).map w32) 127 true .exact]) b s (hg.old (Old.here _ _)) hs (by rw [mx_size]; omega) (by rw [mx_old hb]; exact hm)
  simp (implicitDefEqProofs := false) (maxSteps := 1000000) (disch := first | omega | with_reducible assumption | (simp only [lenT, Nat.reduceAdd]; omega)) only [amT, cut, bnd, Nat.reduceBEq, reduceCtorEq, Nat.reduceEqDiff, Nat.reduceAdd, Nat.reduceMul, Nat.reduceSub, Int.reduceToNat, Int.reduceEq, Int.reduceLT, Int.reduceLE, Int.reduceAdd, Int.reduceSub, Int.reduceMul, reduceIte, resVs, resV, packV, initT, addr, F76, zero64]
  refine sched_ok m b s hs hb hm _ _ (by simp (implicitDefEqProofs := false) (maxSteps := 1000000) (disch := first | omega | with_reducible assumption | (simp only [lenT, Nat.reduceAdd]; omega)) only [amT, cut, bnd, Nat.reduceBEq, reduceCtorEq, Nat.reduceEqDiff, Nat.reduceAdd, Nat.reduceMul, Nat.reduceSub, Int.reduceToNat, Int.reduceEq, Int.reduceLT, Int.reduceLE, Int.reduceAdd, Int.reduceSub, Int.reduceMul, reduceIte, resVs, resV, packV, initT, addr]) (by simp (implicitDefEqProofs := false) (maxSteps := 1000000) (disch := first | omega | with_reducible assumption | (simp only [lenT, Nat.reduceAdd]; omega)) only [amT, cut, bnd, Nat.reduceBEq, reduceCtorEq, Nat.reduceEqDiff, Nat.reduceAdd, Nat.reduceMul, Nat.reduceSub, Int.reduceToNat, Int.reduceEq, Int.reduceLT, Int.reduceLE, Int.reduceAdd, Int.reduceSub, Int.reduceMul, reduceIte, resVs, resV, packV, initT, addr]) (by simp (implicitDefEqProofs := false) (maxSteps := 1000000) (disch := first | omega | with_reducible assumption | (simp only [lenT, Nat.reduceAdd]; omega)) only [amT, cut, bnd, Nat.reduceBEq, reduceCtorEq, Nat.reduceEqDiff, Nat.reduceAdd, Nat.reduceMul, Nat.reduceSub, Int.reduceToNat, Int.reduceEq, Int.reduceLT, Int.reduceLE, Int.reduceAdd, Int.reduceSub, Int.reduceMul, reduceIte, resVs, resV, packV, initT, addr]) ?_
  intro t t0 t2
  simp (implicitDefEqProofs := false) (maxSteps := 1000000) (disch := first | omega | with_reducible assumption | (simp only [lenT, Nat.reduceAdd]; omega)) only [amT, cut, bnd, Nat.reduceBEq, reduceCtorEq, Nat.reduceEqDiff, Nat.reduceAdd, Nat.reduceMul, Nat.reduceSub, Int.reduceToNat, Int.reduceEq, Int.reduceLT, Int.reduceLE, Int.reduceAdd, Int.reduceSub, Int.reduceMul, reduceIte, resVs, resV, packV, initT, addr, t0, t2, hst, zero8, g0, cutL_all, amW]
  repeat refine OrW.go ?_
  refine W_loop (fun N qs => ∃ (i : Nat), N = 64 - i ∧ qs.ds = [] ∧ qs.m = mx m [.cells ((sched s.R 64).map w32) 127 true .exact, .cells ((roundsW constW s.R (zip2 beginW s.M) i).map w32) 92 true .exact] ∧ qs.t 0 = .pointer (some ⟨b, 0, none⟩) ∧ qs.t 2 = .pointer (some ⟨m.size, 0, none⟩) ∧ qs.t 6 = .pointer (some ⟨m.size + 1, 0, none⟩) ∧ qs.t 68 = .agg (constW.map w32).toArray ∧ qs.t 69 = .int .i64 i ∧ i ≤ 64) (64 - (0)) ⟨0, rfl, rfl, ?qm, ?q0, ?q2, ?q6, ?q68, ?q69, ?_⟩ ?_
  case qm | q0 | q2 | q6 | q68 | q69 => first | rfl | (simp (implicitDefEqProofs := false) (maxSteps := 1000000) (disch := first | omega | with_reducible assumption | (simp only [lenT, Nat.reduceAdd]; omega)) only [amT, cut, bnd, Nat.reduceBEq, reduceCtorEq, Nat.reduceEqDiff, Nat.reduceAdd, Nat.reduceMul, Nat.reduceSub, Int.reduceToNat, Int.reduceEq, Int.reduceLT, Int.reduceLE, Int.reduceAdd, Int.reduceSub, Int.reduceMul, reduceIte, resVs, resV, packV, initT, addr, t0, t2, roundsW]; first | done | rfl | (congr 1; omega))
  · omega
  · clear t0 t2
    rintro N t m1 ds ⟨i, rfl, hds, hm, t0, t2, t6, t68, t69, hp⟩
    simp only at hds hm t0 t2 t6 t68 t69
    subst hds; replace hm := hm.symm; subst hm
    by_cases hi : (i : Int) < 64
    · have hX : (roundsW constW s.R (zip2 beginW s.M) i).length = 8 := by rw [roundsW_length, z8]
      have hn : roundsW constW s.R (zip2 beginW s.M) (i + 1) = roundW (roundsW constW s.R (zip2 beginW s.M) i) (constW[i]'(by omega)) ((sched s.R 64)[i]'(by omega)) := by
        simp [roundsW, hkl, hsl, show i < 64 by omega]
      obtain ⟨x0, x1, x2, x3, x4, x5, x6, x7, hx⟩ := len8 hX
      rw [hx] at hn
      simp (implicitDefEqProofs := false) (maxSteps := 1000000) (disch := first | omega | with_reducible assumption | (simp only [lenT, Nat.reduceAdd]; omega)) only [amT, cut, bnd, Nat.reduceBEq, reduceCtorEq, Nat.reduceEqDiff, Nat.reduceAdd, Nat.reduceMul, Nat.reduceSub, Int.reduceToNat, Int.reduceEq, Int.reduceLT, Int.reduceLE, Int.reduceAdd, Int.reduceSub, Int.reduceMul, reduceIte, resVs, resV, packV, initT, addr, F76_l2, t0, t2, t6, t68, t69, hi, hx, amW, List.map_cons, List.map_nil, kTurnedA, kTurnedB]
      repeat refine OrW.go ?_
      simp (implicitDefEqProofs := false) (maxSteps := 1000000) (disch := first | omega | with_reducible assumption | (simp only [lenT, Nat.reduceAdd]; omega)) only [amT, cut, bnd, Nat.reduceBEq, reduceCtorEq, Nat.reduceEqDiff, Nat.reduceAdd, Nat.reduceMul, Nat.reduceSub, Int.reduceToNat, Int.reduceEq, Int.reduceLT, Int.reduceLE, Int.reduceAdd, Int.reduceSub, Int.reduceMul, reduceIte, resVs, resV, packV, initT, addr, stepOp_cpy, srcCells_slice, cutL, splice, List.take_succ_cons, List.take_zero, List.drop_succ_cons, List.drop_nil, List.all_cons, List.all_nil, oneCell_w, Nat.min_self, amW, List.map_cons, List.map_nil, t0, t2, t6, t68, t69]
      rw [LoopK_normal]; refine ⟨_, ?_, i + 1, rfl, rfl, ?qm, ?q0, ?q2, ?q6, ?q68, ?q69, ?_⟩
      case qm | q0 | q2 | q6 | q68 | q69 => first | rfl | (simp (implicitDefEqProofs := false) (maxSteps := 1000000) (disch := first | omega | with_reducible assumption | (simp only [lenT, Nat.reduceAdd]; omega)) only [amT, cut, bnd, Nat.reduceBEq, reduceCtorEq, Nat.reduceEqDiff, Nat.reduceAdd, Nat.reduceMul, Nat.reduceSub, Int.reduceToNat, Int.reduceEq, Int.reduceLT, Int.reduceLE, Int.reduceAdd, Int.reduceSub, Int.reduceMul, reduceIte, resVs, resV, packV, initT, addr, t0, t2, t6, t68, t69, hn, roundW, List.map_cons, List.map_nil]; first | done | rfl | (congr 1; omega))
      · omega
      · omega
    · have h64 : i = 64 := by omega
      subst h64
      generalize hV : roundsW constW s.R (zip2 beginW s.M) 64 = V at *
      have hV8 : V.length = 8 := by rw [← hV, roundsW_length, z8]
      have hms : moreStep s.M s.R = zip2 s.M V := by rw [moreStep, hV]
      have hset : m.set b (.cells (cH ⟨s.M, s.R, s.n⟩) 96 true .exact) = m := AMem.set_same hm
      have hzl : (zip2 s.M V).length = s.M.length := by rw [zip2_length m8 hV8, m8]
      simp (implicitDefEqProofs := false) (maxSteps := 1000000) (disch := first | omega | with_reducible assumption | (simp only [lenT, Nat.reduceAdd]; omega)) only [amT, cut, bnd, Nat.reduceBEq, reduceCtorEq, Nat.reduceEqDiff, Nat.reduceAdd, Nat.reduceMul, Nat.reduceSub, Int.reduceToNat, Int.reduceEq, Int.reduceLT, Int.reduceLE, Int.reduceAdd, Int.reduceSub, Int.reduceMul, reduceIte, resVs, resV, packV, initT, addr, F76_l2, t0, t2, t6, t68, t69, cutL_all]
      refine W_loop (fun N qs => ∃ (i : Nat), N = 8 - i ∧ qs.ds = [] ∧ qs.m = mx (m.set b (.cells (cH ⟨mix i (zip2 s.M V) s.M, s.R, s.n⟩) 96 true .exact)) [.cells ((sched s.R 64).map w32) 127 true .exact, .cells (V.map w32) 92 true .exact] ∧ qs.t 0 = .pointer (some ⟨b, 0, none⟩) ∧ qs.t 131 = .agg (V.map w32).toArray ∧ qs.t 132 = .int .i64 i ∧ i ≤ 8) (8 - (0)) ⟨0, rfl, rfl, ?qm, ?q0, ?q131, ?q132, ?_⟩ ?_
      case qm | q0 | q131 | q132 => first | rfl | (simp (implicitDefEqProofs := false) (maxSteps := 1000000) (disch := first | omega | with_reducible assumption | (simp only [lenT, Nat.reduceAdd]; omega)) only [amT, cut, bnd, Nat.reduceBEq, reduceCtorEq, Nat.reduceEqDiff, Nat.reduceAdd, Nat.reduceMul, Nat.reduceSub, Int.reduceToNat, Int.reduceEq, Int.reduceLT, Int.reduceLE, Int.reduceAdd, Int.reduceSub, Int.reduceMul, reduceIte, resVs, resV, packV, initT, addr, t0, t2, t6, t68, t69, mix_zero, hset]; first | done | rfl | (congr 1; omega))
      · omega
      · clear t0 t2 t6 t68 t69 hp hi
        rintro N t m1 ds ⟨i, rfl, hds, hm, t0, t131, t132, hp⟩
        simp only at hds hm t0 t131 t132
        subst hds; replace hm := hm.symm; subst hm
        have hok : HS.ok ⟨mix i (zip2 s.M V) s.M, s.R, s.n⟩ := ⟨by simp only; rw [mix_length hzl, m8], hs.2⟩
        have h73 := cH_length hok
        by_cases hi : (i : Int) < 8
        · have h1 := cH_Mi hok (i := i) (by omega)
          simp only at h1
          rw [mix_get hzl (by omega)] at h1
          have h2 := cH_setM hok (i := i) (by omega) (s.M[i]'(by omega) + V[i]'(by omega))
          simp only at h2
          rw [← zip2_get (by omega) (by omega), mix_set hzl (by omega)] at h2
          have h3 := zip2_get (a := s.M) (b := V) (i := i) (by omega) (by omega)
          simp (implicitDefEqProofs := false) (maxSteps := 1000000) (disch := first | omega | with_reducible assumption | (simp only [lenT, Nat.reduceAdd]; omega)) only [amT, cut, bnd, Nat.reduceBEq, reduceCtorEq, Nat.reduceEqDiff, Nat.reduceAdd, Nat.reduceMul, Nat.reduceSub, Int.reduceToNat, Int.reduceEq, Int.reduceLT, Int.reduceLE, Int.reduceAdd, Int.reduceSub, Int.reduceMul, reduceIte, resVs, resV, packV, initT, addr, F76_l3, t0, t131, t132, hi, amW, h1, ← h3, h2]
          rw [LoopK_normal]; refine ⟨_, ?_, i + 1, rfl, rfl, ?qm, ?q0, ?q131, ?q132, ?_⟩
          case qm | q0 | q131 | q132 => first | rfl | (simp (implicitDefEqProofs := false) (maxSteps := 1000000) (disch := first | omega | with_reducible assumption | (simp only [lenT, Nat.reduceAdd]; omega)) only [amT, cut, bnd, Nat.reduceBEq, reduceCtorEq, Nat.reduceEqDiff, Nat.reduceAdd, Nat.reduceMul, Nat.reduceSub, Int.reduceToNat, Int.reduceEq, Int.reduceLT, Int.reduceLE, Int.reduceAdd, Int.reduceSub, Int.reduceMul, reduceIte, resVs, resV, packV, initT, addr, t0, t131, t132]; first | done | rfl | (congr 1; omega))
          · omega
          · omega
        · have h8 : i = 8 := by omega
          subst h8
          simp (implicitDefEqProofs := false) (maxSteps := 1000000) (disch := first | omega | with_reducible assumption | (simp only [lenT, Nat.reduceAdd]; omega)) only [amT, cut, bnd, Nat.reduceBEq, reduceCtorEq, Nat.reduceEqDiff, Nat.reduceAdd, Nat.reduceMul, Nat.reduceSub, Int.reduceToNat, Int.reduceEq, Int.reduceLT, Int.reduceLE, Int.reduceAdd, Int.reduceSub, Int.reduceMul, reduceIte, resVs, resV, packV, initT, addr, F76_l3, t0, t131, t132, mix_all (show (zip2 s.M V).length = 8 by rw [hzl, m8]) m8, hms]
end Go.Proofs.YtgkmlbkocgjmmaaDoor.S
namespace Go.Proofs.YtgkmlbkocgjmmaaDoor.S
open Go Go.AM
set_option maxRecDepth 100000
set_option linter.unusedVariables false
set_option linter.unusedSimpArgs false

theorem put_nil (m : AMem) (v : Value) : PureC Tryd.prog 3 59 [.pointer none, v] m (.tuple #[]) := by
  refine pure_of_W (fn := Tryd.f59) rfl rfl F59_ok (by simp [F59]) (.tuple (by simp)) ?_
  simp (implicitDefEqProofs := false) (maxSteps := 1000000) (disch := first | omega | with_reducible assumption | (simp only [lenT, Nat.reduceAdd]; omega)) only [amT, cut, bnd, Nat.reduceBEq, reduceCtorEq, Nat.reduceEqDiff, Nat.reduceAdd, Nat.reduceMul, Nat.reduceSub, Int.reduceToNat, Int.reduceEq, Int.reduceLT, Int.reduceLE, Int.reduceAdd, Int.reduceSub, Int.reduceMul, reduceIte, resVs, resV, packV, initT, addr, F59]
  refine W_loop (fun N qs => ∃ (i : Nat), N = 0 ∧ qs.ds = [] ∧ qs.m = mx m [] ∧ qs.t 0 = .pointer none ∧ True) (0) ⟨0, rfl, rfl, ?qm, ?q0, ?_⟩ ?_
  case qm | q0 => first | rfl | (simp (implicitDefEqProofs := false) (maxSteps := 1000000) (disch := first | omega | with_reducible assumption | (simp only [lenT, Nat.reduceAdd]; omega)) only [amT, cut, bnd, Nat.reduceBEq, reduceCtorEq, Nat.reduceEqDiff, Nat.reduceAdd, Nat.reduceMul, Nat.reduceSub, Int.reduceToNat, Int.reduceEq, Int.reduceLT, Int.reduceLE, Int.reduceAdd, Int.reduceSub, Int.reduceMul, reduceIte, resVs, resV, packV, initT, addr]; first | done | rfl | (congr 1; omega))
  · trivial
  · rintro N t m1 ds ⟨i, rfl, hds, hm, t0, hp⟩
    simp only at hds hm t0
    subst hds; replace hm := hm.symm; subst hm
    simp (implicitDefEqProofs := false) (maxSteps := 1000000) (disch := first | omega | with_reducible assumption | (simp only [lenT, Nat.reduceAdd]; omega)) only [amT, cut, bnd, Nat.reduceBEq, reduceCtorEq, Nat.reduceEqDiff, Nat.reduceAdd, Nat.reduceMul, Nat.reduceSub, Int.reduceToNat, Int.reduceEq, Int.reduceLT, Int.reduceLE, Int.reduceAdd, Int.reduceSub, Int.reduceMul, reduceIte, resVs, resV, packV, initT, addr, F59_l0, t0, eqV, Option.isNone]

theorem Glob.set {m : AMem} (h : Glob m) {b : Nat} (hb : 2 < b) (o : AObj) : Glob (m.set b o) :=
  ⟨by rw [AMem.get_set_ne _ _ (by omega)]; exact h.k, by rw [AMem.get_set_ne _ _ (by omega)]; exact h.b, h.s⟩
/-- The state at b. -/
abbrev hAt (m : AMem) (b : Nat) (s : HS) : AMem := m.set b (.cells (cH s) 96 true .exact)

theorem put_ok (m : AMem) (b : Nat) (s : HS) (hg : Glob m) (hs : s.ok) (hb : b < m.size) (hb2 : 2 < b) (hm : m.get b = .cells (cH s) 96 true .exact) (a : Option Addr) (cap : Nat) (c : List UInt8)
    (hc : BSl m a cap c) (hoff : Off a b) (hn : s.n + c.length < 2 ^ 60) :
    DetC Tryd.prog 3 59 [.pointer (some ⟨b, 0, none⟩), .slice a c.length cap] m (.tuple #[]) (mx (hAt m b (s.put c)) []) := by
  refine set_of_W (fn := Tryd.f59) rfl rfl F59_ok (by simp [F59]) (.tuple (by simp)) (plain_cH _) ?_
  have hset : m.set b (.cells (cH s) 96 true .exact) = m := AMem.set_same hm
  simp (implicitDefEqProofs := false) (maxSteps := 1000000) (disch := first | omega | with_reducible assumption | (simp only [lenT, Nat.reduceAdd]; omega)) only [amT, cut, bnd, Nat.reduceBEq, reduceCtorEq, Nat.reduceEqDiff, Nat.reduceAdd, Nat.reduceMul, Nat.reduceSub, Int.reduceToNat, Int.reduceEq, Int.reduceLT, Int.reduceLE, Int.reduceAdd, Int.reduceSub, Int.reduceMul, reduceIte, resVs, resV, packV, initT, addr, F59]
  refine W_loop (fun N qs => ∃ (k : Nat) (a' : Option Addr) (cap' : Nat), N = c.length - k ∧ qs.ds = [] ∧ qs.m = mx (hAt m b (s.put (c.take k))) [] ∧ qs.t 0 = .pointer (some ⟨b, 0, none⟩) ∧ qs.t 1 = .slice a' (c.drop k).length cap' ∧ k ≤ c.length ∧ BSl m a' cap' (c.drop k) ∧ Off a' b) (c.length - (0)) ⟨0, a, cap, rfl, rfl, ?qm, ?q0, ?q1, ?_⟩ ?_
  case qm | q0 | q1 => first | rfl | (simp (implicitDefEqProofs := false) (maxSteps := 1000000) (disch := first | omega | with_reducible assumption | (simp only [lenT, Nat.reduceAdd]; omega)) only [amT, cut, bnd, Nat.reduceBEq, reduceCtorEq, Nat.reduceEqDiff, Nat.reduceAdd, Nat.reduceMul, Nat.reduceSub, Int.reduceToNat, Int.reduceEq, Int.reduceLT, Int.reduceLE, Int.reduceAdd, Int.reduceSub, Int.reduceMul, reduceIte, resVs, resV, packV, initT, addr, List.take_zero, HS.put_nil, hset]; first | done | rfl | (congr 1; omega))
  · exact ⟨by omega, hc, hoff⟩
  · rintro N t m1 ds ⟨k, a', cap', rfl, hds, hm, t0, t1, hp⟩
    simp only at hds hm t0 t1
    subst hds; replace hm := hm.symm; subst hm
    obtain ⟨hk, hc', hoff'⟩ := hp
    have hlen : (c.drop k).length = c.length - k := List.length_drop
    by_cases hz : k = c.length
    · subst hz
      simp (implicitDefEqProofs := false) (maxSteps := 1000000) (disch := first | omega | with_reducible assumption | (simp only [lenT, Nat.reduceAdd]; omega)) only [amT, cut, bnd, Nat.reduceBEq, reduceCtorEq, Nat.reduceEqDiff, Nat.reduceAdd, Nat.reduceMul, Nat.reduceSub, Int.reduceToNat, Int.reduceEq, Int.reduceLT, Int.reduceLE, Int.reduceAdd, Int.reduceSub, Int.reduceMul, reduceIte, resVs, resV, packV, initT, addr, F59_l0, t0, t1, eqV, Option.isNone, List.drop_length]
    · generalize hs1 : s.put (c.take k) = s1 at *
      have hok : s1.ok := by rw [← hs1]; exact HS.put_ok hs _
      have hn1 : s1.n = s.n + k := by rw [← hs1, HS.put_n]; simp; omega
      have hpos : (0 : Int) < ((c.drop k).length : Int) := by omega
      have e1 : (s1.n : Int).tmod 64 = ((s1.n % 64 : Nat) : Int) := tmod_nat _ 64
      have h72 := cH_n hok
      have h73 := cH_length hok
      have hd := hok.2
      obtain ⟨nn, hnn⟩ : ∃ nn, nn = min (c.drop k).length (64 - s1.n % 64) := ⟨_, rfl⟩
      have hbk : b < (hAt m b s1).size := by rw [AMem.size_set]; exact hb
      have hcp := BSl.cpy (m := mx (hAt m b s1) []) ((hc'.set hoff' (.cells (cH s1) 96 true .exact)).old (M := mx (hAt m b s1) []) (Old.here _ _)) (b := b) (o := 8 + s1.n % 64) (dl := 64 - s1.n % 64) (dc := 64 - s1.n % 64) (X := cH s1) (e := 96) (sp := .exact) ((mx_old hbk).trans (AMem.get_set_self _ _ _)) (by omega) (by omega)
      rw [← hnn] at hcp
      obtain ⟨c', hcd⟩ : ∃ c', c' = (c.drop k).take nn := ⟨_, rfl⟩
      rw [← hcd] at hcp
      have hcl : c'.length = nn := by rw [hcd, List.length_take]; omega
      have hR := cH_R hok (at_ := s1.n % 64) (c := c') (by rw [hcl]; omega)
      have hok2 : HS.ok ⟨s1.M, spl s1.R (s1.n % 64) c', s1.n⟩ := ⟨hok.1, by rw [spl_length (by rw [hcl, hd]; omega), hd]⟩
      have hn2 := cH_n hok2
      have h732 := cH_length hok2
      have hsn := cH_setn hok2 (s1.n + nn)
      simp only at hR hn2 hsn
      have e3 : (s1.n : Int) + (nn : Int) = ((s1.n + nn : Nat) : Int) := by omega
      have hdd : (c.drop k).drop nn = c.drop (k + nn) := by rw [List.drop_drop]
      have htk : c.take (k + nn) = c.take k ++ c' := by rw [List.take_add, hcd]
      have hop : (c.drop k).length < openCap := openCap_lt (by omega)
      have hsl := (BSl.tail (m := mx (hAt m b ⟨s1.M, spl s1.R (s1.n % 64) c', s1.n⟩) []) (((hc'.set hoff' _).old (Old.here _ _))) hop (k := nn) (by omega)).1
      have hc3 := (BSl.tail hc' hop (k := nn) (by omega)).2
      have hoff3 := hoff'.tail cap' nn
      rw [hdd] at hc3
      by_cases hfull : ((s1.n % 64 : Nat) : Int) + (nn : Int) = 64
      · have hput : s.put (c.take (k + nn)) = ⟨moreStep s1.M (spl s1.R (s1.n % 64) c'), spl s1.R (s1.n % 64) c', s1.n + nn⟩ := by
          rw [htk, HS.put_append, hs1, HS.put_full hok (by intro h; rw [h] at hcl; simp at hcl; omega) (by rw [hcl]; omega), hcl]
        have hput2 : c.length ≤ k + nn → s.put c = ⟨moreStep s1.M (spl s1.R (s1.n % 64) c'), spl s1.R (s1.n % 64) c', s1.n + nn⟩ := fun h => by rw [List.take_of_length_le h] at hput; exact hput
        have hkb := DetC.known (block_ok (mx (hAt m b ⟨s1.M, spl s1.R (s1.n % 64) c', s1.n + nn⟩) []) b ⟨s1.M, spl s1.R (s1.n % 64) c', s1.n + nn⟩ ((hg.set hb2 _).old (Old.here _ _)) hok2 (by rw [mx_size, AMem.size_set]; omega) hb2 (by rw [mx_old (by rw [AMem.size_set]; exact hb)]; exact AMem.get_set_self _ _ _))
        simp (implicitDefEqProofs := false) (maxSteps := 1000000) (disch := first | omega | with_reducible assumption | (simp only [lenT, Nat.reduceAdd]; omega)) only [amT, cut, bnd, Nat.reduceBEq, reduceCtorEq, Nat.reduceEqDiff, Nat.reduceAdd, Nat.reduceMul, Nat.reduceSub, Int.reduceToNat, Int.reduceEq, Int.reduceLT, Int.reduceLE, Int.reduceAdd, Int.reduceSub, Int.reduceMul, reduceIte, resVs, resV, packV, initT, addr, F59_l0, t0, t1, eqV, Option.isNone, hpos, e1, h72, stepOp_cpy_v, hcp, hR, hn2, stepOp_slV_v, Option.map_none, hsl, e3, hsn, hfull, hkb]
        repeat refine OrW.go ?_
        rw [LoopK_normal]; refine ⟨_, ?_, k + nn, tailA a' cap' nn, tailC cap' nn, rfl, rfl, ?qm, ?q0, ?q1, ?_⟩
        case qm | q0 | q1 => first | rfl | (simp (implicitDefEqProofs := false) (maxSteps := 1000000) (disch := first | omega | with_reducible assumption | (simp only [lenT, Nat.reduceAdd]; omega)) only [amT, cut, bnd, Nat.reduceBEq, reduceCtorEq, Nat.reduceEqDiff, Nat.reduceAdd, Nat.reduceMul, Nat.reduceSub, Int.reduceToNat, Int.reduceEq, Int.reduceLT, Int.reduceLE, Int.reduceAdd, Int.reduceSub, Int.reduceMul, reduceIte, resVs, resV, packV, initT, addr, t0, t1, hput, hput2, hdd]; first | done | rfl | (congr 1; omega))
        · omega
        · exact ⟨by omega, hc3, hoff3⟩
      · have hput : s.put (c.take (k + nn)) = ⟨s1.M, spl s1.R (s1.n % 64) c', s1.n + nn⟩ := by
          rw [htk, HS.put_append, hs1, HS.put_fit hok (by rw [hcl]; omega), hcl]
        have hput2 : c.length ≤ k + nn → s.put c = ⟨s1.M, spl s1.R (s1.n % 64) c', s1.n + nn⟩ := fun h => by rw [List.take_of_length_le h] at hput; exact hput
        simp (implicitDefEqProofs := false) (maxSteps := 1000000) (disch := first | omega | with_reducible assumption | (simp only [lenT, Nat.reduceAdd]; omega)) only [amT, cut, bnd, Nat.reduceBEq, reduceCtorEq, Nat.reduceEqDiff, Nat.reduceAdd, Nat.reduceMul, Nat.reduceSub, Int.reduceToNat, Int.reduceEq, Int.reduceLT, Int.reduceLE, Int.reduceAdd, Int.reduceSub, Int.reduceMul, reduceIte, resVs, resV, packV, initT, addr, F59_l0, t0, t1, eqV, Option.isNone, hpos, e1, h72, stepOp_cpy_v, hcp, hR, hn2, stepOp_slV_v, Option.map_none, hsl, e3, hsn, hfull]
        rw [LoopK_normal]; refine ⟨_, ?_, k + nn, tailA a' cap' nn, tailC cap' nn, rfl, rfl, ?qm, ?q0, ?q1, ?_⟩
        case qm | q0 | q1 => first | rfl | (simp (implicitDefEqProofs := false) (maxSteps := 1000000) (disch := first | omega | with_reducible assumption | (simp only [lenT, Nat.reduceAdd]; omega)) only [amT, cut, bnd, Nat.reduceBEq, reduceCtorEq, Nat.reduceEqDiff, Nat.reduceAdd, Nat.reduceMul, Nat.reduceSub, Int.reduceToNat, Int.reduceEq, Int.reduceLT, Int.reduceLE, Int.reduceAdd, Int.reduceSub, Int.reduceMul, reduceIte, resVs, resV, packV, initT, addr, t0, t1, hput, hput2, hdd]; first | done | rfl | (congr 1; omega))
        · omega
        · exact ⟨by omega, hc3, hoff3⟩
end Go.Proofs.YtgkmlbkocgjmmaaDoor.S
namespace Go.Proofs.YtgkmlbkocgjmmaaDoor.S
open Go Go.AM
set_option maxRecDepth 100000
set_option linter.unusedVariables false
set_option linter.unusedSimpArgs false

def zerosN (n : Nat) : Nat := (119 - n % 64) % 64
def lenB (n : Nat) : List UInt8 := (List.range 8).map fun k => UInt8.ofNat ((8 * n) >>> (56 - 8 * k))
theorem lenB_length (n : Nat) : (lenB n).length = 8 := by simp [lenB]
/-- The first j bytes behind the message, up to its length. -/
def padA (j : Nat) : List UInt8 := match j with | 0 => [] | j + 1 => 128 :: List.replicate j 0
theorem padA_succ (j : Nat) : padA (j + 1) = padA j ++ [if j = 0 then 128 else 0] := by
  cases j with
  | zero => rfl
  | succ j => simp only [padA]; rw [List.replicate_succ']; simp
theorem padA_length (j : Nat) : (padA j).length = j := by cases j <;> simp [padA]
def padB (n : Nat) : List UInt8 := padA (1 + zerosN n) ++ lenB n
/-- A state's bytes. -/
def dig (S : List UInt32) : List UInt8 := (List.range 32).map fun p => UInt8.ofNat ((S.getD (p / 4) 0).toNat >>> (24 - 8 * (p % 4)))
theorem dig_length (S : List UInt32) : (dig S).length = 32 := by simp [dig]
def sumOf (s : HS) : List UInt8 := dig (zip2 beginW (s.put (padB s.n)).M)
theorem sumOf_length (s : HS) : (sumOf s).length = 32 := dig_length _

theorem zero73 : [Value.int .u32 0, .int .u32 0, .int .u32 0, .int .u32 0, .int .u32 0, .int .u32 0, .int .u32 0, .int .u32 0, .int .u8 0, .int .u8 0, .int .u8 0, .int .u8 0, .int .u8 0, .int .u8 0, .int .u8 0, .int .u8 0, .int .u8 0, .int .u8 0, .int .u8 0, .int .u8 0, .int .u8 0, .int .u8 0, .int .u8 0, .int .u8 0, .int .u8 0, .int .u8 0, .int .u8 0, .int .u8 0, .int .u8 0, .int .u8 0, .int .u8 0, .int .u8 0, .int .u8 0, .int .u8 0, .int .u8 0, .int .u8 0, .int .u8 0, .int .u8 0, .int .u8 0, .int .u8 0, .int .u8 0, .int .u8 0, .int .u8 0, .int .u8 0, .int .u8 0, .int .u8 0, .int .u8 0, .int .u8 0, .int .u8 0, .int .u8 0, .int .u8 0, .int .u8 0, .int .u8 0, .int .u8 0, .int .u8 0, .int .u8 0, .int .u8 0, .int .u8 0, .int .u8 0, .int .u8 0, .int .u8 0, .int .u8 0, .int .u8 0, .int .u8 0, .int .u8 0, .int .u8 0, .int .u8 0, .int .u8 0, .int .u8 0, .int .u8 0, .int .u8 0, .int .u8 0, .int .u64 0] = cH hs0 := rfl
theorem zero32 : [Value.int .u8 0, .int .u8 0, .int .u8 0, .int .u8 0, .int .u8 0, .int .u8 0, .int .u8 0, .int .u8 0, .int .u8 0, .int .u8 0, .int .u8 0, .int .u8 0, .int .u8 0, .int .u8 0, .int .u8 0, .int .u8 0, .int .u8 0, .int .u8 0, .int .u8 0, .int .u8 0, .int .u8 0, .int .u8 0, .int .u8 0, .int .u8 0, .int .u8 0, .int .u8 0, .int .u8 0, .int .u8 0, .int .u8 0, .int .u8 0, .int .u8 0, .int .u8 0] = (List.replicate 32 (0 : UInt8)).map byteV := rfl
theorem one_cH (s : HS) : (cH s).all oneCell = true := by simp [cH, oneCell, w32, byteV]
theorem cellsOf_cH (s : HS) : cellsOf (.agg (cH s).toArray) = some (cH s) := by
  simp only [cellsOf]; rw [if_pos (one_cH s)]
theorem put1_known (m : AMem) (d : AObj) (s : HS) (g : List AObj) (c : UInt8) (hg : Glob m) (hs : s.ok) (hn : s.n + 1 < 2 ^ 60) :
    Known Tryd.prog 3 59 [.pointer (some ⟨m.size + 1, 0, none⟩), .slice (some ⟨m.size + (g.length + 1 + 1), 0, none⟩) 1 1] (mx m (d :: .cells (cH s) 96 true .exact :: (g ++ [.cells [.int .u8 (c.toNat : Int)] 5 true .exact]))) (.tuple #[])
      (mx m (d :: .cells (cH (s.put [c])) 96 true .exact :: (g ++ [.cells [.int .u8 (c.toNat : Int)] 5 true .exact]))) := by
  have gs := hg.s
  have h := put_ok (mx m (d :: .cells (cH s) 96 true .exact :: (g ++ [.cells [.int .u8 (c.toNat : Int)] 5 true .exact]))) (m.size + 1) s (hg.old (Old.here _ _)) hs (by rw [mx_size]; simp) (by omega) (mx_new _ _ 1)
    (some ⟨m.size + (g.length + 1 + 1), 0, none⟩) 1 [c] (.inr ⟨_, _, [.int .u8 (c.toNat : Int)], 5, true, .exact, rfl, by rw [mx_size]; simp, by rw [mx_new]; simp, rfl, .inr ⟨openCap_lt (by omega), Nat.le_refl _⟩⟩)
    (fun x o hx => by cases hx; omega) hn
  have e : mx (hAt (mx m (d :: .cells (cH s) 96 true .exact :: (g ++ [.cells [.int .u8 (c.toNat : Int)] 5 true .exact]))) (m.size + 1) (s.put [c])) [] = mx m (d :: .cells (cH (s.put [c])) 96 true .exact :: (g ++ [.cells [.int .u8 (c.toNat : Int)] 5 true .exact])) := by
    simp (implicitDefEqProofs := false) (maxSteps := 1000000) (disch := first | omega | with_reducible assumption | (simp only [lenT, Nat.reduceAdd]; omega)) only [amT, cut, bnd, Nat.reduceBEq, reduceCtorEq, Nat.reduceEqDiff, Nat.reduceAdd, Nat.reduceMul, Nat.reduceSub, Int.reduceToNat, Int.reduceEq, Int.reduceLT, Int.reduceLE, Int.reduceAdd, Int.reduceSub, Int.reduceMul, reduceIte, resVs, resV, packV, initT, addr]
  rw [e] at h
  exact DetC.known h
end Go.Proofs.YtgkmlbkocgjmmaaDoor.S
namespace Go.Proofs.YtgkmlbkocgjmmaaDoor.S
open Go Go.AM
set_option maxRecDepth 100000
set_option linter.unusedVariables false
set_option linter.unusedSimpArgs false

theorem lenB_take {n k : Nat} (hk : k < 8) : (lenB n).take (k + 1) = (lenB n).take k ++ [UInt8.ofNat ((8 * n) >>> (56 - 8 * k))] := by
  rw [List.take_succ_eq_append_getElem (by rw [lenB_length]; exact hk)]; simp [lenB]
theorem u8n (x : Nat) : IntKind.u8.wrap (x : Int) = ((UInt8.ofNat x).toNat : Int) := by simp [IntKind.wrap, IntKind.bits, IntKind.signed]
theorem dig_get {S : List UInt32} (hS : S.length = 8) {i k : Nat} (hi : i < 8) (hk : k < 4) : (dig S)[4 * i + k]'(by rw [dig_length]; omega) = UInt8.ofNat ((S[i]'(by omega)).toNat >>> (24 - 8 * k)) := by
  simp only [dig, List.getElem_map, List.getElem_range]
  rw [show (4 * i + k) / 4 = i by omega, show (4 * i + k) % 4 = k by omega]
  simp [hS, hi]
theorem sumM_ok (m : AMem) (b : Nat) (s : HS) (hg : Glob m) (hs : s.ok) (hb : b < m.size) (hm : m.get b = .cells (cH s) 96 true .exact) (hn : s.n < 2 ^ 59) :
    PureC Tryd.prog 3 60 [.pointer (some ⟨b, 0, none⟩)] m (.agg ((sumOf s).map byteV).toArray) := by
  refine pure_of_W (fn := Tryd.f60) rfl rfl F60_ok (by simp [F60]) (.bytes _) ?_
  have gs := hg.s
  have h73 := cH_all hs
  have hl := cH_length hs
  have hl0 := cH_length hs0_ok
  have h72 := cH_n hs
  simp (implicitDefEqProofs := false) (maxSteps := 1000000) (disch := first | omega | with_reducible assumption | (simp only [lenT, Nat.reduceAdd]; omega)) only [amT, cut, bnd, Nat.reduceBEq, reduceCtorEq, Nat.reduceEqDiff, Nat.reduceAdd, Nat.reduceMul, Nat.reduceSub, Int.reduceToNat, Int.reduceEq, Int.reduceLT, Int.reduceLE, Int.reduceAdd, Int.reduceSub, Int.reduceMul, reduceIte, resVs, resV, packV, initT, addr, F60, eqV, Option.isNone, hm, h73, zero73, cellsOf_cH, zero32, h72]
  refine W_loop (fun N qs => ∃ (j : Nat) (g : List AObj), N = 1 + zerosN s.n - j ∧ qs.ds = [] ∧ qs.m = mx m (.cells ((List.replicate 32 (0 : UInt8)).map byteV) 52 true .exact :: .cells (cH (s.put (padA j))) 96 true .exact :: g) ∧ qs.t 2 = .pointer (some ⟨m.size, 0, none⟩) ∧ qs.t 3 = .pointer (some ⟨m.size + 1, 0, none⟩) ∧ qs.t 4 = .int .u64 (8 * s.n : Nat) ∧ qs.t 5 = .int .u8 (if j = 0 then 128 else 0) ∧ j ≤ 1 + zerosN s.n) (1 + zerosN s.n - (0)) ⟨0, [], rfl, rfl, ?qm, ?q2, ?q3, ?q4, ?q5, ?_⟩ ?_
  case qm | q2 | q3 | q4 | q5 => first | rfl | (simp (implicitDefEqProofs := false) (maxSteps := 1000000) (disch := first | omega | with_reducible assumption | (simp only [lenT, Nat.reduceAdd]; omega)) only [amT, cut, bnd, Nat.reduceBEq, reduceCtorEq, Nat.reduceEqDiff, Nat.reduceAdd, Nat.reduceMul, Nat.reduceSub, Int.reduceToNat, Int.reduceEq, Int.reduceLT, Int.reduceLE, Int.reduceAdd, Int.reduceSub, Int.reduceMul, reduceIte, resVs, resV, packV, initT, addr, padA, HS.put_nil]; first | done | rfl | (congr 1; omega))
  · omega
  · rintro N t m1 ds ⟨j, g, rfl, hds, hm, t2, t3, t4, t5, hp⟩
    simp only at hds hm t2 t3 t4 t5
    subst hds; replace hm := hm.symm; subst hm
    have hok : (s.put (padA j)).ok := HS.put_ok hs _
    have hnj : (s.put (padA j)).n = s.n + j := by rw [HS.put_n, padA_length]
    have h72j := cH_n hok
    have h73j := cH_length hok
    rw [hnj] at h72j
    have e1 : ((s.n + j : Nat) : Int).tmod 64 = (((s.n + j) % 64 : Nat) : Int) := tmod_nat _ 64
    have hz : zerosN s.n = (119 - s.n % 64) % 64 := rfl
    by_cases hj : j = 1 + zerosN s.n
    · have h56 : (((s.n + j) % 64 : Nat) : Int) = 56 := by rw [hj, hz]; omega
      have hj0 : ¬ j = 0 := by omega
      rw [if_neg hj0] at t5
      simp (implicitDefEqProofs := false) (maxSteps := 1000000) (disch := first | omega | with_reducible assumption | (simp only [lenT, Nat.reduceAdd]; omega)) only [amT, cut, bnd, Nat.reduceBEq, reduceCtorEq, Nat.reduceEqDiff, Nat.reduceAdd, Nat.reduceMul, Nat.reduceSub, Int.reduceToNat, Int.reduceEq, Int.reduceLT, Int.reduceLE, Int.reduceAdd, Int.reduceSub, Int.reduceMul, reduceIte, resVs, resV, packV, initT, addr, F60_l0, t2, t3, t4, t5, h72j, e1, h56]
      refine W_loop (fun N qs => ∃ (k : Nat) (g : List AObj), N = 8 - k ∧ qs.ds = [] ∧ qs.m = mx m (.cells ((List.replicate 32 (0 : UInt8)).map byteV) 52 true .exact :: .cells (cH (s.put (padA (1 + zerosN s.n) ++ (lenB s.n).take k))) 96 true .exact :: g) ∧ qs.t 2 = .pointer (some ⟨m.size, 0, none⟩) ∧ qs.t 3 = .pointer (some ⟨m.size + 1, 0, none⟩) ∧ qs.t 4 = .int .u64 (8 * s.n : Nat) ∧ qs.t 6 = .int .i64 (56 - 8 * (k : Int)) ∧ k ≤ 8) (8 - (0)) ⟨0, g, rfl, rfl, ?qm, ?q2, ?q3, ?q4, ?q6, ?_⟩ ?_
      case qm | q2 | q3 | q4 | q6 => first | rfl | (simp (implicitDefEqProofs := false) (maxSteps := 1000000) (disch := first | omega | with_reducible assumption | (simp only [lenT, Nat.reduceAdd]; omega)) only [amT, cut, bnd, Nat.reduceBEq, reduceCtorEq, Nat.reduceEqDiff, Nat.reduceAdd, Nat.reduceMul, Nat.reduceSub, Int.reduceToNat, Int.reduceEq, Int.reduceLT, Int.reduceLE, Int.reduceAdd, Int.reduceSub, Int.reduceMul, reduceIte, resVs, resV, packV, initT, addr, t2, t3, t4, t5, List.take_zero, List.append_nil, ← hj]; first | done | rfl | (congr 1; omega))
      · omega
      · clear t2 t3 t4 t5 h72j h73j hnj hok e1 h56 hj0 hj hp
        rintro N t m1 ds ⟨k, g, rfl, hds, hm, t2, t3, t4, t6, hp⟩
        simp only at hds hm t2 t3 t4 t6
        subst hds; replace hm := hm.symm; subst hm
        have hok : (s.put (padA (1 + zerosN s.n) ++ (lenB s.n).take k)).ok := HS.put_ok hs _
        by_cases hk : (0 : Int) ≤ 56 - 8 * (k : Int)
        · have hk8 : k < 8 := by omega
          have e2 : shr .u64 ((8 * s.n : Nat) : Int) (56 - 8 * (k : Int)) = (((8 * s.n) >>> (56 - 8 * k) : Nat) : Int) := by
            rw [show (56 : Int) - 8 * (k : Int) = ((56 - 8 * k : Nat) : Int) by omega]; exact shr_nat _ _ _ (by simp [IntKind.bits]; omega)
          have hkn := put1_known m (.cells ((List.replicate 32 (0 : UInt8)).map byteV) 52 true .exact) (s.put (padA (1 + zerosN s.n) ++ (lenB s.n).take k)) g (UInt8.ofNat ((8 * s.n) >>> (56 - 8 * k))) hg hok
            (by rw [HS.put_n, List.length_append, padA_length, List.length_take, lenB_length]; omega)
          have hpa : (s.put (padA (1 + zerosN s.n) ++ (lenB s.n).take k)).put [UInt8.ofNat ((8 * s.n) >>> (56 - 8 * k))] = s.put (padA (1 + zerosN s.n) ++ (lenB s.n).take (k + 1)) := by
            rw [lenB_take hk8, ← List.append_assoc, HS.put_append _ _ [_]]
          rw [hpa] at hkn
          simp (implicitDefEqProofs := false) (maxSteps := 1000000) (disch := first | omega | with_reducible assumption | (simp only [lenT, Nat.reduceAdd]; omega)) only [amT, cut, bnd, Nat.reduceBEq, reduceCtorEq, Nat.reduceEqDiff, Nat.reduceAdd, Nat.reduceMul, Nat.reduceSub, Int.reduceToNat, Int.reduceEq, Int.reduceLT, Int.reduceLE, Int.reduceAdd, Int.reduceSub, Int.reduceMul, reduceIte, resVs, resV, packV, initT, addr, F60_l1, t2, t3, t4, t6, hk, e2, u8n, hkn]
          repeat refine OrW.go ?_
          rw [LoopK_normal]; refine ⟨_, ?_, k + 1, g ++ [.cells [.int .u8 ((UInt8.ofNat ((8 * s.n) >>> (56 - 8 * k))).toNat : Int)] 5 true .exact], rfl, rfl, ?qm, ?q2, ?q3, ?q4, ?q6, ?_⟩
          case qm | q2 | q3 | q4 | q6 => first | rfl | (simp (implicitDefEqProofs := false) (maxSteps := 1000000) (disch := first | omega | with_reducible assumption | (simp only [lenT, Nat.reduceAdd]; omega)) only [amT, cut, bnd, Nat.reduceBEq, reduceCtorEq, Nat.reduceEqDiff, Nat.reduceAdd, Nat.reduceMul, Nat.reduceSub, Int.reduceToNat, Int.reduceEq, Int.reduceLT, Int.reduceLE, Int.reduceAdd, Int.reduceSub, Int.reduceMul, reduceIte, resVs, resV, packV, initT, addr, t2, t3, t4, t6]; first | done | rfl | (congr 1; omega))
          · omega
          · omega
        · have hk8 : k = 8 := by omega
          subst hk8
          have hpb : padA (1 + zerosN s.n) ++ (lenB s.n).take 8 = padB s.n := by rw [List.take_of_length_le (by rw [lenB_length]; omega)]; rfl
          rw [hpb] at hok
          generalize hS : zip2 beginW (s.put (padB s.n)).M = S at *
          have hS8 : S.length = 8 := by rw [← hS]; exact zip2_length rfl hok.1
          have hsum : sumOf s = dig S := by rw [sumOf, hS]
          have hst := @kState (mx m (.cells ((List.replicate 32 (0 : UInt8)).map byteV) 52 true .exact :: .cells (cH (s.put (padB s.n))) 96 true .exact :: g)) (m.size + 1) (s.put (padB s.n)) (hg.old (Old.here _ _)) hok (by rw [mx_size]; simp) (mx_new _ _ 1)
          rw [hS] at hst
          simp (implicitDefEqProofs := false) (maxSteps := 1000000) (disch := first | omega | with_reducible assumption | (simp only [lenT, Nat.reduceAdd]; omega)) only [amT, cut, bnd, Nat.reduceBEq, reduceCtorEq, Nat.reduceEqDiff, Nat.reduceAdd, Nat.reduceMul, Nat.reduceSub, Int.reduceToNat, Int.reduceEq, Int.reduceLT, Int.reduceLE, Int.reduceAdd, Int.reduceSub, Int.reduceMul, reduceIte, resVs, resV, packV, initT, addr, F60_l1, t2, t3, t4, t6, hk, hpb, hst]
          repeat refine OrW.go ?_
          refine W_loop (fun N qs => ∃ (i : Nat), N = 8 - i ∧ qs.ds = [] ∧ qs.m = mx m (.cells ((mix (4 * i) (dig S) (List.replicate 32 (0 : UInt8))).map byteV) 52 true .exact :: .cells (cH (s.put (padB s.n))) 96 true .exact :: g) ∧ qs.t 2 = .pointer (some ⟨m.size, 0, none⟩) ∧ qs.t 40 = .agg (S.map w32).toArray ∧ qs.t 41 = .int .i64 i ∧ i ≤ 8) (8 - (0)) ⟨0, rfl, rfl, ?qm, ?q2, ?q40, ?q41, ?_⟩ ?_
          case qm | q2 | q40 | q41 => first | rfl | (simp (implicitDefEqProofs := false) (maxSteps := 1000000) (disch := first | omega | with_reducible assumption | (simp only [lenT, Nat.reduceAdd]; omega)) only [amT, cut, bnd, Nat.reduceBEq, reduceCtorEq, Nat.reduceEqDiff, Nat.reduceAdd, Nat.reduceMul, Nat.reduceSub, Int.reduceToNat, Int.reduceEq, Int.reduceLT, Int.reduceLE, Int.reduceAdd, Int.reduceSub, Int.reduceMul, reduceIte, resVs, resV, packV, initT, addr, mix_zero, t2, t3, t4, t6]; first | done | rfl | (congr 1; omega))
          · omega
          · clear t2 t3 t4 t6 hk hp hst
            rintro N t m1 ds ⟨i, rfl, hds, hm, t2, t40, t41, hp⟩
            simp only at hds hm t2 t40 t41
            subst hds; replace hm := hm.symm; subst hm
            by_cases hi : (i : Int) < 8
            · have hi8 : i < 8 := by omega
              obtain ⟨x, hx⟩ : ∃ x, x = S[i]'(by omega) := ⟨_, rfl⟩
              simp (implicitDefEqProofs := false) (maxSteps := 1000000) (disch := first | omega | with_reducible assumption | (simp only [lenT, Nat.reduceAdd]; omega)) only [amT, cut, bnd, Nat.reduceBEq, reduceCtorEq, Nat.reduceEqDiff, Nat.reduceAdd, Nat.reduceMul, Nat.reduceSub, Int.reduceToNat, Int.reduceEq, Int.reduceLT, Int.reduceLE, Int.reduceAdd, Int.reduceSub, Int.reduceMul, reduceIte, resVs, resV, packV, initT, addr, F60_l2, t2, t40, t41, hi, ws_get, ← hx]
              refine W_loop (fun N qs => ∃ (k : Nat), N = 4 - k ∧ qs.ds = [] ∧ qs.m = mx m (.cells ((mix (4 * i + k) (dig S) (List.replicate 32 (0 : UInt8))).map byteV) 52 true .exact :: .cells (cH (s.put (padB s.n))) 96 true .exact :: g) ∧ qs.t 2 = .pointer (some ⟨m.size, 0, none⟩) ∧ qs.t 7 = .int .i64 i ∧ qs.t 8 = .int .u32 (x.toNat : Int) ∧ qs.t 40 = .agg (S.map w32).toArray ∧ qs.t 41 = .int .i64 i ∧ qs.t 45 = .int .i64 k ∧ k ≤ 4) (4 - (0)) ⟨0, rfl, rfl, ?qm, ?q2, ?q7, ?q8, ?q40, ?q41, ?q45, ?_⟩ ?_
              case qm | q2 | q7 | q8 | q40 | q41 | q45 => first | rfl | (simp (implicitDefEqProofs := false) (maxSteps := 1000000) (disch := first | omega | with_reducible assumption | (simp only [lenT, Nat.reduceAdd]; omega)) only [amT, cut, bnd, Nat.reduceBEq, reduceCtorEq, Nat.reduceEqDiff, Nat.reduceAdd, Nat.reduceMul, Nat.reduceSub, Int.reduceToNat, Int.reduceEq, Int.reduceLT, Int.reduceLE, Int.reduceAdd, Int.reduceSub, Int.reduceMul, reduceIte, resVs, resV, packV, initT, addr, t2, t40, t41, w32_def]; first | done | rfl | (congr 1; omega))
              · omega
              · clear t2 t40 t41
                rintro N t m1 ds ⟨k, rfl, hds, hm, t2, t7, t8, t40, t41, t45, hp⟩
                simp only at hds hm t2 t7 t8 t40 t41 t45
                subst hds; replace hm := hm.symm; subst hm
                have hml : (mix (4 * i + k) (dig S) (List.replicate 32 (0 : UInt8))).length = 32 := by rw [mix_length (by rw [dig_length]; rfl)]; rfl
                by_cases hk : (k : Int) < 4
                · have hk4 : k < 4 := by omega
                  have e1 : (4 : Int) * (i : Int) + (k : Int) = ((4 * i + k : Nat) : Int) := by omega
                  have e2 : shr .u32 (x.toNat : Int) (24 - 8 * (k : Int)) = ((x.toNat >>> (24 - 8 * k) : Nat) : Int) := by
                    rw [show (24 : Int) - 8 * (k : Int) = ((24 - 8 * k : Nat) : Int) by omega]; exact shr_nat _ _ _ (by simp [IntKind.bits]; omega)
                  have e3 := mix_set (k := 4 * i + k) (X := dig S) (B := List.replicate 32 (0 : UInt8)) (by rw [dig_length]; rfl) (by rw [dig_length]; omega)
                  rw [dig_get hS8 hi8 hk4, ← hx] at e3
                  have e4 := map_set_byte (mix (4 * i + k) (dig S) (List.replicate 32 (0 : UInt8))) (4 * i + k) (UInt8.ofNat (x.toNat >>> (24 - 8 * k)))
                  rw [e3, byteV_def] at e4
                  simp (implicitDefEqProofs := false) (maxSteps := 1000000) (disch := first | omega | with_reducible assumption | (simp only [lenT, Nat.reduceAdd]; omega)) only [amT, cut, bnd, Nat.reduceBEq, reduceCtorEq, Nat.reduceEqDiff, Nat.reduceAdd, Nat.reduceMul, Nat.reduceSub, Int.reduceToNat, Int.reduceEq, Int.reduceLT, Int.reduceLE, Int.reduceAdd, Int.reduceSub, Int.reduceMul, reduceIte, resVs, resV, packV, initT, addr, F60_l3, t2, t7, t8, t40, t41, t45, hk, e1, e2, u8n, e4]
                  rw [LoopK_normal]; refine ⟨_, ?_, k + 1, rfl, rfl, ?qm, ?q2, ?q7, ?q8, ?q40, ?q41, ?q45, ?_⟩
                  case qm | q2 | q7 | q8 | q40 | q41 | q45 => first | rfl | (simp (implicitDefEqProofs := false) (maxSteps := 1000000) (disch := first | omega | with_reducible assumption | (simp only [lenT, Nat.reduceAdd]; omega)) only [amT, cut, bnd, Nat.reduceBEq, reduceCtorEq, Nat.reduceEqDiff, Nat.reduceAdd, Nat.reduceMul, Nat.reduceSub, Int.reduceToNat, Int.reduceEq, Int.reduceLT, Int.reduceLE, Int.reduceAdd, Int.reduceSub, Int.reduceMul, reduceIte, resVs, resV, packV, initT, addr, t2, t7, t8, t40, t41, t45]; first | done | rfl | (congr 1; omega))
                  · omega
                  · omega
                · have hk4 : k = 4 := by omega
                  subst hk4
                  simp (implicitDefEqProofs := false) (maxSteps := 1000000) (disch := first | omega | with_reducible assumption | (simp only [lenT, Nat.reduceAdd]; omega)) only [amT, cut, bnd, Nat.reduceBEq, reduceCtorEq, Nat.reduceEqDiff, Nat.reduceAdd, Nat.reduceMul, Nat.reduceSub, Int.reduceToNat, Int.reduceEq, Int.reduceLT, Int.reduceLE, Int.reduceAdd, Int.reduceSub, Int.reduceMul, reduceIte, resVs, resV, packV, initT, addr, F60_l3, t2, t7, t8, t40, t41, t45, hk]
                  rw [LoopK_normal]; refine ⟨_, ?_, i + 1, rfl, rfl, ?qm, ?q2, ?q40, ?q41, ?_⟩
                  case qm | q2 | q40 | q41 => first | rfl | (simp (implicitDefEqProofs := false) (maxSteps := 1000000) (disch := first | omega | with_reducible assumption | (simp only [lenT, Nat.reduceAdd]; omega)) only [amT, cut, bnd, Nat.reduceBEq, reduceCtorEq, Nat.reduceEqDiff, Nat.reduceAdd, Nat.reduceMul, Nat.reduceSub, Int.reduceToNat, Int.reduceEq, Int.reduceLT, Int.reduceLE, Int.reduceAdd, Int.reduceSub, Int.reduceMul, reduceIte, resVs, resV, packV, initT, addr, t2, t7, t8, t40, t41, t45]; first | done | rfl | (congr 1; omega))
                  · omega
                  · omega
            · have hi8 : i = 8 := by omega
              subst hi8
              have hmx := mix_all (k := 32) (X := dig S) (B := List.replicate 32 (0 : UInt8)) (dig_length _) rfl
              have hdl := dig_length S
              simp (implicitDefEqProofs := false) (maxSteps := 1000000) (disch := first | omega | with_reducible assumption | (simp only [lenT, Nat.reduceAdd]; omega)) only [amT, cut, bnd, Nat.reduceBEq, reduceCtorEq, Nat.reduceEqDiff, Nat.reduceAdd, Nat.reduceMul, Nat.reduceSub, Int.reduceToNat, Int.reduceEq, Int.reduceLT, Int.reduceLE, Int.reduceAdd, Int.reduceSub, Int.reduceMul, reduceIte, resVs, resV, packV, initT, addr, F60_l2, t2, t40, t41, hmx, cutL_all, hsum]
    · have hk := put1_known m (.cells ((List.replicate 32 (0 : UInt8)).map byteV) 52 true .exact) (s.put (padA j)) g (if j = 0 then 128 else 0) hg hok (by omega)
      have hpa : (s.put (padA j)).put [if j = 0 then 128 else 0] = s.put (padA (j + 1)) := by rw [padA_succ, HS.put_append]
      rw [hpa] at hk
      by_cases hj0 : j = 0
      · subst hj0
        simp only [if_true] at hk t5
        have h8 : ((128 : UInt8).toNat : Int) = 128 := rfl
        rw [h8] at hk
        rw [Nat.add_zero] at e1 h72j
        by_cases h56 : ((s.n % 64 : Nat) : Int) = 56
        · simp (implicitDefEqProofs := false) (maxSteps := 1000000) (disch := first | omega | with_reducible assumption | (simp only [lenT, Nat.reduceAdd]; omega)) only [amT, cut, bnd, Nat.reduceBEq, reduceCtorEq, Nat.reduceEqDiff, Nat.reduceAdd, Nat.reduceMul, Nat.reduceSub, Int.reduceToNat, Int.reduceEq, Int.reduceLT, Int.reduceLE, Int.reduceAdd, Int.reduceSub, Int.reduceMul, reduceIte, resVs, resV, packV, initT, addr, F60_l0, t2, t3, t4, t5, h72j, e1, h56, hk]
          repeat refine OrW.go ?_
          rw [LoopK_normal]; refine ⟨_, ?_, 0 + 1, g ++ [.cells [.int .u8 128] 5 true .exact], rfl, rfl, ?qm, ?q2, ?q3, ?q4, ?q5, ?_⟩
          case qm | q2 | q3 | q4 | q5 => first | rfl | (simp (implicitDefEqProofs := false) (maxSteps := 1000000) (disch := first | omega | with_reducible assumption | (simp only [lenT, Nat.reduceAdd]; omega)) only [amT, cut, bnd, Nat.reduceBEq, reduceCtorEq, Nat.reduceEqDiff, Nat.reduceAdd, Nat.reduceMul, Nat.reduceSub, Int.reduceToNat, Int.reduceEq, Int.reduceLT, Int.reduceLE, Int.reduceAdd, Int.reduceSub, Int.reduceMul, reduceIte, resVs, resV, packV, initT, addr, t2, t3, t4, t5]; first | done | rfl | (congr 1; omega))
          · omega
          · omega
        · simp (implicitDefEqProofs := false) (maxSteps := 1000000) (disch := first | omega | with_reducible assumption | (simp only [lenT, Nat.reduceAdd]; omega)) only [amT, cut, bnd, Nat.reduceBEq, reduceCtorEq, Nat.reduceEqDiff, Nat.reduceAdd, Nat.reduceMul, Nat.reduceSub, Int.reduceToNat, Int.reduceEq, Int.reduceLT, Int.reduceLE, Int.reduceAdd, Int.reduceSub, Int.reduceMul, reduceIte, resVs, resV, packV, initT, addr, F60_l0, t2, t3, t4, t5, h72j, e1, h56, hk]
          repeat refine OrW.go ?_
          rw [LoopK_normal]; refine ⟨_, ?_, 0 + 1, g ++ [.cells [.int .u8 128] 5 true .exact], rfl, rfl, ?qm, ?q2, ?q3, ?q4, ?q5, ?_⟩
          case qm | q2 | q3 | q4 | q5 => first | rfl | (simp (implicitDefEqProofs := false) (maxSteps := 1000000) (disch := first | omega | with_reducible assumption | (simp only [lenT, Nat.reduceAdd]; omega)) only [amT, cut, bnd, Nat.reduceBEq, reduceCtorEq, Nat.reduceEqDiff, Nat.reduceAdd, Nat.reduceMul, Nat.reduceSub, Int.reduceToNat, Int.reduceEq, Int.reduceLT, Int.reduceLE, Int.reduceAdd, Int.reduceSub, Int.reduceMul, reduceIte, resVs, resV, packV, initT, addr, t2, t3, t4, t5]; first | done | rfl | (congr 1; omega))
          · omega
          · omega
      · have h56 : ¬ (((s.n + j) % 64 : Nat) : Int) = 56 := by omega
        simp only [if_neg hj0] at hk t5
        have h8 : ((0 : UInt8).toNat : Int) = 0 := rfl
        rw [h8] at hk
        simp (implicitDefEqProofs := false) (maxSteps := 1000000) (disch := first | omega | with_reducible assumption | (simp only [lenT, Nat.reduceAdd]; omega)) only [amT, cut, bnd, Nat.reduceBEq, reduceCtorEq, Nat.reduceEqDiff, Nat.reduceAdd, Nat.reduceMul, Nat.reduceSub, Int.reduceToNat, Int.reduceEq, Int.reduceLT, Int.reduceLE, Int.reduceAdd, Int.reduceSub, Int.reduceMul, reduceIte, resVs, resV, packV, initT, addr, F60_l0, t2, t3, t4, t5, h72j, e1, h56, hk]
        repeat refine OrW.go ?_
        rw [LoopK_normal]; refine ⟨_, ?_, j + 1, g ++ [.cells [.int .u8 0] 5 true .exact], rfl, rfl, ?qm, ?q2, ?q3, ?q4, ?q5, ?_⟩
        case qm | q2 | q3 | q4 | q5 => first | rfl | (simp (implicitDefEqProofs := false) (maxSteps := 1000000) (disch := first | omega | with_reducible assumption | (simp only [lenT, Nat.reduceAdd]; omega)) only [amT, cut, bnd, Nat.reduceBEq, reduceCtorEq, Nat.reduceEqDiff, Nat.reduceAdd, Nat.reduceMul, Nat.reduceSub, Int.reduceToNat, Int.reduceEq, Int.reduceLT, Int.reduceLE, Int.reduceAdd, Int.reduceSub, Int.reduceMul, reduceIte, resVs, resV, packV, initT, addr, t2, t3, t4, t5]; first | done | rfl | (congr 1; omega))
        · omega
        · omega
end Go.Proofs.YtgkmlbkocgjmmaaDoor.S
namespace Go.Proofs.YtgkmlbkocgjmmaaDoor.S
open Go Go.AM
set_option maxRecDepth 100000
set_option linter.unusedVariables false
set_option linter.unusedSimpArgs false

/-! sha.Sum -/
def shaR (l : List UInt8) : List UInt8 := sumOf (hs0.put l)
theorem shaR_length (l : List UInt8) : (shaR l).length = 32 := sumOf_length _
theorem sum_ok (m : AMem) (a : Option Addr) (cap : Nat) (c : List UInt8) (hg : Glob m) (hc : BSl m a cap c) (hn : c.length < 2 ^ 58) :
    PureC Tryd.prog 3 35 [.slice a c.length cap] m (.agg ((shaR c).map byteV).toArray) := by
  refine pure_of_W (fn := Tryd.f35) rfl rfl F35_ok (by simp [F35]) (.bytes _) ?_
  have gs := hg.s
  have h1 := DetC.known (put_ok (mx m [.cells ((List.replicate 32 (0 : UInt8)).map byteV) 52 true .exact, .cells (cH hs0) 96 true .exact]) (m.size + 1) hs0 (hg.old (Old.here _ _)) hs0_ok (by rw [mx_size]; simp) (by omega) (mx_new _ _ 1) a cap c (hc.old (Old.here _ _)) (hc.off (by omega)) (by simp [hs0]; omega))
  have hok : (hs0.put c).ok := HS.put_ok hs0_ok _
  have h2 := DetC.known (sumM_ok (mx m [.cells ((List.replicate 32 (0 : UInt8)).map byteV) 52 true .exact, .cells (cH (hs0.put c)) 96 true .exact]) (m.size + 1) (hs0.put c) (hg.old (Old.here _ _)) hok (by rw [mx_size]; simp) (mx_new _ _ 1) (by rw [HS.put_n]; simp [hs0]; omega))
  have hl := sumOf_length (hs0.put c)
  simp (implicitDefEqProofs := false) (maxSteps := 1000000) (disch := first | omega | with_reducible assumption | (simp only [lenT, Nat.reduceAdd]; omega)) only [amT, cut, bnd, Nat.reduceBEq, reduceCtorEq, Nat.reduceEqDiff, Nat.reduceAdd, Nat.reduceMul, Nat.reduceSub, Int.reduceToNat, Int.reduceEq, Int.reduceLT, Int.reduceLE, Int.reduceAdd, Int.reduceSub, Int.reduceMul, reduceIte, resVs, resV, packV, initT, addr, F35, zero73, zero32, h1, h2, cutL_all]
  repeat refine OrW.go ?_
  rfl

/-! The reference. -/
end Go.Proofs.YtgkmlbkocgjmmaaDoor.S
namespace Go.Proofs.YtgkmlbkocgjmmaaDoor
open Go Go.AM
set_option linter.unusedVariables false
set_option linter.unusedSimpArgs false
set_option maxHeartbeats 2000000
set_option maxRecDepth 100000

/-- A derivation's name. -/
def dnameR (d : DrvR) : List UInt8 × Int := if rightR d = true then N.nameR (S.shaR (putB d)) (d.name ++ [46, 100, 114, 118]) else ([], 2)
theorem putB_len {d : DrvR} (hd : d.ok) (hr : rightR d = true) : (putB d).length ≤ 10000000 := by
  obtain ⟨f1, f2, f3⟩ := right_few hr
  have := insB_len hd.inputs d.inputs.length (Nat.le_refl _)
  simp only [putB, List.length_append, textB_len, numB_len, headB, List.length_cons, List.length_nil]; omega
theorem dname_ok (m : AMem) (d : DrvR) (a : Option Addr) (c : Nat) (hg : S.Glob m) (hd : d.ok) (ha : StrR m a d.inputs) :
    RelC Tryd.prog 3 14 [.agg (dRow d a c).toArray] m fun r m' => r = .tuple #[.string ⟨(dnameR d).1.toArray⟩, .int .i64 (dnameR d).2] ∧ Old m m' := by
  refine rel_of_W (fn := Tryd.f14) rfl rfl F14_ok (by simp [F14]) ?_
  have hp := put_ok (mx m [.cells (dRow d a c) 24 true .exact]) d a c hd (ha.old (Old.here _ _))
  have hgS := hg.s
  simp only [dRow] at hp
  repeat first | simp (implicitDefEqProofs := false) (maxSteps := 1000000) (disch := first | omega | with_reducible assumption | (simp only [lenT, Nat.reduceAdd]; omega)) only [amT, cut, bnd, Nat.reduceBEq, reduceCtorEq, Nat.reduceEqDiff, Nat.reduceAdd, Nat.reduceMul, Nat.reduceSub, Int.reduceToNat, Int.reduceEq, Int.reduceLT, Int.reduceLE, Int.reduceAdd, Int.reduceSub, Int.reduceMul, reduceIte, resVs, resV, packV, initT, addr, F14, dRow, cellsOf_dRow, cutL3] | refine OrW.go ?_
  refine RelC.call hp ?_
  rintro r M1 ⟨hO, hr⟩
  have hOm : Old m M1 := (Old.here m _).trans hO
  have hz := hO.1
  rw [mx_size] at hz
  simp only [List.length_cons, List.length_nil, Nat.zero_add] at hz
  have hb : M1.get m.size = .cells [.string ⟨d.name.toArray⟩, .slice a d.inputs.length c, .string ⟨d.recipe.toArray⟩] 24 true .exact := by rw [hO.2 _ (by rw [mx_size]; simp)]; exact mx_new0 _ _
  cases hri : rightR d with
  | false =>
    rw [hri] at hr
    simp only [Bool.false_eq_true, if_false] at hr
    subst hr
    have e : dnameR d = ([], 2) := by simp [dnameR, hri]
    rw [e]
    repeat first | simp (implicitDefEqProofs := false) (maxSteps := 1000000) (disch := first | omega | with_reducible assumption | (simp only [lenT, Nat.reduceAdd]; omega)) only [amT, cut, bnd, Nat.reduceBEq, reduceCtorEq, Nat.reduceEqDiff, Nat.reduceAdd, Nat.reduceMul, Nat.reduceSub, Int.reduceToNat, Int.reduceEq, Int.reduceLT, Int.reduceLE, Int.reduceAdd, Int.reduceSub, Int.reduceMul, reduceIte, resVs, resV, packV, initT, addr] | refine OrW.go ?_
    exact ⟨_, rfl, fun _ => ⟨rfl, hOm.mx []⟩⟩
  | true =>
    rw [hri] at hr
    simp only [if_true] at hr
    obtain ⟨a', c', rfl, hB⟩ := hr
    have e : dnameR d = N.nameR (S.shaR (putB d)) (d.name ++ [46, 100, 114, 118]) := by simp [dnameR, hri]
    rw [e]
    have hl := putB_len hd hri
    have hn := (right_few hri).1
    have k35 := DetC.known (S.sum_ok (mx M1 []) a' c' (putB d) ((hg.old hOm).old (Old.here _ [])) (hB.old (Old.here _ [])) (by omega))
    have k34 := @N.kName (mx M1 []) (d.name ++ [46, 100, 114, 118]) (S.shaR (putB d)) (S.shaR_length _) (by rw [List.length_append]; simp; omega)
    repeat first | simp (implicitDefEqProofs := false) (maxSteps := 1000000) (disch := first | omega | with_reducible assumption | (simp only [lenT, Nat.reduceAdd]; omega)) only [amT, cut, bnd, Nat.reduceBEq, reduceCtorEq, Nat.reduceEqDiff, Nat.reduceAdd, Nat.reduceMul, Nat.reduceSub, Int.reduceToNat, Int.reduceEq, Int.reduceLT, Int.reduceLE, Int.reduceAdd, Int.reduceSub, Int.reduceMul, reduceIte, resVs, resV, packV, initT, addr, hb, k35, k34] | refine OrW.go ?_
    exact ⟨_, rfl, fun _ => ⟨rfl, hOm.mx []⟩⟩
end Go.Proofs.YtgkmlbkocgjmmaaDoor
namespace Go.Proofs.YtgkmlbkocgjmmaaDoor
open Go Go.AM
set_option linter.unusedVariables false
set_option linter.unusedSimpArgs false
set_option maxHeartbeats 2000000
set_option maxRecDepth 100000

theorem cut_one {X : List Value} {o : Nat} {v : Value} (h : X[o]? = some v) : cutL X o 1 = some [v] := by
  obtain ⟨ho, h⟩ := List.getElem?_eq_some_iff.1 h
  unfold cutL
  rw [if_pos (by omega), List.drop_eq_getElem_cons ho, h]; rfl
theorem strR_at (M : AMem) (l : List AObj) (k : Nat) {ls : List (List UInt8)} {X : List Value} {e : TypeId} {w : Bool} {sp : Spare} (h : l[k]? = some (.cells X e w sp)) (hX : X.take ls.length = ls.map sV) : StrR (mx M l) (some ⟨M.size + k, 0, none⟩) ls := fun i hi => by
  have hk : k < l.length := (List.getElem?_eq_some_iff.1 h).1
  have hg : (mx M l).get (M.size + k) = .cells X e w sp := by rw [mx_new]; simp [List.getD, h]
  refine ⟨_, _, rfl, by rw [mx_size]; omega, ?_⟩
  rw [hg, rdO_cells, Nat.zero_add]
  refine cut_one ?_
  have h1 : (X.take ls.length)[i]? = (ls.map sV)[i]? := by rw [hX]
  rw [List.getElem?_take, if_pos hi] at h1
  rw [h1]; simp [hi, sV]
theorem src_at (M : AMem) (l : List AObj) (k : Nat) {ls : List (List UInt8)} {e : TypeId} {w : Bool} {sp : Spare} (h : l[k]? = some (.cells (ls.map sV) e w sp)) : Src (mx M l) (some ⟨M.size + k, 0, none⟩) ls := by
  have hk : k < l.length := (List.getElem?_eq_some_iff.1 h).1
  have hg : (mx M l).get (M.size + k) = .cells (ls.map sV) e w sp := by rw [mx_new]; simp [List.getD, h]
  exact .inr ⟨_, _, rfl, by rw [mx_size]; omega, by rw [hg, rdO_cells]; exact cutL_all (by simp)⟩
theorem intR_at (M : AMem) (l : List AObj) (k : Nat) {ls : List Nat} {e : TypeId} {w : Bool} {sp : Spare} (h : l[k]? = some (.cells (ls.map iV) e w sp)) : IntR (mx M l) (some ⟨M.size + k, 0, none⟩) ls := by
  have hk : k < l.length := (List.getElem?_eq_some_iff.1 h).1
  have hg : (mx M l).get (M.size + k) = .cells (ls.map iV) e w sp := by rw [mx_new]; simp [List.getD, h]
  exact intR_cells (by rw [mx_size]; omega) hg
def wN : List (List UInt8) := [[97], [98], [99], [100]]
def wD : List (List (List UInt8)) := [[[98], [99]], [[99]], [], [[100]]]
def wX : DrvR := ⟨[120], [], []⟩
def wO (z : Nat) : List AObj := [.cells (wN.map sV) 9 true .exact, .cells ([[98], [99]].map sV) 9 true .exact, .cells ([[99]].map sV) 9 true .exact, .cells ([[100]].map sV) 9 true .exact,
  .cells [.slice (some ⟨z + 1, 0, none⟩) 2 2, .slice (some ⟨z + 2, 0, none⟩) 1 1, .slice none 0 0, .slice (some ⟨z + 3, 0, none⟩) 1 1] 22 true .exact]
theorem w_names (m : AMem) : StrR (mx m (wO m.size)) (some ⟨m.size, 0, none⟩) wN := strR_at m (wO m.size) 0 rfl rfl
theorem w_names3 (m : AMem) : StrR (mx m (wO m.size)) (some ⟨m.size, 0, none⟩) (wN.take 3) := strR_at m (wO m.size) 0 rfl rfl
theorem w_needs (m : AMem) : NeedsR (mx m (wO m.size)) (some ⟨m.size + 4, 0, none⟩) wD := fun i hi => by
  have hl : m.size + 4 < (mx m (wO m.size)).size := by rw [mx_size]; simp [wO]
  have hg := mx_new m (wO m.size) 4
  have r1 := src_at m (wO m.size) 1 (ls := [[98], [99]]) rfl
  have r2 := src_at m (wO m.size) 2 (ls := [[99]]) rfl
  have r3 := src_at m (wO m.size) 3 (ls := [[100]]) rfl
  match i, hi with
  | 0, _ => exact ⟨_, _, some ⟨m.size + 1, 0, none⟩, 2, rfl, hl, by rw [hg]; rfl, r1, by simp [wD]⟩
  | 1, _ => exact ⟨_, _, some ⟨m.size + 2, 0, none⟩, 1, rfl, hl, by rw [hg]; rfl, r2, by simp [wD]⟩
  | 2, _ => exact ⟨_, _, none, 0, rfl, hl, by rw [hg]; rfl, .inl ⟨rfl, rfl⟩, by simp [wD]⟩
  | 3, _ => exact ⟨_, _, some ⟨m.size + 3, 0, none⟩, 1, rfl, hl, by rw [hg]; rfl, r3, by simp [wD]⟩
theorem w_sort4 : sortR wN wD = ([], 240) := by decide +kernel
theorem w_sort3 : sortR (wN.take 3) wD = ([2, 1, 0], 0) := by decide +kernel
theorem w_clos1 : closR wN wD [[98]] = ([1, 2], 0) := by
  have h0 := CInv.init wN wD [[98]]
  have h1 := h0.take (k := 1) (by decide +kernel)
  have e1 : ([] : List (List UInt8)) ++ rowOf wD 1 = [[99]] := rfl
  rw [e1] at h1
  have h2 := h1.take (k := 2) (by decide +kernel)
  have e2 : ([] : List (List UInt8)) ++ rowOf wD 2 = [] := rfl
  rw [e2] at h2
  have e3 := closO_of h2
  unfold closR
  rw [if_pos (by decide +kernel), e3]; decide +kernel
theorem w_clos2 : closR wN wD [[100], [120]] = ([3], 0) := by
  have h0 := CInv.init wN wD [[100], [120]]
  have h1 := h0.take (k := 3) (by decide +kernel)
  have e1 : [[120]] ++ rowOf wD 3 = [[120], [100]] := rfl
  rw [e1] at h1
  have h2 := h1.skip fun k hk => by
    rw [show plR wN [120] = none by decide +kernel] at hk; cases hk
  have h3 := h2.skip fun k hk => by
    rw [show plR wN [100] = some 3 by decide +kernel] at hk; cases hk; decide +kernel
  have e3 := closO_of h3
  unfold closR
  rw [if_pos (by decide +kernel), e3]; decide +kernel
theorem w_right : rightR wX = true := by decide +kernel
theorem w_put : putB wX = [68, 82, 86, 49, 0, 0, 0, 1, 120, 0, 0, 0, 0, 0, 0] := by decide +kernel
theorem w_get : getR (putB wX) = (wX, 0) := by kernel_rfl
theorem w_name : (dnameR wX).2 = 0 ∧ (dnameR wX).1.length = 38 := by
  have e : dnameR wX = N.nameR (S.shaR (putB wX)) [120, 46, 100, 114, 118] := by simp only [dnameR, w_right, if_true]; rfl
  have hr : N.rightB [120, 46, 100, 114, 118] = true := by decide +kernel
  rw [e]
  simp [N.nameR, hr, N.lettersOf_length]
theorem w_ok : wX.ok := ⟨by decide, by decide, by decide, by decide⟩
theorem w_sl (a : Nat) (M : AMem) : slVv 1 (.slice (some ⟨a, 0, none⟩) 4 4) none (some (.int .i64 3)) none M = some (.slice (some ⟨a, 0, none⟩) 3 4, M) := by
  have h : ¬ (4 : Nat) = openCap := openCap_ne (by omega)
  simp only [slVv, if_neg h]; rfl
theorem w_rows : ∀ i, (rowOf wD i).length ≤ 1000
  | 0 => by simp [rowOf, wD]
  | 1 => by simp [rowOf, wD]
  | 2 => by simp [rowOf, wD]
  | 3 => by simp [rowOf, wD]
  | n + 4 => by simp [rowOf, wD, List.getD]
theorem same_w {M : AMem} {v : Value} {l : List Nat} (h : IntB M v l) (hl : l.length ≤ 100) (objs : List AObj) (k q : Nat) (hk : objs[k]? = some (.cells (l.map iV) 3 true .exact)) (hq : q = M.size + k) : Known Tryd.prog 3 24 [v, .slice (some ⟨q, 0, none⟩) l.length l.length] (mx M objs) (.bool true) (mx M objs) := by
  obtain ⟨a, c, rfl⟩ := h.len
  subst hq
  have h2 := intR_at M objs k hk
  have := DetC.known (sameInts_ok (mx M objs) a c l (h.row.old (Old.here _ _)) (some ⟨M.size + k, 0, none⟩) l.length l h2 (by omega) (by omega))
  simpa using this
theorem works_ok (m : AMem) (hg : S.Glob m) : PureC Tryd.prog 3 11 [] m (.bool true) := by
  refine pure_of_W (fn := Tryd.f11) rfl rfl F11_ok (by simp [F11]) (.bool _) ?_
  repeat first | simp (implicitDefEqProofs := false) (maxSteps := 1000000) (disch := first | omega | with_reducible assumption | (simp only [lenT, Nat.reduceAdd]; omega)) only [amT, cut, bnd, Nat.reduceBEq, reduceCtorEq, Nat.reduceEqDiff, Nat.reduceAdd, Nat.reduceMul, Nat.reduceSub, Int.reduceToNat, Int.reduceEq, Int.reduceLT, Int.reduceLE, Int.reduceAdd, Int.reduceSub, Int.reduceMul, reduceIte, resVs, resV, packV, initT, addr, F11] | refine OrW.go ?_
  refine RelC.call (sort_ok (mx m (wO m.size)) (some ⟨m.size, 0, none⟩) 4 wN (w_names m) (by decide) (some ⟨m.size + 4, 0, none⟩) 4 wD (w_needs m) (by decide)) ?_
  rintro r M1 ⟨hz1, v1, rfl, hI1⟩
  simp only [w_sort4] at hI1 ⊢
  repeat first | simp (implicitDefEqProofs := false) (maxSteps := 1000000) (disch := first | omega | with_reducible assumption | (simp only [lenT, Nat.reduceAdd]; omega)) only [amT, cut, bnd, Nat.reduceBEq, reduceCtorEq, Nat.reduceEqDiff, Nat.reduceAdd, Nat.reduceMul, Nat.reduceSub, Int.reduceToNat, Int.reduceEq, Int.reduceLT, Int.reduceLE, Int.reduceAdd, Int.reduceSub, Int.reduceMul, reduceIte, resVs, resV, packV, initT, addr, stepOp_slV_v, w_sl] | refine OrW.go ?_
  refine RelC.call (sort_ok (mx M1 []) (some ⟨m.size, 0, none⟩) 4 (wN.take 3) ((w_names3 m).old (hz1.mx [])) (by decide) (some ⟨m.size + 4, 0, none⟩) 4 wD ((w_needs m).old (hz1.mx [])) (by decide)) ?_
  rintro r M2 ⟨hO2, v2, rfl, hI2⟩
  simp only [w_sort3] at hI2 ⊢
  have hz2 : Old (mx m (wO m.size)) M2 := hz1.trans ((Old.here _ _).trans hO2)
  repeat first | simp (implicitDefEqProofs := false) (maxSteps := 1000000) (disch := first | omega | with_reducible assumption | (simp only [lenT, Nat.reduceAdd]; omega)) only [amT, cut, bnd, Nat.reduceBEq, reduceCtorEq, Nat.reduceEqDiff, Nat.reduceAdd, Nat.reduceMul, Nat.reduceSub, Int.reduceToNat, Int.reduceEq, Int.reduceLT, Int.reduceLE, Int.reduceAdd, Int.reduceSub, Int.reduceMul, reduceIte, resVs, resV, packV, initT, addr] | refine OrW.go ?_
  refine RelC.call (closure_ok (mx M2 [.cells ([[98]].map sV) 9 true .exact]) (some ⟨m.size, 0, none⟩) 4 wN ((w_names m).old (hz2.mx _)) (by decide) (some ⟨m.size + 4, 0, none⟩) 4 wD ((w_needs m).old (hz2.mx _)) (by decide) (some ⟨M2.size, 0, none⟩) 1 [[98]] (src_at M2 _ 0 rfl) (by decide) w_rows) ?_
  rintro r M3 ⟨hO3, v3, rfl, hI3⟩
  simp only [w_clos1] at hI3 ⊢
  have hy3 : Old M2 M3 := (Old.here _ _).trans hO3
  have hz3 := hz2.trans hy3
  repeat first | simp (implicitDefEqProofs := false) (maxSteps := 1000000) (disch := first | omega | with_reducible assumption | (simp only [lenT, Nat.reduceAdd]; omega)) only [amT, cut, bnd, Nat.reduceBEq, reduceCtorEq, Nat.reduceEqDiff, Nat.reduceAdd, Nat.reduceMul, Nat.reduceSub, Int.reduceToNat, Int.reduceEq, Int.reduceLT, Int.reduceLE, Int.reduceAdd, Int.reduceSub, Int.reduceMul, reduceIte, resVs, resV, packV, initT, addr] | refine OrW.go ?_
  refine RelC.call (closure_ok (mx M3 [.cells ([[100], [120]].map sV) 9 true .exact]) (some ⟨m.size, 0, none⟩) 4 wN ((w_names m).old (hz3.mx _)) (by decide) (some ⟨m.size + 4, 0, none⟩) 4 wD ((w_needs m).old (hz3.mx _)) (by decide) (some ⟨M3.size, 0, none⟩) 2 [[100], [120]] (src_at M3 _ 0 rfl) (by decide) w_rows) ?_
  rintro r M4 ⟨hO4, v4, rfl, hI4⟩
  simp only [w_clos2] at hI4 ⊢
  have hy4 : Old M3 M4 := (Old.here _ _).trans hO4
  have hz4 := hz3.trans hy4
  repeat first | simp (implicitDefEqProofs := false) (maxSteps := 1000000) (disch := first | omega | with_reducible assumption | (simp only [lenT, Nat.reduceAdd]; omega)) only [amT, cut, bnd, Nat.reduceBEq, reduceCtorEq, Nat.reduceEqDiff, Nat.reduceAdd, Nat.reduceMul, Nat.reduceSub, Int.reduceToNat, Int.reduceEq, Int.reduceLT, Int.reduceLE, Int.reduceAdd, Int.reduceSub, Int.reduceMul, reduceIte, resVs, resV, packV, initT, addr] | refine OrW.go ?_
  refine RelC.call (put_ok (mx M4 []) wX none 0 w_ok (fun i h => by cases h)) ?_
  rintro r M5 ⟨hO5, hr5⟩
  rw [w_right, if_pos rfl] at hr5
  obtain ⟨a5, c5, rfl, hB5⟩ := hr5
  have hy5 : Old M4 M5 := (Old.here _ _).trans hO5
  repeat first | simp (implicitDefEqProofs := false) (maxSteps := 1000000) (disch := first | omega | with_reducible assumption | (simp only [lenT, Nat.reduceAdd]; omega)) only [amT, cut, bnd, Nat.reduceBEq, reduceCtorEq, Nat.reduceEqDiff, Nat.reduceAdd, Nat.reduceMul, Nat.reduceSub, Int.reduceToNat, Int.reduceEq, Int.reduceLT, Int.reduceLE, Int.reduceAdd, Int.reduceSub, Int.reduceMul, reduceIte, resVs, resV, packV, initT, addr] | refine OrW.go ?_
  refine RelC.call (get_ok (mx M5 []) a5 c5 (putB wX) (hB5.old (Old.here _ _)) (by decide +kernel)) ?_
  rintro r M6 ⟨hO6, a6, c6, rfl, hS6⟩
  have hy6 : Old M5 M6 := (Old.here _ _).trans hO6
  simp only [w_get] at hS6 ⊢
  repeat first | simp (implicitDefEqProofs := false) (maxSteps := 1000000) (disch := first | omega | with_reducible assumption | (simp only [lenT, Nat.reduceAdd]; omega)) only [amT, cut, bnd, Nat.reduceBEq, reduceCtorEq, Nat.reduceEqDiff, Nat.reduceAdd, Nat.reduceMul, Nat.reduceSub, Int.reduceToNat, Int.reduceEq, Int.reduceLT, Int.reduceLE, Int.reduceAdd, Int.reduceSub, Int.reduceMul, reduceIte, resVs, resV, packV, initT, addr, dRow, cellsOf_dRow, cutL3, splice3] | refine OrW.go ?_
  have hz6 := hz4.trans (hy5.trans hy6)
  have hgm : Old m M6 := (Old.here m _).trans hz6
  refine RelC.call (dname_ok (mx M6 [.cells (dRow wX a6 c6) 24 true .exact]) wX a6 c6 (hg.old (hgm.mx _)) w_ok (hS6.old (Old.here _ _))) ?_
  rintro r M7 ⟨rfl, hO7⟩
  obtain ⟨n1, n2⟩ := w_name
  rw [n1]
  have hy7 : Old M6 M7 := (Old.here _ _).trans hO7
  have hl6 : M6.size < M7.size := by have := hO7.1; rw [mx_size] at this; simp at this; omega
  have hb6 : M7.get M6.size = .cells (dRow wX a6 c6) 24 true .exact := by rw [hO7.2 _ (by rw [mx_size]; simp)]; exact mx_new0 _ _
  simp only [dRow] at hb6
  have q2 : IntB M7 v2 [2, 1, 0] := hI2.old (hy3.trans (hy4.trans (hy5.trans (hy6.trans hy7))))
  have q3 : IntB M7 v3 [1, 2] := hI3.old (hy4.trans (hy5.trans (hy6.trans hy7)))
  have q4 : IntB M7 v4 [3] := hI4.old (hy5.trans (hy6.trans hy7))
  have s2 := same_w q2 (by decide) [.cells [.int .i64 2, .int .i64 1, .int .i64 0] 3 true .exact] 0 M7.size rfl rfl
  have s3 := same_w q3 (by decide) [.cells [.int .i64 2, .int .i64 1, .int .i64 0] 3 true .exact, .cells [.int .i64 1, .int .i64 2] 3 true .exact] 1 (M7.size + 1) rfl rfl
  have s4 := same_w q4 (by decide) [.cells [.int .i64 2, .int .i64 1, .int .i64 0] 3 true .exact, .cells [.int .i64 1, .int .i64 2] 3 true .exact, .cells [.int .i64 3] 3 true .exact] 2 (M7.size + 2) rfl rfl
  simp only [List.length_cons, List.length_nil, Nat.zero_add, Nat.reduceAdd] at s2 s3 s4
  have hS7 : StrR M7 a6 wX.inputs := (hS6.old (Old.refl _)).old hy7
  have hB7 : BSl M7 a5 c5 (putB wX) := hB5.old (hy6.trans hy7)
  have hstr := (hB7.old (Old.here M7 [.cells [.int .i64 2, .int .i64 1, .int .i64 0] 3 true .exact, .cells [.int .i64 1, .int .i64 2] 3 true .exact, .cells [.int .i64 3] 3 true .exact])).str
  have e1 : strEq ⟨(putB wX).toArray⟩ ⟨[68, 82, 86, 49, 0, 0, 0, 1, 120, 0, 0, 0, 0, 0, 0].toArray⟩ = true := by rw [w_put]; exact strEq_self _
  have e2 : strEq ⟨wX.name.toArray⟩ ⟨[120].toArray⟩ = true := strEq_self _
  have kr := DetC.known (right_ok (mx M7 [.cells [.int .i64 2, .int .i64 1, .int .i64 0] 3 true .exact, .cells [.int .i64 1, .int .i64 2] 3 true .exact, .cells [.int .i64 3] 3 true .exact]) wX a6 c6 w_ok (hS7.old (Old.here _ _)))
  rw [w_right] at kr
  simp only [dRow] at kr
  repeat first | simp (implicitDefEqProofs := false) (maxSteps := 1000000) (disch := first | omega | with_reducible assumption | (simp only [lenT, Nat.reduceAdd]; omega)) only [amT, cut, bnd, Nat.reduceBEq, reduceCtorEq, Nat.reduceEqDiff, Nat.reduceAdd, Nat.reduceMul, Nat.reduceSub, Int.reduceToNat, Int.reduceEq, Int.reduceLT, Int.reduceLE, Int.reduceAdd, Int.reduceSub, Int.reduceMul, reduceIte, resVs, resV, packV, initT, addr, s2, s3, s4, stepOp_b2s_v, hstr, e1, hb6, e2, n2, kr, cutL3] | refine OrW.go ?_
  exact (hgm.trans hy7).mx _
theorem kWorks {M : AMem} (hg : S.Glob M) (l : List AObj) : Known Tryd.prog 3 11 [] (mx M l) (.bool true) (mx M l) := DetC.known (works_ok _ (hg.old (Old.here _ _)))
end Go.Proofs.YtgkmlbkocgjmmaaDoor
namespace Go.Proofs.YtgkmlbkocgjmmaaDoor
open Go Go.AM
set_option linter.unusedVariables false
set_option linter.unusedSimpArgs false
set_option maxHeartbeats 2000000
set_option maxRecDepth 100000

def plZ (names : List (List UInt8)) (s : List UInt8) : Int := match plR names s with | some k => (k : Nat) | none => -1
theorem place_ok (m : AMem) (a : Option Addr) (c : Nat) (names : List (List UInt8)) (s : List UInt8) (ha : StrR m a names) (hl : names.length ≤ 1000000) :
    PureC Tryd.prog 3 28 [.slice a names.length c, .string ⟨s.toArray⟩] m (.int .i64 (plZ names s)) := by
  refine pure_of_W (fn := Tryd.f28) rfl rfl F28_ok (by simp [F28]) (.int _ _) ?_
  simp (implicitDefEqProofs := false) (maxSteps := 1000000) (disch := first | omega | with_reducible assumption | (simp only [lenT, Nat.reduceAdd]; omega)) only [amT, cut, bnd, Nat.reduceBEq, reduceCtorEq, Nat.reduceEqDiff, Nat.reduceAdd, Nat.reduceMul, Nat.reduceSub, Int.reduceToNat, Int.reduceEq, Int.reduceLT, Int.reduceLE, Int.reduceAdd, Int.reduceSub, Int.reduceMul, reduceIte, resVs, resV, packV, initT, addr, F28]
  refine W_loop (fun N qs => ∃ (i : Nat), N = names.length - i ∧ qs.ds = [] ∧ qs.m = mx m [] ∧ qs.t 0 = .slice a names.length c ∧ qs.t 1 = .string ⟨s.toArray⟩ ∧ qs.t 5 = .int .i64 i ∧ i ≤ names.length ∧ ∀ j (h : j < names.length), j < i → names[j] ≠ s) (names.length - (0)) ⟨0, rfl, rfl, ?qm, ?q0, ?q1, ?q5, ?_⟩ ?_
  case qm | q0 | q1 | q5 => first | rfl | (simp (implicitDefEqProofs := false) (maxSteps := 1000000) (disch := first | omega | with_reducible assumption | (simp only [lenT, Nat.reduceAdd]; omega)) only [amT, cut, bnd, Nat.reduceBEq, reduceCtorEq, Nat.reduceEqDiff, Nat.reduceAdd, Nat.reduceMul, Nat.reduceSub, Int.reduceToNat, Int.reduceEq, Int.reduceLT, Int.reduceLE, Int.reduceAdd, Int.reduceSub, Int.reduceMul, reduceIte, resVs, resV, packV, initT, addr]; first | done | rfl | (congr 1; omega))
  · exact ⟨by omega, fun j h1 h2 => by omega⟩
  · rintro N t m1 ds ⟨i, rfl, hds, hm, t0, t1, t5, hp⟩
    simp only at hds hm t0 t1 t5
    subst hds; replace hm := hm.symm; subst hm
    obtain ⟨hi, hall⟩ := hp
    by_cases g : (i : Int) < (names.length : Int)
    · have hi' : i < names.length := by omega
      obtain ⟨b, o, rfl, hb, hr⟩ := ha i hi'
      by_cases e : names[i] = s
      · have ee : plZ names s = (i : Nat) := by
          have : plR names s = some i := by unfold plR; rw [List.findIdx?_eq_some_iff_getElem]; exact ⟨hi', by simpa using e, fun j hj => by simpa using hall j (by omega) hj⟩
          simp [plZ, this]
        rw [ee]
        rw [e] at hr
        repeat first | simp (implicitDefEqProofs := false) (maxSteps := 1000000) (disch := first | omega | with_reducible assumption | (simp only [lenT, Nat.reduceAdd]; omega)) only [amT, cut, bnd, Nat.reduceBEq, reduceCtorEq, Nat.reduceEqDiff, Nat.reduceAdd, Nat.reduceMul, Nat.reduceSub, Int.reduceToNat, Int.reduceEq, Int.reduceLT, Int.reduceLE, Int.reduceAdd, Int.reduceSub, Int.reduceMul, reduceIte, resVs, resV, packV, initT, addr, F28_l0, t0, t1, t5, g, hr] | refine OrW.go ?_
      · have es : strEq ⟨names[i].toArray⟩ ⟨s.toArray⟩ = false := by rw [strEq_mk]; simp [e]
        repeat first | simp (implicitDefEqProofs := false) (maxSteps := 1000000) (disch := first | omega | with_reducible assumption | (simp only [lenT, Nat.reduceAdd]; omega)) only [amT, cut, bnd, Nat.reduceBEq, reduceCtorEq, Nat.reduceEqDiff, Nat.reduceAdd, Nat.reduceMul, Nat.reduceSub, Int.reduceToNat, Int.reduceEq, Int.reduceLT, Int.reduceLE, Int.reduceAdd, Int.reduceSub, Int.reduceMul, reduceIte, resVs, resV, packV, initT, addr, F28_l0, t0, t1, t5, g, hr, es] | refine OrW.go ?_
        rw [LoopK_normal]; refine ⟨_, ?_, i + 1, rfl, rfl, ?qm, ?q0, ?q1, ?q5, ?_⟩
        case qm | q0 | q1 | q5 => first | rfl | (simp (implicitDefEqProofs := false) (maxSteps := 1000000) (disch := first | omega | with_reducible assumption | (simp only [lenT, Nat.reduceAdd]; omega)) only [amT, cut, bnd, Nat.reduceBEq, reduceCtorEq, Nat.reduceEqDiff, Nat.reduceAdd, Nat.reduceMul, Nat.reduceSub, Int.reduceToNat, Int.reduceEq, Int.reduceLT, Int.reduceLE, Int.reduceAdd, Int.reduceSub, Int.reduceMul, reduceIte, resVs, resV, packV, initT, addr, t0, t1, t5]; first | done | rfl | (congr 1; omega))
        · omega
        · refine ⟨by omega, fun j h1 h2 => ?_⟩
          rcases Nat.lt_or_ge j i with h | h
          · exact hall j h1 h
          · obtain rfl : j = i := by omega
            exact e
    · obtain rfl : i = names.length := by omega
      have ee : plZ names s = -1 := by
        have : plR names s = none := plR_none.2 fun hm => by obtain ⟨j, hj, h⟩ := List.mem_iff_getElem.1 hm; exact hall j hj hj h
        simp [plZ, this]
      rw [ee]
      repeat first | simp (implicitDefEqProofs := false) (maxSteps := 1000000) (disch := first | omega | with_reducible assumption | (simp only [lenT, Nat.reduceAdd]; omega)) only [amT, cut, bnd, Nat.reduceBEq, reduceCtorEq, Nat.reduceEqDiff, Nat.reduceAdd, Nat.reduceMul, Nat.reduceSub, Int.reduceToNat, Int.reduceEq, Int.reduceLT, Int.reduceLE, Int.reduceAdd, Int.reduceSub, Int.reduceMul, reduceIte, resVs, resV, packV, initT, addr, F28_l0, t0, t1, t5, g] | refine OrW.go ?_
theorem plR_self {names : List (List UInt8)} (h : names.Nodup) {i : Nat} (hi : i < names.length) : plR names names[i] = some i := by
  unfold plR; rw [List.findIdx?_eq_some_iff_getElem]
  refine ⟨hi, by simp, fun j hj => ?_⟩
  have := (List.nodup_iff_pairwise_ne.1 h)
  rw [List.pairwise_iff_getElem] at this
  simpa using this j i (by omega) hi hj
def edgesR (names : List (List UInt8)) (needs : List (List (List UInt8))) (i : Nat) : List Nat := (rowOf needs i).filterMap (plR names)
end Go.Proofs.YtgkmlbkocgjmmaaDoor
namespace Go.Proofs.YtgkmlbkocgjmmaaDoor
open Go Go.AM
set_option linter.unusedVariables false
set_option linter.unusedSimpArgs false
set_option maxHeartbeats 2000000
set_option maxRecDepth 100000

theorem all_fm (names : List (List UInt8)) (done : List Bool) (out : List Nat) (hD : ∀ k, k < names.length → done.getD k false = out.contains k) (row : List (List UInt8)) :
    (row.filterMap (plR names)).all out.contains = !row.any (badDep names done) := by
  induction row with
  | nil => rfl
  | cons s row ih =>
    cases h : plR names s with
    | none =>
      rw [List.filterMap_cons_none h, ih]
      simp [List.any_cons, badDep, h]
    | some k =>
      rw [List.filterMap_cons_some h, List.all_cons, ih, List.any_cons, ← hD k (plR_lt h)]
      simp [badDep, h]
theorem ref_ready {names : List (List UInt8)} {needs : List (List (List UInt8))} {done : List Bool} {out : List Nat} (hD : ∀ k, k < names.length → done.getD k false = out.contains k) {i : Nat} (hi : i < names.length) :
    readyR names needs done i = (!out.contains i && (edgesR names needs i).all out.contains) := by
  unfold readyR edgesR
  rw [all_fm names done out hD, hD i hi]
theorem done_next {names : List (List UInt8)} {done : List Bool} {out : List Nat} (hD : ∀ k, k < names.length → done.getD k false = out.contains k) (hl : done.length = names.length) {i : Nat} (hi : i < names.length) :
    ∀ k, k < names.length → (done.set i true).getD k false = (out ++ [i]).contains k := fun k hk => by
  rw [getD_set (by omega)]
  by_cases h : k = i
  · subst h; simp
  · rw [if_neg h, hD k hk]
    rw [Bool.eq_iff_iff]; simp [h]
end Go.Proofs.YtgkmlbkocgjmmaaDoor
namespace Go.Proofs.YtgkmlbkocgjmmaaDoor
open Go Go.AM
set_option linter.unusedVariables false
set_option linter.unusedSimpArgs false
set_option maxHeartbeats 2000000
set_option maxRecDepth 100000

theorem nodup_le : ∀ (n : Nat) (l : List Nat), l.Nodup → (∀ x ∈ l, x < n) → l.length ≤ n
  | 0, [], _, _ => Nat.le_refl _
  | 0, x :: l, _, h => absurd (h x (by simp)) (by omega)
  | n + 1, l, hn, h => by
    have h1 := nodup_le n (l.erase n) (hn.erase n) fun x hx => by
      rw [hn.mem_erase_iff] at hx
      have := h x hx.2; omega
    rw [List.length_erase] at h1
    split at h1 <;> omega
theorem Reach.lt {names : List (List UInt8)} {needs : List (List (List UInt8))} {roots : List (List UInt8)} {k : Nat} (h : Reach names needs roots k) : k < names.length := by
  cases h with
  | root _ hk => exact plR_lt hk
  | step _ _ hk => exact plR_lt hk
theorem IntB.lt {M : AMem} {v : Value} {ls : List Nat} (h : IntB M v ls) {x : Nat} (hx : ownV v x) : x < M.size := by
  obtain ⟨o, l, c, rfl⟩ := hx
  rcases h with ⟨_, h⟩ | ⟨b, h, h1, _⟩
  · cases h
  · cases h; exact h1
structure GInv (names : List (List UInt8)) (needs : List (List (List UInt8))) (roots : List (List UInt8)) (got : List Nat) (r i : Nat) : Prop where
  nd : got.Nodup
  sound : ∀ k ∈ got, Reach names needs roots k
  rts : ∀ j (h : j < roots.length), j < r → ∀ k, plR names roots[j] = some k → k ∈ got
  cl : ∀ j (h : j < got.length), j < i → ∀ k ∈ edgesR names needs got[j], k ∈ got
theorem GInv.len {names : List (List UInt8)} {needs : List (List (List UInt8))} {roots : List (List UInt8)} {got : List Nat} {r i : Nat} (h : GInv names needs roots got r i) : got.length ≤ names.length :=
  nodup_le _ _ h.nd fun x hx => (h.sound x hx).lt
theorem GInv.more {names : List (List UInt8)} {needs : List (List (List UInt8))} {roots : List (List UInt8)} {got : List Nat} {r i : Nat} (h : GInv names needs roots got r i) (hi : i ≤ got.length) {k : Nat} (hk : got.contains k = false) (hr : Reach names needs roots k) : GInv names needs roots (got ++ [k]) r i := by
  have hk' : k ∉ got := fun e => by rw [← List.contains_iff_mem] at e; rw [hk] at e; cases e
  refine ⟨?_, fun x hx => ?_, fun j hj hjr x hx => List.mem_append_left _ (h.rts j hj hjr x hx), fun j hj hji x hx => ?_⟩
  · rw [List.nodup_append]
    refine ⟨h.nd, by simp, fun x hx y hy e => ?_⟩
    rw [List.mem_singleton] at hy; subst hy; subst e; exact hk' hx
  · rcases List.mem_append.1 hx with h1 | h1
    · exact h.sound x h1
    · rw [List.mem_singleton] at h1; subst h1; exact hr
  · rw [List.getElem_append_left (by omega)] at hx
    exact List.mem_append_left _ (h.cl j (by omega) hji x hx)
theorem GInv.root {names : List (List UInt8)} {needs : List (List (List UInt8))} {roots : List (List UInt8)} {got : List Nat} {r i : Nat} (h : GInv names needs roots got r i) (hr : r < roots.length) (hg : ∀ k, plR names roots[r] = some k → k ∈ got) : GInv names needs roots got (r + 1) i :=
  ⟨h.nd, h.sound, fun j hj hjr => by
    rcases Nat.lt_or_ge j r with h1 | h1
    · exact h.rts j hj h1
    · obtain rfl : j = r := by omega
      exact hg, h.cl⟩
theorem GInv.step {names : List (List UInt8)} {needs : List (List (List UInt8))} {roots : List (List UInt8)} {got : List Nat} {r i : Nat} (h : GInv names needs roots got r i) (hi : i < got.length) (hg : ∀ k ∈ edgesR names needs got[i], k ∈ got) : GInv names needs roots got r (i + 1) :=
  ⟨h.nd, h.sound, h.rts, fun j hj hji => by
    rcases Nat.lt_or_ge j i with h1 | h1
    · exact h.cl j hj h1
    · obtain rfl : j = i := by omega
      exact hg⟩
theorem GInv.done {names : List (List UInt8)} {needs : List (List (List UInt8))} {roots : List (List UInt8)} {got : List Nat} (h : GInv names needs roots got roots.length got.length) (k : Nat) : k ∈ got ↔ Reach names needs roots k := by
  refine ⟨h.sound k, fun hr => ?_⟩
  induction hr with
  | root hs hk =>
    obtain ⟨j, hj, rfl⟩ := List.mem_iff_getElem.1 hs
    exact h.rts j hj hj _ hk
  | step _ hs hk ih =>
    obtain ⟨j, hj, rfl⟩ := List.mem_iff_getElem.1 ih
    exact h.cl j hj hj _ (List.mem_filterMap.2 ⟨_, hs, hk⟩)
/-- Numbers put together, apart from what was before. -/
structure Row (m M : AMem) (a : Option Addr) (c : Nat) (l : List Nat) : Prop where
  old : Old m M
  ints : IntB M (.slice a l.length c) l
  own : ∀ x, ownV (.slice a l.length c) x → m.size ≤ x
theorem Row.app {m M : AMem} {a : Option Addr} {c : Nat} {l : List Nat} (h : Row m M a c l) (hl : l.length ≤ 1000000) (k : Nat) :
    ∃ a' c' M', appV 3 1 8 [.int .i64 0] (.slice a l.length c) (.slice (some ⟨M.size, 0, none⟩) 1 1) (mx M [.cells [.int .i64 (k : Nat)] 3 true .exact]) = some (.slice a' (l ++ [k]).length c', mx M' []) ∧ Row m M' a' c' (l ++ [k]) ∧ Keep (ownV (.slice a l.length c)) M M' ∧ ∀ x, ownV (.slice a' (l ++ [k]).length c') x → M.size ≤ x := by
  obtain ⟨v', M4, happ, hI4, hk4, ho4⟩ := (h.ints.old (Old.here M [.cells [iV k] 3 true .exact])).app (nb := M.size) (k := k) (by omega) (by rw [mx_size]; simp) (mx_new0 _ _)
  rw [mx_mx, List.append_nil] at happ
  obtain ⟨av, cv, rfl⟩ := hI4.len
  have hs4 := hk4.1
  rw [mx_size] at hs4
  have hO := h.old
  have h5 : ∀ x, ownV (.slice av (l ++ [k]).length cv) x → M.size ≤ x := fun x hx => by have := ho4 x hx; rw [mx_size] at this; omega
  have hk5 : Keep (ownV (.slice a l.length c)) M M4 := ⟨by omega, fun y hy hno => by rw [hk4.2 y (by rw [mx_size]; omega) hno, mx_old hy]⟩
  exact ⟨av, cv, M4, happ, ⟨⟨by have := hO.1; omega, fun y hy => by rw [hk5.2 y (by have := hO.1; omega) (fun e => by have := h.own y e; omega)]; exact hO.2 y hy⟩, hI4, fun x hx => by have := h5 x hx; have := hO.1; omega⟩, hk5, h5⟩
theorem Row.nil (m : AMem) : Row m m none 0 [] := ⟨Old.refl _, .inl ⟨rfl, rfl⟩, fun x ⟨o, l, c, h⟩ => by cases h⟩
theorem Row.more {m M M' : AMem} {a : Option Addr} {c : Nat} {l : List Nat} (h : Row m M a c l) (ho : Old M M') : Row m M' a c l := ⟨h.old.trans ho, h.ints.old ho, h.own⟩
end Go.Proofs.YtgkmlbkocgjmmaaDoor
namespace Go.Proofs.YtgkmlbkocgjmmaaDoor
open Go Go.AM
set_option linter.unusedVariables false
set_option linter.unusedSimpArgs false
set_option maxHeartbeats 2000000
set_option maxRecDepth 100000

/-- The place of a number in a row. -/
def pz (l : List Nat) (n : Nat) : Int := match l.findIdx? fun x => decide (x = n) with | some k => (k : Nat) | none => -1
theorem pz_none {l : List Nat} {n : Nat} (h : n ∉ l) : pz l n = -1 := by
  have : l.findIdx? (fun x => decide (x = n)) = none := by
    rw [List.findIdx?_eq_none_iff]; intro x hx; simp; rintro rfl; exact h hx
  simp [pz, this]
theorem pz_some {l : List Nat} {n k : Nat} (hk : k < l.length) (h : l[k] = n) (hn : ∀ j (hj : j < l.length), j < k → l[j] ≠ n) : pz l n = (k : Nat) := by
  have : l.findIdx? (fun x => decide (x = n)) = some k := by
    rw [List.findIdx?_eq_some_iff_getElem]; exact ⟨hk, by simpa using h, fun j hj => by simpa using hn j (by omega) hj⟩
  simp [pz, this]
theorem pz_take {l : List Nat} {n j : Nat} (h : n ∈ l.take j) : 0 ≤ pz l n ∧ pz l n < (j : Nat) := by
  obtain ⟨k, hk, e⟩ := List.mem_iff_getElem.1 h
  rw [List.length_take] at hk
  have hkl : k < l.length := by omega
  have e2 : l[k] = n := by rw [← e, List.getElem_take]
  cases hf : l.findIdx? (fun x => decide (x = n)) with
  | none =>
    rw [List.findIdx?_eq_none_iff] at hf
    have := hf _ (List.getElem_mem hkl)
    simp [e2] at this
  | some q =>
    rw [List.findIdx?_eq_some_iff_getElem] at hf
    obtain ⟨q1, q2, q3⟩ := hf
    have hqk : q ≤ k := by
      rcases Nat.lt_or_ge k q with h | h
      · have := q3 k h; simp [e2] at this
      · exact h
    have : pz l n = (q : Nat) := pz_some q1 (by simpa using q2) fun j hj hjq => by simpa using q3 j hjq
    rw [this]; omega
theorem pz_nonneg {l : List Nat} {n : Nat} : 0 ≤ pz l n ↔ n ∈ l := by
  constructor
  · intro h
    apply Classical.byContradiction
    intro hn
    rw [pz_none hn] at h; omega
  · intro h
    have : n ∈ l.take l.length := by rw [List.take_length]; exact h
    exact (pz_take this).1
theorem pz_at {l : List Nat} (h : l.Nodup) {j : Nat} (hj : j < l.length) : pz l l[j] = (j : Nat) := by
  refine pz_some hj rfl fun i hi hij => ?_
  have := List.nodup_iff_pairwise_ne.1 h
  rw [List.pairwise_iff_getElem] at this
  exact this i j hi hj hij
theorem placeInt_ok (m : AMem) (a : Option Addr) (c : Nat) (l : List Nat) (n : Nat) (ha : IntR m a l) (hl : l.length ≤ 1000000) :
    PureC Tryd.prog 3 29 [.slice a l.length c, .int .i64 n] m (.int .i64 (pz l n)) := by
  refine pure_of_W (fn := Tryd.f29) rfl rfl F29_ok (by simp [F29]) (.int _ _) ?_
  simp (implicitDefEqProofs := false) (maxSteps := 1000000) (disch := first | omega | with_reducible assumption | (simp only [lenT, Nat.reduceAdd]; omega)) only [amT, cut, bnd, Nat.reduceBEq, reduceCtorEq, Nat.reduceEqDiff, Nat.reduceAdd, Nat.reduceMul, Nat.reduceSub, Int.reduceToNat, Int.reduceEq, Int.reduceLT, Int.reduceLE, Int.reduceAdd, Int.reduceSub, Int.reduceMul, reduceIte, resVs, resV, packV, initT, addr, F29]
  refine W_loop (fun N qs => ∃ (i : Nat), N = l.length - i ∧ qs.ds = [] ∧ qs.m = mx m [] ∧ qs.t 0 = .slice a l.length c ∧ qs.t 1 = .int .i64 n ∧ qs.t 5 = .int .i64 i ∧ i ≤ l.length ∧ ∀ j (h : j < l.length), j < i → l[j] ≠ n) (l.length - (0)) ⟨0, rfl, rfl, ?qm, ?q0, ?q1, ?q5, ?_⟩ ?_
  case qm | q0 | q1 | q5 => first | rfl | (simp (implicitDefEqProofs := false) (maxSteps := 1000000) (disch := first | omega | with_reducible assumption | (simp only [lenT, Nat.reduceAdd]; omega)) only [amT, cut, bnd, Nat.reduceBEq, reduceCtorEq, Nat.reduceEqDiff, Nat.reduceAdd, Nat.reduceMul, Nat.reduceSub, Int.reduceToNat, Int.reduceEq, Int.reduceLT, Int.reduceLE, Int.reduceAdd, Int.reduceSub, Int.reduceMul, reduceIte, resVs, resV, packV, initT, addr]; first | done | rfl | (congr 1; omega))
  · exact ⟨by omega, fun j h1 h2 => by omega⟩
  · rintro N t m1 ds ⟨i, rfl, hds, hm, t0, t1, t5, hp⟩
    simp only at hds hm t0 t1 t5
    subst hds; replace hm := hm.symm; subst hm
    obtain ⟨hi, hall⟩ := hp
    by_cases g : (i : Int) < (l.length : Int)
    · have hi' : i < l.length := by omega
      obtain ⟨b, o, rfl, hb, hr⟩ := ha i hi'
      simp only [iV] at hr
      by_cases e : l[i] = n
      · have ee : pz l n = (i : Nat) := pz_some hi' e hall
        rw [ee]
        rw [e] at hr
        repeat first | simp (implicitDefEqProofs := false) (maxSteps := 1000000) (disch := first | omega | with_reducible assumption | (simp only [lenT, Nat.reduceAdd]; omega)) only [amT, cut, bnd, Nat.reduceBEq, reduceCtorEq, Nat.reduceEqDiff, Nat.reduceAdd, Nat.reduceMul, Nat.reduceSub, Int.reduceToNat, Int.reduceEq, Int.reduceLT, Int.reduceLE, Int.reduceAdd, Int.reduceSub, Int.reduceMul, reduceIte, resVs, resV, packV, initT, addr, F29_l0, t0, t1, t5, g, hr] | refine OrW.go ?_
      · have e' : ¬ (l[i] : Int) = (n : Int) := by omega
        repeat first | simp (implicitDefEqProofs := false) (maxSteps := 1000000) (disch := first | omega | with_reducible assumption | (simp only [lenT, Nat.reduceAdd]; omega)) only [amT, cut, bnd, Nat.reduceBEq, reduceCtorEq, Nat.reduceEqDiff, Nat.reduceAdd, Nat.reduceMul, Nat.reduceSub, Int.reduceToNat, Int.reduceEq, Int.reduceLT, Int.reduceLE, Int.reduceAdd, Int.reduceSub, Int.reduceMul, reduceIte, resVs, resV, packV, initT, addr, F29_l0, t0, t1, t5, g, hr, e'] | refine OrW.go ?_
        rw [LoopK_normal]; refine ⟨_, ?_, i + 1, rfl, rfl, ?qm, ?q0, ?q1, ?q5, ?_⟩
        case qm | q0 | q1 | q5 => first | rfl | (simp (implicitDefEqProofs := false) (maxSteps := 1000000) (disch := first | omega | with_reducible assumption | (simp only [lenT, Nat.reduceAdd]; omega)) only [amT, cut, bnd, Nat.reduceBEq, reduceCtorEq, Nat.reduceEqDiff, Nat.reduceAdd, Nat.reduceMul, Nat.reduceSub, Int.reduceToNat, Int.reduceEq, Int.reduceLT, Int.reduceLE, Int.reduceAdd, Int.reduceSub, Int.reduceMul, reduceIte, resVs, resV, packV, initT, addr, t0, t1, t5]; first | done | rfl | (congr 1; omega))
        · omega
        · refine ⟨by omega, fun j h1 h2 => ?_⟩
          rcases Nat.lt_or_ge j i with h | h
          · exact hall j h1 h
          · obtain rfl : j = i := by omega
            exact e
    · obtain rfl : i = l.length := by omega
      have ee : pz l n = -1 := pz_none fun hm => by obtain ⟨j, hj, h⟩ := List.mem_iff_getElem.1 hm; exact hall j hj hj h
      rw [ee]
      repeat first | simp (implicitDefEqProofs := false) (maxSteps := 1000000) (disch := first | omega | with_reducible assumption | (simp only [lenT, Nat.reduceAdd]; omega)) only [amT, cut, bnd, Nat.reduceBEq, reduceCtorEq, Nat.reduceEqDiff, Nat.reduceAdd, Nat.reduceMul, Nat.reduceSub, Int.reduceToNat, Int.reduceEq, Int.reduceLT, Int.reduceLE, Int.reduceAdd, Int.reduceSub, Int.reduceMul, reduceIte, resVs, resV, packV, initT, addr, F29_l0, t0, t1, t5, g] | refine OrW.go ?_
/-- In the order, each stands behind what it needs. -/
structure Good (names : List (List UInt8)) (needs : List (List (List UInt8))) (out : List Nat) : Prop where
  nd : out.Nodup
  lt : ∀ x ∈ out, x < names.length
  dep : ∀ j (h : j < out.length), ∀ s ∈ rowOf needs out[j], ∀ p, plR names s = some p → p ∈ out.take j
theorem good_next {names : List (List UInt8)} {needs : List (List (List UInt8))} {done : List Bool} {out : List Nat} (hG : Good names needs out) (hD : ∀ k, k < names.length → done.getD k false = out.contains k) {i : Nat} (hi : i < names.length) (hr : readyR names needs done i = true) : Good names needs (out ++ [i]) := by
  have hr2 := hr
  rw [ref_ready hD hi] at hr2
  simp only [Bool.and_eq_true, Bool.not_eq_true', List.all_eq_true] at hr2
  obtain ⟨h1, h2⟩ := hr2
  have hni : i ∉ out := fun h => by rw [← List.contains_iff_mem] at h; rw [h1] at h; cases h
  refine ⟨?_, fun x hx => ?_, fun j hj s hs p hp => ?_⟩
  · rw [List.nodup_append]
    refine ⟨hG.nd, by simp, fun x hx y hy e => ?_⟩
    rw [List.mem_singleton] at hy; subst hy; subst e; exact hni hx
  · rcases List.mem_append.1 hx with h | h
    · exact hG.lt x h
    · rw [List.mem_singleton] at h; subst h; exact hi
  · rcases Nat.lt_or_ge j out.length with h | h
    · rw [List.getElem_append_left h] at hs
      rw [List.take_append_of_le_length (by omega)]
      exact hG.dep j h s hs p hp
    · have hjl : j = out.length := by rw [List.length_append] at hj; simp at hj; omega
      subst hjl
      rw [List.getElem_append_right (Nat.le_refl _)] at hs
      simp only [Nat.sub_self, List.getElem_cons_zero] at hs
      rw [List.take_append_of_le_length (Nat.le_refl _), List.take_length]
      exact List.contains_iff_mem.1 (h2 p (List.mem_filterMap.2 ⟨s, hs, hp⟩))
theorem good_sortF {names : List (List UInt8)} {needs : List (List (List UInt8))} : ∀ (n : Nat) (done : List Bool) (out : List Nat), Good names needs out → (∀ k, k < names.length → done.getD k false = out.contains k) → done.length = names.length → Good names needs (sortF names needs n done out)
  | 0, _, _, h, _, _ => h
  | n + 1, done, out, h, hD, hl => by
    unfold sortF
    split
    · rename_i i hi
      obtain ⟨h1, h2⟩ := next_some hi
      exact good_sortF n _ _ (good_next h hD h1 h2) (done_next hD hl h1) (by rw [List.length_set]; exact hl)
    · exact h
theorem good_sort (names : List (List UInt8)) (needs : List (List (List UInt8))) : Good names needs (sortO names needs) :=
  good_sortF _ _ _ ⟨List.nodup_nil, fun x h => (by cases h), fun j h => absurd h (Nat.not_lt_zero j)⟩ (fun k hk => by simp [List.getD, List.getElem?_replicate, hk]) (by simp)
theorem all_in {n : Nat} {l : List Nat} (hn : l.Nodup) (hl : ∀ x ∈ l, x < n) (he : l.length = n) {i : Nat} (hi : i < n) : i ∈ l := by
  apply Classical.byContradiction
  intro h
  have := nodup_le n (i :: l) (List.nodup_cons.2 ⟨h, hn⟩) fun x hx => by
    rcases List.mem_cons.1 hx with rfl | hx
    · exact hi
    · exact hl x hx
  rw [List.length_cons] at this; omega
/-- What Sort tells, where it tells an order. -/
theorem sort_facts {names : List (List UInt8)} {needs : List (List (List UInt8))} (hnd : names.Nodup) (h : (sortR names needs).2 = 0) :
    (sortR names needs).1.length = names.length ∧ (∀ i, i < names.length → 0 ≤ pz (sortR names needs).1 i) ∧ ∀ i, i < names.length → ∀ s ∈ rowOf needs i, ∀ p, plR names s = some p → pz (sortR names needs).1 p < pz (sortR names needs).1 i := by
  have hG := good_sort names needs
  have hle := nodup_le _ _ hG.nd hG.lt
  have e : sortR names needs = (sortO names needs, 0) := by
    unfold sortR at h ⊢
    rw [if_pos hnd] at h ⊢
    split at h
    · simp at h
    · rename_i hc; rw [if_neg hc]
  have hlen : (sortO names needs).length = names.length := by
    unfold sortR at h
    rw [if_pos hnd] at h
    split at h
    · simp at h
    · omega
  rw [e]
  have hin := fun i (hi : i < names.length) => all_in hG.nd hG.lt hlen hi
  refine ⟨hlen, fun i hi => pz_nonneg.2 (hin i hi), fun i hi s hs p hp => ?_⟩
  obtain ⟨j, hj, e⟩ := List.mem_iff_getElem.1 (hin i hi)
  have hd := hG.dep j hj s (by rw [e]; exact hs) p hp
  have h1 := pz_at hG.nd hj
  rw [e] at h1
  have h2 := (pz_take hd).2
  show pz (sortO names needs) p < pz (sortO names needs) i
  rw [h1]; exact h2
theorem sort_err {names : List (List UInt8)} {needs : List (List (List UInt8))} (hnd : ¬ names.Nodup) : (sortR names needs).2 = 151 := by unfold sortR; rw [if_neg hnd]
theorem sort_two {names : List (List UInt8)} {needs : List (List (List UInt8))} (hnd : names.Nodup) : (sortR names needs).2 = 0 ∨ (sortR names needs).2 = 240 := by
  unfold sortR; rw [if_pos hnd]; split
  · exact .inr rfl
  · exact .inl rfl
theorem mem_clos {names : List (List UInt8)} {needs : List (List (List UInt8))} {roots : List (List UInt8)} {i : Nat} : i ∈ closO names needs roots ↔ Reach names needs roots i := by
  unfold closO
  simp only [List.mem_filter, List.mem_range, decide_eq_true_eq]
  exact ⟨fun h => h.2, fun h => ⟨h.lt, h⟩⟩
theorem Reach.mono {names : List (List UInt8)} {needs : List (List (List UInt8))} {roots more : List (List UInt8)} {i : Nat} (h : Reach names needs roots i) (hs : ∀ s ∈ roots, s ∈ more) : Reach names needs more i := by
  induction h with
  | root h1 h2 => exact .root (hs _ h1) h2
  | step _ h1 h2 ih => exact .step ih h1 h2
def ownR (names : List (List UInt8)) (c : List Nat) : List (List UInt8) := c.map fun k => names.getD k []
open Classical in
theorem clos_own {names : List (List UInt8)} {needs : List (List (List UInt8))} {roots : List (List UInt8)} (hnd : names.Nodup) : closO names needs (ownR names (closO names needs roots)) = closO names needs roots := by
  have key : ∀ i, Reach names needs (ownR names (closO names needs roots)) i ↔ Reach names needs roots i := fun i => by
    constructor
    · intro h
      induction h with
      | root h1 h2 =>
        obtain ⟨k, hk, rfl⟩ := List.mem_map.1 h1
        have hr := mem_clos.1 hk
        have e : names.getD k [] = names[k]'hr.lt := by simp [List.getD, hr.lt]
        rw [e, plR_self hnd hr.lt] at h2
        cases h2; exact hr
      | step _ h1 h2 ih => exact .step ih h1 h2
    · intro h
      have e : names.getD i [] = names[i]'h.lt := by simp [List.getD, h.lt]
      refine .root (s := names.getD i []) (List.mem_map.2 ⟨i, mem_clos.2 h, rfl⟩) ?_
      rw [e]; exact plR_self hnd h.lt
  unfold closO
  refine List.filter_congr fun i _ => ?_
  rw [Bool.eq_iff_iff, decide_eq_true_iff, decide_eq_true_iff]
  exact key i
theorem StrB.src {M : AMem} {a : Option Addr} {n cap : Nat} {ls : List (List UInt8)} (h : StrB M (.slice a n cap) ls) : Src M a ls := by
  rcases h with ⟨rfl, h⟩ | ⟨b, h, h1, h2⟩
  · cases h; exact .inl ⟨rfl, rfl⟩
  · cases h
    refine .inr ⟨b, 0, rfl, h1, ?_⟩
    rw [h2, rdO_cells]; exact cutL_all (by simp)
end Go.Proofs.YtgkmlbkocgjmmaaDoor
namespace Go.Proofs.YtgkmlbkocgjmmaaDoor
open Go Go.AM
set_option linter.unusedVariables false
set_option linter.unusedSimpArgs false
set_option maxHeartbeats 2000000
set_option maxRecDepth 100000

theorem same_l {M : AMem} {v w : Value} {l : List Nat} (h : IntB M v l) (h2 : IntB M w l) (hl : l.length ≤ 1000000) (objs : List AObj) : Known Tryd.prog 3 24 [v, w] (mx M objs) (.bool true) (mx M objs) := by
  obtain ⟨a, c, rfl⟩ := h.len
  obtain ⟨a2, c2, rfl⟩ := h2.len
  have := DetC.known (sameInts_ok (mx M objs) a c l (h.row.old (Old.here _ _)) a2 c2 l (h2.row.old (Old.here _ _)) (by omega) (by omega))
  simpa using this
structure GraphOK (names : List (List UInt8)) (needs : List (List (List UInt8))) : Prop where
  nlen : names.length ≤ 30
  dlen : needs.length ≤ 40
  rows : needs.all (fun r => shortB r 30) = true
  row : ∀ i, (rowOf needs i).length ≤ 30
  nameL : ∀ s ∈ names, s.length ≤ 200
theorem graph_few {names : List (List UInt8)} {needs : List (List (List UInt8))} (h : graphB names needs = true) : GraphOK names needs := by
  unfold graphB at h
  simp only [Bool.and_eq_true, decide_eq_true_eq] at h
  obtain ⟨⟨h1, h2⟩, h3⟩ := h
  have h4 := h1
  unfold shortB at h4
  simp only [Bool.and_eq_true, decide_eq_true_eq, List.all_eq_true] at h4
  refine ⟨h4.1, h2, h3, fun i => ?_, h4.2⟩
  by_cases hi : i < needs.length
  · have := List.all_eq_true.1 h3 _ (List.getElem_mem hi)
    simp [shortB] at this
    simp [rowOf, List.getD, hi]; omega
  · simp [rowOf, List.getD, hi]
theorem sortR_len {names : List (List UInt8)} {needs : List (List (List UInt8))} : (sortR names needs).1.length ≤ names.length := by
  unfold sortR
  split
  · split
    · simp
    · have h : ∀ (n : Nat) (done : List Bool) (out : List Nat), (sortF names needs n done out).length ≤ out.length + n := by
        intro n
        induction n with
        | zero => intro done out; exact Nat.le_refl _
        | succ n ih =>
          intro done out
          unfold sortF
          split
          · have := ih (done.set ‹_› true) (out ++ [‹_›]); rw [List.length_append] at this; simp at this; omega
          · omega
      have := h names.length (List.replicate names.length false) []
      simpa [sortO] using this
  · simp
theorem closR_len {names : List (List UInt8)} {needs : List (List (List UInt8))} {roots : List (List UInt8)} : (closR names needs roots).1.length ≤ names.length := by
  unfold closR
  split
  · unfold closO
    refine Nat.le_trans (List.length_filter_le _ _) (by simp)
  · simp
end Go.Proofs.YtgkmlbkocgjmmaaDoor
