/- Graphs: who is ready. -/
import Derived.Test.YtgkmlbkocgjmmaaDoorB2
set_option linter.unusedVariables false
set_option linter.unusedSimpArgs false
set_option linter.unnecessarySimpa false
namespace Go.Proofs.YtgkmlbkocgjmmaaDoor
open Go Go.AM
set_option linter.unusedVariables false
set_option linter.unusedSimpArgs false
set_option maxHeartbeats 2000000
set_option maxRecDepth 100000

/-- A row of texts, whole. -/
def Src (m : AMem) (a : Option Addr) (ls : List (List UInt8)) : Prop := (a = none ∧ ls = []) ∨ ∃ b o, a = some ⟨b, o, none⟩ ∧ b < m.size ∧ rdO (m.get b) o ls.length = some (ls.map sV)
theorem Src.old {m m' : AMem} {a : Option Addr} {ls : List (List UInt8)} (h : Src m a ls) (ho : Old m m') : Src m' a ls := by
  rcases h with h | ⟨b, o, h1, h2, h3⟩
  · exact .inl h
  · exact .inr ⟨b, o, h1, Nat.lt_of_lt_of_le h2 ho.1, by rw [ho.2 b h2]; exact h3⟩
theorem rdO_part {x : AObj} {o : Nat} {ls : List (List UInt8)} (h : rdO x o ls.length = some (ls.map sV)) {i : Nat} (hi : i < ls.length) : rdO x (o + i) 1 = some [.string ⟨ls[i].toArray⟩] := by
  cases x with
  | cells X e w sp =>
    rw [rdO_cells] at h ⊢
    have hl := cutL_le h
    unfold cutL at h ⊢
    rw [if_pos hl] at h
    cases h2 : X.drop o with
    | nil => have := congrArg List.length h2; rw [List.length_drop, List.length_nil] at this; omega
    | cons y Y =>
      rw [if_pos (by omega), ← List.drop_drop, h2]
      have h3 : ((y :: Y).take ls.length) = ls.map sV := by rw [← h2]; exact Option.some.inj h
      have h4 : ((y :: Y).drop i).take 1 = [(ls.map sV)[i]'(by rw [List.length_map]; exact hi)] := by
        have hlen : i < (y :: Y).length := by have := congrArg List.length h3; rw [List.length_take, List.length_map] at this; omega
        rw [List.drop_eq_getElem_cons hlen, List.take_succ_cons, List.take_zero]
        congr 1
        have : (ls.map sV)[i]'(by rw [List.length_map]; exact hi) = ((y :: Y).take ls.length)[i]'(by rw [List.length_take]; omega) := by simp only [h3]
        rw [this, List.getElem_take]
      rw [h4, List.getElem_map]; rfl
  | _ => cases h
theorem Src.str {m : AMem} {a : Option Addr} {ls : List (List UInt8)} (h : Src m a ls) : StrR m a ls := fun i hi => by
  rcases h with ⟨_, rfl⟩ | ⟨b, o, h1, h2, h3⟩
  · simp at hi
  · exact ⟨b, o, h1, h2, rdO_part h3 hi⟩
theorem Src.src {m : AMem} {a : Option Addr} {ls : List (List UInt8)} (h : Src m a ls) (c : Nat) : srcCells 1 ls.length (.slice a ls.length c) m = some (ls.map sV) := by
  rcases h with ⟨rfl, rfl⟩ | ⟨b, o, rfl, h2, h3⟩
  · rfl
  · rw [srcCells_slice (Nat.le_refl _), rd_def, Nat.mul_one]; exact h3
/-- Rows of texts, in a row. -/
def NeedsR (m : AMem) (a : Option Addr) (needs : List (List (List UInt8))) : Prop := ∀ i (h : i < needs.length), ∃ b o ra rc, a = some ⟨b, o, none⟩ ∧ b < m.size ∧ rdO (m.get b) (o + i) 1 = some [.slice ra needs[i].length rc] ∧ Src m ra needs[i] ∧ needs[i].length ≤ 1000000
theorem NeedsR.old {m m' : AMem} {a : Option Addr} {ls : List (List (List UInt8))} (h : NeedsR m a ls) (ho : Old m m') : NeedsR m' a ls := fun i hi => by
  obtain ⟨b, o, ra, rc, h1, h2, h3, h4, h5⟩ := h i hi
  exact ⟨b, o, ra, rc, h1, Nat.lt_of_lt_of_le h2 ho.1, by rw [ho.2 b h2]; exact h3, h4.old ho, h5⟩
def rowOf (needs : List (List (List UInt8))) (i : Nat) : List (List UInt8) := needs.getD i []
theorem of_ok (m : AMem) (a : Option Addr) (c : Nat) (needs : List (List (List UInt8))) (i : Nat) (ha : NeedsR m a needs) (hi : i ≤ 1000000) (hn : needs.length ≤ 1000000) :
    RelC Tryd.prog 3 50 [.slice a needs.length c, .int .i64 i] m fun r m' => Old m m' ∧ ∃ ra rc, r = .slice ra (rowOf needs i).length rc ∧ Src m' ra (rowOf needs i) := by
  refine rel_of_W (fn := Tryd.f50) rfl rfl F50_ok (by simp [F50]) ?_
  by_cases g : (i : Int) < (needs.length : Int)
  · have hi' : i < needs.length := by omega
    obtain ⟨b, o, ra, rc, rfl, hb, hr, hR, _⟩ := ha i hi'
    have e : rowOf needs i = needs[i] := by simp [rowOf, List.getD, hi']
    rw [e]
    repeat first | simp (implicitDefEqProofs := false) (maxSteps := 1000000) (disch := first | omega | with_reducible assumption | (simp only [lenT, Nat.reduceAdd]; omega)) only [amT, cut, bnd, Nat.reduceBEq, reduceCtorEq, Nat.reduceEqDiff, Nat.reduceAdd, Nat.reduceMul, Nat.reduceSub, Int.reduceToNat, Int.reduceEq, Int.reduceLT, Int.reduceLE, Int.reduceAdd, Int.reduceSub, Int.reduceMul, reduceIte, resVs, resV, packV, initT, addr, F50, g, hr] | refine OrW.go ?_
    exact ⟨_, rfl, fun _ => ⟨_, _, rfl, hR.old (Old.here _ [])⟩⟩
  · have e : rowOf needs i = [] := by simp [rowOf, List.getD, show ¬ i < needs.length by omega]
    rw [e]
    repeat first | simp (implicitDefEqProofs := false) (maxSteps := 1000000) (disch := first | omega | with_reducible assumption | (simp only [lenT, Nat.reduceAdd]; omega)) only [amT, cut, bnd, Nat.reduceBEq, reduceCtorEq, Nat.reduceEqDiff, Nat.reduceAdd, Nat.reduceMul, Nat.reduceSub, Int.reduceToNat, Int.reduceEq, Int.reduceLT, Int.reduceLE, Int.reduceAdd, Int.reduceSub, Int.reduceMul, reduceIte, resVs, resV, packV, initT, addr, F50, g] | refine OrW.go ?_
    exact ⟨_, rfl, fun _ => ⟨none, 0, rfl, .inl ⟨rfl, rfl⟩⟩⟩
/-- A row of truths, behind a variable. -/
structure DoneAt (M : AMem) (p db : Nat) (done : List Bool) : Prop where
  lt : p < M.size
  get : M.get p = .cells [.slice (some ⟨db, 0, none⟩) done.length done.length] 75 true .exact
  dlt : db < M.size
  dget : M.get db = .cells (done.map .bool) 4 true .exact
  ne : p ≠ db
theorem DoneAt.old {M M' : AMem} {p db : Nat} {done : List Bool} (h : DoneAt M p db done) (ho : Old M M') : DoneAt M' p db done :=
  ⟨Nat.lt_of_lt_of_le h.lt ho.1, by rw [ho.2 p h.lt]; exact h.get, Nat.lt_of_lt_of_le h.dlt ho.1, by rw [ho.2 db h.dlt]; exact h.dget, h.ne⟩
/-- Is something needed that is not done? -/
def badDep (names : List (List UInt8)) (done : List Bool) (s : List UInt8) : Bool := match plR names s with | some k => !done.getD k false | none => false
theorem cutL_bool {done : List Bool} {k : Nat} (hk : k < done.length) : cutL (done.map Value.bool) k 1 = some [.bool done[k]] := by
  unfold cutL
  rw [if_pos (by rw [List.length_map]; omega), List.drop_eq_getElem_cons (by rw [List.length_map]; exact hk), List.getElem_map]; rfl
theorem dep_ok (M : AMem) (bp r p db : Nat) (names : List (List UInt8)) (done : List Bool) (s : List UInt8) (hbp : bp < M.size) (hbg : M.get bp = .cells [.map (some r)] 72 true .exact) (hm : MapAt M r (mapF names)) (hd : DoneAt M p db done) (hl : done.length = names.length) (hnl : names.length ≤ 1000000) :
    PureC Tryd.prog 3 51 [.string ⟨s.toArray⟩, .pointer (some ⟨bp, 0, none⟩), .pointer (some ⟨p, 0, none⟩)] M (.bool (badDep names done s)) := by
  refine pure_of_W (fn := Tryd.f51) rfl rfl F51_ok (by simp [F51]) (.bool _) ?_
  have hk := (hm.old (Old.here M [])).look (.int .i64 0) true s
  rw [lkRes_ok] at hk
  have h1 := hd.lt; have h2 := hd.get; have h3 := hd.dlt; have h4 := hd.dget
  cases hpl : plR names s with
  | none =>
    have e : badDep names done s = false := by simp [badDep, hpl]
    simp only [mapF, hpl, Option.map_none, Option.getD_none, Option.isSome_none] at hk
    rw [e]
    repeat first | simp (implicitDefEqProofs := false) (maxSteps := 1000000) (disch := first | omega | with_reducible assumption | (simp only [lenT, Nat.reduceAdd]; omega)) only [amT, cut, bnd, Nat.reduceBEq, reduceCtorEq, Nat.reduceEqDiff, Nat.reduceAdd, Nat.reduceMul, Nat.reduceSub, Int.reduceToNat, Int.reduceEq, Int.reduceLT, Int.reduceLE, Int.reduceAdd, Int.reduceSub, Int.reduceMul, reduceIte, resVs, resV, packV, initT, addr, F51, hbg, stepOp_lkp_v, hk, undef] | refine OrW.go ?_
  | some k =>
    have hkl := plR_lt hpl
    have hkd : k < done.length := by omega
    have e : badDep names done s = !done[k] := by simp [badDep, hpl, List.getD, hkd]
    have hc := cutL_bool hkd
    have g : (k : Int) < (done.length : Int) := by omega
    simp only [mapF, hpl, Option.map_some, Option.getD_some, Option.isSome_some] at hk
    rw [e]
    repeat first | simp (implicitDefEqProofs := false) (maxSteps := 1000000) (disch := first | omega | with_reducible assumption | (simp only [lenT, Nat.reduceAdd]; omega)) only [amT, cut, bnd, Nat.reduceBEq, reduceCtorEq, Nat.reduceEqDiff, Nat.reduceAdd, Nat.reduceMul, Nat.reduceSub, Int.reduceToNat, Int.reduceEq, Int.reduceLT, Int.reduceLE, Int.reduceAdd, Int.reduceSub, Int.reduceMul, reduceIte, resVs, resV, packV, initT, addr, F51, hbg, stepOp_lkp_v, hk, h2, h4, hc, g] | refine OrW.go ?_
theorem index_ok (M : AMem) (bp r p db : Nat) (names : List (List UInt8)) (done : List Bool) (a : Option Addr) (c : Nat) (ls : List (List UInt8)) (ha : StrR M a ls) (hls : ls.length ≤ 1000000) (hbp : bp < M.size) (hbg : M.get bp = .cells [.map (some r)] 72 true .exact) (hm : MapAt M r (mapF names)) (hd : DoneAt M p db done) (hl : done.length = names.length) (hnl : names.length ≤ 1000000) :
    PureC Tryd.prog 3 74 [.slice a ls.length c, .func (.func 51) #[] #[.pointer (some ⟨bp, 0, none⟩), .pointer (some ⟨p, 0, none⟩)]] M (.int .i64 (match ls.findIdx? (badDep names done) with | some i => (i : Int) | none => -1)) := by
  refine pure_of_W (fn := Tryd.f74) rfl rfl F74_ok (by simp [F74]) (.int _ _) ?_
  have kd := fun s => DetC.known (dep_ok (mx M []) bp r p db names done s (by rw [mx_nil_size]; exact hbp) (by rw [mx_old hbp]; exact hbg) (hm.old (Old.here _ [])) (hd.old (Old.here _ [])) hl hnl)
  simp (implicitDefEqProofs := false) (maxSteps := 1000000) (disch := first | omega | with_reducible assumption | (simp only [lenT, Nat.reduceAdd]; omega)) only [amT, cut, bnd, Nat.reduceBEq, reduceCtorEq, Nat.reduceEqDiff, Nat.reduceAdd, Nat.reduceMul, Nat.reduceSub, Int.reduceToNat, Int.reduceEq, Int.reduceLT, Int.reduceLE, Int.reduceAdd, Int.reduceSub, Int.reduceMul, reduceIte, resVs, resV, packV, initT, addr, F74]
  refine W_loop (fun N qs => ∃ (i : Nat), N = ls.length - i ∧ qs.ds = [] ∧ qs.m = mx M [] ∧ qs.t 0 = .slice a ls.length c ∧ qs.t 1 = .func (.func 51) #[] #[.pointer (some ⟨bp, 0, none⟩), .pointer (some ⟨p, 0, none⟩)] ∧ qs.t 7 = .int .i64 ls.length ∧ qs.t 8 = .int .i64 i ∧ i ≤ ls.length ∧ ∀ j (h : j < ls.length), j < i → badDep names done ls[j] = false) (ls.length - (0)) ⟨0, rfl, rfl, ?qm, ?q0, ?q1, ?q7, ?q8, ?_⟩ ?_
  case qm | q0 | q1 | q7 | q8 => first | rfl | (simp (implicitDefEqProofs := false) (maxSteps := 1000000) (disch := first | omega | with_reducible assumption | (simp only [lenT, Nat.reduceAdd]; omega)) only [amT, cut, bnd, Nat.reduceBEq, reduceCtorEq, Nat.reduceEqDiff, Nat.reduceAdd, Nat.reduceMul, Nat.reduceSub, Int.reduceToNat, Int.reduceEq, Int.reduceLT, Int.reduceLE, Int.reduceAdd, Int.reduceSub, Int.reduceMul, reduceIte, resVs, resV, packV, initT, addr]; first | done | rfl | (congr 1; omega))
  · exact ⟨by omega, fun j h1 h2 => by omega⟩
  · rintro N t m1 ds ⟨i, rfl, hds, hm, t0, t1, t7, t8, hp⟩
    simp only at hds hm t0 t1 t7 t8
    subst hds; replace hm := hm.symm; subst hm
    obtain ⟨hi, hall⟩ := hp
    by_cases g : (i : Int) < (ls.length : Int)
    · have hi' : i < ls.length := by omega
      obtain ⟨b, o, rfl, hb, hr⟩ := ha i hi'
      have k1 := kd ls[i]
      cases hbd : badDep names done ls[i] with
      | true =>
        have e : ls.findIdx? (badDep names done) = some i := by rw [List.findIdx?_eq_some_iff_getElem]; exact ⟨hi', hbd, fun j hj => by rw [hall j (by omega) hj]; simp⟩
        rw [hbd] at k1
        rw [e]
        repeat first | simp (implicitDefEqProofs := false) (maxSteps := 1000000) (disch := first | omega | with_reducible assumption | (simp only [lenT, Nat.reduceAdd]; omega)) only [amT, cut, bnd, Nat.reduceBEq, reduceCtorEq, Nat.reduceEqDiff, Nat.reduceAdd, Nat.reduceMul, Nat.reduceSub, Int.reduceToNat, Int.reduceEq, Int.reduceLT, Int.reduceLE, Int.reduceAdd, Int.reduceSub, Int.reduceMul, reduceIte, resVs, resV, packV, initT, addr, F74_l0, t0, t1, t7, t8, g, hr, k1] | refine OrW.go ?_
      | false =>
        rw [hbd] at k1
        repeat first | simp (implicitDefEqProofs := false) (maxSteps := 1000000) (disch := first | omega | with_reducible assumption | (simp only [lenT, Nat.reduceAdd]; omega)) only [amT, cut, bnd, Nat.reduceBEq, reduceCtorEq, Nat.reduceEqDiff, Nat.reduceAdd, Nat.reduceMul, Nat.reduceSub, Int.reduceToNat, Int.reduceEq, Int.reduceLT, Int.reduceLE, Int.reduceAdd, Int.reduceSub, Int.reduceMul, reduceIte, resVs, resV, packV, initT, addr, F74_l0, t0, t1, t7, t8, g, hr, k1] | refine OrW.go ?_
        rw [LoopK_normal]; refine ⟨_, ?_, i + 1, rfl, rfl, ?qm, ?q0, ?q1, ?q7, ?q8, ?_⟩
        case qm | q0 | q1 | q7 | q8 => first | rfl | (simp (implicitDefEqProofs := false) (maxSteps := 1000000) (disch := first | omega | with_reducible assumption | (simp only [lenT, Nat.reduceAdd]; omega)) only [amT, cut, bnd, Nat.reduceBEq, reduceCtorEq, Nat.reduceEqDiff, Nat.reduceAdd, Nat.reduceMul, Nat.reduceSub, Int.reduceToNat, Int.reduceEq, Int.reduceLT, Int.reduceLE, Int.reduceAdd, Int.reduceSub, Int.reduceMul, reduceIte, resVs, resV, packV, initT, addr, t0, t1, t7, t8]; first | done | rfl | (congr 1; omega))
        · omega
        · refine ⟨by omega, fun j h1 h2 => ?_⟩
          rcases Nat.lt_or_ge j i with h | h
          · exact hall j h1 h
          · obtain rfl : j = i := by omega
            exact hbd
    · obtain rfl : i = ls.length := by omega
      have e : ls.findIdx? (badDep names done) = none := by rw [List.findIdx?_eq_none_iff]; intro x hx; obtain ⟨j, hj, rfl⟩ := List.mem_iff_getElem.1 hx; exact hall j hj hj
      rw [e]
      repeat first | simp (implicitDefEqProofs := false) (maxSteps := 1000000) (disch := first | omega | with_reducible assumption | (simp only [lenT, Nat.reduceAdd]; omega)) only [amT, cut, bnd, Nat.reduceBEq, reduceCtorEq, Nat.reduceEqDiff, Nat.reduceAdd, Nat.reduceMul, Nat.reduceSub, Int.reduceToNat, Int.reduceEq, Int.reduceLT, Int.reduceLE, Int.reduceAdd, Int.reduceSub, Int.reduceMul, reduceIte, resVs, resV, packV, initT, addr, F74_l0, t0, t1, t7, t8, g] | refine OrW.go ?_
theorem contains_ok (M : AMem) (bp r p db : Nat) (names : List (List UInt8)) (done : List Bool) (a : Option Addr) (c : Nat) (ls : List (List UInt8)) (ha : StrR M a ls) (hls : ls.length ≤ 1000000) (hbp : bp < M.size) (hbg : M.get bp = .cells [.map (some r)] 72 true .exact) (hm : MapAt M r (mapF names)) (hd : DoneAt M p db done) (hl : done.length = names.length) (hnl : names.length ≤ 1000000) :
    PureC Tryd.prog 3 49 [.slice a ls.length c, .func (.func 51) #[] #[.pointer (some ⟨bp, 0, none⟩), .pointer (some ⟨p, 0, none⟩)]] M (.bool (ls.any (badDep names done))) := by
  refine pure_of_W (fn := Tryd.f49) rfl rfl F49_ok (by simp [F49]) (.bool _) ?_
  have ki := DetC.known (index_ok (mx M []) bp r p db names done a c ls (ha.old (Old.here _ [])) hls (by rw [mx_nil_size]; exact hbp) (by rw [mx_old hbp]; exact hbg) (hm.old (Old.here _ [])) (hd.old (Old.here _ [])) hl hnl)
  cases e : ls.findIdx? (badDep names done) with
  | none =>
    have h : ls.any (badDep names done) = false := by rw [List.any_eq_false]; intro x hx; rw [List.findIdx?_eq_none_iff] at e; simp [e x hx]
    rw [e] at ki
    rw [h]
    repeat first | simp (implicitDefEqProofs := false) (maxSteps := 1000000) (disch := first | omega | with_reducible assumption | (simp only [lenT, Nat.reduceAdd]; omega)) only [amT, cut, bnd, Nat.reduceBEq, reduceCtorEq, Nat.reduceEqDiff, Nat.reduceAdd, Nat.reduceMul, Nat.reduceSub, Int.reduceToNat, Int.reduceEq, Int.reduceLT, Int.reduceLE, Int.reduceAdd, Int.reduceSub, Int.reduceMul, reduceIte, resVs, resV, packV, initT, addr, F49, ki] | refine OrW.go ?_
  | some i =>
    have h : ls.any (badDep names done) = true := by rw [List.findIdx?_eq_some_iff_getElem] at e; obtain ⟨h1, h2, _⟩ := e; exact List.any_eq_true.2 ⟨_, List.getElem_mem h1, h2⟩
    rw [e] at ki
    rw [h]
    have g : (0 : Int) ≤ (i : Int) := by omega
    repeat first | simp (implicitDefEqProofs := false) (maxSteps := 1000000) (disch := first | omega | with_reducible assumption | (simp only [lenT, Nat.reduceAdd]; omega)) only [amT, cut, bnd, Nat.reduceBEq, reduceCtorEq, Nat.reduceEqDiff, Nat.reduceAdd, Nat.reduceMul, Nat.reduceSub, Int.reduceToNat, Int.reduceEq, Int.reduceLT, Int.reduceLE, Int.reduceAdd, Int.reduceSub, Int.reduceMul, reduceIte, resVs, resV, packV, initT, addr, F49, ki, g] | refine OrW.go ?_
/-- May it be done now? -/
def readyR (names : List (List UInt8)) (needs : List (List (List UInt8))) (done : List Bool) (i : Nat) : Bool := !done.getD i false && !(rowOf needs i).any (badDep names done)
theorem ready_ok (M : AMem) (bp np r p db : Nat) (names : List (List UInt8)) (needs : List (List (List UInt8))) (na : Option Addr) (nc : Nat) (done : List Bool) (i : Nat) (hi : i < done.length) (hbp : bp < M.size) (hbg : M.get bp = .cells [.map (some r)] 72 true .exact) (hnp : np < M.size) (hng : M.get np = .cells [.slice na needs.length nc] 38 true .exact) (hN : NeedsR M na needs) (hm : MapAt M r (mapF names)) (hd : DoneAt M p db done) (hl : done.length = names.length) (hnl : names.length ≤ 1000000) (hne : needs.length ≤ 1000000) :
    RelC Tryd.prog 3 48 [.int .i64 i, .pointer (some ⟨p, 0, none⟩), .pointer (some ⟨np, 0, none⟩), .pointer (some ⟨bp, 0, none⟩)] M fun v m' => v = .bool (readyR names needs done i) ∧ Old M m' := by
  refine rel_of_W (fn := Tryd.f48) rfl rfl F48_ok (by simp [F48]) ?_
  have h1 := hd.lt; have h2 := hd.get; have h3 := hd.dlt; have h4 := hd.dget
  have hc := cutL_bool hi
  have g : (i : Int) < (done.length : Int) := by omega
  have e : readyR names needs done i = (!done[i] && !(rowOf needs i).any (badDep names done)) := by simp [readyR, List.getD, hi]
  rw [e]
  cases hdi : done[i] with
  | true =>
    rw [hdi] at hc
    repeat first | simp (implicitDefEqProofs := false) (maxSteps := 1000000) (disch := first | omega | with_reducible assumption | (simp only [lenT, Nat.reduceAdd]; omega)) only [amT, cut, bnd, Nat.reduceBEq, reduceCtorEq, Nat.reduceEqDiff, Nat.reduceAdd, Nat.reduceMul, Nat.reduceSub, Int.reduceToNat, Int.reduceEq, Int.reduceLT, Int.reduceLE, Int.reduceAdd, Int.reduceSub, Int.reduceMul, reduceIte, resVs, resV, packV, initT, addr, F48, h2, h4, hc, g, undef] | refine OrW.go ?_
    exact ⟨_, rfl, fun _ => rfl⟩
  | false =>
    rw [hdi] at hc
    have ho := of_ok (mx M []) na nc needs i (hN.old (Old.here _ [])) (by omega) hne
    repeat first | simp (implicitDefEqProofs := false) (maxSteps := 1000000) (disch := first | omega | with_reducible assumption | (simp only [lenT, Nat.reduceAdd]; omega)) only [amT, cut, bnd, Nat.reduceBEq, reduceCtorEq, Nat.reduceEqDiff, Nat.reduceAdd, Nat.reduceMul, Nat.reduceSub, Int.reduceToNat, Int.reduceEq, Int.reduceLT, Int.reduceLE, Int.reduceAdd, Int.reduceSub, Int.reduceMul, reduceIte, resVs, resV, packV, initT, addr, F48, h2, h4, hc, g, hng] | refine OrW.go ?_
    refine RelC.call ho ?_
    rintro v M1 ⟨hO, ra, rc, rfl, hR⟩
    have hO1 : Old M M1 := (Old.here M []).trans hO
    have hrl : (rowOf needs i).length ≤ 1000000 := by
      by_cases hin : i < needs.length
      · obtain ⟨_, _, _, _, _, _, _, _, h⟩ := hN i hin
        simpa [rowOf, List.getD, hin] using h
      · simp [rowOf, List.getD, hin]
    have kc := DetC.known (contains_ok (mx M1 []) bp r p db names done ra rc (rowOf needs i) (hR.old (Old.here _ [])).str hrl (by rw [mx_nil_size]; exact Nat.lt_of_lt_of_le hbp hO1.1) (by rw [mx_old (Nat.lt_of_lt_of_le hbp hO1.1), hO1.2 _ hbp]; exact hbg) (hm.old (hO1.mx [])) (hd.old (hO1.mx [])) hl hnl)
    repeat first | simp (implicitDefEqProofs := false) (maxSteps := 1000000) (disch := first | omega | with_reducible assumption | (simp only [lenT, Nat.reduceAdd]; omega)) only [amT, cut, bnd, Nat.reduceBEq, reduceCtorEq, Nat.reduceEqDiff, Nat.reduceAdd, Nat.reduceMul, Nat.reduceSub, Int.reduceToNat, Int.reduceEq, Int.reduceLT, Int.reduceLE, Int.reduceAdd, Int.reduceSub, Int.reduceMul, reduceIte, resVs, resV, packV, initT, addr, kc] | refine OrW.go ?_
    exact ⟨_, rfl, fun _ => ⟨by simp, hO1.mx []⟩⟩
end Go.Proofs.YtgkmlbkocgjmmaaDoor
namespace Go.Proofs.YtgkmlbkocgjmmaaDoor
open Go Go.AM
set_option linter.unusedVariables false
set_option linter.unusedSimpArgs false
set_option maxHeartbeats 2000000
set_option maxRecDepth 100000

def iV (k : Nat) : Value := .int .i64 (k : Nat)
/-- Numbers as they are put together. -/
def IntB (M : AMem) (v : Value) (ls : List Nat) : Prop := (ls = [] ∧ v = .slice none 0 0) ∨ ∃ b, v = .slice (some ⟨b, 0, none⟩) ls.length openCap ∧ b < M.size ∧ M.get b = .cells (ls.map iV) 3 true (.room [.int .i64 0])
theorem IntB.len {M : AMem} {v : Value} {ls : List Nat} (h : IntB M v ls) : ∃ a cap, v = .slice a ls.length cap := by
  rcases h with ⟨rfl, rfl⟩ | ⟨b, rfl, _⟩
  · exact ⟨_, _, rfl⟩
  · exact ⟨_, _, rfl⟩
theorem IntB.keep {M M' : AMem} {v : Value} {ls : List Nat} (h : IntB M v ls) {O : Nat → Prop} (hk : Keep O M M') (hv : ∀ x, ownV v x → ¬ O x) : IntB M' v ls := by
  rcases h with h | ⟨b, rfl, h1, h2⟩
  · exact .inl h
  · exact .inr ⟨b, rfl, Nat.lt_of_lt_of_le h1 hk.1, by rw [hk.2 b h1 (hv b ⟨_, _, _, rfl⟩)]; exact h2⟩
theorem IntB.old {M M' : AMem} {v : Value} {ls : List Nat} (h : IntB M v ls) (ho : Old M M') : IntB M' v ls := h.keep (ho.keep fun _ => False) fun _ _ h => h
theorem eqPL_i0 : eqPL [Value.int .i64 0] [Value.int .i64 0] = true := by decide
/-- One more. -/
theorem IntB.app {M : AMem} {v : Value} {ls : List Nat} {nb : Nat} {k : Nat} (h : IntB M v ls) (hn : ls.length ≤ 1000000) (hb : nb < M.size) {e : TypeId} {w : Bool} {sp : Spare} (hr : M.get nb = .cells [iV k] e w sp) :
    ∃ v' M', appV 3 1 8 [.int .i64 0] v (.slice (some ⟨nb, 0, none⟩) 1 1) (mx M []) = some (v', mx M' []) ∧ IntB M' v' (ls ++ [k]) ∧ Keep (ownV v) M M' ∧ ∀ x, ownV v' x → M.size ≤ x := by
  have hs : srcCells 1 1 (.slice (some ⟨nb, 0, none⟩) 1 1) (mx M []) = some [iV k] := by rw [srcCells_slice (Nat.le_refl _), rd_def, mx_old hb, hr]; rfl
  have happ : appV 3 1 8 [.int .i64 0] v (.slice (some ⟨nb, 0, none⟩) 1 1) (mx M []) = appendTo 3 1 8 [.int .i64 0] v 1 [iV k] (mx M []) := by
    simp only [appV, srcLen_slice, hs]
    rw [if_pos ⟨rfl, by omega, rfl, rfl⟩]
  rw [happ]
  rcases h with ⟨rfl, rfl⟩ | ⟨b, rfl, hb2, h2⟩
  · refine ⟨.slice (some ⟨M.size, 0, none⟩) 1 openCap, mx M [.cells [iV k] 3 true (.room [.int .i64 0])], ?_, .inr ⟨M.size, rfl, by rw [mx_size]; simp, mx_new0 _ _⟩, (Keep.refl _ _).mx _, fun x ⟨o, l, c, h⟩ => by cases h; exact Nat.le_refl _⟩
    rw [appendTo_nil (by omega) (by omega) (by omega), mx_push, mx_nil_size, mx_mx]; rfl
  · refine ⟨.slice (some ⟨M.size, 0, none⟩) (ls.length + 1) openCap, mx (M.set b .dead) [.cells ((ls ++ [k]).map iV) 3 true (.room [.int .i64 0])], ?_, .inr ⟨M.size, by simp, by rw [mx_size, AMem.size_set]; simp, ?_⟩, ((Keep.refl _ M).set (fun _ => ⟨_, _, _, rfl⟩) _).mx _, fun x ⟨o, l, c, hx⟩ => by cases hx; exact Nat.le_refl _⟩
    · rw [appendTo_open (sz := 1) (z' := [.int .i64 0]) ((mx_old hb2).trans h2) eqPL_i0 rfl (by omega) (by simp) (by omega) (by omega) (by omega), mx_set_old hb2, mx_push, mx_nil_size, mx_mx, List.map_append]; rfl
    · have := mx_new0 (M.set b .dead) [.cells ((ls ++ [k]).map iV) 3 true (.room [.int .i64 0])]
      rw [AMem.size_set] at this; exact this

/-- The first that may be done. -/
def nextR (names : List (List UInt8)) (needs : List (List (List UInt8))) (done : List Bool) : Option Nat := (List.range names.length).find? (readyR names needs done)
def sortF (names : List (List UInt8)) (needs : List (List (List UInt8))) : Nat → List Bool → List Nat → List Nat
  | 0, _, out => out
  | n + 1, done, out => match nextR names needs done with | some i => sortF names needs n (done.set i true) (out ++ [i]) | none => out
def sortO (names : List (List UInt8)) (needs : List (List (List UInt8))) : List Nat := sortF names needs names.length (List.replicate names.length false) []
def sortR (names : List (List UInt8)) (needs : List (List (List UInt8))) : List Nat × Int :=
  if names.Nodup then (if (sortO names needs).length < names.length then ([], 240) else (sortO names needs, 0)) else ([], 151)
theorem next_some {names : List (List UInt8)} {needs : List (List (List UInt8))} {done : List Bool} {i : Nat} (h : nextR names needs done = some i) : i < names.length ∧ readyR names needs done i = true := by
  unfold nextR at h
  have h1 := List.mem_of_find?_eq_some h
  have h2 := List.find?_some h
  exact ⟨List.mem_range.1 h1, h2⟩
theorem next_of {names : List (List UInt8)} {needs : List (List (List UInt8))} {done : List Bool} {i : Nat} (hi : i < names.length) (hr : readyR names needs done i = true) (hb : ∀ j, j < i → readyR names needs done j = false) : nextR names needs done = some i := by
  unfold nextR
  rw [List.find?_eq_some_iff_getElem]
  refine ⟨hr, i, by simpa using hi, by simp, fun j hj => by simp [hb j hj]⟩
theorem next_none {names : List (List UInt8)} {needs : List (List (List UInt8))} {done : List Bool} (hb : ∀ j, j < names.length → readyR names needs done j = false) : nextR names needs done = none := by
  unfold nextR
  rw [List.find?_eq_none]
  intro x hx
  rw [List.mem_range] at hx
  simp [hb x hx]
theorem ready_not {names : List (List UInt8)} {needs : List (List (List UInt8))} {done : List Bool} {i : Nat} (hi : i < done.length) (h : readyR names needs done i = true) : done[i] = false := by
  unfold readyR at h
  simp [List.getD, hi] at h
  exact h.1
theorem count_set : ∀ {done : List Bool} {i : Nat} (hi : i < done.length), done[i] = false → (done.set i true).count false + 1 = done.count false
  | b :: l, 0, _, h => by simp at h; subst h; simp
  | b :: l, i + 1, hi, h => by
    have := count_set (done := l) (i := i) (by simpa using hi) (by simpa using h)
    simp only [List.set_cons_succ, List.count_cons]; omega
/-- How the order comes about. -/
inductive Runs (names : List (List UInt8)) (needs : List (List (List UInt8))) : List Bool → List Nat → List Nat → Prop
  | stop {done : List Bool} {out : List Nat} : nextR names needs done = none → Runs names needs done out out
  | go {done : List Bool} {out res : List Nat} {i : Nat} : nextR names needs done = some i → Runs names needs (done.set i true) (out ++ [i]) res → Runs names needs done out res
theorem Runs.eq {names : List (List UInt8)} {needs : List (List (List UInt8))} {done : List Bool} {out res : List Nat} (h : Runs names needs done out res) : done.length = names.length → ∀ k, done.count false ≤ k → res = sortF names needs k done out := by
  induction h with
  | stop hn => intro _ k hk; cases k with
    | zero => rfl
    | succ k => simp only [sortF, hn]
  | go hn _ ih =>
    intro hl k hk
    obtain ⟨h1, h2⟩ := next_some hn
    have h3 := ready_not (by omega) h2
    have h4 := count_set (by omega) h3
    cases k with
    | zero => omega
    | succ k =>
      simp only [sortF, hn]
      exact ih (by rw [List.length_set]; exact hl) k (by omega)
end Go.Proofs.YtgkmlbkocgjmmaaDoor
namespace Go.Proofs.YtgkmlbkocgjmmaaDoor
open Go Go.AM
set_option linter.unusedVariables false
set_option linter.unusedSimpArgs false
set_option maxHeartbeats 2000000
set_option maxRecDepth 100000

/-- The state within Sort. -/
structure SortS (m0 M : AMem) (np bp r dp db : Nat) (names : List (List UInt8)) (na : Option Addr) (nc : Nat) (needs : List (List (List UInt8))) (done : List Bool) (ov : Value) (out : List Nat) : Prop where
  old : Old m0 M
  npl : np < M.size
  npg : M.get np = .cells [.slice na needs.length nc] 38 true .exact
  bpl : bp < M.size
  bpg : M.get bp = .cells [.map (some r)] 72 true .exact
  map : MapAt M r (mapF names)
  dn : DoneAt M dp db done
  len : done.length = names.length
  ints : IntB M ov out
  own : ∀ x, ownV ov x → np < x ∧ bp < x ∧ r < x ∧ dp < x ∧ db < x
  lo : m0.size ≤ np ∧ m0.size ≤ bp ∧ m0.size ≤ r ∧ m0.size ≤ dp ∧ m0.size ≤ db
  dist : db ≠ np ∧ db ≠ bp ∧ db ≠ r
theorem SortS.more {m0 M M' : AMem} {np bp r dp db : Nat} {names : List (List UInt8)} {na : Option Addr} {nc : Nat} {needs : List (List (List UInt8))} {done : List Bool} {ov : Value} {out : List Nat} (h : SortS m0 M np bp r dp db names na nc needs done ov out) (ho : Old M M') : SortS m0 M' np bp r dp db names na nc needs done ov out :=
  ⟨h.old.trans ho, Nat.lt_of_lt_of_le h.npl ho.1, by rw [ho.2 _ h.npl]; exact h.npg, Nat.lt_of_lt_of_le h.bpl ho.1, by rw [ho.2 _ h.bpl]; exact h.bpg, h.map.old ho, h.dn.old ho, h.len, h.ints.old ho, h.own, h.lo, h.dist⟩
/-- One is done, and stands behind the others. -/
theorem SortS.next {m0 M : AMem} {np bp r dp db : Nat} {names : List (List UInt8)} {na : Option Addr} {nc : Nat} {needs : List (List (List UInt8))} {done : List Bool} {ov : Value} {out : List Nat} (h : SortS m0 M np bp r dp db names na nc needs done ov out) (ho : out.length ≤ 1000000) {i : Nat} (hi : i < done.length) :
    ∃ v' M', appV 3 1 8 [.int .i64 0] ov (.slice (some ⟨M.size, 0, none⟩) 1 1) (mx (M.set db (.cells ((done.set i true).map .bool) 4 true .exact)) [.cells [iV i] 3 true .exact]) = some (v', mx M' []) ∧ SortS m0 M' np bp r dp db names na nc needs (done.set i true) v' (out ++ [i]) := by
  have hd := h.dn
  have hodb : ¬ ownV ov db := fun e => by have := (h.own db e).2.2.2.2; omega
  have hI : IntB (M.set db (.cells ((done.set i true).map .bool) 4 true .exact)) ov out := h.ints.keep ((Keep.refl (fun x => x = db) M).set (fun _ => rfl) _) fun x hx e => by subst e; exact hodb hx
  have hz : (M.set db (.cells ((done.set i true).map .bool) 4 true .exact)).size = M.size := rfl
  generalize hM1 : M.set db (.cells ((done.set i true).map .bool) 4 true .exact) = M1 at hI hz
  obtain ⟨v', M', h1, h2, h3, h4⟩ := (hI.old (Old.here M1 [.cells [iV i] 3 true .exact])).app (nb := M1.size) (k := i) ho (by rw [mx_size]; simp) (mx_new0 _ _)
  rw [mx_mx, List.append_nil, hz] at h1
  have hs := h3.1
  rw [mx_size] at hs
  simp only [List.length_cons, List.length_nil] at hs
  -- what is elsewhere
  have hk : ∀ y, y < M.size → y ≠ db → ¬ ownV ov y → M'.get y = M.get y := fun y hy hne hno => by
    rw [h3.2 y (by rw [mx_size]; omega) hno, mx_old (by omega), ← hM1, AMem.get_set_ne _ _ hne]
  have hkd : M'.get db = .cells ((done.set i true).map .bool) 4 true .exact := by
    rw [h3.2 db (by rw [mx_size]; have := hd.dlt; omega) hodb, mx_old (by have := hd.dlt; omega), ← hM1, AMem.get_set_self]
  obtain ⟨l1, l2, l3, l4, l5⟩ := h.lo
  obtain ⟨d1, d2, d3⟩ := h.dist
  have nn : ¬ ownV ov np := fun e => by have := (h.own np e).1; omega
  have nb : ¬ ownV ov bp := fun e => by have := (h.own bp e).2.1; omega
  have nr : ¬ ownV ov r := fun e => by have := (h.own r e).2.2.1; omega
  have nd : ¬ ownV ov dp := fun e => by have := (h.own dp e).2.2.2.1; omega
  have hsz : M.size ≤ M'.size := by omega
  refine ⟨v', M', h1, ⟨⟨Nat.le_trans h.old.1 hsz, fun y hy => ?_⟩, Nat.lt_of_lt_of_le h.npl hsz, by rw [hk _ h.npl (Ne.symm d1) nn]; exact h.npg, Nat.lt_of_lt_of_le h.bpl hsz, by rw [hk _ h.bpl (Ne.symm d2) nb]; exact h.bpg,
    h.map.keep hsz (hk _ h.map.1 (Ne.symm d3) nr), ⟨Nat.lt_of_lt_of_le hd.lt hsz, ?_, Nat.lt_of_lt_of_le hd.dlt hsz, hkd, hd.ne⟩, by rw [List.length_set]; exact h.len, h2, fun x hx => ?_, h.lo, h.dist⟩⟩
  · rw [hk y (by have := h.old.1; omega) (by omega) (fun e => by have := (h.own y e).1; omega)]; exact h.old.2 y hy
  · rw [hk _ hd.lt hd.ne nd, List.length_set]; exact hd.get
  · have := h4 x hx
    rw [mx_size] at this
    have e1 := h.npl; have e2 := h.bpl; have e3 := h.map.1; have e4 := hd.lt; have e5 := hd.dlt
    omega
theorem cellsOf_map (x : Option Nat) : cellsOf (.map x) = some [.map x] := rfl
/-- What stands behind the label. -/
def F22_X : ACode := F22_c0.tl.tl.tl.tl.tl.tl
theorem F22_c_cut : F22_c0 = .seq F22_c0.hd (.seq F22_c0.tl.hd (.seq F22_c0.tl.tl.hd (.seq F22_c0.tl.tl.tl.hd (.seq F22_c0.tl.tl.tl.tl.hd (.seq (.label 0) F22_X))))) := rfl
theorem F22_r_cut : F22_r0 = .seq .skip F22_X := rfl
theorem sort_pass (m M : AMem) (a : Option Addr) (c : Nat) (names : List (List UInt8)) (na : Option Addr) (nc : Nat) (needs : List (List (List UInt8))) (bp : Nat) (done : List Bool) (ov : Value) (out : List Nat) (t : Tmps) (hl : names.length ≤ 100000) (hnl : needs.length ≤ 1000000) (hN : NeedsR m na needs)
    (hS : SortS m M m.size bp (m.size + 1) (bp + 2) (bp + 1) names na nc needs done ov out) (u0 : t 0 = .slice a names.length c) (u8 : t 8 = .pointer (some ⟨bp + 2, 0, none⟩)) (u9 : t 9 = ov) (u10 : t 10 = .func (.func 48) #[] #[.pointer (some ⟨bp + 2, 0, none⟩), .pointer (some ⟨m.size, 0, none⟩), .pointer (some ⟨bp, 0, none⟩)])
    (hnd : names.Nodup) (hruns : ∀ res, Runs names needs done out res → Runs names needs (List.replicate names.length false) [] res) (hcnt : out.length + done.count false = names.length) (Jk : ASt → Prop)
    (hJ : ∀ (i : Nat) (t' : Tmps) (M' : AMem) (ov' : Value), nextR names needs done = some i → t' 0 = .slice a names.length c → t' 8 = .pointer (some ⟨bp + 2, 0, none⟩) → t' 9 = ov' → t' 10 = .func (.func 48) #[] #[.pointer (some ⟨bp + 2, 0, none⟩), .pointer (some ⟨m.size, 0, none⟩), .pointer (some ⟨bp, 0, none⟩)] →
      SortS m M' m.size bp (m.size + 1) (bp + 2) (bp + 1) names na nc needs (done.set i true) ov' (out ++ [i]) → Jk ⟨t', mx M' [], []⟩) :
    W Tryd.prog 3 F22_X (JumpK 0 Jk (RetK F22.res fun r m' => ∃ v, r = .ret v ∧ (m.size ≤ m'.size → Old m m' ∧ ∃ v', v = .tuple #[v', .int .i64 (sortR names needs).2] ∧ IntB m' v' (sortR names needs).1))) ⟨t, mx M [], []⟩ := by
  obtain ⟨oa, oc, rfl⟩ := hS.ints.len
  have hol : out.length ≤ names.length := by omega
  simp (implicitDefEqProofs := false) (maxSteps := 1000000) (disch := first | omega | with_reducible assumption | (simp only [lenT, Nat.reduceAdd]; omega)) only [amT, cut, bnd, Nat.reduceBEq, reduceCtorEq, Nat.reduceEqDiff, Nat.reduceAdd, Nat.reduceMul, Nat.reduceSub, Int.reduceToNat, Int.reduceEq, Int.reduceLT, Int.reduceLE, Int.reduceAdd, Int.reduceSub, Int.reduceMul, reduceIte, resVs, resV, packV, initT, addr, F22_X, F22_c0, hd_seq, tl_seq, u0]
  refine W_loop (fun N qs => ∃ (i : Nat) (M1 : AMem), N = names.length - i ∧ qs.ds = [] ∧ qs.m = mx M1 [] ∧ qs.t 0 = .slice a names.length c ∧ qs.t 8 = .pointer (some ⟨bp + 2, 0, none⟩) ∧ qs.t 9 = .slice oa out.length oc ∧ qs.t 10 = .func (.func 48) #[] #[.pointer (some ⟨bp + 2, 0, none⟩), .pointer (some ⟨m.size, 0, none⟩), .pointer (some ⟨bp, 0, none⟩)] ∧ qs.t 24 = .int .i64 names.length ∧ qs.t 25 = .int .i64 i ∧ i ≤ names.length ∧ SortS m M1 m.size bp (m.size + 1) (bp + 2) (bp + 1) names na nc needs done (.slice oa out.length oc) out ∧ ∀ j, j < i → readyR names needs done j = false) (names.length - (0)) ⟨0, M, rfl, rfl, ?qm, ?q0, ?q8, ?q9, ?q10, ?q24, ?q25, ?_⟩ ?_
  case qm | q0 | q8 | q9 | q10 | q24 | q25 => first | rfl | (simp (implicitDefEqProofs := false) (maxSteps := 1000000) (disch := first | omega | with_reducible assumption | (simp only [lenT, Nat.reduceAdd]; omega)) only [amT, cut, bnd, Nat.reduceBEq, reduceCtorEq, Nat.reduceEqDiff, Nat.reduceAdd, Nat.reduceMul, Nat.reduceSub, Int.reduceToNat, Int.reduceEq, Int.reduceLT, Int.reduceLE, Int.reduceAdd, Int.reduceSub, Int.reduceMul, reduceIte, resVs, resV, packV, initT, addr, u0, u8, u9, u10]; first | done | rfl | (congr 1; omega))
  · exact ⟨by omega, hS, fun j h => by omega⟩
  · rintro N t m1 ds ⟨i, M1, rfl, hds, hm, t0, t8, t9, t10, t24, t25, hp⟩
    simp only at hds hm t0 t8 t9 t10 t24 t25
    subst hds; replace hm := hm.symm; subst hm
    obtain ⟨hi, hS1, hall⟩ := hp
    by_cases g : (i : Int) < (names.length : Int)
    · have hi' : i < names.length := by omega
      have hid : i < done.length := by rw [hS1.len]; exact hi'
      have hS1' := hS1.more (Old.here M1 [])
      have hk := ready_ok (mx M1 []) bp m.size (m.size + 1) (bp + 2) (bp + 1) names needs na nc done i hid hS1'.bpl hS1'.bpg hS1'.npl hS1'.npg (hN.old hS1'.old) hS1'.map hS1'.dn hS1'.len (by omega) hnl
      repeat first | simp (implicitDefEqProofs := false) (maxSteps := 1000000) (disch := first | omega | with_reducible assumption | (simp only [lenT, Nat.reduceAdd]; omega)) only [amT, cut, bnd, Nat.reduceBEq, reduceCtorEq, Nat.reduceEqDiff, Nat.reduceAdd, Nat.reduceMul, Nat.reduceSub, Int.reduceToNat, Int.reduceEq, Int.reduceLT, Int.reduceLE, Int.reduceAdd, Int.reduceSub, Int.reduceMul, reduceIte, resVs, resV, packV, initT, addr, F22_l1, t0, t8, t9, t10, t24, t25, g] | refine OrW.go ?_
      refine RelC.call hk ?_
      rintro v M2 ⟨rfl, hO2⟩
      have hS2 := hS1'.more hO2
      cases hr : readyR names needs done i with
      | false =>
        repeat first | simp (implicitDefEqProofs := false) (maxSteps := 1000000) (disch := first | omega | with_reducible assumption | (simp only [lenT, Nat.reduceAdd]; omega)) only [amT, cut, bnd, Nat.reduceBEq, reduceCtorEq, Nat.reduceEqDiff, Nat.reduceAdd, Nat.reduceMul, Nat.reduceSub, Int.reduceToNat, Int.reduceEq, Int.reduceLT, Int.reduceLE, Int.reduceAdd, Int.reduceSub, Int.reduceMul, reduceIte, resVs, resV, packV, initT, addr, t0, t8, t9, t10, t24, t25] | refine OrW.go ?_
        rw [LoopK_normal]; refine ⟨_, ?_, i + 1, M2, rfl, rfl, ?qm, ?q0, ?q8, ?q9, ?q10, ?q24, ?q25, ?_⟩
        case qm | q0 | q8 | q9 | q10 | q24 | q25 => first | rfl | (simp (implicitDefEqProofs := false) (maxSteps := 1000000) (disch := first | omega | with_reducible assumption | (simp only [lenT, Nat.reduceAdd]; omega)) only [amT, cut, bnd, Nat.reduceBEq, reduceCtorEq, Nat.reduceEqDiff, Nat.reduceAdd, Nat.reduceMul, Nat.reduceSub, Int.reduceToNat, Int.reduceEq, Int.reduceLT, Int.reduceLE, Int.reduceAdd, Int.reduceSub, Int.reduceMul, reduceIte, resVs, resV, packV, initT, addr, t0, t8, t9, t10, t24, t25]; first | done | rfl | (congr 1; omega))
        · omega
        · refine ⟨by omega, hS2, fun j hj => ?_⟩
          rcases Nat.lt_or_ge j i with h | h
          · exact hall j h
          · obtain rfl : j = i := by omega
            exact hr
      | true =>
        have hnx := next_of hi' hr hall
        obtain ⟨v', M3, happ, hS3⟩ := hS2.next (by omega) hid
        have hd1 := hS2.dn.lt; have hd2 := hS2.dn.get; have hd3 := hS2.dn.dlt; have hd4 := hS2.dn.dget
        have gd : (i : Int) < (done.length : Int) := by omega
        have hset : (done.map Value.bool).set i (.bool true) = (done.set i true).map .bool := by rw [List.map_set]
        obtain ⟨av, cv, rfl⟩ := hS3.ints.len
        simp only [iV] at happ
        simp only [List.length_append, List.length_cons, List.length_nil, Nat.zero_add] at hS3
        repeat first | simp (implicitDefEqProofs := false) (maxSteps := 1000000) (disch := first | omega | with_reducible assumption | (simp only [lenT, Nat.reduceAdd]; omega)) only [amT, cut, bnd, Nat.reduceBEq, reduceCtorEq, Nat.reduceEqDiff, Nat.reduceAdd, Nat.reduceMul, Nat.reduceSub, Int.reduceToNat, Int.reduceEq, Int.reduceLT, Int.reduceLE, Int.reduceAdd, Int.reduceSub, Int.reduceMul, reduceIte, resVs, resV, packV, initT, addr, t0, t8, t9, t10, t24, t25, hd2, hd4, gd, hset, stepOp_app_v, happ] | refine OrW.go ?_
        exact hJ i _ _ _ hnx (by simp (implicitDefEqProofs := false) (maxSteps := 1000000) (disch := first | omega | with_reducible assumption | (simp only [lenT, Nat.reduceAdd]; omega)) only [amT, cut, bnd, Nat.reduceBEq, reduceCtorEq, Nat.reduceEqDiff, Nat.reduceAdd, Nat.reduceMul, Nat.reduceSub, Int.reduceToNat, Int.reduceEq, Int.reduceLT, Int.reduceLE, Int.reduceAdd, Int.reduceSub, Int.reduceMul, reduceIte, resVs, resV, packV, initT, addr, t0]) (by simp (implicitDefEqProofs := false) (maxSteps := 1000000) (disch := first | omega | with_reducible assumption | (simp only [lenT, Nat.reduceAdd]; omega)) only [amT, cut, bnd, Nat.reduceBEq, reduceCtorEq, Nat.reduceEqDiff, Nat.reduceAdd, Nat.reduceMul, Nat.reduceSub, Int.reduceToNat, Int.reduceEq, Int.reduceLT, Int.reduceLE, Int.reduceAdd, Int.reduceSub, Int.reduceMul, reduceIte, resVs, resV, packV, initT, addr, t8]) (by simp (implicitDefEqProofs := false) (maxSteps := 1000000) (disch := first | omega | with_reducible assumption | (simp only [lenT, Nat.reduceAdd]; omega)) only [amT, cut, bnd, Nat.reduceBEq, reduceCtorEq, Nat.reduceEqDiff, Nat.reduceAdd, Nat.reduceMul, Nat.reduceSub, Int.reduceToNat, Int.reduceEq, Int.reduceLT, Int.reduceLE, Int.reduceAdd, Int.reduceSub, Int.reduceMul, reduceIte, resVs, resV, packV, initT, addr]) (by simp (implicitDefEqProofs := false) (maxSteps := 1000000) (disch := first | omega | with_reducible assumption | (simp only [lenT, Nat.reduceAdd]; omega)) only [amT, cut, bnd, Nat.reduceBEq, reduceCtorEq, Nat.reduceEqDiff, Nat.reduceAdd, Nat.reduceMul, Nat.reduceSub, Int.reduceToNat, Int.reduceEq, Int.reduceLT, Int.reduceLE, Int.reduceAdd, Int.reduceSub, Int.reduceMul, reduceIte, resVs, resV, packV, initT, addr, t10]) hS3
    · obtain rfl : i = names.length := by omega
      have hnone := next_none hall
      have hres := (hruns out (.stop hnone)).eq (by simp) names.length (by simp)
      have hso : sortO names needs = out := hres.symm
      by_cases gl : (out.length : Int) < (names.length : Int)
      · have e : sortR names needs = ([], 240) := by
          unfold sortR; rw [if_pos hnd, hso, if_pos (by omega)]
        rw [e]
        repeat first | simp (implicitDefEqProofs := false) (maxSteps := 1000000) (disch := first | omega | with_reducible assumption | (simp only [lenT, Nat.reduceAdd]; omega)) only [amT, cut, bnd, Nat.reduceBEq, reduceCtorEq, Nat.reduceEqDiff, Nat.reduceAdd, Nat.reduceMul, Nat.reduceSub, Int.reduceToNat, Int.reduceEq, Int.reduceLT, Int.reduceLE, Int.reduceAdd, Int.reduceSub, Int.reduceMul, reduceIte, resVs, resV, packV, initT, addr, F22_l1, F22, t0, t8, t9, t10, t24, t25, g, gl] | refine OrW.go ?_
        exact ⟨_, rfl, fun _ => ⟨hS1.old.mx [], .slice none 0 0, rfl, .inl ⟨rfl, rfl⟩⟩⟩
      · have e : sortR names needs = (out, 0) := by
          unfold sortR; rw [if_pos hnd, hso, if_neg (by omega)]
        rw [e]
        repeat first | simp (implicitDefEqProofs := false) (maxSteps := 1000000) (disch := first | omega | with_reducible assumption | (simp only [lenT, Nat.reduceAdd]; omega)) only [amT, cut, bnd, Nat.reduceBEq, reduceCtorEq, Nat.reduceEqDiff, Nat.reduceAdd, Nat.reduceMul, Nat.reduceSub, Int.reduceToNat, Int.reduceEq, Int.reduceLT, Int.reduceLE, Int.reduceAdd, Int.reduceSub, Int.reduceMul, reduceIte, resVs, resV, packV, initT, addr, F22_l1, F22, t0, t8, t9, t10, t24, t25, g, gl] | refine OrW.go ?_
        exact ⟨_, rfl, fun _ => ⟨hS1.old.mx [], _, rfl, hS1.ints.old (Old.here _ [])⟩⟩
theorem sort_ok (m : AMem) (a : Option Addr) (c : Nat) (names : List (List UInt8)) (ha : StrR m a names) (hl : names.length ≤ 100000) (na : Option Addr) (nc : Nat) (needs : List (List (List UInt8))) (hN : NeedsR m na needs) (hnl : needs.length ≤ 1000000) :
    RelC Tryd.prog 3 22 [.slice a names.length c, .slice na needs.length nc] m fun r m' => Old m m' ∧ ∃ v, r = .tuple #[v, .int .i64 (sortR names needs).2] ∧ IntB m' v (sortR names needs).1 := by
  refine rel_of_W (fn := Tryd.f22) rfl rfl F22_ok (by simp [F22]) ?_
  simp (implicitDefEqProofs := false) (maxSteps := 1000000) (disch := first | omega | with_reducible assumption | (simp only [lenT, Nat.reduceAdd]; omega)) only [amT, cut, bnd, Nat.reduceBEq, reduceCtorEq, Nat.reduceEqDiff, Nat.reduceAdd, Nat.reduceMul, Nat.reduceSub, Int.reduceToNat, Int.reduceEq, Int.reduceLT, Int.reduceLE, Int.reduceAdd, Int.reduceSub, Int.reduceMul, reduceIte, resVs, resV, packV, initT, addr, F22]
  let ds : List Bool → List Nat → Prop := fun done out => ∀ res, Runs names needs done out res → Runs names needs (List.replicate names.length false) [] res
  refine W_scope (fun n s => ∃ (bp : Nat) (done : List Bool) (out : List Nat) (ov : Value) (M : AMem), names.Nodup ∧ n = done.count false ∧ ds done out ∧ out.length + done.count false = names.length ∧ s.ds = [] ∧ s.m = mx M [] ∧ s.t 0 = .slice a names.length c ∧ s.t 8 = .pointer (some ⟨bp + 2, 0, none⟩) ∧ s.t 9 = ov ∧ s.t 10 = .func (.func 48) #[] #[.pointer (some ⟨bp + 2, 0, none⟩), .pointer (some ⟨m.size, 0, none⟩), .pointer (some ⟨bp, 0, none⟩)] ∧
    SortS m M m.size bp (m.size + 1) (bp + 2) (bp + 1) names na nc needs done ov out) ?_ ?_
  · have hp := places_ok (mx m [.cells [.slice na needs.length nc] 38 true .exact]) a c names (ha.old (Old.here _ _)) (by omega)
    rw [F22_c_cut]
    repeat first | simp (implicitDefEqProofs := false) (maxSteps := 1000000) (disch := first | omega | with_reducible assumption | (simp only [lenT, Nat.reduceAdd]; omega)) only [amT, cut, bnd, Nat.reduceBEq, reduceCtorEq, Nat.reduceEqDiff, Nat.reduceAdd, Nat.reduceMul, Nat.reduceSub, Int.reduceToNat, Int.reduceEq, Int.reduceLT, Int.reduceLE, Int.reduceAdd, Int.reduceSub, Int.reduceMul, reduceIte, resVs, resV, packV, initT, addr, F22_c0, hd_seq, tl_seq] | refine OrW.go ?_
    refine RelC.call hp ?_
    rintro r M1 ⟨hO, hr⟩
    have hz := hO.1
    rw [mx_size] at hz
    simp only [List.length_cons, List.length_nil, Nat.zero_add] at hz
    have hOm : Old m M1 := (Old.here m _).trans hO
    by_cases hnd : names.Nodup
    · rw [if_pos hnd] at hr
      obtain ⟨rfl, hM⟩ := hr
      rw [mx_size] at hM
      simp only [List.length_cons, List.length_nil, Nat.zero_add] at hM
      have hml := hM.1
      have hrep : rep [.bool false] names.length = (List.replicate names.length false).map Value.bool := by
        unfold rep; generalize names.length = n
        induction n with
        | zero => rfl
        | succ n ih => rw [List.replicate_succ, List.flatten_cons, ih]; rfl
      have hS : SortS m (mx M1 [.cells [.map (some (m.size + 1))] 72 true .exact, .cells ((List.replicate names.length false).map .bool) 4 true .exact, .cells [.slice (some ⟨M1.size + 1, 0, none⟩) names.length names.length] 75 true .exact]) m.size M1.size (m.size + 1) (M1.size + 2) (M1.size + 1) names na nc needs (List.replicate names.length false) (.slice none 0 0) [] :=
        ⟨hOm.mx _, by rw [mx_size]; omega, by rw [mx_old (by omega), hO.2 _ (by rw [mx_size]; simp)]; exact mx_new0 _ _, by rw [mx_size]; simp, mx_new0 _ _, hM.old (Old.here _ _), ⟨by rw [mx_size]; simp, by rw [mx_new _ _ 2]; simp, by rw [mx_size]; simp, mx_new _ _ 1, by omega⟩, List.length_replicate, .inl ⟨rfl, rfl⟩, fun x ⟨o, l, c, h⟩ => by (cases h), by omega, by omega⟩
      have hM2 : True := trivial
      repeat first | simp (implicitDefEqProofs := false) (maxSteps := 1000000) (disch := first | omega | with_reducible assumption | (simp only [lenT, Nat.reduceAdd]; omega)) only [amT, cut, bnd, Nat.reduceBEq, reduceCtorEq, Nat.reduceEqDiff, Nat.reduceAdd, Nat.reduceMul, Nat.reduceSub, Int.reduceToNat, Int.reduceEq, Int.reduceLT, Int.reduceLE, Int.reduceAdd, Int.reduceSub, Int.reduceMul, reduceIte, resVs, resV, packV, initT, addr, cellsOf_map, hrep] | refine OrW.go ?_
      generalize hMX : mx M1 [.cells [.map (some (m.size + 1))] 72 true .exact, .cells ((List.replicate names.length false).map .bool) 4 true .exact, .cells [.slice (some ⟨M1.size + 1, 0, none⟩) names.length names.length] 75 true .exact] = X at hS
      rw [show (X : AMem) = mx X [] from by rw [← hMX, mx_mx, List.append_nil]]
      refine sort_pass m X a c names na nc needs M1.size _ _ _ _ hl hnl hN hS (by simp (implicitDefEqProofs := false) (maxSteps := 1000000) (disch := first | omega | with_reducible assumption | (simp only [lenT, Nat.reduceAdd]; omega)) only [amT, cut, bnd, Nat.reduceBEq, reduceCtorEq, Nat.reduceEqDiff, Nat.reduceAdd, Nat.reduceMul, Nat.reduceSub, Int.reduceToNat, Int.reduceEq, Int.reduceLT, Int.reduceLE, Int.reduceAdd, Int.reduceSub, Int.reduceMul, reduceIte, resVs, resV, packV, initT, addr]) (by simp (implicitDefEqProofs := false) (maxSteps := 1000000) (disch := first | omega | with_reducible assumption | (simp only [lenT, Nat.reduceAdd]; omega)) only [amT, cut, bnd, Nat.reduceBEq, reduceCtorEq, Nat.reduceEqDiff, Nat.reduceAdd, Nat.reduceMul, Nat.reduceSub, Int.reduceToNat, Int.reduceEq, Int.reduceLT, Int.reduceLE, Int.reduceAdd, Int.reduceSub, Int.reduceMul, reduceIte, resVs, resV, packV, initT, addr]) (by simp (implicitDefEqProofs := false) (maxSteps := 1000000) (disch := first | omega | with_reducible assumption | (simp only [lenT, Nat.reduceAdd]; omega)) only [amT, cut, bnd, Nat.reduceBEq, reduceCtorEq, Nat.reduceEqDiff, Nat.reduceAdd, Nat.reduceMul, Nat.reduceSub, Int.reduceToNat, Int.reduceEq, Int.reduceLT, Int.reduceLE, Int.reduceAdd, Int.reduceSub, Int.reduceMul, reduceIte, resVs, resV, packV, initT, addr]) (by simp (implicitDefEqProofs := false) (maxSteps := 1000000) (disch := first | omega | with_reducible assumption | (simp only [lenT, Nat.reduceAdd]; omega)) only [amT, cut, bnd, Nat.reduceBEq, reduceCtorEq, Nat.reduceEqDiff, Nat.reduceAdd, Nat.reduceMul, Nat.reduceSub, Int.reduceToNat, Int.reduceEq, Int.reduceLT, Int.reduceLE, Int.reduceAdd, Int.reduceSub, Int.reduceMul, reduceIte, resVs, resV, packV, initT, addr]) hnd (fun res h => h) (by simp) _ fun i t' M' ov' hn h0 h8 h9 h10 hS' => ?_
      obtain ⟨n1, n2⟩ := next_some hn
      have n3 := ready_not (by simpa using n1) n2
      have n4 := count_set (done := List.replicate names.length false) (i := i) (by simpa using n1) n3
      exact ⟨_, M1.size, _, _, ov', M', hnd, rfl, fun res h => .go hn h, by simp only [List.length_append, List.length_cons, List.length_nil]; rw [List.count_replicate_self] at n4; omega, rfl, rfl, h0, h8, h9, h10, hS'⟩
    · rw [if_neg hnd] at hr
      subst hr
      have e : sortR names needs = ([], 151) := if_neg hnd
      rw [e]
      repeat first | simp (implicitDefEqProofs := false) (maxSteps := 1000000) (disch := first | omega | with_reducible assumption | (simp only [lenT, Nat.reduceAdd]; omega)) only [amT, cut, bnd, Nat.reduceBEq, reduceCtorEq, Nat.reduceEqDiff, Nat.reduceAdd, Nat.reduceMul, Nat.reduceSub, Int.reduceToNat, Int.reduceEq, Int.reduceLT, Int.reduceLE, Int.reduceAdd, Int.reduceSub, Int.reduceMul, reduceIte, resVs, resV, packV, initT, addr, cellsOf_map] | refine OrW.go ?_
      exact ⟨_, rfl, fun _ => ⟨hOm.mx _, .slice none 0 0, rfl, .inl ⟨rfl, rfl⟩⟩⟩
  · rintro n t M dl ⟨bp, done, out, ov, M', hnd, rfl, hds, hcnt, h1, h2, h0, h8, h9, h10, hS⟩
    simp only at h1 h2 h0 h8 h9 h10
    subst h1 h2
    rw [F22_r_cut]
    simp (implicitDefEqProofs := false) (maxSteps := 1000000) (disch := first | omega | with_reducible assumption | (simp only [lenT, Nat.reduceAdd]; omega)) only [amT, cut, bnd, Nat.reduceBEq, reduceCtorEq, Nat.reduceEqDiff, Nat.reduceAdd, Nat.reduceMul, Nat.reduceSub, Int.reduceToNat, Int.reduceEq, Int.reduceLT, Int.reduceLE, Int.reduceAdd, Int.reduceSub, Int.reduceMul, reduceIte, resVs, resV, packV, initT, addr]
    refine sort_pass m M' a c names na nc needs bp done ov out t hl hnl hN hS h0 h8 h9 h10 hnd hds hcnt _ fun i t' M2 ov' hn h0 h8 h9 h10 hS' => ?_
    obtain ⟨n1, n2⟩ := next_some hn
    have hdl := hS.len
    have n3 := ready_not (by omega) n2
    have n4 := count_set (by omega) n3
    exact ⟨_, by omega, bp, _, _, ov', M2, hnd, rfl, fun res h => hds res (.go hn h), by simp only [List.length_append, List.length_cons, List.length_nil]; omega, rfl, rfl, h0, h8, h9, h10, hS'⟩
end Go.Proofs.YtgkmlbkocgjmmaaDoor
namespace Go.Proofs.YtgkmlbkocgjmmaaDoor
open Go Go.AM
set_option linter.unusedVariables false
set_option linter.unusedSimpArgs false
set_option maxHeartbeats 2000000
set_option maxRecDepth 100000

/-- Texts that are still to do: the end of a row that grows. -/
def Todo (M : AMem) (v : Value) (ls : List (List UInt8)) : Prop := (ls = [] ∧ ∃ a c, v = .slice a 0 c ∧ (a = none ∧ c = 0 ∨ ∃ b o e w sp X, a = some ⟨b, o, none⟩ ∧ c = 0 ∧ b < M.size ∧ M.get b = .cells X e w sp ∧ o ≤ X.length)) ∨
  ∃ b o X, v = .slice (some ⟨b, o, none⟩) ls.length openCap ∧ b < M.size ∧ M.get b = .cells X 9 true (.room [.string ⟨#[]⟩]) ∧ o + ls.length = X.length ∧ X.drop o = ls.map sV
theorem Todo.len {M : AMem} {v : Value} {ls : List (List UInt8)} (h : Todo M v ls) : ∃ a cap, v = .slice a ls.length cap := by
  rcases h with ⟨rfl, a, c, rfl, _⟩ | ⟨b, o, X, rfl, _⟩
  · exact ⟨_, _, rfl⟩
  · exact ⟨_, _, rfl⟩
theorem Todo.keep {M M' : AMem} {v : Value} {ls : List (List UInt8)} (h : Todo M v ls) {O : Nat → Prop} (hk : Keep O M M') (hv : ∀ x, ownV v x → ¬ O x) : Todo M' v ls := by
  rcases h with ⟨h0, a, c, rfl, h | ⟨b, o, e, w, sp, X, rfl, h1, h2, h3, h4⟩⟩ | ⟨b, o, X, rfl, h1, h2, h3⟩
  · exact .inl ⟨h0, _, _, rfl, .inl h⟩
  · exact .inl ⟨h0, _, _, rfl, .inr ⟨b, o, e, w, sp, X, rfl, h1, Nat.lt_of_lt_of_le h2 hk.1, by rw [hk.2 b h2 (hv b ⟨_, _, _, rfl⟩)]; exact h3, h4⟩⟩
  · exact .inr ⟨b, o, X, rfl, Nat.lt_of_lt_of_le h1 hk.1, by rw [hk.2 b h1 (hv b ⟨_, _, _, rfl⟩)]; exact h2, h3⟩
theorem Todo.old {M M' : AMem} {v : Value} {ls : List (List UInt8)} (h : Todo M v ls) (ho : Old M M') : Todo M' v ls := h.keep (ho.keep fun _ => False) fun _ _ h => h
theorem clone_ok (m : AMem) (a : Option Addr) (c : Nat) (ls : List (List UInt8)) (ha : Src m a ls) (hl : ls.length ≤ 1000000) :
    RelC Tryd.prog 3 56 [.slice a ls.length c] m fun r m' => Old m m' ∧ Todo m' r ls ∧ ∀ x, ownV r x → m.size ≤ x := by
  refine rel_of_W (fn := Tryd.f56) rfl rfl F56_ok (by simp [F56]) ?_
  rcases ha with ⟨rfl, rfl⟩ | ⟨b, o, rfl, hb, hr⟩
  · repeat first | simp (implicitDefEqProofs := false) (maxSteps := 1000000) (disch := first | omega | with_reducible assumption | (simp only [lenT, Nat.reduceAdd]; omega)) only [amT, cut, bnd, Nat.reduceBEq, reduceCtorEq, Nat.reduceEqDiff, Nat.reduceAdd, Nat.reduceMul, Nat.reduceSub, Int.reduceToNat, Int.reduceEq, Int.reduceLT, Int.reduceLE, Int.reduceAdd, Int.reduceSub, Int.reduceMul, reduceIte, resVs, resV, packV, initT, addr, F56, eqV, Option.isNone] | refine OrW.go ?_
    exact ⟨_, rfl, fun _ => ⟨.inl ⟨rfl, none, 0, rfl, .inl ⟨rfl, rfl⟩⟩, fun x ⟨o, l, c, h⟩ => by cases h⟩⟩
  · have hsrc : srcCells 1 ls.length (.slice (some ⟨b, o, none⟩) ls.length c) (mx m [.cells [] 9 true .exact]) = some (ls.map sV) := by rw [srcCells_slice (Nat.le_refl _), rd_def, mx_old hb, Nat.mul_one]; exact hr
    have happ : appV 9 1 16 [.string ⟨#[]⟩] (.slice (some ⟨m.size, 0, none⟩) 0 0) (.slice (some ⟨b, o, none⟩) ls.length c) (mx m [.cells [] 9 true .exact]) = appendTo 9 1 16 [.string ⟨#[]⟩] (.slice (some ⟨m.size, 0, none⟩) 0 0) ls.length (ls.map sV) (mx m [.cells [] 9 true .exact]) := by
      simp only [appV, srcLen_slice, hsrc]
      rw [if_pos ⟨rfl, by omega, one_strs _, by simp⟩]
    by_cases h0 : ls = []
    · subst h0
      have h2 : appendTo 9 1 16 [.string ⟨#[]⟩] (.slice (some ⟨m.size, 0, none⟩) 0 0) 0 [] (mx m [.cells [] 9 true .exact]) = some (.slice (some ⟨m.size, 0, none⟩) 0 0, mx m [.cells [] 9 true .exact]) := by
        simp only [appendTo]
        rw [if_neg (Nat.ne_of_lt zeroCap_lt), if_pos (by omega)]; simp only [if_true]
      simp only [List.length_nil, List.map_nil] at happ
      rw [h2] at happ
      repeat first | simp (implicitDefEqProofs := false) (maxSteps := 1000000) (disch := first | omega | with_reducible assumption | (simp only [lenT, Nat.reduceAdd]; omega)) only [amT, cut, bnd, Nat.reduceBEq, reduceCtorEq, Nat.reduceEqDiff, Nat.reduceAdd, Nat.reduceMul, Nat.reduceSub, Int.reduceToNat, Int.reduceEq, Int.reduceLT, Int.reduceLE, Int.reduceAdd, Int.reduceSub, Int.reduceMul, reduceIte, resVs, resV, packV, initT, addr, F56, eqV, Option.isNone, stepOp_app_v, happ] | refine OrW.go ?_
      exact ⟨_, rfl, fun _ => ⟨.inl ⟨rfl, _, _, rfl, .inr ⟨m.size, 0, _, _, _, _, rfl, rfl, by rw [mx_size]; simp, mx_new0 _ _, Nat.zero_le _⟩⟩, fun x ⟨o, l, c, h⟩ => by cases h; exact Nat.le_refl _⟩⟩
    · have hp : 0 < ls.length := List.length_pos_iff.2 h0
      have h2 : appendTo 9 1 16 [.string ⟨#[]⟩] (.slice (some ⟨m.size, 0, none⟩) 0 0) ls.length (ls.map sV) (mx m [.cells [] 9 true .exact]) = some (.slice (some ⟨m.size + 1, 0, none⟩) ls.length openCap, mx m [.cells [] 9 true .exact, .cells (ls.map sV) 9 true (.room [.string ⟨#[]⟩])]) := by
        simp only [appendTo]
        rw [if_neg (Nat.ne_of_lt zeroCap_lt), if_neg (by omega), rd_def, mx_new0]
        simp only [List.getD_cons_zero, rdO_cells]
        rw [show cutL ([] : List Value) 0 (0 * 1) = some [] from rfl]
        simp only
        rw [if_pos (by omega), mx_push, mx_size]; simp
      rw [h2] at happ
      repeat first | simp (implicitDefEqProofs := false) (maxSteps := 1000000) (disch := first | omega | with_reducible assumption | (simp only [lenT, Nat.reduceAdd]; omega)) only [amT, cut, bnd, Nat.reduceBEq, reduceCtorEq, Nat.reduceEqDiff, Nat.reduceAdd, Nat.reduceMul, Nat.reduceSub, Int.reduceToNat, Int.reduceEq, Int.reduceLT, Int.reduceLE, Int.reduceAdd, Int.reduceSub, Int.reduceMul, reduceIte, resVs, resV, packV, initT, addr, F56, eqV, Option.isNone, stepOp_app_v, happ] | refine OrW.go ?_
      exact ⟨_, rfl, fun _ => ⟨.inr ⟨m.size + 1, 0, _, rfl, by rw [mx_size]; simp, mx_new _ _ 1, by simp, rfl⟩, fun x ⟨o, l, c, h⟩ => by cases h; omega⟩⟩
theorem todo_eqv {M : AMem} {v : Value} {ls : List (List UInt8)} (h : Todo (mx M []) v ls) : Todo M v ls :=
  h.keep (O := fun _ => False) ⟨by rw [mx_nil_size]; exact Nat.le_refl _, fun y hy _ => by rw [mx_nil_size] at hy; exact (mx_old hy).symm⟩ fun _ _ h => h
/-- The first of them. -/
theorem Todo.hd {M : AMem} {a : Option Addr} {n cap : Nat} {s : List UInt8} {ls : List (List UInt8)} (h : Todo M (.slice a n cap) (s :: ls)) :
    ∃ b o, a = some ⟨b, o, none⟩ ∧ cap = openCap ∧ b < M.size ∧ rdO (M.get b) o 1 = some [.string ⟨s.toArray⟩] ∧
      slVv 1 (.slice a (ls.length + 1) openCap) (some (.int .i64 1)) none none M = some (.slice (some ⟨b, o + 1, none⟩) ls.length openCap, M) ∧ Todo M (.slice (some ⟨b, o + 1, none⟩) ls.length openCap) ls := by
  rcases h with ⟨h, _⟩ | ⟨b, o, X, h, h1, h2, h3, h4⟩
  · cases h
  · cases h
    rw [List.length_cons] at h3
    have hd : X.drop (o + 1) = ls.map sV := by rw [← List.drop_drop, h4]; rfl
    refine ⟨b, o, rfl, rfl, h1, ?_, ?_, .inr ⟨b, o + 1, X, rfl, h1, h2, by omega, hd⟩⟩
    · rw [h2, rdO_cells]
      unfold cutL
      rw [if_pos (by omega), h4]; rfl
    · simp only [slVv, if_true, h2]
      rw [if_pos ⟨rfl, by simp; omega⟩, show cutV (ls.length + 1) ((X.length - o) / 1) (some (.int .i64 1)) none none = some (1, ls.length + 1, (X.length - o) / 1) from by simp only [cutV]; rw [if_pos (by simp; omega)]; simp]
      simp
/-- Texts put behind. -/
theorem Todo.app {M : AMem} {b o : Nat} {ls news : List (List UInt8)} {w : Value} (h : Todo M (.slice (some ⟨b, o, none⟩) ls.length openCap) ls) (hn : ls.length + news.length ≤ 1000000000) (hw : srcLen w = some news.length) (hs : srcCells 1 news.length w (mx M []) = some (news.map sV)) :
    ∃ v' M', appV 9 1 16 [.string ⟨#[]⟩] (.slice (some ⟨b, o, none⟩) ls.length openCap) w (mx M []) = some (v', mx M' []) ∧ Todo M' v' (ls ++ news) ∧ Keep (fun x => x = b) M M' ∧ ∀ x, ownV v' x → x = b ∨ M.size ≤ x := by
  obtain ⟨X, hbl, h2, h3, h4⟩ : ∃ X, b < M.size ∧ M.get b = .cells X 9 true (.room [.string ⟨#[]⟩]) ∧ o + ls.length = X.length ∧ X.drop o = ls.map sV := by
    rcases h with ⟨_, a, c, hv, h⟩ | ⟨b', o', X, hv, h1, h2, h3, h4⟩
    · have hz := zeroCap_lt
      simp only [Value.slice.injEq] at hv
      obtain ⟨_, _, hc⟩ := hv
      rcases h with ⟨_, h⟩ | ⟨_, _, _, _, _, _, _, h, _⟩ <;> omega
    · cases hv; exact ⟨X, h1, h2, h3, h4⟩
  have happ : appV 9 1 16 [.string ⟨#[]⟩] (.slice (some ⟨b, o, none⟩) ls.length openCap) w (mx M []) = appendTo 9 1 16 [.string ⟨#[]⟩] (.slice (some ⟨b, o, none⟩) ls.length openCap) news.length (news.map sV) (mx M []) := by
    simp only [appV, hw, hs]
    rw [if_pos ⟨rfl, by omega, one_strs _, by simp⟩]
  rw [happ]
  have hlen : (ls ++ news).length = ls.length + news.length := List.length_append
  by_cases h0 : news = []
  · subst h0
    refine ⟨.slice (some ⟨b, o, none⟩) ls.length openCap, M, ?_, by rw [List.append_nil]; exact h, .refl _ _, fun x ⟨o, l, c, h⟩ => by cases h; exact .inl rfl⟩
    simp only [appendTo, if_true, mx_old hbl, h2, List.length_nil]
    rw [if_pos (show (Spare.room [Value.string ⟨#[]⟩]).size = 1 from rfl), if_pos (by omega)]
  · have hg : 0 < news.length := List.length_pos_iff.2 h0
    refine ⟨.slice (some ⟨M.size, 0, none⟩) (ls.length + news.length) openCap, mx (M.set b .dead) [.cells ((ls ++ news).map sV) 9 true (.room [.string ⟨#[]⟩])], ?_, .inr ⟨M.size, 0, _, by rw [hlen], by rw [mx_size, AMem.size_set]; simp, ?_, by simp, rfl⟩, ((Keep.refl (fun x => x = b) M).set (fun _ => rfl) _).mx _, fun x ⟨o, l, k, hx⟩ => by cases hx; exact .inr (Nat.le_refl _)⟩
    · simp only [appendTo, if_true, mx_old hbl, h2]
      rw [if_pos (show (Spare.room [Value.string ⟨#[]⟩]).size = 1 from rfl), if_neg (by omega), if_pos ⟨by omega, by omega, by omega⟩]
      rw [if_pos ⟨trivial, by omega, trivial, eqPL_str⟩, mx_set_old hbl, mx_push, mx_nil_size, mx_mx, h4, Nat.mul_one, List.take_of_length_le (by simp), ← List.map_append]; rfl
    · have := mx_new0 (M.set b .dead) [.cells ((ls ++ news).map sV) 9 true (.room [.string ⟨#[]⟩])]
      rw [AMem.size_set] at this; exact this
end Go.Proofs.YtgkmlbkocgjmmaaDoor
namespace Go.Proofs.YtgkmlbkocgjmmaaDoor
open Go Go.AM
set_option linter.unusedVariables false
set_option linter.unusedSimpArgs false
set_option maxHeartbeats 2000000
set_option maxRecDepth 100000

/-- What is needed by some, and by that, and so on. -/
inductive Reach (names : List (List UInt8)) (needs : List (List (List UInt8))) (roots : List (List UInt8)) : Nat → Prop
  | root {s : List UInt8} {k : Nat} : s ∈ roots → plR names s = some k → Reach names needs roots k
  | step {i : Nat} {s : List UInt8} {k : Nat} : Reach names needs roots i → s ∈ rowOf needs i → plR names s = some k → Reach names needs roots k
structure CInv (names : List (List UInt8)) (needs : List (List (List UInt8))) (roots todo : List (List UInt8)) (got : List Bool) : Prop where
  sound : ∀ i, got.getD i false = true → Reach names needs roots i
  todoR : ∀ s ∈ todo, ∀ k, plR names s = some k → Reach names needs roots k
  roots : ∀ s ∈ roots, ∀ k, plR names s = some k → got.getD k false = true ∨ s ∈ todo
  closed : ∀ i, got.getD i false = true → ∀ s ∈ rowOf needs i, ∀ k, plR names s = some k → got.getD k false = true ∨ s ∈ todo
  len : got.length = names.length
theorem getD_set {got : List Bool} {k : Nat} (hk : k < got.length) (i : Nat) : (got.set k true).getD i false = if i = k then true else got.getD i false := by
  simp only [List.getD, List.getElem?_set]
  by_cases h : i = k
  · subst h; simp [hk]
  · have h2 : ¬ k = i := fun e => h e.symm
    simp [h, h2]
theorem CInv.init (names : List (List UInt8)) (needs : List (List (List UInt8))) (roots : List (List UInt8)) : CInv names needs roots roots (List.replicate names.length false) := by
  have h : ∀ i, (List.replicate names.length false).getD i false = false := fun i => by
    simp only [List.getD, List.getElem?_replicate]; split <;> rfl
  exact ⟨fun i hi => by rw [h] at hi; (cases hi), fun s hs k hk => .root hs hk, fun s hs k hk => .inr hs, fun i hi => by rw [h] at hi; (cases hi), List.length_replicate⟩
theorem CInv.skip {names : List (List UInt8)} {needs : List (List (List UInt8))} {roots todo : List (List UInt8)} {got : List Bool} {s : List UInt8} (h : CInv names needs roots (s :: todo) got) (hs : ∀ k, plR names s = some k → got.getD k false = true) : CInv names needs roots todo got :=
  ⟨h.sound, fun x hx => h.todoR x (by simp [hx]), fun x hx k hk => (h.roots x hx k hk).elim .inl fun hm => (List.mem_cons.1 hm).elim (fun e => by subst e; exact .inl (hs k hk)) .inr,
   fun i hi x hx k hk => (h.closed i hi x hx k hk).elim .inl fun hm => (List.mem_cons.1 hm).elim (fun e => by subst e; exact .inl (hs k hk)) .inr, h.len⟩
theorem CInv.take {names : List (List UInt8)} {needs : List (List (List UInt8))} {roots todo : List (List UInt8)} {got : List Bool} {s : List UInt8} {k : Nat} (h : CInv names needs roots (s :: todo) got) (hk : plR names s = some k) : CInv names needs roots (todo ++ rowOf needs k) (got.set k true) := by
  have hkl : k < got.length := by rw [h.len]; exact plR_lt hk
  have hR := h.todoR s (by simp) k hk
  have hg := getD_set hkl
  refine ⟨fun i hi => ?_, fun x hx j hj => ?_, fun x hx j hj => ?_, fun i hi x hx j hj => ?_, by rw [List.length_set]; exact h.len⟩
  · rw [hg] at hi
    by_cases e : i = k
    · subst e; exact hR
    · rw [if_neg e] at hi; exact h.sound i hi
  · rcases List.mem_append.1 hx with h1 | h1
    · exact h.todoR x (by simp [h1]) j hj
    · exact .step hR h1 hj
  · rw [hg]
    by_cases e : j = k
    · exact .inl (if_pos e)
    · rw [if_neg e]
      rcases h.roots x hx j hj with h1 | h1
      · exact .inl h1
      · rcases List.mem_cons.1 h1 with h1 | h1
        · subst h1; rw [hk] at hj; cases hj; exact absurd rfl e
        · exact .inr (List.mem_append_left _ h1)
  · rw [hg] at hi ⊢
    by_cases e : j = k
    · exact .inl (if_pos e)
    · rw [if_neg e]
      by_cases e2 : i = k
      · subst e2; exact .inr (List.mem_append_right _ hx)
      · rw [if_neg e2] at hi
        rcases h.closed i hi x hx j hj with h1 | h1
        · exact .inl h1
        · rcases List.mem_cons.1 h1 with h1 | h1
          · subst h1; rw [hk] at hj; cases hj; exact absurd rfl e
          · exact .inr (List.mem_append_left _ h1)
theorem CInv.done {names : List (List UInt8)} {needs : List (List (List UInt8))} {roots : List (List UInt8)} {got : List Bool} (h : CInv names needs roots [] got) (i : Nat) : got.getD i false = true ↔ Reach names needs roots i := by
  refine ⟨h.sound i, fun hr => ?_⟩
  induction hr with
  | root hs hk => exact (h.roots _ hs _ hk).elim id fun h => by cases h
  | step _ hs hk ih => exact (h.closed _ ih _ hs _ hk).elim id fun h => by cases h
open Classical in
noncomputable def closO (names : List (List UInt8)) (needs : List (List (List UInt8))) (roots : List (List UInt8)) : List Nat := (List.range names.length).filter fun i => decide (Reach names needs roots i)
noncomputable def closR (names : List (List UInt8)) (needs : List (List (List UInt8))) (roots : List (List UInt8)) : List Nat × Int := if names.Nodup then (closO names needs roots, 0) else ([], 151)
open Classical in
theorem closO_of {names : List (List UInt8)} {needs : List (List (List UInt8))} {roots : List (List UInt8)} {got : List Bool} (h : CInv names needs roots [] got) : closO names needs roots = (List.range names.length).filter fun i => got.getD i false := by
  unfold closO
  refine List.filter_congr fun i hi => ?_
  rw [Bool.eq_iff_iff, decide_eq_true_iff, ← h.done i]
theorem closure_ok (m : AMem) (a : Option Addr) (c : Nat) (names : List (List UInt8)) (ha : StrR m a names) (hl : names.length ≤ 100000) (na : Option Addr) (nc : Nat) (needs : List (List (List UInt8))) (hN : NeedsR m na needs) (hnl : needs.length ≤ 1000000)
    (ra : Option Addr) (rc : Nat) (roots : List (List UInt8)) (hr : Src m ra roots) (hrl : roots.length ≤ 1000000) (hrow : ∀ i, (rowOf needs i).length ≤ 1000) :
    RelC Tryd.prog 3 26 [.slice a names.length c, .slice na needs.length nc, .slice ra roots.length rc] m fun r m' => Old m m' ∧ ∃ v, r = .tuple #[v, .int .i64 (closR names needs roots).2] ∧ IntB m' v (closR names needs roots).1 := by
  refine rel_of_W (fn := Tryd.f26) rfl rfl F26_ok (by simp [F26]) ?_
  have hp := places_ok (mx m []) a c names (ha.old (Old.here _ _)) (by omega)
  repeat first | simp (implicitDefEqProofs := false) (maxSteps := 1000000) (disch := first | omega | with_reducible assumption | (simp only [lenT, Nat.reduceAdd]; omega)) only [amT, cut, bnd, Nat.reduceBEq, reduceCtorEq, Nat.reduceEqDiff, Nat.reduceAdd, Nat.reduceMul, Nat.reduceSub, Int.reduceToNat, Int.reduceEq, Int.reduceLT, Int.reduceLE, Int.reduceAdd, Int.reduceSub, Int.reduceMul, reduceIte, resVs, resV, packV, initT, addr, F26] | refine OrW.go ?_
  refine RelC.call hp ?_
  rintro r M1 ⟨hO, hr1⟩
  have hOm : Old m M1 := (Old.here m []).trans hO
  by_cases hnd : names.Nodup
  case neg =>
    rw [if_neg hnd] at hr1
    subst hr1
    have e : closR names needs roots = ([], 151) := if_neg hnd
    rw [e]
    repeat first | simp (implicitDefEqProofs := false) (maxSteps := 1000000) (disch := first | omega | with_reducible assumption | (simp only [lenT, Nat.reduceAdd]; omega)) only [amT, cut, bnd, Nat.reduceBEq, reduceCtorEq, Nat.reduceEqDiff, Nat.reduceAdd, Nat.reduceMul, Nat.reduceSub, Int.reduceToNat, Int.reduceEq, Int.reduceLT, Int.reduceLE, Int.reduceAdd, Int.reduceSub, Int.reduceMul, reduceIte, resVs, resV, packV, initT, addr] | refine OrW.go ?_
    exact ⟨_, rfl, fun _ => ⟨hOm.mx _, .slice none 0 0, rfl, .inl ⟨rfl, rfl⟩⟩⟩
  rw [if_pos hnd] at hr1
  obtain ⟨rfl, hM⟩ := hr1
  rw [mx_nil_size] at hM
  have e : closR names needs roots = (closO names needs roots, 0) := if_pos hnd
  have hrep : rep [.bool false] names.length = (List.replicate names.length false).map Value.bool := by
    unfold rep; generalize names.length = n
    induction n with
    | zero => rfl
    | succ n ih => rw [List.replicate_succ, List.flatten_cons, ih]; rfl
  have hcl := clone_ok (mx M1 [.cells ((List.replicate names.length false).map .bool) 4 true .exact]) ra rc roots (hr.old (hOm.mx _)) hrl
  repeat first | simp (implicitDefEqProofs := false) (maxSteps := 1000000) (disch := first | omega | with_reducible assumption | (simp only [lenT, Nat.reduceAdd]; omega)) only [amT, cut, bnd, Nat.reduceBEq, reduceCtorEq, Nat.reduceEqDiff, Nat.reduceAdd, Nat.reduceMul, Nat.reduceSub, Int.reduceToNat, Int.reduceEq, Int.reduceLT, Int.reduceLE, Int.reduceAdd, Int.reduceSub, Int.reduceMul, reduceIte, resVs, resV, packV, initT, addr, hrep] | refine OrW.go ?_
  refine RelC.call hcl ?_
  rintro tv M2 ⟨hO2, hT, hTo⟩
  have hz2 := hO2.1
  rw [mx_size] at hz2
  simp only [List.length_cons, List.length_nil, Nat.zero_add] at hz2
  have hd2 : M2.get M1.size = .cells ((List.replicate names.length false).map .bool) 4 true .exact := by rw [hO2.2 _ (by rw [mx_size]; simp)]; exact mx_new0 _ _
  have hM2 := hM.old ((Old.here M1 _).trans hO2)
  have hOm2 := hOm.trans ((Old.here M1 _).trans hO2)
  have hml := hM.1
  rw [e]
  repeat first | simp (implicitDefEqProofs := false) (maxSteps := 1000000) (disch := first | omega | with_reducible assumption | (simp only [lenT, Nat.reduceAdd]; omega)) only [amT, cut, bnd, Nat.reduceBEq, reduceCtorEq, Nat.reduceEqDiff, Nat.reduceAdd, Nat.reduceMul, Nat.reduceSub, Int.reduceToNat, Int.reduceEq, Int.reduceLT, Int.reduceLE, Int.reduceAdd, Int.reduceSub, Int.reduceMul, reduceIte, resVs, resV, packV, initT, addr] | refine OrW.go ?_
  refine W_loop (fun N qs => ∃ (M : AMem) (tv' : Value) (todo : List (List UInt8)) (got : List Bool), N = got.count false * 10000 + todo.length ∧ qs.ds = [] ∧ qs.m = mx M [] ∧ qs.t 1 = .slice na needs.length nc ∧ qs.t 8 = .map (some m.size) ∧ qs.t 10 = .slice (some ⟨M1.size, 0, none⟩) names.length names.length ∧ qs.t 11 = tv' ∧ Old m M ∧ MapAt M m.size (mapF names) ∧ M1.size < M.size ∧ M.get M1.size = .cells (got.map .bool) 4 true .exact ∧ Todo M tv' todo ∧ (∀ x, ownV tv' x → M1.size < x) ∧ CInv names needs roots todo got ∧ todo.length + got.count false * 1000 ≤ 1000000 + names.length * 1000) ((List.replicate names.length false).count false * 10000 + (roots).length) ⟨M2, tv, roots, List.replicate names.length false, rfl, rfl, ?qm, ?q1, ?q8, ?q10, ?q11, ?_⟩ ?_
  case qm | q1 | q8 | q10 | q11 => first | rfl | (simp (implicitDefEqProofs := false) (maxSteps := 1000000) (disch := first | omega | with_reducible assumption | (simp only [lenT, Nat.reduceAdd]; omega)) only [amT, cut, bnd, Nat.reduceBEq, reduceCtorEq, Nat.reduceEqDiff, Nat.reduceAdd, Nat.reduceMul, Nat.reduceSub, Int.reduceToNat, Int.reduceEq, Int.reduceLT, Int.reduceLE, Int.reduceAdd, Int.reduceSub, Int.reduceMul, reduceIte, resVs, resV, packV, initT, addr]; first | done | rfl | (congr 1; omega))
  · exact ⟨hOm2, hM2, by omega, hd2, hT, fun x hx => by have := hTo x hx; rw [mx_size] at this; simp at this; omega, CInv.init names needs roots, by simp; omega⟩
  · rintro N t m1 ds ⟨M, tv', todo, got, rfl, hds, hm, t1, t8, t10, t11, hp⟩
    simp only at hds hm t1 t8 t10 t11
    subst hds; replace hm := hm.symm; subst hm
    obtain ⟨p1, p2, p3, p4, p5, p6, p7, p8⟩ := hp
    cases todo with
    | nil =>
      obtain ⟨ta, tc, rfl⟩ := p5.len
      have hg7 := p7.len
      rw [closO_of p7]
      repeat first | simp (implicitDefEqProofs := false) (maxSteps := 1000000) (disch := first | omega | with_reducible assumption | (simp only [lenT, Nat.reduceAdd]; omega)) only [amT, cut, bnd, Nat.reduceBEq, reduceCtorEq, Nat.reduceEqDiff, Nat.reduceAdd, Nat.reduceMul, Nat.reduceSub, Int.reduceToNat, Int.reduceEq, Int.reduceLT, Int.reduceLE, Int.reduceAdd, Int.reduceSub, Int.reduceMul, reduceIte, resVs, resV, packV, initT, addr, F26_l0, t1, t8, t10, t11] | refine OrW.go ?_
      refine W_loop (fun N qs => ∃ (i : Nat) (M3 : AMem) (oa : Option Addr) (oc : Nat), N = names.length - i ∧ qs.ds = [] ∧ qs.m = mx M3 [] ∧ qs.t 14 = .slice oa ((List.range i).filter fun j => got.getD j false).length oc ∧ qs.t 58 = .slice (some ⟨M1.size, 0, none⟩) names.length names.length ∧ qs.t 59 = .int .i64 names.length ∧ qs.t 60 = .int .i64 i ∧ i ≤ names.length ∧ Old m M3 ∧ M1.size < M3.size ∧ M3.get M1.size = .cells (got.map .bool) 4 true .exact ∧ IntB M3 (.slice oa ((List.range i).filter fun j => got.getD j false).length oc) ((List.range i).filter fun j => got.getD j false) ∧ ∀ x, ownV (.slice oa ((List.range i).filter fun j => got.getD j false).length oc) x → M1.size < x) (names.length - (0)) ⟨0, M, none, 0, rfl, rfl, ?qm, ?q14, ?q58, ?q59, ?q60, ?_⟩ ?_
      case qm | q14 | q58 | q59 | q60 => first | rfl | (simp (implicitDefEqProofs := false) (maxSteps := 1000000) (disch := first | omega | with_reducible assumption | (simp only [lenT, Nat.reduceAdd]; omega)) only [amT, cut, bnd, Nat.reduceBEq, reduceCtorEq, Nat.reduceEqDiff, Nat.reduceAdd, Nat.reduceMul, Nat.reduceSub, Int.reduceToNat, Int.reduceEq, Int.reduceLT, Int.reduceLE, Int.reduceAdd, Int.reduceSub, Int.reduceMul, reduceIte, resVs, resV, packV, initT, addr, List.range_zero, List.filter_nil]; first | done | rfl | (congr 1; omega))
      · exact ⟨by omega, p1, p3, p4, .inl ⟨rfl, rfl⟩, fun x ⟨o, l, c, h⟩ => by cases h⟩
      · rintro N t m1 ds ⟨i, M3, oa, oc, rfl, hds, hm, t14, t58, t59, t60, hp⟩
        simp only at hds hm t14 t58 t59 t60
        subst hds; replace hm := hm.symm; subst hm
        obtain ⟨hi, w1, w2, w3, w4, w5⟩ := hp
        by_cases g : (i : Int) < (names.length : Int)
        · have hi' : i < names.length := by omega
          have hig : i < got.length := by omega
          have hcb := cutL_bool hig
          have hsucc : (List.range (i + 1)).filter (fun j => got.getD j false) = ((List.range i).filter fun j => got.getD j false) ++ (if got[i] = true then [i] else []) := by
            rw [List.range_succ, List.filter_append]; congr 1
            have : got.getD i false = got[i] := by simp [List.getD, hig]
            simp only [List.filter_cons, List.filter_nil, this]
          cases hgi : got[i] with
          | false =>
            rw [hgi] at hcb hsucc
            simp only [Bool.false_eq_true, if_false, List.append_nil] at hsucc
            repeat first | simp (implicitDefEqProofs := false) (maxSteps := 1000000) (disch := first | omega | with_reducible assumption | (simp only [lenT, Nat.reduceAdd]; omega)) only [amT, cut, bnd, Nat.reduceBEq, reduceCtorEq, Nat.reduceEqDiff, Nat.reduceAdd, Nat.reduceMul, Nat.reduceSub, Int.reduceToNat, Int.reduceEq, Int.reduceLT, Int.reduceLE, Int.reduceAdd, Int.reduceSub, Int.reduceMul, reduceIte, resVs, resV, packV, initT, addr, F26_l1, t14, t58, t59, t60, g, w3, hcb] | refine OrW.go ?_
            rw [LoopK_normal]; refine ⟨_, ?_, i + 1, M3, oa, oc, rfl, rfl, ?qm, ?q14, ?q58, ?q59, ?q60, ?_⟩
            case qm | q14 | q58 | q59 | q60 => first | rfl | (simp (implicitDefEqProofs := false) (maxSteps := 1000000) (disch := first | omega | with_reducible assumption | (simp only [lenT, Nat.reduceAdd]; omega)) only [amT, cut, bnd, Nat.reduceBEq, reduceCtorEq, Nat.reduceEqDiff, Nat.reduceAdd, Nat.reduceMul, Nat.reduceSub, Int.reduceToNat, Int.reduceEq, Int.reduceLT, Int.reduceLE, Int.reduceAdd, Int.reduceSub, Int.reduceMul, reduceIte, resVs, resV, packV, initT, addr, t14, t58, t59, t60, hsucc]; first | done | rfl | (congr 1; omega))
            · omega
            · rw [hsucc]; exact ⟨by omega, w1, w2, w3, w4, w5⟩
          | true =>
            rw [hgi] at hcb hsucc
            simp only [if_true] at hsucc
            have hll : ((List.range i).filter fun j => got.getD j false).length ≤ i := by have := List.length_filter_le (fun j => got.getD j false) (List.range i); rwa [List.length_range] at this
            obtain ⟨v', M4, happ, hI, hk, ho⟩ := (w4.old (Old.here M3 [.cells [iV i] 3 true .exact])).app (nb := M3.size) (k := i) (by omega) (by rw [mx_size]; simp) (mx_new0 _ _)
            rw [mx_mx, List.append_nil] at happ
            rw [← hsucc] at hI
            obtain ⟨av, cv, rfl⟩ := hI.len
            simp only [iV] at happ
            have hs4 := hk.1
            rw [mx_size] at hs4
            have hk4 : ∀ y, y ≤ M1.size → M4.get y = M3.get y := fun y hy => by rw [hk.2 y (by rw [mx_size]; omega) (fun h => by have := w5 y h; omega), mx_old (by omega)]
            repeat first | simp (implicitDefEqProofs := false) (maxSteps := 1000000) (disch := first | omega | with_reducible assumption | (simp only [lenT, Nat.reduceAdd]; omega)) only [amT, cut, bnd, Nat.reduceBEq, reduceCtorEq, Nat.reduceEqDiff, Nat.reduceAdd, Nat.reduceMul, Nat.reduceSub, Int.reduceToNat, Int.reduceEq, Int.reduceLT, Int.reduceLE, Int.reduceAdd, Int.reduceSub, Int.reduceMul, reduceIte, resVs, resV, packV, initT, addr, F26_l1, t14, t58, t59, t60, g, w3, hcb, stepOp_app_v, happ] | refine OrW.go ?_
            rw [LoopK_normal]; refine ⟨_, ?_, i + 1, M4, av, cv, rfl, rfl, ?qm, ?q14, ?q58, ?q59, ?q60, ?_⟩
            case qm | q14 | q58 | q59 | q60 => first | rfl | (simp (implicitDefEqProofs := false) (maxSteps := 1000000) (disch := first | omega | with_reducible assumption | (simp only [lenT, Nat.reduceAdd]; omega)) only [amT, cut, bnd, Nat.reduceBEq, reduceCtorEq, Nat.reduceEqDiff, Nat.reduceAdd, Nat.reduceMul, Nat.reduceSub, Int.reduceToNat, Int.reduceEq, Int.reduceLT, Int.reduceLE, Int.reduceAdd, Int.reduceSub, Int.reduceMul, reduceIte, resVs, resV, packV, initT, addr, t14, t58, t59, t60]; first | done | rfl | (congr 1; omega))
            · omega
            · exact ⟨by omega, ⟨by have := w1.1; omega, fun y hy => by rw [hk4 y (by have := hOm.1; omega)]; exact w1.2 y hy⟩, by omega, by rw [hk4 _ (Nat.le_refl _)]; exact w3, hI, fun x hx => by have := ho x hx; rw [mx_size] at this; omega⟩
        · obtain rfl : i = names.length := by omega
          repeat first | simp (implicitDefEqProofs := false) (maxSteps := 1000000) (disch := first | omega | with_reducible assumption | (simp only [lenT, Nat.reduceAdd]; omega)) only [amT, cut, bnd, Nat.reduceBEq, reduceCtorEq, Nat.reduceEqDiff, Nat.reduceAdd, Nat.reduceMul, Nat.reduceSub, Int.reduceToNat, Int.reduceEq, Int.reduceLT, Int.reduceLE, Int.reduceAdd, Int.reduceSub, Int.reduceMul, reduceIte, resVs, resV, packV, initT, addr, F26_l1, t14, t58, t59, t60, g] | refine OrW.go ?_
          exact ⟨_, rfl, fun _ => ⟨w1.mx [], _, rfl, w4.old (Old.here _ [])⟩⟩
    | cons s todo =>
      obtain ⟨ta, tc, rfl⟩ := p5.len
      obtain ⟨b, o, rfl, rfl, hb, hrd, hsl, hT2⟩ := (p5.old (Old.here M [])).hd
      rw [mx_nil_size] at hb
      rw [mx_old hb] at hrd
      have hbo := p6 b ⟨_, _, _, rfl⟩
      have hk := (p2.old (Old.here M [])).look (.int .i64 0) true s
      rw [lkRes_ok] at hk
      have g0 : (0 : Int) < ((todo.length + 1 : Nat) : Int) := by omega
      have hT3 := todo_eqv hT2
      have own2 : ∀ x, ownV (.slice (some ⟨b, o + 1, none⟩) todo.length openCap) x → M1.size < x := fun x ⟨o', l, c, h⟩ => by cases h; exact hbo
      have hg7 := p7.len
      simp only [List.length_cons] at hsl p8
      cases hpl : plR names s with
      | none =>
        simp only [mapF, hpl, Option.map_none, Option.getD_none, Option.isSome_none] at hk
        repeat first | simp (implicitDefEqProofs := false) (maxSteps := 1000000) (disch := first | omega | with_reducible assumption | (simp only [lenT, Nat.reduceAdd]; omega)) only [amT, cut, bnd, Nat.reduceBEq, reduceCtorEq, Nat.reduceEqDiff, Nat.reduceAdd, Nat.reduceMul, Nat.reduceSub, Int.reduceToNat, Int.reduceEq, Int.reduceLT, Int.reduceLE, Int.reduceAdd, Int.reduceSub, Int.reduceMul, reduceIte, resVs, resV, packV, initT, addr, F26_l0, t1, t8, t10, t11, g0, hrd, stepOp_lkp_v, hk, stepOp_slV_v, hsl, undef] | refine OrW.go ?_
        rw [LoopK_normal]; refine ⟨_, ?_, M, .slice (some ⟨b, o + 1, none⟩) todo.length openCap, todo, got, rfl, rfl, ?qm, ?q1, ?q8, ?q10, ?q11, ?_⟩
        case qm | q1 | q8 | q10 | q11 => first | rfl | (simp (implicitDefEqProofs := false) (maxSteps := 1000000) (disch := first | omega | with_reducible assumption | (simp only [lenT, Nat.reduceAdd]; omega)) only [amT, cut, bnd, Nat.reduceBEq, reduceCtorEq, Nat.reduceEqDiff, Nat.reduceAdd, Nat.reduceMul, Nat.reduceSub, Int.reduceToNat, Int.reduceEq, Int.reduceLT, Int.reduceLE, Int.reduceAdd, Int.reduceSub, Int.reduceMul, reduceIte, resVs, resV, packV, initT, addr, t1, t8, t10, t11]; first | done | rfl | (congr 1; omega))
        · omega
        · exact ⟨p1, p2, p3, p4, hT3, own2, p7.skip (fun k hk => by rw [hpl] at hk; cases hk), by omega⟩
      | some k =>
        have hkl := plR_lt hpl
        have hkg : k < got.length := by omega
        have hcb := cutL_bool hkg
        have gk : (k : Int) < (names.length : Int) := by omega
        simp only [mapF, hpl, Option.map_some, Option.getD_some, Option.isSome_some] at hk
        cases hgk : got[k] with
        | true =>
          rw [hgk] at hcb
          repeat first | simp (implicitDefEqProofs := false) (maxSteps := 1000000) (disch := first | omega | with_reducible assumption | (simp only [lenT, Nat.reduceAdd]; omega)) only [amT, cut, bnd, Nat.reduceBEq, reduceCtorEq, Nat.reduceEqDiff, Nat.reduceAdd, Nat.reduceMul, Nat.reduceSub, Int.reduceToNat, Int.reduceEq, Int.reduceLT, Int.reduceLE, Int.reduceAdd, Int.reduceSub, Int.reduceMul, reduceIte, resVs, resV, packV, initT, addr, F26_l0, t1, t8, t10, t11, g0, hrd, stepOp_lkp_v, hk, stepOp_slV_v, hsl, p4, hcb, gk] | refine OrW.go ?_
          rw [LoopK_normal]; refine ⟨_, ?_, M, .slice (some ⟨b, o + 1, none⟩) todo.length openCap, todo, got, rfl, rfl, ?qm, ?q1, ?q8, ?q10, ?q11, ?_⟩
          case qm | q1 | q8 | q10 | q11 => first | rfl | (simp (implicitDefEqProofs := false) (maxSteps := 1000000) (disch := first | omega | with_reducible assumption | (simp only [lenT, Nat.reduceAdd]; omega)) only [amT, cut, bnd, Nat.reduceBEq, reduceCtorEq, Nat.reduceEqDiff, Nat.reduceAdd, Nat.reduceMul, Nat.reduceSub, Int.reduceToNat, Int.reduceEq, Int.reduceLT, Int.reduceLE, Int.reduceAdd, Int.reduceSub, Int.reduceMul, reduceIte, resVs, resV, packV, initT, addr, t1, t8, t10, t11]; first | done | rfl | (congr 1; omega))
          · omega
          · refine ⟨p1, p2, p3, p4, hT3, own2, p7.skip (fun k' hk' => ?_), by omega⟩
            rw [hpl] at hk'; cases hk'
            simp [List.getD, hkg, hgk]
        | false =>
          rw [hgk] at hcb
          have hset : (got.map Value.bool).set k (.bool true) = (got.set k true).map .bool := by rw [List.map_set]
          have hz := hOm.1
          have hcnt := count_set hkg hgk
          have hbne : b ≠ M1.size := by omega
          have hM4 : MapAt (M.set M1.size (.cells ((got.set k true).map .bool) 4 true .exact)) m.size (mapF names) := p2.keep (by rw [AMem.size_set]; exact Nat.le_refl _) (AMem.get_set_ne _ _ (by omega))
          have hO4 : Old m (M.set M1.size (.cells ((got.set k true).map .bool) 4 true .exact)) := p1.set hz _
          have hT4 : Todo (M.set M1.size (.cells ((got.set k true).map .bool) 4 true .exact)) (.slice (some ⟨b, o + 1, none⟩) todo.length openCap) todo := hT3.keep ((Keep.refl (fun x => x = M1.size) M).set (fun _ => rfl) _) fun x hx e => by have := own2 x hx; omega
          have hg4 : (M.set M1.size (.cells ((got.set k true).map .bool) 4 true .exact)).get M1.size = .cells ((got.set k true).map .bool) 4 true .exact := AMem.get_set_self _ _ _
          have hs4 : (M.set M1.size (.cells ((got.set k true).map .bool) 4 true .exact)).size = M.size := rfl
          repeat first | simp (implicitDefEqProofs := false) (maxSteps := 1000000) (disch := first | omega | with_reducible assumption | (simp only [lenT, Nat.reduceAdd]; omega)) only [amT, cut, bnd, Nat.reduceBEq, reduceCtorEq, Nat.reduceEqDiff, Nat.reduceAdd, Nat.reduceMul, Nat.reduceSub, Int.reduceToNat, Int.reduceEq, Int.reduceLT, Int.reduceLE, Int.reduceAdd, Int.reduceSub, Int.reduceMul, reduceIte, resVs, resV, packV, initT, addr, F26_l0, t1, t8, t10, t11, g0, hrd, stepOp_lkp_v, hk, stepOp_slV_v, hsl, p4, hcb, gk, hset] | refine OrW.go ?_
          generalize M.set M1.size (.cells ((got.set k true).map .bool) 4 true .exact) = M4 at hM4 hO4 hT4 hg4 hs4
          refine RelC.call (of_ok (mx M4 []) na nc needs k (hN.old (hO4.mx [])) (by omega) hnl) ?_
          rintro w M5 ⟨hO5, ra5, rc5, rfl, hS5⟩
          have hO45 : Old M4 M5 := (Old.here M4 []).trans hO5
          have hz5 := hO45.1
          have hrw := hrow k
          obtain ⟨v6, M6, happ, hT6, hk6, ho6⟩ := (hT4.old hO45).app (w := .slice ra5 (rowOf needs k).length rc5) (news := rowOf needs k) (by omega) rfl ((hS5.old (Old.here M5 [])).src rc5)
          obtain ⟨a6, c6, rfl⟩ := hT6.len
          have hk6' : ∀ y, y < M5.size → y ≠ b → M6.get y = M5.get y := fun y hy h => hk6.2 y hy h
          have hs6 := hk6.1
          repeat first | simp (implicitDefEqProofs := false) (maxSteps := 1000000) (disch := first | omega | with_reducible assumption | (simp only [lenT, Nat.reduceAdd]; omega)) only [amT, cut, bnd, Nat.reduceBEq, reduceCtorEq, Nat.reduceEqDiff, Nat.reduceAdd, Nat.reduceMul, Nat.reduceSub, Int.reduceToNat, Int.reduceEq, Int.reduceLT, Int.reduceLE, Int.reduceAdd, Int.reduceSub, Int.reduceMul, reduceIte, resVs, resV, packV, initT, addr, t1, t8, t10, t11, stepOp_app_v, happ] | refine OrW.go ?_
          rw [LoopK_normal]; refine ⟨_, ?_, M6, .slice a6 (todo ++ rowOf needs k).length c6, todo ++ rowOf needs k, got.set k true, rfl, rfl, ?qm, ?q1, ?q8, ?q10, ?q11, ?_⟩
          case qm | q1 | q8 | q10 | q11 => first | rfl | (simp (implicitDefEqProofs := false) (maxSteps := 1000000) (disch := first | omega | with_reducible assumption | (simp only [lenT, Nat.reduceAdd]; omega)) only [amT, cut, bnd, Nat.reduceBEq, reduceCtorEq, Nat.reduceEqDiff, Nat.reduceAdd, Nat.reduceMul, Nat.reduceSub, Int.reduceToNat, Int.reduceEq, Int.reduceLT, Int.reduceLE, Int.reduceAdd, Int.reduceSub, Int.reduceMul, reduceIte, resVs, resV, packV, initT, addr, t1, t8, t10, t11]; first | done | rfl | (congr 1; omega))
          · simp only [List.length_cons, List.length_append]; omega
          · refine ⟨⟨by have := hO4.1; omega, fun y hy => ?_⟩, (hM4.old hO45).keep hs6 (hk6' _ (by omega) (by omega)), by omega, ?_, hT6, fun x hx => ?_, p7.take hpl, by rw [List.length_append]; omega⟩
            · rw [hk6' y (by omega) (by omega), hO45.2 y (by have := hO4.1; omega)]; exact hO4.2 y hy
            · rw [hk6' _ (by omega) (by omega), hO45.2 _ (by omega)]; exact hg4
            · rcases ho6 x hx with h | h <;> omega
end Go.Proofs.YtgkmlbkocgjmmaaDoor
namespace Go.Proofs.YtgkmlbkocgjmmaaDoor
open Go Go.AM
set_option linter.unusedVariables false
set_option linter.unusedSimpArgs false
set_option maxHeartbeats 2000000
set_option maxRecDepth 100000

/-- A row of numbers. -/
def IntR (m : AMem) (a : Option Addr) (l : List Nat) : Prop := ∀ i (h : i < l.length), ∃ b o, a = some ⟨b, o, none⟩ ∧ b < m.size ∧ rdO (m.get b) (o + i) 1 = some [iV l[i]]
theorem IntR.old {m m' : AMem} {a : Option Addr} {l : List Nat} (h : IntR m a l) (ho : Old m m') : IntR m' a l := fun i hi => by
  obtain ⟨b, o, h1, h2, h3⟩ := h i hi
  exact ⟨b, o, h1, Nat.lt_of_lt_of_le h2 ho.1, by rw [ho.2 b h2]; exact h3⟩
theorem intR_cells {m : AMem} {b : Nat} {l : List Nat} (hb : b < m.size) {e : TypeId} {w : Bool} {sp : Spare} (hg : m.get b = .cells (l.map iV) e w sp) : IntR m (some ⟨b, 0, none⟩) l := fun i hi =>
  ⟨b, 0, rfl, hb, by
    rw [hg, rdO_cells, Nat.zero_add]
    unfold cutL
    rw [if_pos (by rw [List.length_map]; omega), List.drop_eq_getElem_cons (by rw [List.length_map]; exact hi), List.getElem_map]; rfl⟩
theorem IntB.row {M : AMem} {a : Option Addr} {n cap : Nat} {l : List Nat} (h : IntB M (.slice a n cap) l) : IntR M a l := by
  rcases h with ⟨rfl, _⟩ | ⟨b, h, h1, h2⟩
  · intro i hi; simp at hi
  · cases h; exact intR_cells h1 h2
theorem sameInts_ok (m : AMem) (a1 : Option Addr) (c1 : Nat) (l1 : List Nat) (h1 : IntR m a1 l1) (a2 : Option Addr) (c2 : Nat) (l2 : List Nat) (h2 : IntR m a2 l2) (hl : l1.length ≤ 9223372036854775807) (hl2 : l2.length ≤ 9223372036854775807) :
    PureC Tryd.prog 3 24 [.slice a1 l1.length c1, .slice a2 l2.length c2] m (.bool (decide (l1 = l2))) := by
  refine pure_of_W (fn := Tryd.f24) rfl rfl F24_ok (by simp [F24]) (.bool _) ?_
  by_cases g0 : (l1.length : Int) = (l2.length : Int)
  · have g1 : l1.length = l2.length := by omega
    repeat first | simp (implicitDefEqProofs := false) (maxSteps := 1000000) (disch := first | omega | with_reducible assumption | (simp only [lenT, Nat.reduceAdd]; omega)) only [amT, cut, bnd, Nat.reduceBEq, reduceCtorEq, Nat.reduceEqDiff, Nat.reduceAdd, Nat.reduceMul, Nat.reduceSub, Int.reduceToNat, Int.reduceEq, Int.reduceLT, Int.reduceLE, Int.reduceAdd, Int.reduceSub, Int.reduceMul, reduceIte, resVs, resV, packV, initT, addr, F24, g0] | refine OrW.go ?_
    refine W_loop (fun N qs => ∃ (i : Nat), N = l1.length - i ∧ qs.ds = [] ∧ qs.m = mx m [] ∧ qs.t 0 = .slice a1 l1.length c1 ∧ qs.t 1 = .slice a2 l2.length c2 ∧ qs.t 5 = .int .i64 i ∧ i ≤ l1.length ∧ ∀ j (hj : j < l1.length), j < i → l1[j] = l2[j]'(by omega)) (l1.length - (0)) ⟨0, rfl, rfl, ?qm, ?q0, ?q1, ?q5, ?_⟩ ?_
    case qm | q0 | q1 | q5 => first | rfl | (simp (implicitDefEqProofs := false) (maxSteps := 1000000) (disch := first | omega | with_reducible assumption | (simp only [lenT, Nat.reduceAdd]; omega)) only [amT, cut, bnd, Nat.reduceBEq, reduceCtorEq, Nat.reduceEqDiff, Nat.reduceAdd, Nat.reduceMul, Nat.reduceSub, Int.reduceToNat, Int.reduceEq, Int.reduceLT, Int.reduceLE, Int.reduceAdd, Int.reduceSub, Int.reduceMul, reduceIte, resVs, resV, packV, initT, addr]; first | done | rfl | (congr 1; omega))
    · exact ⟨by omega, fun j h1 h2 => by omega⟩
    · rintro N t m1 ds ⟨i, rfl, hds, hm, t0, t1, t5, hp⟩
      simp only at hds hm t0 t1 t5
      subst hds; replace hm := hm.symm; subst hm
      obtain ⟨hi, hall⟩ := hp
      by_cases g : (i : Int) < (l1.length : Int)
      · have hi' : i < l1.length := by omega
        have gg : (i : Int) < (l2.length : Int) := by omega
        obtain ⟨b1, o1, rfl, hb1, r1⟩ := h1 i hi'
        obtain ⟨b2, o2, rfl, hb2, r2⟩ := h2 i (by omega)
        simp only [iV] at r1 r2
        by_cases e : (l1[i] : Int) = (l2[i]'(by omega) : Int)
        · repeat first | simp (implicitDefEqProofs := false) (maxSteps := 1000000) (disch := first | omega | with_reducible assumption | (simp only [lenT, Nat.reduceAdd]; omega)) only [amT, cut, bnd, Nat.reduceBEq, reduceCtorEq, Nat.reduceEqDiff, Nat.reduceAdd, Nat.reduceMul, Nat.reduceSub, Int.reduceToNat, Int.reduceEq, Int.reduceLT, Int.reduceLE, Int.reduceAdd, Int.reduceSub, Int.reduceMul, reduceIte, resVs, resV, packV, initT, addr, F24_l0, t0, t1, t5, g, gg, r1, r2, e] | refine OrW.go ?_
          rw [LoopK_normal]; refine ⟨_, ?_, i + 1, rfl, rfl, ?qm, ?q0, ?q1, ?q5, ?_⟩
          case qm | q0 | q1 | q5 => first | rfl | (simp (implicitDefEqProofs := false) (maxSteps := 1000000) (disch := first | omega | with_reducible assumption | (simp only [lenT, Nat.reduceAdd]; omega)) only [amT, cut, bnd, Nat.reduceBEq, reduceCtorEq, Nat.reduceEqDiff, Nat.reduceAdd, Nat.reduceMul, Nat.reduceSub, Int.reduceToNat, Int.reduceEq, Int.reduceLT, Int.reduceLE, Int.reduceAdd, Int.reduceSub, Int.reduceMul, reduceIte, resVs, resV, packV, initT, addr, t0, t1, t5]; first | done | rfl | (congr 1; omega))
          · omega
          · refine ⟨by omega, fun j h1 h2 => ?_⟩
            rcases Nat.lt_or_ge j i with h | h
            · exact hall j h1 h
            · obtain rfl : j = i := by omega
              omega
        · have hne : ¬ l1 = l2 := fun h => e (by subst h; rfl)
          repeat first | simp (implicitDefEqProofs := false) (maxSteps := 1000000) (disch := first | omega | with_reducible assumption | (simp only [lenT, Nat.reduceAdd]; omega)) only [amT, cut, bnd, Nat.reduceBEq, reduceCtorEq, Nat.reduceEqDiff, Nat.reduceAdd, Nat.reduceMul, Nat.reduceSub, Int.reduceToNat, Int.reduceEq, Int.reduceLT, Int.reduceLE, Int.reduceAdd, Int.reduceSub, Int.reduceMul, reduceIte, resVs, resV, packV, initT, addr, F24_l0, t0, t1, t5, g, gg, r1, r2, e] | refine OrW.go ?_
          simp [hne]
      · obtain rfl : i = l1.length := by omega
        have heq : l1 = l2 := List.ext_getElem g1 fun j h1 h2 => hall j h1 h1
        repeat first | simp (implicitDefEqProofs := false) (maxSteps := 1000000) (disch := first | omega | with_reducible assumption | (simp only [lenT, Nat.reduceAdd]; omega)) only [amT, cut, bnd, Nat.reduceBEq, reduceCtorEq, Nat.reduceEqDiff, Nat.reduceAdd, Nat.reduceMul, Nat.reduceSub, Int.reduceToNat, Int.reduceEq, Int.reduceLT, Int.reduceLE, Int.reduceAdd, Int.reduceSub, Int.reduceMul, reduceIte, resVs, resV, packV, initT, addr, F24_l0, t0, t1, t5, g] | refine OrW.go ?_
        simp [heq]
  · have hne : ¬ l1 = l2 := fun h => g0 (by rw [h])
    repeat first | simp (implicitDefEqProofs := false) (maxSteps := 1000000) (disch := first | omega | with_reducible assumption | (simp only [lenT, Nat.reduceAdd]; omega)) only [amT, cut, bnd, Nat.reduceBEq, reduceCtorEq, Nat.reduceEqDiff, Nat.reduceAdd, Nat.reduceMul, Nat.reduceSub, Int.reduceToNat, Int.reduceEq, Int.reduceLT, Int.reduceLE, Int.reduceAdd, Int.reduceSub, Int.reduceMul, reduceIte, resVs, resV, packV, initT, addr, F24, g0] | refine OrW.go ?_
    simp [hne]
def shortB (ls : List (List UInt8)) (top : Nat) : Bool := decide (ls.length ≤ top) && ls.all fun s => decide (s.length ≤ 200)
theorem short_ok (m : AMem) (a : Option Addr) (c : Nat) (ls : List (List UInt8)) (ha : StrR m a ls) (hl : ls.length ≤ 9223372036854775807) (hs : ∀ s ∈ ls, s.length ≤ 9223372036854775807) (top : Nat) (ht : top ≤ 100) :
    PureC Tryd.prog 3 25 [.slice a ls.length c, .int .i64 top] m (.bool (shortB ls top)) := by
  refine pure_of_W (fn := Tryd.f25) rfl rfl F25_ok (by simp [F25]) (.bool _) ?_
  by_cases g0 : (top : Int) < (ls.length : Int)
  · have e : shortB ls top = false := by simp [shortB]; omega
    rw [e]
    repeat first | simp (implicitDefEqProofs := false) (maxSteps := 1000000) (disch := first | omega | with_reducible assumption | (simp only [lenT, Nat.reduceAdd]; omega)) only [amT, cut, bnd, Nat.reduceBEq, reduceCtorEq, Nat.reduceEqDiff, Nat.reduceAdd, Nat.reduceMul, Nat.reduceSub, Int.reduceToNat, Int.reduceEq, Int.reduceLT, Int.reduceLE, Int.reduceAdd, Int.reduceSub, Int.reduceMul, reduceIte, resVs, resV, packV, initT, addr, F25, g0] | refine OrW.go ?_
  · have hlt : ls.length ≤ top := by omega
    repeat first | simp (implicitDefEqProofs := false) (maxSteps := 1000000) (disch := first | omega | with_reducible assumption | (simp only [lenT, Nat.reduceAdd]; omega)) only [amT, cut, bnd, Nat.reduceBEq, reduceCtorEq, Nat.reduceEqDiff, Nat.reduceAdd, Nat.reduceMul, Nat.reduceSub, Int.reduceToNat, Int.reduceEq, Int.reduceLT, Int.reduceLE, Int.reduceAdd, Int.reduceSub, Int.reduceMul, reduceIte, resVs, resV, packV, initT, addr, F25, g0] | refine OrW.go ?_
    refine W_loop (fun N qs => ∃ (i : Nat), N = ls.length - i ∧ qs.ds = [] ∧ qs.m = mx m [] ∧ qs.t 0 = .slice a ls.length c ∧ qs.t 5 = .int .i64 i ∧ i ≤ ls.length ∧ ∀ j (hj : j < ls.length), j < i → ls[j].length ≤ 200) (ls.length - (0)) ⟨0, rfl, rfl, ?qm, ?q0, ?q5, ?_⟩ ?_
    case qm | q0 | q5 => first | rfl | (simp (implicitDefEqProofs := false) (maxSteps := 1000000) (disch := first | omega | with_reducible assumption | (simp only [lenT, Nat.reduceAdd]; omega)) only [amT, cut, bnd, Nat.reduceBEq, reduceCtorEq, Nat.reduceEqDiff, Nat.reduceAdd, Nat.reduceMul, Nat.reduceSub, Int.reduceToNat, Int.reduceEq, Int.reduceLT, Int.reduceLE, Int.reduceAdd, Int.reduceSub, Int.reduceMul, reduceIte, resVs, resV, packV, initT, addr]; first | done | rfl | (congr 1; omega))
    · exact ⟨by omega, fun j h1 h2 => by omega⟩
    · rintro N t m1 ds ⟨i, rfl, hds, hm, t0, t5, hp⟩
      simp only at hds hm t0 t5
      subst hds; replace hm := hm.symm; subst hm
      obtain ⟨hi, hall⟩ := hp
      by_cases g : (i : Int) < (ls.length : Int)
      · have hi' : i < ls.length := by omega
        obtain ⟨b, o, rfl, hb, hr⟩ := ha i hi'
        have hsl := hs _ (List.getElem_mem hi')
        by_cases e : (200 : Int) < (ls[i].length : Int)
        · have ee : shortB ls top = false := by
            have : ls.all (fun s => decide (s.length ≤ 200)) = false := by rw [List.all_eq_false]; exact ⟨_, List.getElem_mem hi', by simp; omega⟩
            simp [shortB, this]
          rw [ee]
          repeat first | simp (implicitDefEqProofs := false) (maxSteps := 1000000) (disch := first | omega | with_reducible assumption | (simp only [lenT, Nat.reduceAdd]; omega)) only [amT, cut, bnd, Nat.reduceBEq, reduceCtorEq, Nat.reduceEqDiff, Nat.reduceAdd, Nat.reduceMul, Nat.reduceSub, Int.reduceToNat, Int.reduceEq, Int.reduceLT, Int.reduceLE, Int.reduceAdd, Int.reduceSub, Int.reduceMul, reduceIte, resVs, resV, packV, initT, addr, F25_l0, t0, t5, g, hr, e] | refine OrW.go ?_
        · repeat first | simp (implicitDefEqProofs := false) (maxSteps := 1000000) (disch := first | omega | with_reducible assumption | (simp only [lenT, Nat.reduceAdd]; omega)) only [amT, cut, bnd, Nat.reduceBEq, reduceCtorEq, Nat.reduceEqDiff, Nat.reduceAdd, Nat.reduceMul, Nat.reduceSub, Int.reduceToNat, Int.reduceEq, Int.reduceLT, Int.reduceLE, Int.reduceAdd, Int.reduceSub, Int.reduceMul, reduceIte, resVs, resV, packV, initT, addr, F25_l0, t0, t5, g, hr, e] | refine OrW.go ?_
          rw [LoopK_normal]; refine ⟨_, ?_, i + 1, rfl, rfl, ?qm, ?q0, ?q5, ?_⟩
          case qm | q0 | q5 => first | rfl | (simp (implicitDefEqProofs := false) (maxSteps := 1000000) (disch := first | omega | with_reducible assumption | (simp only [lenT, Nat.reduceAdd]; omega)) only [amT, cut, bnd, Nat.reduceBEq, reduceCtorEq, Nat.reduceEqDiff, Nat.reduceAdd, Nat.reduceMul, Nat.reduceSub, Int.reduceToNat, Int.reduceEq, Int.reduceLT, Int.reduceLE, Int.reduceAdd, Int.reduceSub, Int.reduceMul, reduceIte, resVs, resV, packV, initT, addr, t0, t5]; first | done | rfl | (congr 1; omega))
          · omega
          · refine ⟨by omega, fun j h1 h2 => ?_⟩
            rcases Nat.lt_or_ge j i with h | h
            · exact hall j h1 h
            · obtain rfl : j = i := by omega
              omega
      · obtain rfl : i = ls.length := by omega
        have ee : shortB ls top = true := by
          have : ls.all (fun s => decide (s.length ≤ 200)) = true := by rw [List.all_eq_true]; intro x hx; obtain ⟨j, hj, rfl⟩ := List.mem_iff_getElem.1 hx; simpa using hall j hj hj
          simp [shortB, this, hlt]
        rw [ee]
        repeat first | simp (implicitDefEqProofs := false) (maxSteps := 1000000) (disch := first | omega | with_reducible assumption | (simp only [lenT, Nat.reduceAdd]; omega)) only [amT, cut, bnd, Nat.reduceBEq, reduceCtorEq, Nat.reduceEqDiff, Nat.reduceAdd, Nat.reduceMul, Nat.reduceSub, Int.reduceToNat, Int.reduceEq, Int.reduceLT, Int.reduceLE, Int.reduceAdd, Int.reduceSub, Int.reduceMul, reduceIte, resVs, resV, packV, initT, addr, F25_l0, t0, t5, g] | refine OrW.go ?_
/-- Rows of texts as they are handed in. -/
def NeedsA (m : AMem) (a : Option Addr) (needs : List (List (List UInt8))) : Prop := ∀ i (h : i < needs.length), ∃ b o ra rc, a = some ⟨b, o, none⟩ ∧ b < m.size ∧ rdO (m.get b) (o + i) 1 = some [.slice ra needs[i].length rc] ∧ Src m ra needs[i] ∧ needs[i].length ≤ 9223372036854775807 ∧ ∀ s ∈ needs[i], s.length ≤ 9223372036854775807
theorem NeedsA.old {m m' : AMem} {a : Option Addr} {ls : List (List (List UInt8))} (h : NeedsA m a ls) (ho : Old m m') : NeedsA m' a ls := fun i hi => by
  obtain ⟨b, o, ra, rc, h1, h2, h3, h4, h5⟩ := h i hi
  exact ⟨b, o, ra, rc, h1, Nat.lt_of_lt_of_le h2 ho.1, by rw [ho.2 b h2]; exact h3, h4.old ho, h5⟩
def graphB (names : List (List UInt8)) (needs : List (List (List UInt8))) : Bool := shortB names 30 && decide (needs.length ≤ 40) && needs.all fun r => shortB r 30
theorem NeedsA.needs {m : AMem} {a : Option Addr} {needs : List (List (List UInt8))} (h : NeedsA m a needs) (hg : needs.all (fun r => shortB r 30) = true) : NeedsR m a needs := fun i hi => by
  obtain ⟨b, o, ra, rc, h1, h2, h3, h4, h5⟩ := h i hi
  have := List.all_eq_true.1 hg _ (List.getElem_mem hi)
  simp [shortB] at this
  exact ⟨b, o, ra, rc, h1, h2, h3, h4, by omega⟩
theorem graph_ok (m : AMem) (a : Option Addr) (c : Nat) (names : List (List UInt8)) (ha : StrR m a names) (hl : names.length ≤ 9223372036854775807) (hs : ∀ s ∈ names, s.length ≤ 9223372036854775807) (na : Option Addr) (nc : Nat) (needs : List (List (List UInt8))) (hN : NeedsA m na needs) (hnl : needs.length ≤ 9223372036854775807) :
    PureC Tryd.prog 3 21 [.slice a names.length c, .slice na needs.length nc] m (.bool (graphB names needs)) := by
  refine pure_of_W (fn := Tryd.f21) rfl rfl F21_ok (by simp [F21]) (.bool _) ?_
  have k1 := DetC.known (short_ok (mx m []) a c names (ha.old (Old.here _ [])) hl hs 30 (by omega))
  rw [show ((30 : Nat) : Int) = 30 from rfl] at k1
  cases hsn : shortB names 30 with
  | false =>
    rw [hsn] at k1
    have e : graphB names needs = false := by simp [graphB, hsn]
    rw [e]
    repeat first | simp (implicitDefEqProofs := false) (maxSteps := 1000000) (disch := first | omega | with_reducible assumption | (simp only [lenT, Nat.reduceAdd]; omega)) only [amT, cut, bnd, Nat.reduceBEq, reduceCtorEq, Nat.reduceEqDiff, Nat.reduceAdd, Nat.reduceMul, Nat.reduceSub, Int.reduceToNat, Int.reduceEq, Int.reduceLT, Int.reduceLE, Int.reduceAdd, Int.reduceSub, Int.reduceMul, reduceIte, resVs, resV, packV, initT, addr, F21, k1] | refine OrW.go ?_
  | true =>
    rw [hsn] at k1
    by_cases g0 : (40 : Int) < (needs.length : Int)
    · have e : graphB names needs = false := by simp [graphB]; intros; omega
      rw [e]
      repeat first | simp (implicitDefEqProofs := false) (maxSteps := 1000000) (disch := first | omega | with_reducible assumption | (simp only [lenT, Nat.reduceAdd]; omega)) only [amT, cut, bnd, Nat.reduceBEq, reduceCtorEq, Nat.reduceEqDiff, Nat.reduceAdd, Nat.reduceMul, Nat.reduceSub, Int.reduceToNat, Int.reduceEq, Int.reduceLT, Int.reduceLE, Int.reduceAdd, Int.reduceSub, Int.reduceMul, reduceIte, resVs, resV, packV, initT, addr, F21, k1, g0] | refine OrW.go ?_
    · have hn40 : needs.length ≤ 40 := by omega
      repeat first | simp (implicitDefEqProofs := false) (maxSteps := 1000000) (disch := first | omega | with_reducible assumption | (simp only [lenT, Nat.reduceAdd]; omega)) only [amT, cut, bnd, Nat.reduceBEq, reduceCtorEq, Nat.reduceEqDiff, Nat.reduceAdd, Nat.reduceMul, Nat.reduceSub, Int.reduceToNat, Int.reduceEq, Int.reduceLT, Int.reduceLE, Int.reduceAdd, Int.reduceSub, Int.reduceMul, reduceIte, resVs, resV, packV, initT, addr, F21, k1, g0] | refine OrW.go ?_
      refine W_loop (fun N qs => ∃ (i : Nat), N = needs.length - i ∧ qs.ds = [] ∧ qs.m = mx m [] ∧ qs.t 1 = .slice na needs.length nc ∧ qs.t 5 = .int .i64 i ∧ i ≤ needs.length ∧ ∀ j (hj : j < needs.length), j < i → shortB needs[j] 30 = true) (needs.length - (0)) ⟨0, rfl, rfl, ?qm, ?q1, ?q5, ?_⟩ ?_
      case qm | q1 | q5 => first | rfl | (simp (implicitDefEqProofs := false) (maxSteps := 1000000) (disch := first | omega | with_reducible assumption | (simp only [lenT, Nat.reduceAdd]; omega)) only [amT, cut, bnd, Nat.reduceBEq, reduceCtorEq, Nat.reduceEqDiff, Nat.reduceAdd, Nat.reduceMul, Nat.reduceSub, Int.reduceToNat, Int.reduceEq, Int.reduceLT, Int.reduceLE, Int.reduceAdd, Int.reduceSub, Int.reduceMul, reduceIte, resVs, resV, packV, initT, addr]; first | done | rfl | (congr 1; omega))
      · exact ⟨by omega, fun j h1 h2 => by omega⟩
      · rintro N t m1 ds ⟨i, rfl, hds, hm, t1, t5, hp⟩
        simp only at hds hm t1 t5
        subst hds; replace hm := hm.symm; subst hm
        obtain ⟨hi, hall⟩ := hp
        by_cases g : (i : Int) < (needs.length : Int)
        · have hi' : i < needs.length := by omega
          obtain ⟨b, o, ra, rc, rfl, hb, hr, hR, hrl, hrs⟩ := hN i hi'
          have k2 := DetC.known (short_ok (mx m []) ra rc needs[i] (hR.str.old (Old.here _ [])) hrl hrs 30 (by omega))
          rw [show ((30 : Nat) : Int) = 30 from rfl] at k2
          cases hsr : shortB needs[i] 30 with
          | false =>
            rw [hsr] at k2
            have ee : graphB names needs = false := by
              have : needs.all (fun r => shortB r 30) = false := by rw [List.all_eq_false]; exact ⟨_, List.getElem_mem hi', by simp [hsr]⟩
              simp [graphB, this]
            rw [ee]
            repeat first | simp (implicitDefEqProofs := false) (maxSteps := 1000000) (disch := first | omega | with_reducible assumption | (simp only [lenT, Nat.reduceAdd]; omega)) only [amT, cut, bnd, Nat.reduceBEq, reduceCtorEq, Nat.reduceEqDiff, Nat.reduceAdd, Nat.reduceMul, Nat.reduceSub, Int.reduceToNat, Int.reduceEq, Int.reduceLT, Int.reduceLE, Int.reduceAdd, Int.reduceSub, Int.reduceMul, reduceIte, resVs, resV, packV, initT, addr, F21_l0, t1, t5, g, hr, k2] | refine OrW.go ?_
          | true =>
            rw [hsr] at k2
            repeat first | simp (implicitDefEqProofs := false) (maxSteps := 1000000) (disch := first | omega | with_reducible assumption | (simp only [lenT, Nat.reduceAdd]; omega)) only [amT, cut, bnd, Nat.reduceBEq, reduceCtorEq, Nat.reduceEqDiff, Nat.reduceAdd, Nat.reduceMul, Nat.reduceSub, Int.reduceToNat, Int.reduceEq, Int.reduceLT, Int.reduceLE, Int.reduceAdd, Int.reduceSub, Int.reduceMul, reduceIte, resVs, resV, packV, initT, addr, F21_l0, t1, t5, g, hr, k2] | refine OrW.go ?_
            rw [LoopK_normal]; refine ⟨_, ?_, i + 1, rfl, rfl, ?qm, ?q1, ?q5, ?_⟩
            case qm | q1 | q5 => first | rfl | (simp (implicitDefEqProofs := false) (maxSteps := 1000000) (disch := first | omega | with_reducible assumption | (simp only [lenT, Nat.reduceAdd]; omega)) only [amT, cut, bnd, Nat.reduceBEq, reduceCtorEq, Nat.reduceEqDiff, Nat.reduceAdd, Nat.reduceMul, Nat.reduceSub, Int.reduceToNat, Int.reduceEq, Int.reduceLT, Int.reduceLE, Int.reduceAdd, Int.reduceSub, Int.reduceMul, reduceIte, resVs, resV, packV, initT, addr, t1, t5]; first | done | rfl | (congr 1; omega))
            · omega
            · refine ⟨by omega, fun j h1 h2 => ?_⟩
              rcases Nat.lt_or_ge j i with h | h
              · exact hall j h1 h
              · obtain rfl : j = i := by omega
                exact hsr
        · obtain rfl : i = needs.length := by omega
          have ee : graphB names needs = true := by
            have : needs.all (fun r => shortB r 30) = true := by rw [List.all_eq_true]; intro x hx; obtain ⟨j, hj, rfl⟩ := List.mem_iff_getElem.1 hx; exact hall j hj hj
            simp [graphB, this, hsn, hn40]
          rw [ee]
          repeat first | simp (implicitDefEqProofs := false) (maxSteps := 1000000) (disch := first | omega | with_reducible assumption | (simp only [lenT, Nat.reduceAdd]; omega)) only [amT, cut, bnd, Nat.reduceBEq, reduceCtorEq, Nat.reduceEqDiff, Nat.reduceAdd, Nat.reduceMul, Nat.reduceSub, Int.reduceToNat, Int.reduceEq, Int.reduceLT, Int.reduceLE, Int.reduceAdd, Int.reduceSub, Int.reduceMul, reduceIte, resVs, resV, packV, initT, addr, F21_l0, t1, t5, g] | refine OrW.go ?_
end Go.Proofs.YtgkmlbkocgjmmaaDoor
namespace Go.Proofs.YtgkmlbkocgjmmaaDoor
open Go Go.AM
set_option linter.unusedVariables false
set_option linter.unusedSimpArgs false
set_option maxHeartbeats 2000000
set_option maxRecDepth 100000

def plZ (names : List (List UInt8)) (s : List UInt8) : Int := match plR names s with | some k => (k : Nat) | none => -1
theorem place_ok (m : AMem) (a : Option Addr) (c : Nat) (names : List (List UInt8)) (s : List UInt8) (ha : StrR m a names) (hl : names.length ≤ 1000000) :
    PureC Tryd.prog 3 28 [.slice a names.length c, .string ⟨s.toArray⟩] m (.int .i64 (plZ names s)) := by
  refine pure_of_W (fn := Tryd.f28) rfl rfl F28_ok (by simp [F28]) (.int _ _) ?_
  simp (implicitDefEqProofs := false) (maxSteps := 1000000) (disch := first | omega | with_reducible assumption | (simp only [lenT, Nat.reduceAdd]; omega)) only [amT, cut, bnd, Nat.reduceBEq, reduceCtorEq, Nat.reduceEqDiff, Nat.reduceAdd, Nat.reduceMul, Nat.reduceSub, Int.reduceToNat, Int.reduceEq, Int.reduceLT, Int.reduceLE, Int.reduceAdd, Int.reduceSub, Int.reduceMul, reduceIte, resVs, resV, packV, initT, addr, F28]
  refine W_loop (fun N qs => ∃ (i : Nat), N = names.length - i ∧ qs.ds = [] ∧ qs.m = mx m [] ∧ qs.t 0 = .slice a names.length c ∧ qs.t 1 = .string ⟨s.toArray⟩ ∧ qs.t 5 = .int .i64 i ∧ i ≤ names.length ∧ ∀ j (h : j < names.length), j < i → names[j] ≠ s) (names.length - (0)) ⟨0, rfl, rfl, ?qm, ?q0, ?q1, ?q5, ?_⟩ ?_
  case qm | q0 | q1 | q5 => first | rfl | (simp (implicitDefEqProofs := false) (maxSteps := 1000000) (disch := first | omega | with_reducible assumption | (simp only [lenT, Nat.reduceAdd]; omega)) only [amT, cut, bnd, Nat.reduceBEq, reduceCtorEq, Nat.reduceEqDiff, Nat.reduceAdd, Nat.reduceMul, Nat.reduceSub, Int.reduceToNat, Int.reduceEq, Int.reduceLT, Int.reduceLE, Int.reduceAdd, Int.reduceSub, Int.reduceMul, reduceIte, resVs, resV, packV, initT, addr]; first | done | rfl | (congr 1; omega))
  · exact ⟨by omega, fun j h1 h2 => by omega⟩
  · rintro N t m1 ds ⟨i, rfl, hds, hm, t0, t1, t5, hp⟩
    simp only at hds hm t0 t1 t5
    subst hds; replace hm := hm.symm; subst hm
    obtain ⟨hi, hall⟩ := hp
    by_cases g : (i : Int) < (names.length : Int)
    · have hi' : i < names.length := by omega
      obtain ⟨b, o, rfl, hb, hr⟩ := ha i hi'
      by_cases e : names[i] = s
      · have ee : plZ names s = (i : Nat) := by
          have : plR names s = some i := by unfold plR; rw [List.findIdx?_eq_some_iff_getElem]; exact ⟨hi', by simpa using e, fun j hj => by simpa using hall j (by omega) hj⟩
          simp [plZ, this]
        rw [ee]
        rw [e] at hr
        repeat first | simp (implicitDefEqProofs := false) (maxSteps := 1000000) (disch := first | omega | with_reducible assumption | (simp only [lenT, Nat.reduceAdd]; omega)) only [amT, cut, bnd, Nat.reduceBEq, reduceCtorEq, Nat.reduceEqDiff, Nat.reduceAdd, Nat.reduceMul, Nat.reduceSub, Int.reduceToNat, Int.reduceEq, Int.reduceLT, Int.reduceLE, Int.reduceAdd, Int.reduceSub, Int.reduceMul, reduceIte, resVs, resV, packV, initT, addr, F28_l0, t0, t1, t5, g, hr] | refine OrW.go ?_
      · have es : strEq ⟨names[i].toArray⟩ ⟨s.toArray⟩ = false := by rw [strEq_mk]; simp [e]
        repeat first | simp (implicitDefEqProofs := false) (maxSteps := 1000000) (disch := first | omega | with_reducible assumption | (simp only [lenT, Nat.reduceAdd]; omega)) only [amT, cut, bnd, Nat.reduceBEq, reduceCtorEq, Nat.reduceEqDiff, Nat.reduceAdd, Nat.reduceMul, Nat.reduceSub, Int.reduceToNat, Int.reduceEq, Int.reduceLT, Int.reduceLE, Int.reduceAdd, Int.reduceSub, Int.reduceMul, reduceIte, resVs, resV, packV, initT, addr, F28_l0, t0, t1, t5, g, hr, es] | refine OrW.go ?_
        rw [LoopK_normal]; refine ⟨_, ?_, i + 1, rfl, rfl, ?qm, ?q0, ?q1, ?q5, ?_⟩
        case qm | q0 | q1 | q5 => first | rfl | (simp (implicitDefEqProofs := false) (maxSteps := 1000000) (disch := first | omega | with_reducible assumption | (simp only [lenT, Nat.reduceAdd]; omega)) only [amT, cut, bnd, Nat.reduceBEq, reduceCtorEq, Nat.reduceEqDiff, Nat.reduceAdd, Nat.reduceMul, Nat.reduceSub, Int.reduceToNat, Int.reduceEq, Int.reduceLT, Int.reduceLE, Int.reduceAdd, Int.reduceSub, Int.reduceMul, reduceIte, resVs, resV, packV, initT, addr, t0, t1, t5]; first | done | rfl | (congr 1; omega))
        · omega
        · refine ⟨by omega, fun j h1 h2 => ?_⟩
          rcases Nat.lt_or_ge j i with h | h
          · exact hall j h1 h
          · obtain rfl : j = i := by omega
            exact e
    · obtain rfl : i = names.length := by omega
      have ee : plZ names s = -1 := by
        have : plR names s = none := plR_none.2 fun hm => by obtain ⟨j, hj, h⟩ := List.mem_iff_getElem.1 hm; exact hall j hj hj h
        simp [plZ, this]
      rw [ee]
      repeat first | simp (implicitDefEqProofs := false) (maxSteps := 1000000) (disch := first | omega | with_reducible assumption | (simp only [lenT, Nat.reduceAdd]; omega)) only [amT, cut, bnd, Nat.reduceBEq, reduceCtorEq, Nat.reduceEqDiff, Nat.reduceAdd, Nat.reduceMul, Nat.reduceSub, Int.reduceToNat, Int.reduceEq, Int.reduceLT, Int.reduceLE, Int.reduceAdd, Int.reduceSub, Int.reduceMul, reduceIte, resVs, resV, packV, initT, addr, F28_l0, t0, t1, t5, g] | refine OrW.go ?_
theorem plR_self {names : List (List UInt8)} (h : names.Nodup) {i : Nat} (hi : i < names.length) : plR names names[i] = some i := by
  unfold plR; rw [List.findIdx?_eq_some_iff_getElem]
  refine ⟨hi, by simp, fun j hj => ?_⟩
  have := (List.nodup_iff_pairwise_ne.1 h)
  rw [List.pairwise_iff_getElem] at this
  simpa using this j i (by omega) hi hj
theorem plR_get {names : List (List UInt8)} {s : List UInt8} {k : Nat} (h : plR names s = some k) : ∃ hk : k < names.length, names[k] = s := by
  have hk := plR_lt h
  unfold plR at h; rw [List.findIdx?_eq_some_iff_getElem] at h
  obtain ⟨_, h1, _⟩ := h
  exact ⟨hk, by simpa using h1⟩
theorem nodup_of {names : List (List UInt8)} (h : ∀ i (hi : i < names.length), plR names names[i] = some i) : names.Nodup := by
  rw [List.nodup_iff_pairwise_ne, List.pairwise_iff_getElem]
  intro i j hi hj hij e
  have h1 := h i hi
  have h2 := h j hj
  rw [e] at h1; rw [h1] at h2; cases h2; omega
theorem twice_ok (m : AMem) (a : Option Addr) (c : Nat) (names : List (List UInt8)) (ha : StrR m a names) (hl : names.length ≤ 1000000) :
    PureC Tryd.prog 3 52 [.slice a names.length c] m (.bool (!decide names.Nodup)) := by
  refine pure_of_W (fn := Tryd.f52) rfl rfl F52_ok (by simp [F52]) (.bool _) ?_
  have kp := fun s => DetC.known (place_ok (mx m []) a c names s (ha.old (Old.here _ [])) hl)
  simp (implicitDefEqProofs := false) (maxSteps := 1000000) (disch := first | omega | with_reducible assumption | (simp only [lenT, Nat.reduceAdd]; omega)) only [amT, cut, bnd, Nat.reduceBEq, reduceCtorEq, Nat.reduceEqDiff, Nat.reduceAdd, Nat.reduceMul, Nat.reduceSub, Int.reduceToNat, Int.reduceEq, Int.reduceLT, Int.reduceLE, Int.reduceAdd, Int.reduceSub, Int.reduceMul, reduceIte, resVs, resV, packV, initT, addr, F52]
  refine W_loop (fun N qs => ∃ (i : Nat), N = names.length - i ∧ qs.ds = [] ∧ qs.m = mx m [] ∧ qs.t 0 = .slice a names.length c ∧ qs.t 3 = .int .i64 i ∧ i ≤ names.length ∧ ∀ j (h : j < names.length), j < i → plR names names[j] = some j) (names.length - (0)) ⟨0, rfl, rfl, ?qm, ?q0, ?q3, ?_⟩ ?_
  case qm | q0 | q3 => first | rfl | (simp (implicitDefEqProofs := false) (maxSteps := 1000000) (disch := first | omega | with_reducible assumption | (simp only [lenT, Nat.reduceAdd]; omega)) only [amT, cut, bnd, Nat.reduceBEq, reduceCtorEq, Nat.reduceEqDiff, Nat.reduceAdd, Nat.reduceMul, Nat.reduceSub, Int.reduceToNat, Int.reduceEq, Int.reduceLT, Int.reduceLE, Int.reduceAdd, Int.reduceSub, Int.reduceMul, reduceIte, resVs, resV, packV, initT, addr]; first | done | rfl | (congr 1; omega))
  · exact ⟨by omega, fun j h1 h2 => by omega⟩
  · rintro N t m1 ds ⟨i, rfl, hds, hm, t0, t3, hp⟩
    simp only at hds hm t0 t3
    subst hds; replace hm := hm.symm; subst hm
    obtain ⟨hi, hall⟩ := hp
    by_cases g : (i : Int) < (names.length : Int)
    · have hi' : i < names.length := by omega
      obtain ⟨b, o, e0, hb, hr⟩ := ha i hi'
      have k1 := kp names[i]
      rw [e0] at k1
      by_cases e : plZ names names[i] = (i : Int)
      · rw [e] at k1
        repeat first | simp (implicitDefEqProofs := false) (maxSteps := 1000000) (disch := first | omega | with_reducible assumption | (simp only [lenT, Nat.reduceAdd]; omega)) only [amT, cut, bnd, Nat.reduceBEq, reduceCtorEq, Nat.reduceEqDiff, Nat.reduceAdd, Nat.reduceMul, Nat.reduceSub, Int.reduceToNat, Int.reduceEq, Int.reduceLT, Int.reduceLE, Int.reduceAdd, Int.reduceSub, Int.reduceMul, reduceIte, resVs, resV, packV, initT, addr, F52_l0, t0, t3, g, hr, e0, k1] | refine OrW.go ?_
        rw [LoopK_normal]; refine ⟨_, ?_, i + 1, rfl, rfl, ?qm, ?q0, ?q3, ?_⟩
        case qm | q0 | q3 => first | rfl | (simp (implicitDefEqProofs := false) (maxSteps := 1000000) (disch := first | omega | with_reducible assumption | (simp only [lenT, Nat.reduceAdd]; omega)) only [amT, cut, bnd, Nat.reduceBEq, reduceCtorEq, Nat.reduceEqDiff, Nat.reduceAdd, Nat.reduceMul, Nat.reduceSub, Int.reduceToNat, Int.reduceEq, Int.reduceLT, Int.reduceLE, Int.reduceAdd, Int.reduceSub, Int.reduceMul, reduceIte, resVs, resV, packV, initT, addr, t0, t3, e0]; first | done | rfl | (congr 1; omega))
        · omega
        · refine ⟨by omega, fun j h1 h2 => ?_⟩
          rcases Nat.lt_or_ge j i with h | h
          · exact hall j h1 h
          · obtain rfl : j = i := by omega
            unfold plZ at e
            cases hpl : plR names names[j] with
            | none => rw [hpl] at e; simp only at e; omega
            | some k => rw [hpl] at e; simp only at e; obtain rfl : k = j := by omega
                        rfl
      · have hnd : ¬ names.Nodup := fun h => e (by simp [plZ, plR_self h hi'])
        repeat first | simp (implicitDefEqProofs := false) (maxSteps := 1000000) (disch := first | omega | with_reducible assumption | (simp only [lenT, Nat.reduceAdd]; omega)) only [amT, cut, bnd, Nat.reduceBEq, reduceCtorEq, Nat.reduceEqDiff, Nat.reduceAdd, Nat.reduceMul, Nat.reduceSub, Int.reduceToNat, Int.reduceEq, Int.reduceLT, Int.reduceLE, Int.reduceAdd, Int.reduceSub, Int.reduceMul, reduceIte, resVs, resV, packV, initT, addr, F52_l0, t0, t3, g, hr, e0, k1, e] | refine OrW.go ?_
        simp [hnd]
    · obtain rfl : i = names.length := by omega
      have hnd : names.Nodup := nodup_of fun i hi => hall i hi hi
      repeat first | simp (implicitDefEqProofs := false) (maxSteps := 1000000) (disch := first | omega | with_reducible assumption | (simp only [lenT, Nat.reduceAdd]; omega)) only [amT, cut, bnd, Nat.reduceBEq, reduceCtorEq, Nat.reduceEqDiff, Nat.reduceAdd, Nat.reduceMul, Nat.reduceSub, Int.reduceToNat, Int.reduceEq, Int.reduceLT, Int.reduceLE, Int.reduceAdd, Int.reduceSub, Int.reduceMul, reduceIte, resVs, resV, packV, initT, addr, F52_l0, t0, t3, g] | refine OrW.go ?_
      simp [hnd]
theorem has_ok (m : AMem) (a : Option Addr) (c : Nat) (l : List Nat) (n : Nat) (ha : IntR m a l) (hl : l.length ≤ 1000000) :
    PureC Tryd.prog 3 53 [.slice a l.length c, .int .i64 n] m (.bool (l.contains n)) := by
  refine pure_of_W (fn := Tryd.f53) rfl rfl F53_ok (by simp [F53]) (.bool _) ?_
  simp (implicitDefEqProofs := false) (maxSteps := 1000000) (disch := first | omega | with_reducible assumption | (simp only [lenT, Nat.reduceAdd]; omega)) only [amT, cut, bnd, Nat.reduceBEq, reduceCtorEq, Nat.reduceEqDiff, Nat.reduceAdd, Nat.reduceMul, Nat.reduceSub, Int.reduceToNat, Int.reduceEq, Int.reduceLT, Int.reduceLE, Int.reduceAdd, Int.reduceSub, Int.reduceMul, reduceIte, resVs, resV, packV, initT, addr, F53]
  refine W_loop (fun N qs => ∃ (i : Nat), N = l.length - i ∧ qs.ds = [] ∧ qs.m = mx m [] ∧ qs.t 0 = .slice a l.length c ∧ qs.t 1 = .int .i64 n ∧ qs.t 5 = .int .i64 i ∧ i ≤ l.length ∧ ∀ j (h : j < l.length), j < i → l[j] ≠ n) (l.length - (0)) ⟨0, rfl, rfl, ?qm, ?q0, ?q1, ?q5, ?_⟩ ?_
  case qm | q0 | q1 | q5 => first | rfl | (simp (implicitDefEqProofs := false) (maxSteps := 1000000) (disch := first | omega | with_reducible assumption | (simp only [lenT, Nat.reduceAdd]; omega)) only [amT, cut, bnd, Nat.reduceBEq, reduceCtorEq, Nat.reduceEqDiff, Nat.reduceAdd, Nat.reduceMul, Nat.reduceSub, Int.reduceToNat, Int.reduceEq, Int.reduceLT, Int.reduceLE, Int.reduceAdd, Int.reduceSub, Int.reduceMul, reduceIte, resVs, resV, packV, initT, addr]; first | done | rfl | (congr 1; omega))
  · exact ⟨by omega, fun j h1 h2 => by omega⟩
  · rintro N t m1 ds ⟨i, rfl, hds, hm, t0, t1, t5, hp⟩
    simp only at hds hm t0 t1 t5
    subst hds; replace hm := hm.symm; subst hm
    obtain ⟨hi, hall⟩ := hp
    by_cases g : (i : Int) < (l.length : Int)
    · have hi' : i < l.length := by omega
      obtain ⟨b, o, rfl, hb, hr⟩ := ha i hi'
      simp only [iV] at hr
      by_cases e : l[i] = n
      · have ee : l.contains n = true := by rw [List.contains_iff_mem, ← e]; exact List.getElem_mem hi'
        rw [ee]
        rw [e] at hr
        repeat first | simp (implicitDefEqProofs := false) (maxSteps := 1000000) (disch := first | omega | with_reducible assumption | (simp only [lenT, Nat.reduceAdd]; omega)) only [amT, cut, bnd, Nat.reduceBEq, reduceCtorEq, Nat.reduceEqDiff, Nat.reduceAdd, Nat.reduceMul, Nat.reduceSub, Int.reduceToNat, Int.reduceEq, Int.reduceLT, Int.reduceLE, Int.reduceAdd, Int.reduceSub, Int.reduceMul, reduceIte, resVs, resV, packV, initT, addr, F53_l0, t0, t1, t5, g, hr] | refine OrW.go ?_
      · have e' : ¬ (l[i] : Int) = (n : Int) := by omega
        repeat first | simp (implicitDefEqProofs := false) (maxSteps := 1000000) (disch := first | omega | with_reducible assumption | (simp only [lenT, Nat.reduceAdd]; omega)) only [amT, cut, bnd, Nat.reduceBEq, reduceCtorEq, Nat.reduceEqDiff, Nat.reduceAdd, Nat.reduceMul, Nat.reduceSub, Int.reduceToNat, Int.reduceEq, Int.reduceLT, Int.reduceLE, Int.reduceAdd, Int.reduceSub, Int.reduceMul, reduceIte, resVs, resV, packV, initT, addr, F53_l0, t0, t1, t5, g, hr, e'] | refine OrW.go ?_
        rw [LoopK_normal]; refine ⟨_, ?_, i + 1, rfl, rfl, ?qm, ?q0, ?q1, ?q5, ?_⟩
        case qm | q0 | q1 | q5 => first | rfl | (simp (implicitDefEqProofs := false) (maxSteps := 1000000) (disch := first | omega | with_reducible assumption | (simp only [lenT, Nat.reduceAdd]; omega)) only [amT, cut, bnd, Nat.reduceBEq, reduceCtorEq, Nat.reduceEqDiff, Nat.reduceAdd, Nat.reduceMul, Nat.reduceSub, Int.reduceToNat, Int.reduceEq, Int.reduceLT, Int.reduceLE, Int.reduceAdd, Int.reduceSub, Int.reduceMul, reduceIte, resVs, resV, packV, initT, addr, t0, t1, t5]; first | done | rfl | (congr 1; omega))
        · omega
        · refine ⟨by omega, fun j h1 h2 => ?_⟩
          rcases Nat.lt_or_ge j i with h | h
          · exact hall j h1 h
          · obtain rfl : j = i := by omega
            exact e
    · obtain rfl : i = l.length := by omega
      have ee : l.contains n = false := by
        rw [← Bool.not_eq_true, List.contains_iff_mem]; intro hm
        obtain ⟨j, hj, h⟩ := List.mem_iff_getElem.1 hm; exact hall j hj hj h
      rw [ee]
      repeat first | simp (implicitDefEqProofs := false) (maxSteps := 1000000) (disch := first | omega | with_reducible assumption | (simp only [lenT, Nat.reduceAdd]; omega)) only [amT, cut, bnd, Nat.reduceBEq, reduceCtorEq, Nat.reduceEqDiff, Nat.reduceAdd, Nat.reduceMul, Nat.reduceSub, Int.reduceToNat, Int.reduceEq, Int.reduceLT, Int.reduceLE, Int.reduceAdd, Int.reduceSub, Int.reduceMul, reduceIte, resVs, resV, packV, initT, addr, F53_l0, t0, t1, t5, g] | refine OrW.go ?_
theorem all_ok (m : AMem) (a : Option Addr) (c : Nat) (l : List Nat) (ha : IntR m a l) (hl : l.length ≤ 1000000) (a2 : Option Addr) (c2 : Nat) (l2 : List Nat) (ha2 : IntR m a2 l2) (hl2 : l2.length ≤ 1000000) :
    PureC Tryd.prog 3 54 [.slice a l.length c, .slice a2 l2.length c2] m (.bool (l2.all l.contains)) := by
  refine pure_of_W (fn := Tryd.f54) rfl rfl F54_ok (by simp [F54]) (.bool _) ?_
  have kh := fun n => DetC.known (has_ok (mx m []) a c l n (ha.old (Old.here _ [])) hl)
  simp (implicitDefEqProofs := false) (maxSteps := 1000000) (disch := first | omega | with_reducible assumption | (simp only [lenT, Nat.reduceAdd]; omega)) only [amT, cut, bnd, Nat.reduceBEq, reduceCtorEq, Nat.reduceEqDiff, Nat.reduceAdd, Nat.reduceMul, Nat.reduceSub, Int.reduceToNat, Int.reduceEq, Int.reduceLT, Int.reduceLE, Int.reduceAdd, Int.reduceSub, Int.reduceMul, reduceIte, resVs, resV, packV, initT, addr, F54]
  refine W_loop (fun N qs => ∃ (i : Nat), N = l2.length - i ∧ qs.ds = [] ∧ qs.m = mx m [] ∧ qs.t 0 = .slice a l.length c ∧ qs.t 1 = .slice a2 l2.length c2 ∧ qs.t 5 = .int .i64 i ∧ i ≤ l2.length ∧ ∀ j (h : j < l2.length), j < i → l.contains l2[j] = true) (l2.length - (0)) ⟨0, rfl, rfl, ?qm, ?q0, ?q1, ?q5, ?_⟩ ?_
  case qm | q0 | q1 | q5 => first | rfl | (simp (implicitDefEqProofs := false) (maxSteps := 1000000) (disch := first | omega | with_reducible assumption | (simp only [lenT, Nat.reduceAdd]; omega)) only [amT, cut, bnd, Nat.reduceBEq, reduceCtorEq, Nat.reduceEqDiff, Nat.reduceAdd, Nat.reduceMul, Nat.reduceSub, Int.reduceToNat, Int.reduceEq, Int.reduceLT, Int.reduceLE, Int.reduceAdd, Int.reduceSub, Int.reduceMul, reduceIte, resVs, resV, packV, initT, addr]; first | done | rfl | (congr 1; omega))
  · exact ⟨by omega, fun j h1 h2 => by omega⟩
  · rintro N t m1 ds ⟨i, rfl, hds, hm, t0, t1, t5, hp⟩
    simp only at hds hm t0 t1 t5
    subst hds; replace hm := hm.symm; subst hm
    obtain ⟨hi, hall⟩ := hp
    by_cases g : (i : Int) < (l2.length : Int)
    · have hi' : i < l2.length := by omega
      obtain ⟨b, o, rfl, hb, hr⟩ := ha2 i hi'
      simp only [iV] at hr
      have k1 := kh l2[i]
      cases e : l.contains l2[i] with
      | false =>
        have ee : l2.all l.contains = false := by rw [List.all_eq_false]; exact ⟨_, List.getElem_mem hi', by rw [e]; simp⟩
        rw [e] at k1
        rw [ee]
        repeat first | simp (implicitDefEqProofs := false) (maxSteps := 1000000) (disch := first | omega | with_reducible assumption | (simp only [lenT, Nat.reduceAdd]; omega)) only [amT, cut, bnd, Nat.reduceBEq, reduceCtorEq, Nat.reduceEqDiff, Nat.reduceAdd, Nat.reduceMul, Nat.reduceSub, Int.reduceToNat, Int.reduceEq, Int.reduceLT, Int.reduceLE, Int.reduceAdd, Int.reduceSub, Int.reduceMul, reduceIte, resVs, resV, packV, initT, addr, F54_l0, t0, t1, t5, g, hr, k1] | refine OrW.go ?_
      | true =>
        rw [e] at k1
        repeat first | simp (implicitDefEqProofs := false) (maxSteps := 1000000) (disch := first | omega | with_reducible assumption | (simp only [lenT, Nat.reduceAdd]; omega)) only [amT, cut, bnd, Nat.reduceBEq, reduceCtorEq, Nat.reduceEqDiff, Nat.reduceAdd, Nat.reduceMul, Nat.reduceSub, Int.reduceToNat, Int.reduceEq, Int.reduceLT, Int.reduceLE, Int.reduceAdd, Int.reduceSub, Int.reduceMul, reduceIte, resVs, resV, packV, initT, addr, F54_l0, t0, t1, t5, g, hr, k1] | refine OrW.go ?_
        rw [LoopK_normal]; refine ⟨_, ?_, i + 1, rfl, rfl, ?qm, ?q0, ?q1, ?q5, ?_⟩
        case qm | q0 | q1 | q5 => first | rfl | (simp (implicitDefEqProofs := false) (maxSteps := 1000000) (disch := first | omega | with_reducible assumption | (simp only [lenT, Nat.reduceAdd]; omega)) only [amT, cut, bnd, Nat.reduceBEq, reduceCtorEq, Nat.reduceEqDiff, Nat.reduceAdd, Nat.reduceMul, Nat.reduceSub, Int.reduceToNat, Int.reduceEq, Int.reduceLT, Int.reduceLE, Int.reduceAdd, Int.reduceSub, Int.reduceMul, reduceIte, resVs, resV, packV, initT, addr, t0, t1, t5]; first | done | rfl | (congr 1; omega))
        · omega
        · refine ⟨by omega, fun j h1 h2 => ?_⟩
          rcases Nat.lt_or_ge j i with h | h
          · exact hall j h1 h
          · obtain rfl : j = i := by omega
            exact e
    · obtain rfl : i = l2.length := by omega
      have ee : l2.all l.contains = true := by
        rw [List.all_eq_true]; intro x hx; obtain ⟨j, hj, rfl⟩ := List.mem_iff_getElem.1 hx; exact hall j hj hj
      rw [ee]
      repeat first | simp (implicitDefEqProofs := false) (maxSteps := 1000000) (disch := first | omega | with_reducible assumption | (simp only [lenT, Nat.reduceAdd]; omega)) only [amT, cut, bnd, Nat.reduceBEq, reduceCtorEq, Nat.reduceEqDiff, Nat.reduceAdd, Nat.reduceMul, Nat.reduceSub, Int.reduceToNat, Int.reduceEq, Int.reduceLT, Int.reduceLE, Int.reduceAdd, Int.reduceSub, Int.reduceMul, reduceIte, resVs, resV, packV, initT, addr, F54_l0, t0, t1, t5, g] | refine OrW.go ?_
def edgesR (names : List (List UInt8)) (needs : List (List (List UInt8))) (i : Nat) : List Nat := (rowOf needs i).filterMap (plR names)
theorem edges_ok (m : AMem) (a : Option Addr) (c : Nat) (names : List (List UInt8)) (ha : StrR m a names) (hl : names.length ≤ 1000000) (na : Option Addr) (nc : Nat) (needs : List (List (List UInt8))) (hN : NeedsR m na needs) (hnl : needs.length ≤ 1000000) (i : Nat) (hi : i ≤ 1000000) :
    RelC Tryd.prog 3 55 [.slice a names.length c, .slice na needs.length nc, .int .i64 i] m fun r m' => Old m m' ∧ IntB m' r (edgesR names needs i) ∧ ∀ x, ownV r x → m.size ≤ x := by
  refine rel_of_W (fn := Tryd.f55) rfl rfl F55_ok (by simp [F55]) ?_
  by_cases g : (i : Int) < (needs.length : Int)
  · have hi' : i < needs.length := by omega
    obtain ⟨b, o, ra, rc, rfl, hb, hr, hS, hrl⟩ := hN i hi'
    have e : edgesR names needs i = needs[i].filterMap (plR names) := by simp [edgesR, rowOf, List.getD, hi']
    rw [e]
    simp (implicitDefEqProofs := false) (maxSteps := 1000000) (disch := first | omega | with_reducible assumption | (simp only [lenT, Nat.reduceAdd]; omega)) only [amT, cut, bnd, Nat.reduceBEq, reduceCtorEq, Nat.reduceEqDiff, Nat.reduceAdd, Nat.reduceMul, Nat.reduceSub, Int.reduceToNat, Int.reduceEq, Int.reduceLT, Int.reduceLE, Int.reduceAdd, Int.reduceSub, Int.reduceMul, reduceIte, resVs, resV, packV, initT, addr, F55, g]
    refine W_loop (fun N qs => ∃ (k : Nat) (M : AMem) (oa : Option Addr) (oc : Nat), N = needs[i].length - k ∧ qs.ds = [] ∧ qs.m = mx M [] ∧ qs.t 0 = .slice a names.length c ∧ qs.t 1 = .slice (some ⟨b, o, none⟩) needs.length nc ∧ qs.t 2 = .int .i64 i ∧ qs.t 7 = .slice oa ((needs[i].take k).filterMap (plR names)).length oc ∧ qs.t 8 = .int .i64 k ∧ k ≤ needs[i].length ∧ Old m M ∧ IntB M (.slice oa ((needs[i].take k).filterMap (plR names)).length oc) ((needs[i].take k).filterMap (plR names)) ∧ ∀ x, ownV (.slice oa ((needs[i].take k).filterMap (plR names)).length oc) x → m.size ≤ x) (needs[i].length - (0)) ⟨0, m, none, 0, rfl, rfl, ?qm, ?q0, ?q1, ?q2, ?q7, ?q8, ?_⟩ ?_
    case qm | q0 | q1 | q2 | q7 | q8 => first | rfl | (simp (implicitDefEqProofs := false) (maxSteps := 1000000) (disch := first | omega | with_reducible assumption | (simp only [lenT, Nat.reduceAdd]; omega)) only [amT, cut, bnd, Nat.reduceBEq, reduceCtorEq, Nat.reduceEqDiff, Nat.reduceAdd, Nat.reduceMul, Nat.reduceSub, Int.reduceToNat, Int.reduceEq, Int.reduceLT, Int.reduceLE, Int.reduceAdd, Int.reduceSub, Int.reduceMul, reduceIte, resVs, resV, packV, initT, addr, List.take_zero, List.filterMap_nil]; first | done | rfl | (congr 1; omega))
    · exact ⟨by omega, Old.refl _, .inl ⟨by simp, rfl⟩, fun x ⟨o, l, c, h⟩ => by cases h⟩
    · rintro N t m1 ds ⟨k, M, oa, oc, rfl, hds, hm, t0, t1, t2, t7, t8, hp⟩
      simp only at hds hm t0 t1 t2 t7 t8
      subst hds; replace hm := hm.symm; subst hm
      obtain ⟨hk, hO, hI, hown⟩ := hp
      have hbM : b < M.size := Nat.lt_of_lt_of_le hb hO.1
      have hrM : rdO (M.get b) (o + i) 1 = some [.slice ra needs[i].length rc] := by rw [hO.2 b hb]; exact hr
      by_cases gk : (k : Int) < (needs[i].length : Int)
      · have hk' : k < needs[i].length := by omega
        obtain ⟨b2, o2, rfl, hb2, hr2⟩ := hS.str k hk'
        have hb2M : b2 < M.size := Nat.lt_of_lt_of_le hb2 hO.1
        have hr2M : rdO (M.get b2) (o2 + k) 1 = some [.string ⟨needs[i][k].toArray⟩] := by rw [hO.2 b2 hb2]; exact hr2
        have kp := DetC.known (place_ok (mx M []) a c names needs[i][k] (ha.old (hO.mx [])) hl)
        have hsn : (needs[i].take (k + 1)).filterMap (plR names) = (needs[i].take k).filterMap (plR names) ++ (match plR names needs[i][k] with | some q => [q] | none => []) := by
          rw [List.take_succ_eq_append_getElem hk', List.filterMap_append]
          congr 1
          cases h : plR names needs[i][k] <;> simp [h]
        cases hpl : plR names needs[i][k] with
        | none =>
          have ez : plZ names needs[i][k] = -1 := by simp [plZ, hpl]
          rw [ez] at kp
          rw [hpl] at hsn
          simp only [List.append_nil] at hsn
          repeat first | simp (implicitDefEqProofs := false) (maxSteps := 1000000) (disch := first | omega | with_reducible assumption | (simp only [lenT, Nat.reduceAdd]; omega)) only [amT, cut, bnd, Nat.reduceBEq, reduceCtorEq, Nat.reduceEqDiff, Nat.reduceAdd, Nat.reduceMul, Nat.reduceSub, Int.reduceToNat, Int.reduceEq, Int.reduceLT, Int.reduceLE, Int.reduceAdd, Int.reduceSub, Int.reduceMul, reduceIte, resVs, resV, packV, initT, addr, F55_l0, t0, t1, t2, t7, t8, g, gk, hrM, hr2M, kp] | refine OrW.go ?_
          rw [LoopK_normal]; refine ⟨_, ?_, k + 1, M, oa, oc, rfl, rfl, ?qm, ?q0, ?q1, ?q2, ?q7, ?q8, ?_⟩
          case qm | q0 | q1 | q2 | q7 | q8 => first | rfl | (simp (implicitDefEqProofs := false) (maxSteps := 1000000) (disch := first | omega | with_reducible assumption | (simp only [lenT, Nat.reduceAdd]; omega)) only [amT, cut, bnd, Nat.reduceBEq, reduceCtorEq, Nat.reduceEqDiff, Nat.reduceAdd, Nat.reduceMul, Nat.reduceSub, Int.reduceToNat, Int.reduceEq, Int.reduceLT, Int.reduceLE, Int.reduceAdd, Int.reduceSub, Int.reduceMul, reduceIte, resVs, resV, packV, initT, addr, t0, t1, t2, t7, t8, hsn]; first | done | rfl | (congr 1; omega))
          · omega
          · rw [hsn]; exact ⟨by omega, hO, hI, hown⟩
        | some q =>
          have ez : plZ names needs[i][k] = (q : Nat) := by simp [plZ, hpl]
          rw [ez] at kp
          rw [hpl] at hsn
          simp only at hsn
          have hll : ((needs[i].take k).filterMap (plR names)).length ≤ k := by
            have := List.length_filterMap_le (plR names) (needs[i].take k); rw [List.length_take] at this; omega
          obtain ⟨v', M4, happ, hI4, hk4, ho4⟩ := (hI.old (Old.here M [.cells [iV q] 3 true .exact])).app (nb := M.size) (k := q) (by omega) (by rw [mx_size]; simp) (mx_new0 _ _)
          rw [mx_mx, List.append_nil] at happ
          rw [← hsn] at hI4
          obtain ⟨av, cv, rfl⟩ := hI4.len
          simp only [iV] at happ
          have hs4 := hk4.1
          rw [mx_size] at hs4
          have hOM4 : Old m M4 := ⟨by have := hO.1; omega, fun y hy => by
            rw [hk4.2 y (by rw [mx_size]; have := hO.1; omega) (fun h => by have := hown y h; omega), mx_old (by have := hO.1; omega)]; exact hO.2 y hy⟩
          have gq : (0 : Int) ≤ (q : Int) := by omega
          repeat first | simp (implicitDefEqProofs := false) (maxSteps := 1000000) (disch := first | omega | with_reducible assumption | (simp only [lenT, Nat.reduceAdd]; omega)) only [amT, cut, bnd, Nat.reduceBEq, reduceCtorEq, Nat.reduceEqDiff, Nat.reduceAdd, Nat.reduceMul, Nat.reduceSub, Int.reduceToNat, Int.reduceEq, Int.reduceLT, Int.reduceLE, Int.reduceAdd, Int.reduceSub, Int.reduceMul, reduceIte, resVs, resV, packV, initT, addr, F55_l0, t0, t1, t2, t7, t8, g, gk, hrM, hr2M, kp, gq, stepOp_app_v, happ] | refine OrW.go ?_
          rw [LoopK_normal]; refine ⟨_, ?_, k + 1, M4, av, cv, rfl, rfl, ?qm, ?q0, ?q1, ?q2, ?q7, ?q8, ?_⟩
          case qm | q0 | q1 | q2 | q7 | q8 => first | rfl | (simp (implicitDefEqProofs := false) (maxSteps := 1000000) (disch := first | omega | with_reducible assumption | (simp only [lenT, Nat.reduceAdd]; omega)) only [amT, cut, bnd, Nat.reduceBEq, reduceCtorEq, Nat.reduceEqDiff, Nat.reduceAdd, Nat.reduceMul, Nat.reduceSub, Int.reduceToNat, Int.reduceEq, Int.reduceLT, Int.reduceLE, Int.reduceAdd, Int.reduceSub, Int.reduceMul, reduceIte, resVs, resV, packV, initT, addr, t0, t1, t2, t7, t8]; first | done | rfl | (congr 1; omega))
          · omega
          · exact ⟨by omega, hOM4, hI4, fun x hx => by have := ho4 x hx; rw [mx_size] at this; have := hO.1; omega⟩
      · obtain rfl : k = needs[i].length := by omega
        rw [List.take_length] at hI t7 hown
        repeat first | simp (implicitDefEqProofs := false) (maxSteps := 1000000) (disch := first | omega | with_reducible assumption | (simp only [lenT, Nat.reduceAdd]; omega)) only [amT, cut, bnd, Nat.reduceBEq, reduceCtorEq, Nat.reduceEqDiff, Nat.reduceAdd, Nat.reduceMul, Nat.reduceSub, Int.reduceToNat, Int.reduceEq, Int.reduceLT, Int.reduceLE, Int.reduceAdd, Int.reduceSub, Int.reduceMul, reduceIte, resVs, resV, packV, initT, addr, F55_l0, t0, t1, t2, t7, t8, g, gk, hrM] | refine OrW.go ?_
        exact ⟨_, rfl, fun _ => ⟨hO.mx [], hI.old (Old.here _ []), hown⟩⟩
  · have e : edgesR names needs i = [] := by simp [edgesR, rowOf, List.getD, show ¬ i < needs.length by omega]
    rw [e]
    repeat first | simp (implicitDefEqProofs := false) (maxSteps := 1000000) (disch := first | omega | with_reducible assumption | (simp only [lenT, Nat.reduceAdd]; omega)) only [amT, cut, bnd, Nat.reduceBEq, reduceCtorEq, Nat.reduceEqDiff, Nat.reduceAdd, Nat.reduceMul, Nat.reduceSub, Int.reduceToNat, Int.reduceEq, Int.reduceLT, Int.reduceLE, Int.reduceAdd, Int.reduceSub, Int.reduceMul, reduceIte, resVs, resV, packV, initT, addr, F55, g] | refine OrW.go ?_
    exact ⟨_, rfl, fun _ => ⟨.inl ⟨rfl, rfl⟩, fun x ⟨o, l, c, h⟩ => by cases h⟩⟩
end Go.Proofs.YtgkmlbkocgjmmaaDoor
namespace Go.Proofs.YtgkmlbkocgjmmaaDoor
open Go Go.AM
set_option linter.unusedVariables false
set_option linter.unusedSimpArgs false
set_option maxHeartbeats 2000000
set_option maxRecDepth 100000

theorem all_fm (names : List (List UInt8)) (done : List Bool) (out : List Nat) (hD : ∀ k, k < names.length → done.getD k false = out.contains k) (row : List (List UInt8)) :
    (row.filterMap (plR names)).all out.contains = !row.any (badDep names done) := by
  induction row with
  | nil => rfl
  | cons s row ih =>
    cases h : plR names s with
    | none =>
      rw [List.filterMap_cons_none h, ih]
      simp [List.any_cons, badDep, h]
    | some k =>
      rw [List.filterMap_cons_some h, List.all_cons, ih, List.any_cons, ← hD k (plR_lt h)]
      simp [badDep, h]
theorem ref_ready {names : List (List UInt8)} {needs : List (List (List UInt8))} {done : List Bool} {out : List Nat} (hD : ∀ k, k < names.length → done.getD k false = out.contains k) {i : Nat} (hi : i < names.length) :
    readyR names needs done i = (!out.contains i && (edgesR names needs i).all out.contains) := by
  unfold readyR edgesR
  rw [all_fm names done out hD, hD i hi]
theorem done_next {names : List (List UInt8)} {done : List Bool} {out : List Nat} (hD : ∀ k, k < names.length → done.getD k false = out.contains k) (hl : done.length = names.length) {i : Nat} (hi : i < names.length) :
    ∀ k, k < names.length → (done.set i true).getD k false = (out ++ [i]).contains k := fun k hk => by
  rw [getD_set (by omega)]
  by_cases h : k = i
  · subst h; simp
  · rw [if_neg h, hD k hk]
    rw [Bool.eq_iff_iff]; simp [h]
theorem full_none {names : List (List UInt8)} {needs : List (List (List UInt8))} {done : List Bool} (hl : done.length = names.length) (h : done.count false = 0) : nextR names needs done = none := by
  refine next_none fun j hj => ?_
  have : done[j]'(by omega) = true := by
    cases hb : done[j]'(by omega) with
    | true => rfl
    | false => have := List.count_pos_iff.2 (show false ∈ done from hb ▸ List.getElem_mem (by omega)); omega
  unfold readyR
  simp [List.getD, show j < done.length by omega, this]
theorem refSort_ok (m : AMem) (a : Option Addr) (c : Nat) (names : List (List UInt8)) (ha : StrR m a names) (hl : names.length ≤ 100000) (na : Option Addr) (nc : Nat) (needs : List (List (List UInt8))) (hN : NeedsR m na needs) (hnl : needs.length ≤ 1000000) (hrow : ∀ i, (rowOf needs i).length ≤ 1000) :
    RelC Tryd.prog 3 23 [.slice a names.length c, .slice na needs.length nc] m fun r m' => Old m m' ∧ ∃ v, r = .tuple #[v, .int .i64 (sortR names needs).2] ∧ IntB m' v (sortR names needs).1 := by
  refine rel_of_W (fn := Tryd.f23) rfl rfl F23_ok (by simp [F23]) ?_
  have kt := DetC.known (twice_ok (mx m []) a c names (ha.old (Old.here _ [])) (by omega))
  by_cases hnd : names.Nodup
  case neg =>
    have e : sortR names needs = ([], 151) := if_neg hnd
    have e2 : (!decide names.Nodup) = true := by simp [hnd]
    rw [e2] at kt
    rw [e]
    repeat first | simp (implicitDefEqProofs := false) (maxSteps := 1000000) (disch := first | omega | with_reducible assumption | (simp only [lenT, Nat.reduceAdd]; omega)) only [amT, cut, bnd, Nat.reduceBEq, reduceCtorEq, Nat.reduceEqDiff, Nat.reduceAdd, Nat.reduceMul, Nat.reduceSub, Int.reduceToNat, Int.reduceEq, Int.reduceLT, Int.reduceLE, Int.reduceAdd, Int.reduceSub, Int.reduceMul, reduceIte, resVs, resV, packV, initT, addr, F23, kt] | refine OrW.go ?_
    exact ⟨_, rfl, fun _ => ⟨.slice none 0 0, rfl, .inl ⟨rfl, rfl⟩⟩⟩
  have e2 : (!decide names.Nodup) = false := by simp [hnd]
  rw [e2] at kt
  repeat first | simp (implicitDefEqProofs := false) (maxSteps := 1000000) (disch := first | omega | with_reducible assumption | (simp only [lenT, Nat.reduceAdd]; omega)) only [amT, cut, bnd, Nat.reduceBEq, reduceCtorEq, Nat.reduceEqDiff, Nat.reduceAdd, Nat.reduceMul, Nat.reduceSub, Int.reduceToNat, Int.reduceEq, Int.reduceLT, Int.reduceLE, Int.reduceAdd, Int.reduceSub, Int.reduceMul, reduceIte, resVs, resV, packV, initT, addr, F23, kt] | refine OrW.go ?_
  refine W_loop (fun N qs => ∃ (M : AMem) (oa : Option Addr) (oc : Nat) (out : List Nat) (done : List Bool), N = done.count false ∧ qs.ds = [] ∧ qs.m = mx M [] ∧ qs.t 0 = .slice a names.length c ∧ qs.t 1 = .slice na needs.length nc ∧ qs.t 6 = .slice oa out.length oc ∧ Old m M ∧ IntB M (.slice oa out.length oc) out ∧ (∀ x, ownV (.slice oa out.length oc) x → m.size ≤ x) ∧ done.length = names.length ∧ out.length + done.count false = names.length ∧ (∀ k, k < names.length → done.getD k false = out.contains k) ∧ ∀ res, Runs names needs done out res → Runs names needs (List.replicate names.length false) [] res) ((List.replicate names.length false).count false) ⟨m, none, 0, [], List.replicate names.length false, rfl, rfl, ?qm, ?q0, ?q1, ?q6, ?_⟩ ?_
  case qm | q0 | q1 | q6 => first | rfl | (simp (implicitDefEqProofs := false) (maxSteps := 1000000) (disch := first | omega | with_reducible assumption | (simp only [lenT, Nat.reduceAdd]; omega)) only [amT, cut, bnd, Nat.reduceBEq, reduceCtorEq, Nat.reduceEqDiff, Nat.reduceAdd, Nat.reduceMul, Nat.reduceSub, Int.reduceToNat, Int.reduceEq, Int.reduceLT, Int.reduceLE, Int.reduceAdd, Int.reduceSub, Int.reduceMul, reduceIte, resVs, resV, packV, initT, addr]; first | done | rfl | (congr 1; omega))
  · refine ⟨Old.refl _, .inl ⟨rfl, rfl⟩, fun x ⟨o, l, c, h⟩ => (by cases h), by simp, by simp, fun k hk => ?_, fun _ h => h⟩
    simp [List.getD, List.getElem?_replicate, hk]
  · rintro N t m1 ds ⟨M, oa, oc, out, done, rfl, hds, hm, t0, t1, t6, hp⟩
    simp only at hds hm t0 t1 t6
    subst hds; replace hm := hm.symm; subst hm
    obtain ⟨p1, p2, p3, p4, p5, p6, p7⟩ := hp
    by_cases g : (out.length : Int) < (names.length : Int)
    · repeat first | simp (implicitDefEqProofs := false) (maxSteps := 1000000) (disch := first | omega | with_reducible assumption | (simp only [lenT, Nat.reduceAdd]; omega)) only [amT, cut, bnd, Nat.reduceBEq, reduceCtorEq, Nat.reduceEqDiff, Nat.reduceAdd, Nat.reduceMul, Nat.reduceSub, Int.reduceToNat, Int.reduceEq, Int.reduceLT, Int.reduceLE, Int.reduceAdd, Int.reduceSub, Int.reduceMul, reduceIte, resVs, resV, packV, initT, addr, F23_l0, t0, t1, t6, g] | refine OrW.go ?_
      refine W_loop (fun N qs => ∃ (i : Nat) (nx : Int) (M1 : AMem), N = names.length - i ∧ qs.ds = [] ∧ qs.m = mx M1 [] ∧ qs.t 0 = .slice a names.length c ∧ qs.t 1 = .slice na needs.length nc ∧ qs.t 6 = .slice oa out.length oc ∧ qs.t 7 = .int .i64 nx ∧ qs.t 8 = .int .i64 i ∧ i ≤ names.length ∧ Old M M1 ∧ ((nx = -1 ∧ ∀ j, j < i → readyR names needs done j = false) ∨ ∃ k : Nat, nx = (k : Int) ∧ nextR names needs done = some k)) (names.length - (0)) ⟨0, -1, M, rfl, rfl, ?qm, ?q0, ?q1, ?q6, ?q7, ?q8, ?_⟩ ?_
      case qm | q0 | q1 | q6 | q7 | q8 => first | rfl | (simp (implicitDefEqProofs := false) (maxSteps := 1000000) (disch := first | omega | with_reducible assumption | (simp only [lenT, Nat.reduceAdd]; omega)) only [amT, cut, bnd, Nat.reduceBEq, reduceCtorEq, Nat.reduceEqDiff, Nat.reduceAdd, Nat.reduceMul, Nat.reduceSub, Int.reduceToNat, Int.reduceEq, Int.reduceLT, Int.reduceLE, Int.reduceAdd, Int.reduceSub, Int.reduceMul, reduceIte, resVs, resV, packV, initT, addr, t0, t1, t6]; first | done | rfl | (congr 1; omega))
      · exact ⟨by omega, Old.refl _, .inl ⟨rfl, fun j h => by omega⟩⟩
      · rintro N t m1 ds ⟨i, nx, M1, rfl, hds, hm, t0, t1, t6, t7, t8, hp⟩
        simp only at hds hm t0 t1 t6 t7 t8
        subst hds; replace hm := hm.symm; subst hm
        obtain ⟨hi, hO, hx⟩ := hp
        rcases hx with ⟨rfl, hall⟩ | ⟨k, rfl, hk⟩
        · by_cases gi : (i : Int) < (names.length : Int)
          · have hi' : i < names.length := by omega
            have hrd := ref_ready (needs := needs) p6 hi'
            have kh := DetC.known (has_ok (mx M1 []) oa oc out i (p2.row.old (hO.mx [])) (by omega))
            have gm : (-1 : Int) < 0 := by omega
            cases hc : out.contains i with
            | true =>
              rw [hc] at kh hrd
              simp only [Bool.not_true, Bool.false_and] at hrd
              repeat first | simp (implicitDefEqProofs := false) (maxSteps := 1000000) (disch := first | omega | with_reducible assumption | (simp only [lenT, Nat.reduceAdd]; omega)) only [amT, cut, bnd, Nat.reduceBEq, reduceCtorEq, Nat.reduceEqDiff, Nat.reduceAdd, Nat.reduceMul, Nat.reduceSub, Int.reduceToNat, Int.reduceEq, Int.reduceLT, Int.reduceLE, Int.reduceAdd, Int.reduceSub, Int.reduceMul, reduceIte, resVs, resV, packV, initT, addr, F23_l1, t0, t1, t6, t7, t8, gi, gm, kh] | refine OrW.go ?_
              rw [LoopK_normal]; refine ⟨_, ?_, i + 1, -1, M1, rfl, rfl, ?qm, ?q0, ?q1, ?q6, ?q7, ?q8, ?_⟩
              case qm | q0 | q1 | q6 | q7 | q8 => first | rfl | (simp (implicitDefEqProofs := false) (maxSteps := 1000000) (disch := first | omega | with_reducible assumption | (simp only [lenT, Nat.reduceAdd]; omega)) only [amT, cut, bnd, Nat.reduceBEq, reduceCtorEq, Nat.reduceEqDiff, Nat.reduceAdd, Nat.reduceMul, Nat.reduceSub, Int.reduceToNat, Int.reduceEq, Int.reduceLT, Int.reduceLE, Int.reduceAdd, Int.reduceSub, Int.reduceMul, reduceIte, resVs, resV, packV, initT, addr, t0, t1, t6, t7, t8]; first | done | rfl | (congr 1; omega))
              · omega
              · refine ⟨by omega, hO, .inl ⟨rfl, fun j hj => ?_⟩⟩
                rcases Nat.lt_or_ge j i with h | h
                · exact hall j h
                · obtain rfl : j = i := by omega
                  exact hrd
            | false =>
              rw [hc] at kh hrd
              simp only [Bool.not_false, Bool.true_and] at hrd
              have hed := edges_ok (mx M1 []) a c names (ha.old ((p1.trans hO).mx [])) (by omega) na nc needs (hN.old ((p1.trans hO).mx [])) hnl i (by omega)
              repeat first | simp (implicitDefEqProofs := false) (maxSteps := 1000000) (disch := first | omega | with_reducible assumption | (simp only [lenT, Nat.reduceAdd]; omega)) only [amT, cut, bnd, Nat.reduceBEq, reduceCtorEq, Nat.reduceEqDiff, Nat.reduceAdd, Nat.reduceMul, Nat.reduceSub, Int.reduceToNat, Int.reduceEq, Int.reduceLT, Int.reduceLE, Int.reduceAdd, Int.reduceSub, Int.reduceMul, reduceIte, resVs, resV, packV, initT, addr, F23_l1, t0, t1, t6, t7, t8, gi, gm, kh] | refine OrW.go ?_
              refine RelC.call hed ?_
              rintro v M2 ⟨hO2, hI, -⟩
              have hO12 : Old M1 M2 := (Old.here M1 []).trans hO2
              obtain ⟨ea, ec, rfl⟩ := hI.len
              have hel : (edgesR names needs i).length ≤ 1000 := by
                have := List.length_filterMap_le (plR names) (rowOf needs i); have := hrow i; unfold edgesR; omega
              have ka := DetC.known (all_ok (mx M2 []) oa oc out (p2.row.old ((hO.trans hO12).mx [])) (by omega) ea ec (edgesR names needs i) (hI.row.old (Old.here _ [])) (by omega))
              cases he : (edgesR names needs i).all out.contains with
              | true =>
                rw [he] at ka hrd
                have hnx := next_of hi' hrd hall
                repeat first | simp (implicitDefEqProofs := false) (maxSteps := 1000000) (disch := first | omega | with_reducible assumption | (simp only [lenT, Nat.reduceAdd]; omega)) only [amT, cut, bnd, Nat.reduceBEq, reduceCtorEq, Nat.reduceEqDiff, Nat.reduceAdd, Nat.reduceMul, Nat.reduceSub, Int.reduceToNat, Int.reduceEq, Int.reduceLT, Int.reduceLE, Int.reduceAdd, Int.reduceSub, Int.reduceMul, reduceIte, resVs, resV, packV, initT, addr, ka, t0, t1, t6, t7, t8] | refine OrW.go ?_
                rw [LoopK_normal]; refine ⟨_, ?_, i + 1, i, M2, rfl, rfl, ?qm, ?q0, ?q1, ?q6, ?q7, ?q8, ?_⟩
                case qm | q0 | q1 | q6 | q7 | q8 => first | rfl | (simp (implicitDefEqProofs := false) (maxSteps := 1000000) (disch := first | omega | with_reducible assumption | (simp only [lenT, Nat.reduceAdd]; omega)) only [amT, cut, bnd, Nat.reduceBEq, reduceCtorEq, Nat.reduceEqDiff, Nat.reduceAdd, Nat.reduceMul, Nat.reduceSub, Int.reduceToNat, Int.reduceEq, Int.reduceLT, Int.reduceLE, Int.reduceAdd, Int.reduceSub, Int.reduceMul, reduceIte, resVs, resV, packV, initT, addr, t0, t1, t6, t7, t8]; first | done | rfl | (congr 1; omega))
                · omega
                · exact ⟨by omega, hO.trans hO12, .inr ⟨i, rfl, hnx⟩⟩
              | false =>
                rw [he] at ka hrd
                repeat first | simp (implicitDefEqProofs := false) (maxSteps := 1000000) (disch := first | omega | with_reducible assumption | (simp only [lenT, Nat.reduceAdd]; omega)) only [amT, cut, bnd, Nat.reduceBEq, reduceCtorEq, Nat.reduceEqDiff, Nat.reduceAdd, Nat.reduceMul, Nat.reduceSub, Int.reduceToNat, Int.reduceEq, Int.reduceLT, Int.reduceLE, Int.reduceAdd, Int.reduceSub, Int.reduceMul, reduceIte, resVs, resV, packV, initT, addr, ka, t0, t1, t6, t7, t8] | refine OrW.go ?_
                rw [LoopK_normal]; refine ⟨_, ?_, i + 1, -1, M2, rfl, rfl, ?qm, ?q0, ?q1, ?q6, ?q7, ?q8, ?_⟩
                case qm | q0 | q1 | q6 | q7 | q8 => first | rfl | (simp (implicitDefEqProofs := false) (maxSteps := 1000000) (disch := first | omega | with_reducible assumption | (simp only [lenT, Nat.reduceAdd]; omega)) only [amT, cut, bnd, Nat.reduceBEq, reduceCtorEq, Nat.reduceEqDiff, Nat.reduceAdd, Nat.reduceMul, Nat.reduceSub, Int.reduceToNat, Int.reduceEq, Int.reduceLT, Int.reduceLE, Int.reduceAdd, Int.reduceSub, Int.reduceMul, reduceIte, resVs, resV, packV, initT, addr, t0, t1, t6, t7, t8]; first | done | rfl | (congr 1; omega))
                · omega
                · refine ⟨by omega, hO.trans hO12, .inl ⟨rfl, fun j hj => ?_⟩⟩
                  rcases Nat.lt_or_ge j i with h | h
                  · exact hall j h
                  · obtain rfl : j = i := by omega
                    exact hrd
          · obtain rfl : i = names.length := by omega
            have hnone := next_none hall
            have hres := (p7 out (.stop hnone)).eq (by simp) names.length (by simp)
            have hso : sortO names needs = out := hres.symm
            have e : sortR names needs = ([], 240) := by
              unfold sortR; rw [if_pos hnd, hso, if_pos (by omega)]
            rw [e]
            have gm : (-1 : Int) < 0 := by omega
            repeat first | simp (implicitDefEqProofs := false) (maxSteps := 1000000) (disch := first | omega | with_reducible assumption | (simp only [lenT, Nat.reduceAdd]; omega)) only [amT, cut, bnd, Nat.reduceBEq, reduceCtorEq, Nat.reduceEqDiff, Nat.reduceAdd, Nat.reduceMul, Nat.reduceSub, Int.reduceToNat, Int.reduceEq, Int.reduceLT, Int.reduceLE, Int.reduceAdd, Int.reduceSub, Int.reduceMul, reduceIte, resVs, resV, packV, initT, addr, F23_l1, t0, t1, t6, t7, t8, gi, gm] | refine OrW.go ?_
            exact ⟨_, rfl, fun _ => ⟨(p1.trans hO).mx [], .slice none 0 0, rfl, .inl ⟨rfl, rfl⟩⟩⟩
        · have hx := next_some hk
          have hkd : k < done.length := by omega
          have h3 := ready_not hkd hx.2
          have h4 := count_set hkd h3
          have gm : ¬ (k : Int) < 0 := by omega
          obtain ⟨v', M4, happ, hI4, hk4, ho4⟩ := ((p2.old hO).old (Old.here M1 [.cells [iV k] 3 true .exact])).app (nb := M1.size) (k := k) (by omega) (by rw [mx_size]; simp) (mx_new0 _ _)
          rw [mx_mx, List.append_nil] at happ
          obtain ⟨av, cv, rfl⟩ := hI4.len
          simp only [iV] at happ
          have hs4 := hk4.1
          rw [mx_size] at hs4
          have hO1 := p1.trans hO
          have hOM4 : Old m M4 := ⟨by have := hO1.1; omega, fun y hy => by
            rw [hk4.2 y (by rw [mx_size]; have := hO1.1; omega) (fun h => by have := p3 y h; omega), mx_old (by have := hO1.1; omega)]; exact hO1.2 y hy⟩
          by_cases gi : (i : Int) < (names.length : Int)
          · repeat first | simp (implicitDefEqProofs := false) (maxSteps := 1000000) (disch := first | omega | with_reducible assumption | (simp only [lenT, Nat.reduceAdd]; omega)) only [amT, cut, bnd, Nat.reduceBEq, reduceCtorEq, Nat.reduceEqDiff, Nat.reduceAdd, Nat.reduceMul, Nat.reduceSub, Int.reduceToNat, Int.reduceEq, Int.reduceLT, Int.reduceLE, Int.reduceAdd, Int.reduceSub, Int.reduceMul, reduceIte, resVs, resV, packV, initT, addr, F23_l1, t0, t1, t6, t7, t8, gi, gm, stepOp_app_v, happ] | refine OrW.go ?_
            rw [LoopK_normal]; refine ⟨_, ?_, M4, av, cv, out ++ [k], done.set k true, rfl, rfl, ?qm, ?q0, ?q1, ?q6, ?_⟩
            case qm | q0 | q1 | q6 => first | rfl | (simp (implicitDefEqProofs := false) (maxSteps := 1000000) (disch := first | omega | with_reducible assumption | (simp only [lenT, Nat.reduceAdd]; omega)) only [amT, cut, bnd, Nat.reduceBEq, reduceCtorEq, Nat.reduceEqDiff, Nat.reduceAdd, Nat.reduceMul, Nat.reduceSub, Int.reduceToNat, Int.reduceEq, Int.reduceLT, Int.reduceLE, Int.reduceAdd, Int.reduceSub, Int.reduceMul, reduceIte, resVs, resV, packV, initT, addr, t0, t1, t6, t7, t8]; first | done | rfl | (congr 1; omega))
            · omega
            · exact ⟨hOM4, hI4, fun x hx => by have := ho4 x hx; rw [mx_size] at this; have := hO1.1; omega, by rw [List.length_set]; exact p4, by rw [List.length_append]; simp; omega, done_next p6 p4 hx.1, fun res hr => p7 res (.go hk hr)⟩
          · repeat first | simp (implicitDefEqProofs := false) (maxSteps := 1000000) (disch := first | omega | with_reducible assumption | (simp only [lenT, Nat.reduceAdd]; omega)) only [amT, cut, bnd, Nat.reduceBEq, reduceCtorEq, Nat.reduceEqDiff, Nat.reduceAdd, Nat.reduceMul, Nat.reduceSub, Int.reduceToNat, Int.reduceEq, Int.reduceLT, Int.reduceLE, Int.reduceAdd, Int.reduceSub, Int.reduceMul, reduceIte, resVs, resV, packV, initT, addr, F23_l1, t0, t1, t6, t7, t8, gi, gm, stepOp_app_v, happ] | refine OrW.go ?_
            rw [LoopK_normal]; refine ⟨_, ?_, M4, av, cv, out ++ [k], done.set k true, rfl, rfl, ?qm, ?q0, ?q1, ?q6, ?_⟩
            case qm | q0 | q1 | q6 => first | rfl | (simp (implicitDefEqProofs := false) (maxSteps := 1000000) (disch := first | omega | with_reducible assumption | (simp only [lenT, Nat.reduceAdd]; omega)) only [amT, cut, bnd, Nat.reduceBEq, reduceCtorEq, Nat.reduceEqDiff, Nat.reduceAdd, Nat.reduceMul, Nat.reduceSub, Int.reduceToNat, Int.reduceEq, Int.reduceLT, Int.reduceLE, Int.reduceAdd, Int.reduceSub, Int.reduceMul, reduceIte, resVs, resV, packV, initT, addr, t0, t1, t6, t7, t8]; first | done | rfl | (congr 1; omega))
            · omega
            · exact ⟨hOM4, hI4, fun x hx => by have := ho4 x hx; rw [mx_size] at this; have := hO1.1; omega, by rw [List.length_set]; exact p4, by rw [List.length_append]; simp; omega, done_next p6 p4 hx.1, fun res hr => p7 res (.go hk hr)⟩
    · have hnone : nextR names needs done = none := full_none p4 (by omega)
      have hres := (p7 out (.stop hnone)).eq (by simp) names.length (by simp)
      have hso : sortO names needs = out := hres.symm
      have e : sortR names needs = (out, 0) := by
        unfold sortR; rw [if_pos hnd, hso, if_neg (by omega)]
      rw [e]
      repeat first | simp (implicitDefEqProofs := false) (maxSteps := 1000000) (disch := first | omega | with_reducible assumption | (simp only [lenT, Nat.reduceAdd]; omega)) only [amT, cut, bnd, Nat.reduceBEq, reduceCtorEq, Nat.reduceEqDiff, Nat.reduceAdd, Nat.reduceMul, Nat.reduceSub, Int.reduceToNat, Int.reduceEq, Int.reduceLT, Int.reduceLE, Int.reduceAdd, Int.reduceSub, Int.reduceMul, reduceIte, resVs, resV, packV, initT, addr, F23_l0, t0, t1, t6, g] | refine OrW.go ?_
      exact ⟨_, rfl, fun _ => ⟨p1.mx [], _, rfl, p2.old (Old.here _ [])⟩⟩
end Go.Proofs.YtgkmlbkocgjmmaaDoor
