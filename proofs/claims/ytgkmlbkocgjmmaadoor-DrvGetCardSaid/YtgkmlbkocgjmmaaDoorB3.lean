/- Graphs: Closure, the walk. -/
import Derived.Test.YtgkmlbkocgjmmaaDoorB2
import Derived.Test.YtgkmlbkocgjmmaaDoorA4
import Derived.Test.YtgkmlbkocgjmmaaDoorDrvF
import Derived.Test.YtgkmlbkocgjmmaaDoorB1
set_option linter.unusedVariables false
set_option linter.unusedSimpArgs false
set_option linter.unnecessarySimpa false
namespace Go.Proofs.YtgkmlbkocgjmmaaDoor
open Go Go.AM
set_option linter.unusedVariables false
set_option linter.unusedSimpArgs false
set_option maxHeartbeats 2000000
set_option maxRecDepth 100000

/-- What is needed by some, and by that, and so on. -/
inductive Reach (names : List (List UInt8)) (needs : List (List (List UInt8))) (roots : List (List UInt8)) : Nat → Prop
  | root {s : List UInt8} {k : Nat} : s ∈ roots → plR names s = some k → Reach names needs roots k
  | step {i : Nat} {s : List UInt8} {k : Nat} : Reach names needs roots i → s ∈ rowOf needs i → plR names s = some k → Reach names needs roots k
structure CInv (names : List (List UInt8)) (needs : List (List (List UInt8))) (roots todo : List (List UInt8)) (got : List Bool) : Prop where
  sound : ∀ i, got.getD i false = true → Reach names needs roots i
  todoR : ∀ s ∈ todo, ∀ k, plR names s = some k → Reach names needs roots k
  roots : ∀ s ∈ roots, ∀ k, plR names s = some k → got.getD k false = true ∨ s ∈ todo
  closed : ∀ i, got.getD i false = true → ∀ s ∈ rowOf needs i, ∀ k, plR names s = some k → got.getD k false = true ∨ s ∈ todo
  len : got.length = names.length
theorem getD_set {got : List Bool} {k : Nat} (hk : k < got.length) (i : Nat) : (got.set k true).getD i false = if i = k then true else got.getD i false := by
  simp only [List.getD, List.getElem?_set]
  by_cases h : i = k
  · subst h; simp [hk]
  · have h2 : ¬ k = i := fun e => h e.symm
    simp [h, h2]
theorem CInv.init (names : List (List UInt8)) (needs : List (List (List UInt8))) (roots : List (List UInt8)) : CInv names needs roots roots (List.replicate names.length false) := by
  have h : ∀ i, (List.replicate names.length false).getD i false = false := fun i => by
    simp only [List.getD, List.getElem?_replicate]; split <;> rfl
  exact ⟨fun i hi => by rw [h] at hi; (cases hi), fun s hs k hk => .root hs hk, fun s hs k hk => .inr hs, fun i hi => by rw [h] at hi; (cases hi), List.length_replicate⟩
theorem CInv.skip {names : List (List UInt8)} {needs : List (List (List UInt8))} {roots todo : List (List UInt8)} {got : List Bool} {s : List UInt8} (h : CInv names needs roots (s :: todo) got) (hs : ∀ k, plR names s = some k → got.getD k false = true) : CInv names needs roots todo got :=
  ⟨h.sound, fun x hx => h.todoR x (by simp [hx]), fun x hx k hk => (h.roots x hx k hk).elim .inl fun hm => (List.mem_cons.1 hm).elim (fun e => by subst e; exact .inl (hs k hk)) .inr,
   fun i hi x hx k hk => (h.closed i hi x hx k hk).elim .inl fun hm => (List.mem_cons.1 hm).elim (fun e => by subst e; exact .inl (hs k hk)) .inr, h.len⟩
theorem CInv.take {names : List (List UInt8)} {needs : List (List (List UInt8))} {roots todo : List (List UInt8)} {got : List Bool} {s : List UInt8} {k : Nat} (h : CInv names needs roots (s :: todo) got) (hk : plR names s = some k) : CInv names needs roots (todo ++ rowOf needs k) (got.set k true) := by
  have hkl : k < got.length := by rw [h.len]; exact plR_lt hk
  have hR := h.todoR s (by simp) k hk
  have hg := getD_set hkl
  refine ⟨fun i hi => ?_, fun x hx j hj => ?_, fun x hx j hj => ?_, fun i hi x hx j hj => ?_, by rw [List.length_set]; exact h.len⟩
  · rw [hg] at hi
    by_cases e : i = k
    · subst e; exact hR
    · rw [if_neg e] at hi; exact h.sound i hi
  · rcases List.mem_append.1 hx with h1 | h1
    · exact h.todoR x (by simp [h1]) j hj
    · exact .step hR h1 hj
  · rw [hg]
    by_cases e : j = k
    · exact .inl (if_pos e)
    · rw [if_neg e]
      rcases h.roots x hx j hj with h1 | h1
      · exact .inl h1
      · rcases List.mem_cons.1 h1 with h1 | h1
        · subst h1; rw [hk] at hj; cases hj; exact absurd rfl e
        · exact .inr (List.mem_append_left _ h1)
  · rw [hg] at hi ⊢
    by_cases e : j = k
    · exact .inl (if_pos e)
    · rw [if_neg e]
      by_cases e2 : i = k
      · subst e2; exact .inr (List.mem_append_right _ hx)
      · rw [if_neg e2] at hi
        rcases h.closed i hi x hx j hj with h1 | h1
        · exact .inl h1
        · rcases List.mem_cons.1 h1 with h1 | h1
          · subst h1; rw [hk] at hj; cases hj; exact absurd rfl e
          · exact .inr (List.mem_append_left _ h1)
theorem CInv.done {names : List (List UInt8)} {needs : List (List (List UInt8))} {roots : List (List UInt8)} {got : List Bool} (h : CInv names needs roots [] got) (i : Nat) : got.getD i false = true ↔ Reach names needs roots i := by
  refine ⟨h.sound i, fun hr => ?_⟩
  induction hr with
  | root hs hk => exact (h.roots _ hs _ hk).elim id fun h => by cases h
  | step _ hs hk ih => exact (h.closed _ ih _ hs _ hk).elim id fun h => by cases h
open Classical in
noncomputable def closO (names : List (List UInt8)) (needs : List (List (List UInt8))) (roots : List (List UInt8)) : List Nat := (List.range names.length).filter fun i => decide (Reach names needs roots i)
noncomputable def closR (names : List (List UInt8)) (needs : List (List (List UInt8))) (roots : List (List UInt8)) : List Nat × Int := if names.Nodup then (closO names needs roots, 0) else ([], 151)
open Classical in
theorem closO_of {names : List (List UInt8)} {needs : List (List (List UInt8))} {roots : List (List UInt8)} {got : List Bool} (h : CInv names needs roots [] got) : closO names needs roots = (List.range names.length).filter fun i => got.getD i false := by
  unfold closO
  refine List.filter_congr fun i hi => ?_
  rw [Bool.eq_iff_iff, decide_eq_true_iff, ← h.done i]
theorem closure_ok (m : AMem) (a : Option Addr) (c : Nat) (names : List (List UInt8)) (ha : StrR m a names) (hl : names.length ≤ 100000) (na : Option Addr) (nc : Nat) (needs : List (List (List UInt8))) (hN : NeedsR m na needs) (hnl : needs.length ≤ 1000000)
    (ra : Option Addr) (rc : Nat) (roots : List (List UInt8)) (hr : Src m ra roots) (hrl : roots.length ≤ 1000000) (hrow : ∀ i, (rowOf needs i).length ≤ 1000) :
    RelC Tryd.prog 3 26 [.slice a names.length c, .slice na needs.length nc, .slice ra roots.length rc] m fun r m' => Old m m' ∧ ∃ v, r = .tuple #[v, .int .i64 (closR names needs roots).2] ∧ IntB m' v (closR names needs roots).1 := by
  refine rel_of_W (fn := Tryd.f26) rfl rfl F26_ok (by simp [F26]) ?_
  have hp := places_ok (mx m []) a c names (ha.old (Old.here _ _)) (by omega)
  repeat first | simp (implicitDefEqProofs := false) (maxSteps := 1000000) (disch := first | omega | with_reducible assumption | (simp only [lenT, Nat.reduceAdd]; omega)) only [amT, cut, bnd, Nat.reduceBEq, reduceCtorEq, Nat.reduceEqDiff, Nat.reduceAdd, Nat.reduceMul, Nat.reduceSub, Int.reduceToNat, Int.reduceEq, Int.reduceLT, Int.reduceLE, Int.reduceAdd, Int.reduceSub, Int.reduceMul, reduceIte, resVs, resV, packV, initT, addr, F26] | refine OrW.go ?_
  refine RelC.call hp ?_
  rintro r M1 ⟨hO, hr1⟩
  have hOm : Old m M1 := (Old.here m []).trans hO
  by_cases hnd : names.Nodup
  case neg =>
    rw [if_neg hnd] at hr1
    subst hr1
    have e : closR names needs roots = ([], 151) := if_neg hnd
    rw [e]
    repeat first | simp (implicitDefEqProofs := false) (maxSteps := 1000000) (disch := first | omega | with_reducible assumption | (simp only [lenT, Nat.reduceAdd]; omega)) only [amT, cut, bnd, Nat.reduceBEq, reduceCtorEq, Nat.reduceEqDiff, Nat.reduceAdd, Nat.reduceMul, Nat.reduceSub, Int.reduceToNat, Int.reduceEq, Int.reduceLT, Int.reduceLE, Int.reduceAdd, Int.reduceSub, Int.reduceMul, reduceIte, resVs, resV, packV, initT, addr] | refine OrW.go ?_
    exact ⟨_, rfl, fun _ => ⟨hOm.mx _, .slice none 0 0, rfl, .inl ⟨rfl, rfl⟩⟩⟩
  rw [if_pos hnd] at hr1
  obtain ⟨rfl, hM⟩ := hr1
  rw [mx_nil_size] at hM
  have e : closR names needs roots = (closO names needs roots, 0) := if_pos hnd
  have hrep : rep [.bool false] names.length = (List.replicate names.length false).map Value.bool := by
    unfold rep; generalize names.length = n
    induction n with
    | zero => rfl
    | succ n ih => rw [List.replicate_succ, List.flatten_cons, ih]; rfl
  have hcl := clone_ok (mx M1 [.cells ((List.replicate names.length false).map .bool) 4 true .exact]) ra rc roots (hr.old (hOm.mx _)) hrl
  repeat first | simp (implicitDefEqProofs := false) (maxSteps := 1000000) (disch := first | omega | with_reducible assumption | (simp only [lenT, Nat.reduceAdd]; omega)) only [amT, cut, bnd, Nat.reduceBEq, reduceCtorEq, Nat.reduceEqDiff, Nat.reduceAdd, Nat.reduceMul, Nat.reduceSub, Int.reduceToNat, Int.reduceEq, Int.reduceLT, Int.reduceLE, Int.reduceAdd, Int.reduceSub, Int.reduceMul, reduceIte, resVs, resV, packV, initT, addr, hrep] | refine OrW.go ?_
  refine RelC.call hcl ?_
  rintro tv M2 ⟨hO2, hT, hTo⟩
  have hz2 := hO2.1
  rw [mx_size] at hz2
  simp only [List.length_cons, List.length_nil, Nat.zero_add] at hz2
  have hd2 : M2.get M1.size = .cells ((List.replicate names.length false).map .bool) 4 true .exact := by rw [hO2.2 _ (by rw [mx_size]; simp)]; exact mx_new0 _ _
  have hM2 := hM.old ((Old.here M1 _).trans hO2)
  have hOm2 := hOm.trans ((Old.here M1 _).trans hO2)
  have hml := hM.1
  rw [e]
  repeat first | simp (implicitDefEqProofs := false) (maxSteps := 1000000) (disch := first | omega | with_reducible assumption | (simp only [lenT, Nat.reduceAdd]; omega)) only [amT, cut, bnd, Nat.reduceBEq, reduceCtorEq, Nat.reduceEqDiff, Nat.reduceAdd, Nat.reduceMul, Nat.reduceSub, Int.reduceToNat, Int.reduceEq, Int.reduceLT, Int.reduceLE, Int.reduceAdd, Int.reduceSub, Int.reduceMul, reduceIte, resVs, resV, packV, initT, addr] | refine OrW.go ?_
  refine W_loop (fun N qs => ∃ (M : AMem) (tv' : Value) (todo : List (List UInt8)) (got : List Bool), N = got.count false * 10000 + todo.length ∧ qs.ds = [] ∧ qs.m = mx M [] ∧ qs.t 1 = .slice na needs.length nc ∧ qs.t 8 = .map (some m.size) ∧ qs.t 10 = .slice (some ⟨M1.size, 0, none⟩) names.length names.length ∧ qs.t 11 = tv' ∧ Old m M ∧ MapAt M m.size (mapF names) ∧ M1.size < M.size ∧ M.get M1.size = .cells (got.map .bool) 4 true .exact ∧ Todo M tv' todo ∧ (∀ x, ownV tv' x → M1.size < x) ∧ CInv names needs roots todo got ∧ todo.length + got.count false * 1000 ≤ 1000000 + names.length * 1000) ((List.replicate names.length false).count false * 10000 + (roots).length) ⟨M2, tv, roots, List.replicate names.length false, rfl, rfl, ?qm, ?q1, ?q8, ?q10, ?q11, ?_⟩ ?_
  case qm | q1 | q8 | q10 | q11 => first | rfl | (simp (implicitDefEqProofs := false) (maxSteps := 1000000) (disch := first | omega | with_reducible assumption | (simp only [lenT, Nat.reduceAdd]; omega)) only [amT, cut, bnd, Nat.reduceBEq, reduceCtorEq, Nat.reduceEqDiff, Nat.reduceAdd, Nat.reduceMul, Nat.reduceSub, Int.reduceToNat, Int.reduceEq, Int.reduceLT, Int.reduceLE, Int.reduceAdd, Int.reduceSub, Int.reduceMul, reduceIte, resVs, resV, packV, initT, addr]; first | done | rfl | (congr 1; omega))
  · exact ⟨hOm2, hM2, by omega, hd2, hT, fun x hx => by have := hTo x hx; rw [mx_size] at this; simp at this; omega, CInv.init names needs roots, by simp; omega⟩
  · rintro N t m1 ds ⟨M, tv', todo, got, rfl, hds, hm, t1, t8, t10, t11, hp⟩
    simp only at hds hm t1 t8 t10 t11
    subst hds; replace hm := hm.symm; subst hm
    obtain ⟨p1, p2, p3, p4, p5, p6, p7, p8⟩ := hp
    cases todo with
    | nil =>
      obtain ⟨ta, tc, rfl⟩ := p5.len
      have hg7 := p7.len
      rw [closO_of p7]
      repeat first | simp (implicitDefEqProofs := false) (maxSteps := 1000000) (disch := first | omega | with_reducible assumption | (simp only [lenT, Nat.reduceAdd]; omega)) only [amT, cut, bnd, Nat.reduceBEq, reduceCtorEq, Nat.reduceEqDiff, Nat.reduceAdd, Nat.reduceMul, Nat.reduceSub, Int.reduceToNat, Int.reduceEq, Int.reduceLT, Int.reduceLE, Int.reduceAdd, Int.reduceSub, Int.reduceMul, reduceIte, resVs, resV, packV, initT, addr, F26_l0, t1, t8, t10, t11] | refine OrW.go ?_
      refine W_loop (fun N qs => ∃ (i : Nat) (M3 : AMem) (oa : Option Addr) (oc : Nat), N = names.length - i ∧ qs.ds = [] ∧ qs.m = mx M3 [] ∧ qs.t 14 = .slice oa ((List.range i).filter fun j => got.getD j false).length oc ∧ qs.t 58 = .slice (some ⟨M1.size, 0, none⟩) names.length names.length ∧ qs.t 59 = .int .i64 names.length ∧ qs.t 60 = .int .i64 i ∧ i ≤ names.length ∧ Old m M3 ∧ M1.size < M3.size ∧ M3.get M1.size = .cells (got.map .bool) 4 true .exact ∧ IntB M3 (.slice oa ((List.range i).filter fun j => got.getD j false).length oc) ((List.range i).filter fun j => got.getD j false) ∧ ∀ x, ownV (.slice oa ((List.range i).filter fun j => got.getD j false).length oc) x → M1.size < x) (names.length - (0)) ⟨0, M, none, 0, rfl, rfl, ?qm, ?q14, ?q58, ?q59, ?q60, ?_⟩ ?_
      case qm | q14 | q58 | q59 | q60 => first | rfl | (simp (implicitDefEqProofs := false) (maxSteps := 1000000) (disch := first | omega | with_reducible assumption | (simp only [lenT, Nat.reduceAdd]; omega)) only [amT, cut, bnd, Nat.reduceBEq, reduceCtorEq, Nat.reduceEqDiff, Nat.reduceAdd, Nat.reduceMul, Nat.reduceSub, Int.reduceToNat, Int.reduceEq, Int.reduceLT, Int.reduceLE, Int.reduceAdd, Int.reduceSub, Int.reduceMul, reduceIte, resVs, resV, packV, initT, addr, List.range_zero, List.filter_nil]; first | done | rfl | (congr 1; omega))
      · exact ⟨by omega, p1, p3, p4, .inl ⟨rfl, rfl⟩, fun x ⟨o, l, c, h⟩ => by cases h⟩
      · rintro N t m1 ds ⟨i, M3, oa, oc, rfl, hds, hm, t14, t58, t59, t60, hp⟩
        simp only at hds hm t14 t58 t59 t60
        subst hds; replace hm := hm.symm; subst hm
        obtain ⟨hi, w1, w2, w3, w4, w5⟩ := hp
        by_cases g : (i : Int) < (names.length : Int)
        · have hi' : i < names.length := by omega
          have hig : i < got.length := by omega
          have hcb := cutL_bool hig
          have hsucc : (List.range (i + 1)).filter (fun j => got.getD j false) = ((List.range i).filter fun j => got.getD j false) ++ (if got[i] = true then [i] else []) := by
            rw [List.range_succ, List.filter_append]; congr 1
            have : got.getD i false = got[i] := by simp [List.getD, hig]
            simp only [List.filter_cons, List.filter_nil, this]
          cases hgi : got[i] with
          | false =>
            rw [hgi] at hcb hsucc
            simp only [Bool.false_eq_true, if_false, List.append_nil] at hsucc
            repeat first | simp (implicitDefEqProofs := false) (maxSteps := 1000000) (disch := first | omega | with_reducible assumption | (simp only [lenT, Nat.reduceAdd]; omega)) only [amT, cut, bnd, Nat.reduceBEq, reduceCtorEq, Nat.reduceEqDiff, Nat.reduceAdd, Nat.reduceMul, Nat.reduceSub, Int.reduceToNat, Int.reduceEq, Int.reduceLT, Int.reduceLE, Int.reduceAdd, Int.reduceSub, Int.reduceMul, reduceIte, resVs, resV, packV, initT, addr, F26_l1, t14, t58, t59, t60, g, w3, hcb] | refine OrW.go ?_
            rw [LoopK_normal]; refine ⟨_, ?_, i + 1, M3, oa, oc, rfl, rfl, ?qm, ?q14, ?q58, ?q59, ?q60, ?_⟩
            case qm | q14 | q58 | q59 | q60 => first | rfl | (simp (implicitDefEqProofs := false) (maxSteps := 1000000) (disch := first | omega | with_reducible assumption | (simp only [lenT, Nat.reduceAdd]; omega)) only [amT, cut, bnd, Nat.reduceBEq, reduceCtorEq, Nat.reduceEqDiff, Nat.reduceAdd, Nat.reduceMul, Nat.reduceSub, Int.reduceToNat, Int.reduceEq, Int.reduceLT, Int.reduceLE, Int.reduceAdd, Int.reduceSub, Int.reduceMul, reduceIte, resVs, resV, packV, initT, addr, t14, t58, t59, t60, hsucc]; first | done | rfl | (congr 1; omega))
            · omega
            · rw [hsucc]; exact ⟨by omega, w1, w2, w3, w4, w5⟩
          | true =>
            rw [hgi] at hcb hsucc
            simp only [if_true] at hsucc
            have hll : ((List.range i).filter fun j => got.getD j false).length ≤ i := by have := List.length_filter_le (fun j => got.getD j false) (List.range i); rwa [List.length_range] at this
            obtain ⟨v', M4, happ, hI, hk, ho⟩ := (w4.old (Old.here M3 [.cells [iV i] 3 true .exact])).app (nb := M3.size) (k := i) (by omega) (by rw [mx_size]; simp) (mx_new0 _ _)
            rw [mx_mx, List.append_nil] at happ
            rw [← hsucc] at hI
            obtain ⟨av, cv, rfl⟩ := hI.len
            simp only [iV] at happ
            have hs4 := hk.1
            rw [mx_size] at hs4
            have hk4 : ∀ y, y ≤ M1.size → M4.get y = M3.get y := fun y hy => by rw [hk.2 y (by rw [mx_size]; omega) (fun h => by have := w5 y h; omega), mx_old (by omega)]
            repeat first | simp (implicitDefEqProofs := false) (maxSteps := 1000000) (disch := first | omega | with_reducible assumption | (simp only [lenT, Nat.reduceAdd]; omega)) only [amT, cut, bnd, Nat.reduceBEq, reduceCtorEq, Nat.reduceEqDiff, Nat.reduceAdd, Nat.reduceMul, Nat.reduceSub, Int.reduceToNat, Int.reduceEq, Int.reduceLT, Int.reduceLE, Int.reduceAdd, Int.reduceSub, Int.reduceMul, reduceIte, resVs, resV, packV, initT, addr, F26_l1, t14, t58, t59, t60, g, w3, hcb, stepOp_app_v, happ] | refine OrW.go ?_
            rw [LoopK_normal]; refine ⟨_, ?_, i + 1, M4, av, cv, rfl, rfl, ?qm, ?q14, ?q58, ?q59, ?q60, ?_⟩
            case qm | q14 | q58 | q59 | q60 => first | rfl | (simp (implicitDefEqProofs := false) (maxSteps := 1000000) (disch := first | omega | with_reducible assumption | (simp only [lenT, Nat.reduceAdd]; omega)) only [amT, cut, bnd, Nat.reduceBEq, reduceCtorEq, Nat.reduceEqDiff, Nat.reduceAdd, Nat.reduceMul, Nat.reduceSub, Int.reduceToNat, Int.reduceEq, Int.reduceLT, Int.reduceLE, Int.reduceAdd, Int.reduceSub, Int.reduceMul, reduceIte, resVs, resV, packV, initT, addr, t14, t58, t59, t60]; first | done | rfl | (congr 1; omega))
            · omega
            · exact ⟨by omega, ⟨by have := w1.1; omega, fun y hy => by rw [hk4 y (by have := hOm.1; omega)]; exact w1.2 y hy⟩, by omega, by rw [hk4 _ (Nat.le_refl _)]; exact w3, hI, fun x hx => by have := ho x hx; rw [mx_size] at this; omega⟩
        · obtain rfl : i = names.length := by omega
          repeat first | simp (implicitDefEqProofs := false) (maxSteps := 1000000) (disch := first | omega | with_reducible assumption | (simp only [lenT, Nat.reduceAdd]; omega)) only [amT, cut, bnd, Nat.reduceBEq, reduceCtorEq, Nat.reduceEqDiff, Nat.reduceAdd, Nat.reduceMul, Nat.reduceSub, Int.reduceToNat, Int.reduceEq, Int.reduceLT, Int.reduceLE, Int.reduceAdd, Int.reduceSub, Int.reduceMul, reduceIte, resVs, resV, packV, initT, addr, F26_l1, t14, t58, t59, t60, g] | refine OrW.go ?_
          exact ⟨_, rfl, fun _ => ⟨w1.mx [], _, rfl, w4.old (Old.here _ [])⟩⟩
    | cons s todo =>
      obtain ⟨ta, tc, rfl⟩ := p5.len
      obtain ⟨b, o, rfl, rfl, hb, hrd, hsl, hT2⟩ := (p5.old (Old.here M [])).hd
      rw [mx_nil_size] at hb
      rw [mx_old hb] at hrd
      have hbo := p6 b ⟨_, _, _, rfl⟩
      have hk := (p2.old (Old.here M [])).look (.int .i64 0) true s
      rw [lkRes_ok] at hk
      have g0 : (0 : Int) < ((todo.length + 1 : Nat) : Int) := by omega
      have hT3 := todo_eqv hT2
      have own2 : ∀ x, ownV (.slice (some ⟨b, o + 1, none⟩) todo.length openCap) x → M1.size < x := fun x ⟨o', l, c, h⟩ => by cases h; exact hbo
      have hg7 := p7.len
      simp only [List.length_cons] at hsl p8
      cases hpl : plR names s with
      | none =>
        simp only [mapF, hpl, Option.map_none, Option.getD_none, Option.isSome_none] at hk
        repeat first | simp (implicitDefEqProofs := false) (maxSteps := 1000000) (disch := first | omega | with_reducible assumption | (simp only [lenT, Nat.reduceAdd]; omega)) only [amT, cut, bnd, Nat.reduceBEq, reduceCtorEq, Nat.reduceEqDiff, Nat.reduceAdd, Nat.reduceMul, Nat.reduceSub, Int.reduceToNat, Int.reduceEq, Int.reduceLT, Int.reduceLE, Int.reduceAdd, Int.reduceSub, Int.reduceMul, reduceIte, resVs, resV, packV, initT, addr, F26_l0, t1, t8, t10, t11, g0, hrd, stepOp_lkp_v, hk, stepOp_slV_v, hsl, undef] | refine OrW.go ?_
        rw [LoopK_normal]; refine ⟨_, ?_, M, .slice (some ⟨b, o + 1, none⟩) todo.length openCap, todo, got, rfl, rfl, ?qm, ?q1, ?q8, ?q10, ?q11, ?_⟩
        case qm | q1 | q8 | q10 | q11 => first | rfl | (simp (implicitDefEqProofs := false) (maxSteps := 1000000) (disch := first | omega | with_reducible assumption | (simp only [lenT, Nat.reduceAdd]; omega)) only [amT, cut, bnd, Nat.reduceBEq, reduceCtorEq, Nat.reduceEqDiff, Nat.reduceAdd, Nat.reduceMul, Nat.reduceSub, Int.reduceToNat, Int.reduceEq, Int.reduceLT, Int.reduceLE, Int.reduceAdd, Int.reduceSub, Int.reduceMul, reduceIte, resVs, resV, packV, initT, addr, t1, t8, t10, t11]; first | done | rfl | (congr 1; omega))
        · omega
        · exact ⟨p1, p2, p3, p4, hT3, own2, p7.skip (fun k hk => by rw [hpl] at hk; cases hk), by omega⟩
      | some k =>
        have hkl := plR_lt hpl
        have hkg : k < got.length := by omega
        have hcb := cutL_bool hkg
        have gk : (k : Int) < (names.length : Int) := by omega
        simp only [mapF, hpl, Option.map_some, Option.getD_some, Option.isSome_some] at hk
        cases hgk : got[k] with
        | true =>
          rw [hgk] at hcb
          repeat first | simp (implicitDefEqProofs := false) (maxSteps := 1000000) (disch := first | omega | with_reducible assumption | (simp only [lenT, Nat.reduceAdd]; omega)) only [amT, cut, bnd, Nat.reduceBEq, reduceCtorEq, Nat.reduceEqDiff, Nat.reduceAdd, Nat.reduceMul, Nat.reduceSub, Int.reduceToNat, Int.reduceEq, Int.reduceLT, Int.reduceLE, Int.reduceAdd, Int.reduceSub, Int.reduceMul, reduceIte, resVs, resV, packV, initT, addr, F26_l0, t1, t8, t10, t11, g0, hrd, stepOp_lkp_v, hk, stepOp_slV_v, hsl, p4, hcb, gk] | refine OrW.go ?_
          rw [LoopK_normal]; refine ⟨_, ?_, M, .slice (some ⟨b, o + 1, none⟩) todo.length openCap, todo, got, rfl, rfl, ?qm, ?q1, ?q8, ?q10, ?q11, ?_⟩
          case qm | q1 | q8 | q10 | q11 => first | rfl | (simp (implicitDefEqProofs := false) (maxSteps := 1000000) (disch := first | omega | with_reducible assumption | (simp only [lenT, Nat.reduceAdd]; omega)) only [amT, cut, bnd, Nat.reduceBEq, reduceCtorEq, Nat.reduceEqDiff, Nat.reduceAdd, Nat.reduceMul, Nat.reduceSub, Int.reduceToNat, Int.reduceEq, Int.reduceLT, Int.reduceLE, Int.reduceAdd, Int.reduceSub, Int.reduceMul, reduceIte, resVs, resV, packV, initT, addr, t1, t8, t10, t11]; first | done | rfl | (congr 1; omega))
          · omega
          · refine ⟨p1, p2, p3, p4, hT3, own2, p7.skip (fun k' hk' => ?_), by omega⟩
            rw [hpl] at hk'; cases hk'
            simp [List.getD, hkg, hgk]
        | false =>
          rw [hgk] at hcb
          have hset : (got.map Value.bool).set k (.bool true) = (got.set k true).map .bool := by rw [List.map_set]
          have hz := hOm.1
          have hcnt := count_set hkg hgk
          have hbne : b ≠ M1.size := by omega
          have hM4 : MapAt (M.set M1.size (.cells ((got.set k true).map .bool) 4 true .exact)) m.size (mapF names) := p2.keep (by rw [AMem.size_set]; exact Nat.le_refl _) (AMem.get_set_ne _ _ (by omega))
          have hO4 : Old m (M.set M1.size (.cells ((got.set k true).map .bool) 4 true .exact)) := p1.set hz _
          have hT4 : Todo (M.set M1.size (.cells ((got.set k true).map .bool) 4 true .exact)) (.slice (some ⟨b, o + 1, none⟩) todo.length openCap) todo := hT3.keep ((Keep.refl (fun x => x = M1.size) M).set (fun _ => rfl) _) fun x hx e => by have := own2 x hx; omega
          have hg4 : (M.set M1.size (.cells ((got.set k true).map .bool) 4 true .exact)).get M1.size = .cells ((got.set k true).map .bool) 4 true .exact := AMem.get_set_self _ _ _
          have hs4 : (M.set M1.size (.cells ((got.set k true).map .bool) 4 true .exact)).size = M.size := rfl
          repeat first | simp (implicitDefEqProofs := false) (maxSteps := 1000000) (disch := first | omega | with_reducible assumption | (simp only [lenT, Nat.reduceAdd]; omega)) only [amT, cut, bnd, Nat.reduceBEq, reduceCtorEq, Nat.reduceEqDiff, Nat.reduceAdd, Nat.reduceMul, Nat.reduceSub, Int.reduceToNat, Int.reduceEq, Int.reduceLT, Int.reduceLE, Int.reduceAdd, Int.reduceSub, Int.reduceMul, reduceIte, resVs, resV, packV, initT, addr, F26_l0, t1, t8, t10, t11, g0, hrd, stepOp_lkp_v, hk, stepOp_slV_v, hsl, p4, hcb, gk, hset] | refine OrW.go ?_
          generalize M.set M1.size (.cells ((got.set k true).map .bool) 4 true .exact) = M4 at hM4 hO4 hT4 hg4 hs4
          refine RelC.call (of_ok (mx M4 []) na nc needs k (hN.old (hO4.mx [])) (by omega) hnl) ?_
          rintro w M5 ⟨hO5, ra5, rc5, rfl, hS5⟩
          have hO45 : Old M4 M5 := (Old.here M4 []).trans hO5
          have hz5 := hO45.1
          have hrw := hrow k
          obtain ⟨v6, M6, happ, hT6, hk6, ho6⟩ := (hT4.old hO45).app (w := .slice ra5 (rowOf needs k).length rc5) (news := rowOf needs k) (by omega) rfl ((hS5.old (Old.here M5 [])).src rc5)
          obtain ⟨a6, c6, rfl⟩ := hT6.len
          have hk6' : ∀ y, y < M5.size → y ≠ b → M6.get y = M5.get y := fun y hy h => hk6.2 y hy h
          have hs6 := hk6.1
          repeat first | simp (implicitDefEqProofs := false) (maxSteps := 1000000) (disch := first | omega | with_reducible assumption | (simp only [lenT, Nat.reduceAdd]; omega)) only [amT, cut, bnd, Nat.reduceBEq, reduceCtorEq, Nat.reduceEqDiff, Nat.reduceAdd, Nat.reduceMul, Nat.reduceSub, Int.reduceToNat, Int.reduceEq, Int.reduceLT, Int.reduceLE, Int.reduceAdd, Int.reduceSub, Int.reduceMul, reduceIte, resVs, resV, packV, initT, addr, t1, t8, t10, t11, stepOp_app_v, happ] | refine OrW.go ?_
          rw [LoopK_normal]; refine ⟨_, ?_, M6, .slice a6 (todo ++ rowOf needs k).length c6, todo ++ rowOf needs k, got.set k true, rfl, rfl, ?qm, ?q1, ?q8, ?q10, ?q11, ?_⟩
          case qm | q1 | q8 | q10 | q11 => first | rfl | (simp (implicitDefEqProofs := false) (maxSteps := 1000000) (disch := first | omega | with_reducible assumption | (simp only [lenT, Nat.reduceAdd]; omega)) only [amT, cut, bnd, Nat.reduceBEq, reduceCtorEq, Nat.reduceEqDiff, Nat.reduceAdd, Nat.reduceMul, Nat.reduceSub, Int.reduceToNat, Int.reduceEq, Int.reduceLT, Int.reduceLE, Int.reduceAdd, Int.reduceSub, Int.reduceMul, reduceIte, resVs, resV, packV, initT, addr, t1, t8, t10, t11]; first | done | rfl | (congr 1; omega))
          · simp only [List.length_cons, List.length_append]; omega
          · refine ⟨⟨by have := hO4.1; omega, fun y hy => ?_⟩, (hM4.old hO45).keep hs6 (hk6' _ (by omega) (by omega)), by omega, ?_, hT6, fun x hx => ?_, p7.take hpl, by rw [List.length_append]; omega⟩
            · rw [hk6' y (by omega) (by omega), hO45.2 y (by have := hO4.1; omega)]; exact hO4.2 y hy
            · rw [hk6' _ (by omega) (by omega), hO45.2 _ (by omega)]; exact hg4
            · rcases ho6 x hx with h | h <;> omega
end Go.Proofs.YtgkmlbkocgjmmaaDoor
namespace Go.Proofs.YtgkmlbkocgjmmaaDoor
open Go Go.AM
set_option linter.unusedVariables false
set_option linter.unusedSimpArgs false
set_option maxHeartbeats 2000000
set_option maxRecDepth 100000

/-- A row of numbers. -/
def IntR (m : AMem) (a : Option Addr) (l : List Nat) : Prop := ∀ i (h : i < l.length), ∃ b o, a = some ⟨b, o, none⟩ ∧ b < m.size ∧ rdO (m.get b) (o + i) 1 = some [iV l[i]]
theorem IntR.old {m m' : AMem} {a : Option Addr} {l : List Nat} (h : IntR m a l) (ho : Old m m') : IntR m' a l := fun i hi => by
  obtain ⟨b, o, h1, h2, h3⟩ := h i hi
  exact ⟨b, o, h1, Nat.lt_of_lt_of_le h2 ho.1, by rw [ho.2 b h2]; exact h3⟩
theorem intR_cells {m : AMem} {b : Nat} {l : List Nat} (hb : b < m.size) {e : TypeId} {w : Bool} {sp : Spare} (hg : m.get b = .cells (l.map iV) e w sp) : IntR m (some ⟨b, 0, none⟩) l := fun i hi =>
  ⟨b, 0, rfl, hb, by
    rw [hg, rdO_cells, Nat.zero_add]
    unfold cutL
    rw [if_pos (by rw [List.length_map]; omega), List.drop_eq_getElem_cons (by rw [List.length_map]; exact hi), List.getElem_map]; rfl⟩
theorem IntB.row {M : AMem} {a : Option Addr} {n cap : Nat} {l : List Nat} (h : IntB M (.slice a n cap) l) : IntR M a l := by
  rcases h with ⟨rfl, _⟩ | ⟨b, h, h1, h2⟩
  · intro i hi; simp at hi
  · cases h; exact intR_cells h1 h2
theorem sameInts_ok (m : AMem) (a1 : Option Addr) (c1 : Nat) (l1 : List Nat) (h1 : IntR m a1 l1) (a2 : Option Addr) (c2 : Nat) (l2 : List Nat) (h2 : IntR m a2 l2) (hl : l1.length ≤ 9223372036854775807) (hl2 : l2.length ≤ 9223372036854775807) :
    PureC Tryd.prog 3 24 [.slice a1 l1.length c1, .slice a2 l2.length c2] m (.bool (decide (l1 = l2))) := by
  refine pure_of_W (fn := Tryd.f24) rfl rfl F24_ok (by simp [F24]) (.bool _) ?_
  by_cases g0 : (l1.length : Int) = (l2.length : Int)
  · have g1 : l1.length = l2.length := by omega
    repeat first | simp (implicitDefEqProofs := false) (maxSteps := 1000000) (disch := first | omega | with_reducible assumption | (simp only [lenT, Nat.reduceAdd]; omega)) only [amT, cut, bnd, Nat.reduceBEq, reduceCtorEq, Nat.reduceEqDiff, Nat.reduceAdd, Nat.reduceMul, Nat.reduceSub, Int.reduceToNat, Int.reduceEq, Int.reduceLT, Int.reduceLE, Int.reduceAdd, Int.reduceSub, Int.reduceMul, reduceIte, resVs, resV, packV, initT, addr, F24, g0] | refine OrW.go ?_
    refine W_loop (fun N qs => ∃ (i : Nat), N = l1.length - i ∧ qs.ds = [] ∧ qs.m = mx m [] ∧ qs.t 0 = .slice a1 l1.length c1 ∧ qs.t 1 = .slice a2 l2.length c2 ∧ qs.t 5 = .int .i64 i ∧ i ≤ l1.length ∧ ∀ j (hj : j < l1.length), j < i → l1[j] = l2[j]'(by omega)) (l1.length - (0)) ⟨0, rfl, rfl, ?qm, ?q0, ?q1, ?q5, ?_⟩ ?_
    case qm | q0 | q1 | q5 => first | rfl | (simp (implicitDefEqProofs := false) (maxSteps := 1000000) (disch := first | omega | with_reducible assumption | (simp only [lenT, Nat.reduceAdd]; omega)) only [amT, cut, bnd, Nat.reduceBEq, reduceCtorEq, Nat.reduceEqDiff, Nat.reduceAdd, Nat.reduceMul, Nat.reduceSub, Int.reduceToNat, Int.reduceEq, Int.reduceLT, Int.reduceLE, Int.reduceAdd, Int.reduceSub, Int.reduceMul, reduceIte, resVs, resV, packV, initT, addr]; first | done | rfl | (congr 1; omega))
    · exact ⟨by omega, fun j h1 h2 => by omega⟩
    · rintro N t m1 ds ⟨i, rfl, hds, hm, t0, t1, t5, hp⟩
      simp only at hds hm t0 t1 t5
      subst hds; replace hm := hm.symm; subst hm
      obtain ⟨hi, hall⟩ := hp
      by_cases g : (i : Int) < (l1.length : Int)
      · have hi' : i < l1.length := by omega
        have gg : (i : Int) < (l2.length : Int) := by omega
        obtain ⟨b1, o1, rfl, hb1, r1⟩ := h1 i hi'
        obtain ⟨b2, o2, rfl, hb2, r2⟩ := h2 i (by omega)
        simp only [iV] at r1 r2
        by_cases e : (l1[i] : Int) = (l2[i]'(by omega) : Int)
        · repeat first | simp (implicitDefEqProofs := false) (maxSteps := 1000000) (disch := first | omega | with_reducible assumption | (simp only [lenT, Nat.reduceAdd]; omega)) only [amT, cut, bnd, Nat.reduceBEq, reduceCtorEq, Nat.reduceEqDiff, Nat.reduceAdd, Nat.reduceMul, Nat.reduceSub, Int.reduceToNat, Int.reduceEq, Int.reduceLT, Int.reduceLE, Int.reduceAdd, Int.reduceSub, Int.reduceMul, reduceIte, resVs, resV, packV, initT, addr, F24_l0, t0, t1, t5, g, gg, r1, r2, e] | refine OrW.go ?_
          rw [LoopK_normal]; refine ⟨_, ?_, i + 1, rfl, rfl, ?qm, ?q0, ?q1, ?q5, ?_⟩
          case qm | q0 | q1 | q5 => first | rfl | (simp (implicitDefEqProofs := false) (maxSteps := 1000000) (disch := first | omega | with_reducible assumption | (simp only [lenT, Nat.reduceAdd]; omega)) only [amT, cut, bnd, Nat.reduceBEq, reduceCtorEq, Nat.reduceEqDiff, Nat.reduceAdd, Nat.reduceMul, Nat.reduceSub, Int.reduceToNat, Int.reduceEq, Int.reduceLT, Int.reduceLE, Int.reduceAdd, Int.reduceSub, Int.reduceMul, reduceIte, resVs, resV, packV, initT, addr, t0, t1, t5]; first | done | rfl | (congr 1; omega))
          · omega
          · refine ⟨by omega, fun j h1 h2 => ?_⟩
            rcases Nat.lt_or_ge j i with h | h
            · exact hall j h1 h
            · obtain rfl : j = i := by omega
              omega
        · have hne : ¬ l1 = l2 := fun h => e (by subst h; rfl)
          repeat first | simp (implicitDefEqProofs := false) (maxSteps := 1000000) (disch := first | omega | with_reducible assumption | (simp only [lenT, Nat.reduceAdd]; omega)) only [amT, cut, bnd, Nat.reduceBEq, reduceCtorEq, Nat.reduceEqDiff, Nat.reduceAdd, Nat.reduceMul, Nat.reduceSub, Int.reduceToNat, Int.reduceEq, Int.reduceLT, Int.reduceLE, Int.reduceAdd, Int.reduceSub, Int.reduceMul, reduceIte, resVs, resV, packV, initT, addr, F24_l0, t0, t1, t5, g, gg, r1, r2, e] | refine OrW.go ?_
          simp [hne]
      · obtain rfl : i = l1.length := by omega
        have heq : l1 = l2 := List.ext_getElem g1 fun j h1 h2 => hall j h1 h1
        repeat first | simp (implicitDefEqProofs := false) (maxSteps := 1000000) (disch := first | omega | with_reducible assumption | (simp only [lenT, Nat.reduceAdd]; omega)) only [amT, cut, bnd, Nat.reduceBEq, reduceCtorEq, Nat.reduceEqDiff, Nat.reduceAdd, Nat.reduceMul, Nat.reduceSub, Int.reduceToNat, Int.reduceEq, Int.reduceLT, Int.reduceLE, Int.reduceAdd, Int.reduceSub, Int.reduceMul, reduceIte, resVs, resV, packV, initT, addr, F24_l0, t0, t1, t5, g] | refine OrW.go ?_
        simp [heq]
  · have hne : ¬ l1 = l2 := fun h => g0 (by rw [h])
    repeat first | simp (implicitDefEqProofs := false) (maxSteps := 1000000) (disch := first | omega | with_reducible assumption | (simp only [lenT, Nat.reduceAdd]; omega)) only [amT, cut, bnd, Nat.reduceBEq, reduceCtorEq, Nat.reduceEqDiff, Nat.reduceAdd, Nat.reduceMul, Nat.reduceSub, Int.reduceToNat, Int.reduceEq, Int.reduceLT, Int.reduceLE, Int.reduceAdd, Int.reduceSub, Int.reduceMul, reduceIte, resVs, resV, packV, initT, addr, F24, g0] | refine OrW.go ?_
    simp [hne]
def shortB (ls : List (List UInt8)) (top : Nat) : Bool := decide (ls.length ≤ top) && ls.all fun s => decide (s.length ≤ 200)
/-- Rows of texts as they are handed in. -/
def NeedsA (m : AMem) (a : Option Addr) (needs : List (List (List UInt8))) : Prop := ∀ i (h : i < needs.length), ∃ b o ra rc, a = some ⟨b, o, none⟩ ∧ b < m.size ∧ rdO (m.get b) (o + i) 1 = some [.slice ra needs[i].length rc] ∧ Src m ra needs[i] ∧ needs[i].length ≤ 9223372036854775807 ∧ ∀ s ∈ needs[i], s.length ≤ 9223372036854775807
theorem NeedsA.old {m m' : AMem} {a : Option Addr} {ls : List (List (List UInt8))} (h : NeedsA m a ls) (ho : Old m m') : NeedsA m' a ls := fun i hi => by
  obtain ⟨b, o, ra, rc, h1, h2, h3, h4, h5⟩ := h i hi
  exact ⟨b, o, ra, rc, h1, Nat.lt_of_lt_of_le h2 ho.1, by rw [ho.2 b h2]; exact h3, h4.old ho, h5⟩
theorem NeedsA.needs {m : AMem} {a : Option Addr} {needs : List (List (List UInt8))} (h : NeedsA m a needs) (hg : needs.all (fun r => shortB r 30) = true) : NeedsR m a needs := fun i hi => by
  obtain ⟨b, o, ra, rc, h1, h2, h3, h4, h5⟩ := h i hi
  have := List.all_eq_true.1 hg _ (List.getElem_mem hi)
  simp [shortB] at this
  exact ⟨b, o, ra, rc, h1, h2, h3, h4, by omega⟩
end Go.Proofs.YtgkmlbkocgjmmaaDoor
namespace Go.AM
set_option linter.unusedVariables false

/-- A word as a cell. -/
def w32 (x : UInt32) : Value := .int .u32 (x.toNat : Int)
theorem w32_def (x : UInt32) : w32 x = .int .u32 (x.toNat : Int) := rfl
theorem plain_w32 (x : UInt32) : Plain (w32 x) := .int _ _
def shrW (x : UInt32) (b : Nat) : UInt32 := UInt32.ofNat (x.toNat >>> b)
def shlW (x : UInt32) (b : Nat) : UInt32 := UInt32.ofNat (x.toNat <<< b)
def rotr (b : Nat) (x : UInt32) : UInt32 := shrW x b ||| shlW x (32 - b)

theorem wrap_u32n (n : Nat) : IntKind.u32.wrap (n : Int) = ((n % 2 ^ 32 : Nat) : Int) := by simp [IntKind.wrap, IntKind.bits, IntKind.signed]
theorem u32_le (x : UInt32) : (x.toNat : Int) ≤ IntKind.u32.max := by
  have := x.toNat_lt; rw [max_u32]; omega
theorem binV_addw (x y : UInt32) : binV .add (w32 x) (w32 y) = some (w32 (x + y)) := by
  rw [w32_def, w32_def, binV_add, w32_def, show (x.toNat : Int) + y.toNat = ((x.toNat + y.toNat : Nat) : Int) by push_cast; rfl, wrap_u32n, UInt32.toNat_add]
theorem binV_andw (x y : UInt32) : binV .and (w32 x) (w32 y) = some (w32 (x &&& y)) := by
  rw [w32_def, w32_def, binV_and, w32_def, ibits_and_nat (u32_le x) (u32_le y), UInt32.toNat_and]
theorem binV_orw (x y : UInt32) : binV .or (w32 x) (w32 y) = some (w32 (x ||| y)) := by
  rw [w32_def, w32_def, binV_or, w32_def, ibits_or_nat (u32_le x) (u32_le y), UInt32.toNat_or]
theorem binV_xorw (x y : UInt32) : binV .xor (w32 x) (w32 y) = some (w32 (x ^^^ y)) := by
  rw [w32_def, w32_def, binV_xor, w32_def, ibits_xor_nat (u32_le x) (u32_le y), UInt32.toNat_xor]
theorem ofInt_w (x : UInt32) : BitVec.ofInt IntKind.u32.bits (x.toNat : Int) = x.toBitVec := by
  apply BitVec.eq_of_toNat_eq
  rw [ofInt_nat (u32_le x)]; rfl
theorem ibits_andNotw (x y : UInt32) : ibits .andNot .u32 (x.toNat : Int) (y.toNat : Int) = ((x &&& ~~~y).toNat : Int) := by
  simp only [ibits, ofInt_w]
  have h : ((x.toBitVec &&& ~~~y.toBitVec).toNat : Int) ≤ IntKind.u32.max := by
    have := (x.toBitVec &&& ~~~y.toBitVec).isLt
    rw [max_u32]; omega
  exact (wrap_small h).trans rfl
theorem binV_andNotw (x y : UInt32) : binV .andNot (w32 x) (w32 y) = some (w32 (x &&& ~~~y)) := by
  rw [w32_def, w32_def, binV_andNot, w32_def, ibits_andNotw]
theorem binV_shrw {k : IntKind} {x : UInt32} {b : Nat} (h : b ≤ 32) : binV .shr (w32 x) (.int k (b : Int)) = some (w32 (shrW x b)) := by
  rw [w32_def, binV_shr _ _ (by omega), w32_def, shr_nat _ _ _ (by simpa [IntKind.bits] using h)]
  have h2 : x.toNat >>> b < 2 ^ 32 := Nat.lt_of_le_of_lt (Nat.shiftRight_le _ _) x.toNat_lt
  simp [shrW, Nat.mod_eq_of_lt h2]
theorem binV_shlw {k : IntKind} {x : UInt32} {b : Nat} (h : b ≤ 32) : binV .shl (w32 x) (.int k (b : Int)) = some (w32 (shlW x b)) := by
  rw [w32_def, binV_shl _ _ (by omega), w32_def]
  simp only [shl, Int.toNat_natCast, show min b IntKind.u32.bits = b by simp [IntKind.bits]; omega]
  rw [show (x.toNat : Int) * 2 ^ b = ((x.toNat * 2 ^ b : Nat) : Int) by push_cast; rfl, wrap_u32n]
  simp [shlW, Nat.shiftLeft_eq]
theorem not_w (x : UInt32) : unV .xor (w32 x) = some (w32 (~~~x)) := by
  have h := ibits_xor_nat (u32_le (0xFFFFFFFF : UInt32)) (u32_le x)
  have h1 : (((0xFFFFFFFF : UInt32).toNat : Nat) : Int) = 4294967295 := rfl
  rw [h1] at h
  have h2 : (~~~x).toNat = (0xFFFFFFFF : UInt32).toNat ^^^ x.toNat := by
    rw [← UInt32.toNat_xor]; congr 1
  rw [w32_def, w32_def, h2, ← h]; rfl
theorem ws_get {l : List UInt32} {i : Nat} (h : i < l.length) : (l.map w32)[i]? = some (w32 l[i]) := by simp [h]
theorem ws_set (l : List UInt32) (i : Nat) (x : UInt32) : (l.map w32).set i (w32 x) = (l.set i x).map w32 := by simp [List.map_set]
theorem cellsOf_w (x : UInt32) : cellsOf (w32 x) = some [w32 x] := rfl
theorem cellsOf_ws (l : List UInt32) : cellsOf (.agg (l.map w32).toArray) = some (l.map w32) := by
  simp [cellsOf, oneCell, w32]

theorem amW : type_of% @binV_addw ∧ type_of% @binV_andw ∧ type_of% @binV_orw ∧ type_of% @binV_xorw ∧ type_of% @binV_andNotw ∧ type_of% @not_w ∧ type_of% @ws_get ∧ type_of% @ws_set ∧ type_of% @cellsOf_w ∧ type_of% @cellsOf_ws :=
  ⟨@binV_addw, @binV_andw, @binV_orw, @binV_xorw, @binV_andNotw, @not_w, @ws_get, @ws_set, @cellsOf_w, @cellsOf_ws⟩
/-! Sums of bits. -/
theorem or_comm_w (a b : UInt32) : a ||| b = b ||| a := by
  apply UInt32.toNat_inj.1; rw [UInt32.toNat_or, UInt32.toNat_or, Nat.or_comm]

/-! ### The function, in plain words -/
def spl {α : Type} (R : List α) (o : Nat) (c : List α) : List α := R.take o ++ c ++ R.drop (o + c.length)
theorem splice_spl (R v : List Value) (o : Nat) : splice R o v = spl R o v := rfl
theorem spl_length {α : Type} {R c : List α} {o : Nat} (h : o + c.length ≤ R.length) : (spl R o c).length = R.length := by simp [spl]; omega
theorem spl_nil {α : Type} (R : List α) (o : Nat) : spl R o [] = R := by simp [spl]
theorem spl_map {α β : Type} (f : α → β) (R c : List α) (o : Nat) : (spl R o c).map f = spl (R.map f) o (c.map f) := by simp [spl, List.map_take, List.map_drop]
theorem spl_get {α : Type} {R c : List α} {o : Nat} (h : o + c.length ≤ R.length) (i : Nat) : (spl R o c)[i]? = if i < o then R[i]? else if i < o + c.length then c[i - o]? else R[i]? := by
  simp only [spl, List.append_assoc]
  by_cases h1 : i < o
  · rw [if_pos h1, List.getElem?_append_left (by simp; omega), List.getElem?_take_of_lt h1]
  · rw [if_neg h1, List.getElem?_append_right (by simp; omega)]
    have hl : (R.take o).length = o := by simp; omega
    rw [hl]
    by_cases h2 : i < o + c.length
    · rw [if_pos h2, List.getElem?_append_left (by omega)]
    · rw [if_neg h2, List.getElem?_append_right (by omega), List.getElem?_drop]; congr 1; omega
theorem spl_cons {α : Type} {R c : List α} {o : Nat} {x : α} (h : o + c.length < R.length) : spl R o (x :: c) = spl (R.set o x) (o + 1) c := by
  apply List.ext_getElem?
  intro i
  rw [spl_get (by simp; omega), spl_get (by simp; omega)]
  simp only [List.length_cons]
  by_cases h1 : i < o
  · rw [if_pos h1, if_pos (by omega), List.getElem?_set_ne (by omega)]
  · rw [if_neg h1]
    by_cases h2 : i = o
    · subst h2; rw [if_pos (by omega), if_pos (by omega), List.getElem?_set_self (by omega)]; simp
    · rw [if_neg (show ¬ i < o + 1 by omega)]
      by_cases h3 : i < o + (c.length + 1)
      · rw [if_pos h3, if_pos (by omega), show i - o = (i - (o + 1)) + 1 by omega, List.getElem?_cons_succ]
      · rw [if_neg h3, if_neg (by omega), List.getElem?_set_ne (by omega)]
theorem spl_snoc {α : Type} {R c : List α} {o k : Nat} {x : α} (hk : k = o + c.length) (h : k < R.length) : (spl R o c).set k x = spl R o (c ++ [x]) := by
  subst hk
  apply List.ext_getElem?
  intro i
  rw [spl_get (by simp; omega)]
  simp only [List.length_append, List.length_singleton]
  by_cases h2 : i = o + c.length
  · subst h2
    rw [List.getElem?_set_self (by rw [spl_length (by omega)]; omega), if_neg (by omega), if_pos (by omega), show o + c.length - o = c.length by omega]; simp
  · rw [List.getElem?_set_ne (by omega), spl_get (by omega)]
    by_cases h1 : i < o
    · rw [if_pos h1, if_pos h1]
    · rw [if_neg h1, if_neg h1]
      by_cases h3 : i < o + c.length
      · rw [if_pos h3, if_pos (by omega), List.getElem?_append_left (by omega)]
      · rw [if_neg h3, if_neg (by omega)]

def zip2 (a b : List UInt32) : List UInt32 := List.zipWith (· + ·) a b
theorem zip2_length {a b : List UInt32} {n : Nat} (ha : a.length = n) (hb : b.length = n) : (zip2 a b).length = n := by simp [zip2, ha, hb]
def beginW : List UInt32 := [1779033703, 3144134277, 1013904242, 2773480762, 1359893119, 2600822924, 528734635, 1541459225]
def movedW (x : UInt32) (k l m : Nat) : UInt32 := rotr k x ^^^ rotr l x ^^^ shrW x m
def turnedW (x : UInt32) (k l m : Nat) : UInt32 := rotr k x ^^^ rotr l x ^^^ rotr m x
def word4 (l : List UInt8) : UInt32 := l.foldl (fun a c => shlW a 8 ||| UInt32.ofNat c.toNat) 0
def wordAt (b : List UInt8) (W : List UInt32) (t : Nat) : UInt32 :=
  if t < 16 then word4 ((b.drop (4 * t)).take 4) else movedW (W.getD (t - 2) 0) 17 19 10 + W.getD (t - 7) 0 + movedW (W.getD (t - 15) 0) 7 18 3 + W.getD (t - 16) 0
def sched (b : List UInt8) : Nat → List UInt32
  | 0 => []
  | t + 1 => sched b t ++ [wordAt b (sched b t) t]
theorem sched_length (b : List UInt8) : ∀ t, (sched b t).length = t
  | 0 => rfl
  | t + 1 => by simp [sched, sched_length b t]
def roundW (v : List UInt32) (k w : UInt32) : List UInt32 := match v with
  | [a, b, c, d, e, f, g, h] =>
    [h + turnedW e 6 11 25 + (e &&& f ||| g &&& ~~~e) + k + w + (turnedW a 2 13 22 + (a &&& b ^^^ a &&& c ^^^ b &&& c)), a, b, c, d + (h + turnedW e 6 11 25 + (e &&& f ||| g &&& ~~~e) + k + w), e, f, g]
  | v => v
theorem roundW_length (v : List UInt32) (k w : UInt32) : (roundW v k w).length = v.length := by unfold roundW; split <;> rfl
def roundsW (K : List UInt32) (b : List UInt8) (v : List UInt32) : Nat → List UInt32
  | 0 => v
  | t + 1 => roundW (roundsW K b v t) (K.getD t 0) ((sched b 64).getD t 0)
theorem roundsW_length (K : List UInt32) (b : List UInt8) (v : List UInt32) : ∀ t, (roundsW K b v t).length = v.length
  | 0 => rfl
  | t + 1 => by rw [roundsW, roundW_length, roundsW_length K b v t]
def constW : List UInt32 := [1116352408, 1899447441, 3049323471, 3921009573, 961987163, 1508970993, 2453635748, 2870763221, 3624381080, 310598401, 607225278, 1426881987, 1925078388, 2162078206, 2614888103, 3248222580, 3835390401, 4022224774, 264347078, 604807628, 770255983, 1249150122, 1555081692, 1996064986, 2554220882, 2821834349, 2952996808, 3210313671, 3336571891, 3584528711, 113926993, 338241895, 666307205, 773529912, 1294757372, 1396182291, 1695183700, 1986661051, 2177026350, 2456956037, 2730485921, 2820302411, 3259730800, 3345764771, 3516065817, 3600352804, 4094571909, 275423344, 430227734, 506948616, 659060556, 883997877, 958139571, 1322822218, 1537002063, 1747873779, 1955562222, 2024104815, 2227730452, 2361852424, 2428436474, 2756734187, 3204031479, 3329325298]
/-- What a block adds. -/
def moreStep (M : List UInt32) (b : List UInt8) : List UInt32 := zip2 M (roundsW constW b (zip2 beginW M) 64)
theorem moreStep_length {M : List UInt32} {b : List UInt8} (h : M.length = 8) : (moreStep M b).length = 8 :=
  zip2_length h (by rw [roundsW_length]; exact zip2_length rfl h)

/-- The first k of one row, the others of another. -/
def mix {α : Type} (k : Nat) (X B : List α) : List α := X.take k ++ B.drop k
theorem mix_zero {α : Type} (X B : List α) : mix 0 X B = B := by simp [mix]
theorem mix_all {α : Type} {k : Nat} {X B : List α} (h : X.length = k) (h' : B.length = k) : mix k X B = X := by
  simp only [mix]; rw [List.take_of_length_le (by omega), List.drop_of_length_le (by omega), List.append_nil]
theorem mix_length {α : Type} {k : Nat} {X B : List α} (h : X.length = B.length) : (mix k X B).length = B.length := by simp [mix]; omega
theorem mix_get {α : Type} {k : Nat} {X B : List α} (h : X.length = B.length) (hk : k < B.length) : (mix k X B)[k]'(by rw [mix_length h]; exact hk) = B[k] := by
  simp only [mix]
  rw [List.getElem_append_right (by simp; omega)]
  simp [List.length_take, show min k X.length = k by omega]
theorem mix_set {α : Type} {k : Nat} {X B : List α} (h : X.length = B.length) (hk : k < X.length) : (mix k X B).set k X[k] = mix (k + 1) X B := by
  apply List.ext_getElem?
  intro i
  have hl : (X.take k).length = k := by simp; omega
  have hl' : (X.take (k + 1)).length = k + 1 := by simp; omega
  by_cases hi : i = k
  · subst hi
    rw [List.getElem?_set_self (by rw [mix_length h]; omega)]
    simp only [mix]
    rw [List.getElem?_append_left (by omega), List.getElem?_take_of_lt (by omega), List.getElem?_eq_getElem hk]
  · rw [List.getElem?_set_ne (by omega)]
    simp only [mix]
    by_cases h1 : i < k
    · rw [List.getElem?_append_left (by omega), List.getElem?_append_left (by omega), List.getElem?_take_of_lt h1, List.getElem?_take_of_lt (by omega)]
    · rw [List.getElem?_append_right (by omega), List.getElem?_append_right (by omega), List.getElem?_drop, List.getElem?_drop, hl, hl']
      congr 1; omega
theorem zip2_get {a b : List UInt32} {i : Nat} (ha : i < a.length) (hb : i < b.length) : (zip2 a b)[i]'(by simp [zip2]; omega) = a[i] + b[i] := by simp [zip2]

structure HS where
  M : List UInt32
  R : List UInt8
  n : Nat
def hs0 : HS := ⟨List.replicate 8 0, List.replicate 64 0, 0⟩
def HS.put1 (s : HS) (c : UInt8) : HS := ⟨if (s.n + 1) % 64 = 0 then moreStep s.M (s.R.set (s.n % 64) c) else s.M, s.R.set (s.n % 64) c, s.n + 1⟩
def HS.put (s : HS) (l : List UInt8) : HS := l.foldl HS.put1 s
theorem HS.put_append (s : HS) (a b : List UInt8) : s.put (a ++ b) = (s.put a).put b := by simp [HS.put]
theorem HS.put_nil (s : HS) : s.put [] = s := rfl
def HS.ok (s : HS) : Prop := s.M.length = 8 ∧ s.R.length = 64
theorem HS.put1_ok {s : HS} (h : s.ok) (c : UInt8) : (s.put1 c).ok := by
  refine ⟨?_, by simp [HS.put1, h.2]⟩
  simp only [HS.put1]; split
  · exact moreStep_length h.1
  · exact h.1
theorem HS.put_ok {s : HS} (h : s.ok) (l : List UInt8) : (s.put l).ok := by
  induction l generalizing s with
  | nil => exact h
  | cons c l ih => exact ih (HS.put1_ok h c)
theorem hs0_ok : hs0.ok := ⟨rfl, rfl⟩
theorem HS.put_n (s : HS) (l : List UInt8) : (s.put l).n = s.n + l.length := by
  induction l generalizing s with
  | nil => rfl
  | cons c l ih => rw [HS.put, List.foldl_cons]; have := ih (s.put1 c); rw [HS.put] at this; rw [this]; simp [HS.put1]; omega

/-- A piece that fits into the block. -/
theorem HS.put_fit {s : HS} (h : s.ok) {c : List UInt8} (hf : s.n % 64 + c.length < 64) : s.put c = ⟨s.M, spl s.R (s.n % 64) c, s.n + c.length⟩ := by
  induction c generalizing s with
  | nil => simp [HS.put, spl_nil]
  | cons x c ih =>
    have h1 : s.put1 x = ⟨s.M, s.R.set (s.n % 64) x, s.n + 1⟩ := by
      simp only [List.length_cons] at hf
      unfold HS.put1; rw [if_neg (by omega)]
    simp only [List.length_cons] at hf
    have h2 : (s.n + 1) % 64 = s.n % 64 + 1 := by omega
    show (s.put1 x).put c = _
    rw [ih (HS.put1_ok h x) (by rw [h1]; simp only; omega), h1]
    simp only [h2, List.length_cons]
    rw [spl_cons (by rw [h.2]; omega)]
    congr 1; omega
theorem HS.put_full {s : HS} (h : s.ok) {c : List UInt8} (hc : c ≠ []) (hf : s.n % 64 + c.length = 64) : s.put c = ⟨moreStep s.M (spl s.R (s.n % 64) c), spl s.R (s.n % 64) c, s.n + c.length⟩ := by
  obtain ⟨a, x, rfl⟩ : ∃ a x, c = a ++ [x] := ⟨c.dropLast, c.getLast hc, (List.dropLast_concat_getLast hc).symm⟩
  simp only [List.length_append, List.length_singleton] at hf
  rw [HS.put_append, HS.put_fit h (by omega)]
  simp only [HS.put, List.foldl_cons, List.foldl_nil, HS.put1]
  have h2 : (s.n + a.length) % 64 = 63 := by omega
  have h3 : (spl s.R (s.n % 64) a).set 63 x = spl s.R (s.n % 64) (a ++ [x]) := spl_snoc (by omega) (by rw [h.2]; omega)
  rw [if_pos (by omega), h2, h3]
  simp only [List.length_append, List.length_singleton, Nat.add_assoc]
/-- The state's cells. -/
def cH (s : HS) : List Value := s.M.map w32 ++ (s.R.map byteV ++ [.int .u64 (s.n : Int)])
theorem cH_length {s : HS} (h : s.ok) : (cH s).length = 73 := by simp [cH, h.1, h.2]
theorem cH_M {s : HS} (h : s.ok) : cutL (cH s) 0 8 = some (s.M.map w32) := by
  have := cH_length h
  simp only [cutL]; rw [if_pos (by omega)]
  have hl : (s.M.map w32).length = 8 := by simp [h.1]
  simp [cH, h.1]
theorem cH_all {s : HS} (h : s.ok) : cutL (cH s) 0 73 = some (cH s) := cutL_all (cH_length h)
theorem cH_n {s : HS} (h : s.ok) : (cH s)[72]? = some (.int .u64 (s.n : Int)) := by
  rw [cH, List.getElem?_append_right (by simp [h.1]), List.getElem?_append_right (by simp [h.1, h.2])]
  simp [h.1, h.2]
theorem cH_Mi {s : HS} (h : s.ok) {i : Nat} (hi : i < 8) : (cH s)[i]? = some (w32 (s.M[i]'(by rw [h.1]; exact hi))) := by
  rw [cH, List.getElem?_append_left (by simp [h.1]; exact hi), ws_get]
theorem cH_Ri {s : HS} (h : s.ok) {i : Nat} (hi : i < 64) : (cH s)[8 + i]? = some (byteV (s.R[i]'(by rw [h.2]; exact hi))) := by
  rw [cH, List.getElem?_append_right (by simp [h.1]), List.getElem?_append_left (by simp [h.1, h.2]; exact hi)]
  simp only [List.length_map, h.1, Nat.add_sub_cancel_left]
  rw [bytes_get]
theorem cH_setM {s : HS} (h : s.ok) {i : Nat} (hi : i < 8) (x : UInt32) : (cH s).set i (w32 x) = cH { s with M := s.M.set i x } := by
  simp only [cH]
  rw [List.set_append_left _ _ (by simp [h.1]; exact hi), ws_set]
theorem cH_setn {s : HS} (h : s.ok) (n : Nat) : (cH s).set 72 (.int .u64 (n : Int)) = cH { s with n := n } := by
  simp only [cH]
  rw [List.set_append_right _ _ (by simp [h.1]), List.set_append_right _ _ (by simp [h.1, h.2])]
  simp [h.1, h.2]
theorem spl_app {α : Type} {A B C c : List α} {o : Nat} (h : o + c.length ≤ B.length) : spl (A ++ (B ++ C)) (A.length + o) c = A ++ (spl B o c ++ C) := by
  have e1 : (A ++ (B ++ C)).take (A.length + o) = A ++ B.take o := by
    rw [List.take_append, List.take_of_length_le (by omega), show A.length + o - A.length = o by omega, List.take_append, show o - B.length = 0 by omega]; simp
  have e2 : (A ++ (B ++ C)).drop (A.length + o + c.length) = B.drop (o + c.length) ++ C := by
    rw [List.drop_append, List.drop_of_length_le (by omega), show A.length + o + c.length - A.length = o + c.length by omega, List.drop_append, show o + c.length - B.length = 0 by omega]; simp
  simp only [spl]; rw [e1, e2]; simp
theorem cH_R {s : HS} (h : s.ok) {at_ : Nat} {c : List UInt8} (hc : at_ + c.length ≤ 64) : splice (cH s) (8 + at_) (c.map byteV) = cH { s with R := spl s.R at_ c } := by
  have h8 : (s.M.map w32).length = 8 := by simp [h.1]
  have := spl_app (A := s.M.map w32) (B := s.R.map byteV) (C := [.int .u64 (s.n : Int)]) (c := c.map byteV) (o := at_) (by simp [h.2]; exact hc)
  rw [h8] at this
  rw [splice_spl, cH, cH, this, spl_map]
theorem plain_cH (s : HS) : ∀ v ∈ cH s, Plain v := fun v hv => by
  simp only [cH, List.mem_append, List.mem_map, List.mem_singleton] at hv
  rcases hv with ⟨x, _, rfl⟩ | ⟨x, _, rfl⟩ | rfl
  · exact plain_w32 _
  · exact .int _ _
  · exact .int _ _
theorem oneCell_w (x : UInt32) : oneCell (w32 x) = true := rfl
theorem len8 {l : List UInt32} (h : l.length = 8) : ∃ a b c d e f g i, l = [a, b, c, d, e, f, g, i] := by
  match l, h with
  | [a, b, c, d, e, f, g, i], _ => exact ⟨a, b, c, d, e, f, g, i, rfl⟩
end Go.AM
namespace Go.Proofs.YtgkmlbkocgjmmaaDoor.S
open Go Go.AM
set_option maxRecDepth 100000
set_option linter.unusedVariables false
set_option linter.unusedSimpArgs false

theorem rot_ok (m : AMem) (x : UInt32) (k : Nat) (h1 : 1 ≤ k) (h2 : k ≤ 31) : PureC Tryd.prog 3 94 [w32 x, .int .i64 (0 - (k : Int))] m (w32 (rotr k x)) := by
  refine pure_of_W (fn := Tryd.f94) rfl rfl F94_ok (by simp [F94]) (plain_w32 _) ?_
  have e1 : ibits .and .u64 (IntKind.u64.wrap (0 - (k : Int))) 31 = ((32 - k : Nat) : Int) := by
    have : ∀ k : Fin 32, 1 ≤ k.val → ibits .and .u64 (IntKind.u64.wrap (0 - (k.val : Int))) 31 = ((32 - k.val : Nat) : Int) := by decide +kernel
    exact this ⟨k, by omega⟩ h1
  have e2 : IntKind.u64.wrap (32 - ((32 - k : Nat) : Int)) = (k : Int) := by rw [wrap_u64 (by omega) (by omega)]; omega
  simp (implicitDefEqProofs := false) (maxSteps := 1000000) (disch := first | omega | with_reducible assumption | (simp only [lenT, Nat.reduceAdd]; omega)) only [amT, cut, bnd, Nat.reduceBEq, reduceCtorEq, Nat.reduceEqDiff, Nat.reduceAdd, Nat.reduceMul, Nat.reduceSub, Int.reduceToNat, Int.reduceEq, Int.reduceLT, Int.reduceLE, Int.reduceAdd, Int.reduceSub, Int.reduceMul, reduceIte, resVs, resV, packV, initT, addr, F94, e1, e2, amW, binV_shrw, binV_shlw]
  rw [or_comm_w]; rfl
theorem kRot {m : AMem} {x : UInt32} {k : Nat} (h1 : 1 ≤ k) (h2 : k ≤ 31) : type_of% (DetC.known (rot_ok m x k h1 h2)) := DetC.known (rot_ok m x k h1 h2)
theorem turned_ok (m : AMem) (x : UInt32) (k l n : Nat) (h1 : 1 ≤ k) (h2 : k ≤ 31) (h3 : 1 ≤ l) (h4 : l ≤ 31) (h5 : 1 ≤ n) (h6 : n ≤ 31) : PureC Tryd.prog 3 89 [w32 x, .int .i64 (k : Int), .int .i64 (l : Int), .int .i64 (n : Int)] m (w32 (turnedW x k l n)) := by
  refine pure_of_W (fn := Tryd.f89) rfl rfl F89_ok (by simp [F89]) (plain_w32 _) ?_
  simp (implicitDefEqProofs := false) (maxSteps := 1000000) (disch := first | omega | with_reducible assumption | (simp only [lenT, Nat.reduceAdd]; omega)) only [amT, cut, bnd, Nat.reduceBEq, reduceCtorEq, Nat.reduceEqDiff, Nat.reduceAdd, Nat.reduceMul, Nat.reduceSub, Int.reduceToNat, Int.reduceEq, Int.reduceLT, Int.reduceLE, Int.reduceAdd, Int.reduceSub, Int.reduceMul, reduceIte, resVs, resV, packV, initT, addr, F89, kRot, amW]
  repeat refine OrW.go ?_
  rfl
theorem moved_ok (m : AMem) (x : UInt32) (k l n : Nat) (h1 : 1 ≤ k) (h2 : k ≤ 31) (h3 : 1 ≤ l) (h4 : l ≤ 31) (h5 : 1 ≤ n) (h6 : n ≤ 31) : PureC Tryd.prog 3 88 [w32 x, .int .i64 (k : Int), .int .i64 (l : Int), .int .i64 (n : Int)] m (w32 (movedW x k l n)) := by
  refine pure_of_W (fn := Tryd.f88) rfl rfl F88_ok (by simp [F88]) (plain_w32 _) ?_
  simp (implicitDefEqProofs := false) (maxSteps := 1000000) (disch := first | omega | with_reducible assumption | (simp only [lenT, Nat.reduceAdd]; omega)) only [amT, cut, bnd, Nat.reduceBEq, reduceCtorEq, Nat.reduceEqDiff, Nat.reduceAdd, Nat.reduceMul, Nat.reduceSub, Int.reduceToNat, Int.reduceEq, Int.reduceLT, Int.reduceLE, Int.reduceAdd, Int.reduceSub, Int.reduceMul, reduceIte, resVs, resV, packV, initT, addr, F88, kRot, amW, binV_shrw]
  repeat refine OrW.go ?_
  rfl
end Go.Proofs.YtgkmlbkocgjmmaaDoor.S
namespace Go.Proofs.YtgkmlbkocgjmmaaDoor.S
open Go Go.AM
set_option maxRecDepth 100000
set_option linter.unusedVariables false
set_option linter.unusedSimpArgs false

theorem beginW_len : beginW.length = 8 := rfl
theorem zero8 : [Value.int .u32 0, .int .u32 0, .int .u32 0, .int .u32 0, .int .u32 0, .int .u32 0, .int .u32 0, .int .u32 0] = (List.replicate 8 (0 : UInt32)).map w32 := rfl
/-- The package's variables, as they are laid. -/
structure Glob (m : AMem) : Prop where
  k : ∃ e sp, m.get 0 = .cells (constW.map w32) e false sp
  b : ∃ e sp, m.get 1 = .cells (beginW.map w32) e false sp
  s : 2 < m.size
theorem Glob.old {m M : AMem} (h : Glob m) (ho : Old m M) : Glob M := ⟨by rw [ho.2 _ (by have := h.s; omega)]; exact h.k, by rw [ho.2 _ (by have := h.s; omega)]; exact h.b, by have := h.s; have := ho.1; omega⟩

theorem plain_ws (l : List UInt32) : Plain (.agg (l.map w32).toArray) := .agg fun v hv => by
  simp at hv; obtain ⟨x, _, rfl⟩ := hv; exact plain_w32 _

theorem state_ok (m : AMem) (b : Nat) (s : HS) (hg : Glob m) (hs : s.ok) (hb : b < m.size) (hm : m.get b = .cells (cH s) 96 true .exact) :
    PureC Tryd.prog 3 77 [.pointer (some ⟨b, 0, none⟩)] m (.agg ((zip2 beginW s.M).map w32).toArray) := by
  refine pure_of_W (fn := Tryd.f77) rfl rfl F77_ok (by simp [F77]) (plain_ws _) ?_
  obtain ⟨eb, spb, g1⟩ := hg.b
  have gs := hg.s
  have c8 := cH_M hs
  have m8 := hs.1
  have z8 : (zip2 beginW s.M).length = 8 := zip2_length rfl m8
  have hbl := beginW_len
  simp (implicitDefEqProofs := false) (maxSteps := 1000000) (disch := first | omega | with_reducible assumption | (simp only [lenT, Nat.reduceAdd]; omega)) only [amT, cut, bnd, Nat.reduceBEq, reduceCtorEq, Nat.reduceEqDiff, Nat.reduceAdd, Nat.reduceMul, Nat.reduceSub, Int.reduceToNat, Int.reduceEq, Int.reduceLT, Int.reduceLE, Int.reduceAdd, Int.reduceSub, Int.reduceMul, reduceIte, resVs, resV, packV, initT, addr, F77, g1, hm, c8, cutL_all, zero8, beginW_len, cellsOf_ws]
  refine W_loop (fun N qs => ∃ (i : Nat), N = 8 - i ∧ qs.ds = [] ∧ qs.m = mx m [.cells ((List.replicate 8 (0 : UInt32)).map w32) 92 true .exact, .cells ((mix i (zip2 beginW s.M) beginW).map w32) 92 true .exact] ∧ qs.t 2 = .pointer (some ⟨m.size, 0, none⟩) ∧ qs.t 3 = .pointer (some ⟨m.size + 1, 0, none⟩) ∧ qs.t 10 = .agg (s.M.map w32).toArray ∧ qs.t 11 = .int .i64 i ∧ i ≤ 8) (8 - (0)) ⟨0, rfl, rfl, ?qm, ?q2, ?q3, ?q10, ?q11, ?_⟩ ?_
  case qm | q2 | q3 | q10 | q11 => first | rfl | (simp (implicitDefEqProofs := false) (maxSteps := 1000000) (disch := first | omega | with_reducible assumption | (simp only [lenT, Nat.reduceAdd]; omega)) only [amT, cut, bnd, Nat.reduceBEq, reduceCtorEq, Nat.reduceEqDiff, Nat.reduceAdd, Nat.reduceMul, Nat.reduceSub, Int.reduceToNat, Int.reduceEq, Int.reduceLT, Int.reduceLE, Int.reduceAdd, Int.reduceSub, Int.reduceMul, reduceIte, resVs, resV, packV, initT, addr, mix_zero]; first | done | rfl | (congr 1; omega))
  · omega
  · rintro N t m1 ds ⟨i, rfl, hds, hm, t2, t3, t10, t11, hp⟩
    simp only at hds hm t2 t3 t10 t11
    subst hds; replace hm := hm.symm; subst hm
    have hl := mix_length (k := i) (show (zip2 beginW s.M).length = beginW.length by rw [z8]; rfl)
    by_cases hi : (i : Int) < 8
    · have h1 := mix_get (k := i) (show (zip2 beginW s.M).length = beginW.length by rw [z8]; rfl) (by rw [beginW_len]; omega)
      have h2 := mix_set (k := i) (show (zip2 beginW s.M).length = beginW.length by rw [z8]; rfl) (by omega)
      have h3 := zip2_get (a := beginW) (b := s.M) (i := i) (by rw [beginW_len]; omega) (by omega)
      rw [h3] at h2
      simp (implicitDefEqProofs := false) (maxSteps := 1000000) (disch := first | omega | with_reducible assumption | (simp only [lenT, Nat.reduceAdd]; omega)) only [amT, cut, bnd, Nat.reduceBEq, reduceCtorEq, Nat.reduceEqDiff, Nat.reduceAdd, Nat.reduceMul, Nat.reduceSub, Int.reduceToNat, Int.reduceEq, Int.reduceLT, Int.reduceLE, Int.reduceAdd, Int.reduceSub, Int.reduceMul, reduceIte, resVs, resV, packV, initT, addr, F77_l0, t2, t3, t10, t11, hi, amW, h1, h2, hl, beginW_len]
      rw [LoopK_normal]; refine ⟨_, ?_, i + 1, rfl, rfl, ?qm, ?q2, ?q3, ?q10, ?q11, ?_⟩
      case qm | q2 | q3 | q10 | q11 => first | rfl | (simp (implicitDefEqProofs := false) (maxSteps := 1000000) (disch := first | omega | with_reducible assumption | (simp only [lenT, Nat.reduceAdd]; omega)) only [amT, cut, bnd, Nat.reduceBEq, reduceCtorEq, Nat.reduceEqDiff, Nat.reduceAdd, Nat.reduceMul, Nat.reduceSub, Int.reduceToNat, Int.reduceEq, Int.reduceLT, Int.reduceLE, Int.reduceAdd, Int.reduceSub, Int.reduceMul, reduceIte, resVs, resV, packV, initT, addr, t2, t3, t10, t11]; first | done | rfl | (congr 1; omega))
      · omega
      · omega
    · have : i = 8 := by omega
      subst this
      have h4 := mix_all z8 beginW_len
      simp (implicitDefEqProofs := false) (maxSteps := 1000000) (disch := first | omega | with_reducible assumption | (simp only [lenT, Nat.reduceAdd]; omega)) only [amT, cut, bnd, Nat.reduceBEq, reduceCtorEq, Nat.reduceEqDiff, Nat.reduceAdd, Nat.reduceMul, Nat.reduceSub, Int.reduceToNat, Int.reduceEq, Int.reduceLT, Int.reduceLE, Int.reduceAdd, Int.reduceSub, Int.reduceMul, reduceIte, resVs, resV, packV, initT, addr, F77_l0, t2, t3, t10, t11, h4, cutL_all, z8, cellsOf_ws]
end Go.Proofs.YtgkmlbkocgjmmaaDoor.S
namespace Go.Proofs.YtgkmlbkocgjmmaaDoor.S
open Go Go.AM
set_option maxRecDepth 100000
set_option linter.unusedVariables false
set_option linter.unusedSimpArgs false

theorem kMovedA {m : AMem} {x : UInt32} : Known Tryd.prog 3 88 [w32 x, .int .i64 17, .int .i64 19, .int .i64 10] m (w32 (movedW x 17 19 10)) m := DetC.known (moved_ok m x 17 19 10 (by omega) (by omega) (by omega) (by omega) (by omega) (by omega))
theorem kMovedB {m : AMem} {x : UInt32} : Known Tryd.prog 3 88 [w32 x, .int .i64 7, .int .i64 18, .int .i64 3] m (w32 (movedW x 7 18 3)) m := DetC.known (moved_ok m x 7 18 3 (by omega) (by omega) (by omega) (by omega) (by omega) (by omega))
theorem kTurnedA {m : AMem} {x : UInt32} : Known Tryd.prog 3 89 [w32 x, .int .i64 6, .int .i64 11, .int .i64 25] m (w32 (turnedW x 6 11 25)) m := DetC.known (turned_ok m x 6 11 25 (by omega) (by omega) (by omega) (by omega) (by omega) (by omega))
theorem kTurnedB {m : AMem} {x : UInt32} : Known Tryd.prog 3 89 [w32 x, .int .i64 2, .int .i64 13, .int .i64 22] m (w32 (turnedW x 2 13 22)) m := DetC.known (turned_ok m x 2 13 22 (by omega) (by omega) (by omega) (by omega) (by omega) (by omega))
theorem kState {m : AMem} {b : Nat} {s : HS} (hg : Glob m) (hs : s.ok) (hb : b < m.size) (hm : m.get b = .cells (cH s) 96 true .exact) : type_of% (DetC.known (state_ok m b s hg hs hb hm)) := DetC.known (state_ok m b s hg hs hb hm)

theorem zero64 : [Value.int .u32 0, .int .u32 0, .int .u32 0, .int .u32 0, .int .u32 0, .int .u32 0, .int .u32 0, .int .u32 0, .int .u32 0, .int .u32 0, .int .u32 0, .int .u32 0, .int .u32 0, .int .u32 0, .int .u32 0, .int .u32 0, .int .u32 0, .int .u32 0, .int .u32 0, .int .u32 0, .int .u32 0, .int .u32 0, .int .u32 0, .int .u32 0, .int .u32 0, .int .u32 0, .int .u32 0, .int .u32 0, .int .u32 0, .int .u32 0, .int .u32 0, .int .u32 0, .int .u32 0, .int .u32 0, .int .u32 0, .int .u32 0, .int .u32 0, .int .u32 0, .int .u32 0, .int .u32 0, .int .u32 0, .int .u32 0, .int .u32 0, .int .u32 0, .int .u32 0, .int .u32 0, .int .u32 0, .int .u32 0, .int .u32 0, .int .u32 0, .int .u32 0, .int .u32 0, .int .u32 0, .int .u32 0, .int .u32 0, .int .u32 0, .int .u32 0, .int .u32 0, .int .u32 0, .int .u32 0, .int .u32 0, .int .u32 0, .int .u32 0, .int .u32 0] = (List.replicate 64 (0 : UInt32)).map w32 := rfl
/-- The words up to a place, behind them one, then nothing. -/
def wRow (R : List UInt8) (i : Nat) (x : UInt32) : List UInt32 := sched R i ++ (x :: List.replicate (63 - i) 0)
theorem wRow_length {R : List UInt8} {i : Nat} {x : UInt32} (h : i < 64) : (wRow R i x).length = 64 := by simp [wRow, sched_length]; omega
theorem wRow_set {R : List UInt8} {i : Nat} (x y : UInt32) : (wRow R i x).set i y = wRow R i y := by
  simp only [wRow]; rw [List.set_append_right _ _ (by rw [sched_length]; omega), sched_length]; simp
theorem wRow_at {R : List UInt8} {i : Nat} {x : UInt32} (h : i < (wRow R i x).length) : (wRow R i x)[i] = x := by
  simp only [wRow]; rw [List.getElem_append_right (by rw [sched_length]; omega)]; simp [sched_length]
theorem wRow_old {R : List UInt8} {i j : Nat} {x : UInt32} (hj : j < i) (h : j < (wRow R i x).length) : (wRow R i x)[j] = (sched R i).getD j 0 := by
  simp only [wRow]; rw [List.getElem_append_left (by rw [sched_length]; omega)]; simp [sched_length, hj]
theorem word4_next (l : List UInt8) (c : UInt8) : word4 (l ++ [c]) = shlW (word4 l) 8 ||| UInt32.ofNat c.toNat := by simp [word4]
theorem w32_of_byte (c : UInt8) : (Value.int .u32 (c.toNat : Int)) = w32 (UInt32.ofNat c.toNat) := by
  have := c.toNat_lt
  simp [w32]
theorem binV_shlw8 {k : IntKind} {x : UInt32} : binV .shl (w32 x) (.int k 8) = some (w32 (shlW x 8)) := binV_shlw (b := 8) (by omega)
def padW (R : List UInt8) (i : Nat) : List UInt32 := sched R i ++ List.replicate (64 - i) 0
theorem padW_zero (R : List UInt8) : padW R 0 = List.replicate 64 0 := rfl
theorem padW_lt {R : List UInt8} {i : Nat} (h : i < 64) : padW R i = wRow R i 0 := by
  simp only [padW, wRow]; rw [show 64 - i = (63 - i) + 1 by omega, List.replicate_succ]
theorem padW_next {R : List UInt8} {i : Nat} (h : i < 64) : wRow R i (wordAt R (sched R i) i) = padW R (i + 1) := by
  simp only [wRow, padW, sched, List.append_assoc, List.singleton_append]
  rw [show 64 - (i + 1) = 63 - i by omega]
theorem padW_all (R : List UInt8) : padW R 64 = sched R 64 := by simp [padW]

theorem sched_ok (m : AMem) (b : Nat) (s : HS) (hs : s.ok) (hb : b < m.size) (hm : m.get b = .cells (cH s) 96 true .exact) (t : Tmps) (Q : AExit → ASt → Prop)
    (t0 : t 0 = .pointer (some ⟨b, 0, none⟩)) (t2 : t 2 = .pointer (some ⟨m.size, 0, none⟩)) (t13 : t 13 = .int .i64 0)
    (h : ∀ t' : Tmps, t' 0 = .pointer (some ⟨b, 0, none⟩) → t' 2 = .pointer (some ⟨m.size, 0, none⟩) → Q (.exit 0) ⟨t', mx m [.cells ((sched s.R 64).map w32) 127 true .exact], []⟩) :
    W Tryd.prog 3 (.loop F76_l0) Q ⟨t, mx m [.cells ((List.replicate 64 (0 : UInt32)).map w32) 127 true .exact], []⟩ := by
  refine W_loop (fun N qs => ∃ (i : Nat), N = 64 - i ∧ qs.ds = [] ∧ qs.m = mx m [.cells ((padW s.R i).map w32) 127 true .exact] ∧ qs.t 0 = .pointer (some ⟨b, 0, none⟩) ∧ qs.t 2 = .pointer (some ⟨m.size, 0, none⟩) ∧ qs.t 13 = .int .i64 i ∧ i ≤ 64) (64 - (0)) ⟨0, rfl, rfl, ?qm, ?q0, ?q2, ?q13, ?_⟩ ?_
  case qm | q0 | q2 | q13 => first | rfl | (simp (implicitDefEqProofs := false) (maxSteps := 1000000) (disch := first | omega | with_reducible assumption | (simp only [lenT, Nat.reduceAdd]; omega)) only [amT, cut, bnd, Nat.reduceBEq, reduceCtorEq, Nat.reduceEqDiff, Nat.reduceAdd, Nat.reduceMul, Nat.reduceSub, Int.reduceToNat, Int.reduceEq, Int.reduceLT, Int.reduceLE, Int.reduceAdd, Int.reduceSub, Int.reduceMul, reduceIte, resVs, resV, packV, initT, addr, padW_zero, t0, t2, t13]; first | done | rfl | (congr 1; omega))
  · omega
  · clear t0 t2 t13
    rintro N t m1 ds ⟨i, rfl, hds, hm, t0, t2, t13, hp⟩
    simp only at hds hm t0 t2 t13
    subst hds; replace hm := hm.symm; subst hm
    by_cases hi : (i : Int) < 64
    · have hi' : i < 64 := by omega
      have hl := wRow_length (R := s.R) (x := 0) hi'
      have hn := padW_next (R := s.R) hi'
      by_cases h16 : (16 : Int) ≤ i
      · have e1 : (i : Int) - 2 = ((i - 2 : Nat) : Int) := by omega
        have e2 : (i : Int) - 7 = ((i - 7 : Nat) : Int) := by omega
        have e3 : (i : Int) - 15 = ((i - 15 : Nat) : Int) := by omega
        have e4 : (i : Int) - 16 = ((i - 16 : Nat) : Int) := by omega
        have hw : wordAt s.R (sched s.R i) i = movedW ((sched s.R i).getD (i - 2) 0) 17 19 10 + (sched s.R i).getD (i - 7) 0 + movedW ((sched s.R i).getD (i - 15) 0) 7 18 3 + (sched s.R i).getD (i - 16) 0 := by
          unfold wordAt; rw [if_neg (by omega)]
        rw [hw] at hn
        simp (implicitDefEqProofs := false) (maxSteps := 1000000) (disch := first | omega | with_reducible assumption | (simp only [lenT, Nat.reduceAdd]; omega)) only [amT, cut, bnd, Nat.reduceBEq, reduceCtorEq, Nat.reduceEqDiff, Nat.reduceAdd, Nat.reduceMul, Nat.reduceSub, Int.reduceToNat, Int.reduceEq, Int.reduceLT, Int.reduceLE, Int.reduceAdd, Int.reduceSub, Int.reduceMul, reduceIte, resVs, resV, packV, initT, addr, F76_l0, t0, t2, t13, hi, h16, padW_lt hi', e1, e2, e3, e4, amW, wRow_old, wRow_set, kMovedA, kMovedB]
        repeat refine OrW.go ?_
        rw [LoopK_normal]; refine ⟨_, ?_, i + 1, rfl, rfl, ?qm, ?q0, ?q2, ?q13, ?_⟩
        case qm | q0 | q2 | q13 => first | rfl | (simp (implicitDefEqProofs := false) (maxSteps := 1000000) (disch := first | omega | with_reducible assumption | (simp only [lenT, Nat.reduceAdd]; omega)) only [amT, cut, bnd, Nat.reduceBEq, reduceCtorEq, Nat.reduceEqDiff, Nat.reduceAdd, Nat.reduceMul, Nat.reduceSub, Int.reduceToNat, Int.reduceEq, Int.reduceLT, Int.reduceLE, Int.reduceAdd, Int.reduceSub, Int.reduceMul, reduceIte, resVs, resV, packV, initT, addr, t0, t2, t13, hn]; first | done | rfl | (congr 1; omega))
        · omega
        · omega
      · have e1 : (4 : Int) * (i : Int) = ((4 * i : Nat) : Int) := by omega
        have e2 : ((4 * i : Nat) : Int) + 4 = ((4 * i + 4 : Nat) : Int) := by omega
        have hw : wordAt s.R (sched s.R i) i = word4 ((s.R.drop (4 * i)).take 4) := by
          unfold wordAt; rw [if_pos (by omega)]
        rw [hw] at hn
        have e3 : 4 * i + 4 - 4 * i = 4 := by omega
        simp (implicitDefEqProofs := false) (maxSteps := 1000000) (disch := first | omega | with_reducible assumption | (simp only [lenT, Nat.reduceAdd]; omega)) only [amT, cut, bnd, Nat.reduceBEq, reduceCtorEq, Nat.reduceEqDiff, Nat.reduceAdd, Nat.reduceMul, Nat.reduceSub, Int.reduceToNat, Int.reduceEq, Int.reduceLT, Int.reduceLE, Int.reduceAdd, Int.reduceSub, Int.reduceMul, reduceIte, resVs, resV, packV, initT, addr, F76_l0, t0, t2, t13, hi, h16, padW_lt hi', e1, e2]
        refine W_loop (fun N qs => ∃ (j : Nat), N = 4 - j ∧ qs.ds = [] ∧ qs.m = mx m [.cells ((wRow s.R i (word4 ((s.R.drop (4 * i)).take j))).map w32) 127 true .exact] ∧ qs.t 0 = .pointer (some ⟨b, 0, none⟩) ∧ qs.t 2 = .pointer (some ⟨m.size, 0, none⟩) ∧ qs.t 3 = .int .i64 i ∧ qs.t 13 = .int .i64 i ∧ qs.t 49 = .slice (some ⟨b, 8 + 4 * i, none⟩) 4 (64 - 4 * i) ∧ qs.t 50 = .int .i64 4 ∧ qs.t 51 = .int .i64 j ∧ j ≤ 4) (4 - (0)) ⟨0, rfl, rfl, ?qm, ?q0, ?q2, ?q3, ?q13, ?q49, ?q50, ?q51, ?_⟩ ?_
        case qm | q0 | q2 | q3 | q13 | q49 | q50 | q51 => first | rfl | (simp (implicitDefEqProofs := false) (maxSteps := 1000000) (disch := first | omega | with_reducible assumption | (simp only [lenT, Nat.reduceAdd]; omega)) only [amT, cut, bnd, Nat.reduceBEq, reduceCtorEq, Nat.reduceEqDiff, Nat.reduceAdd, Nat.reduceMul, Nat.reduceSub, Int.reduceToNat, Int.reduceEq, Int.reduceLT, Int.reduceLE, Int.reduceAdd, Int.reduceSub, Int.reduceMul, reduceIte, resVs, resV, packV, initT, addr, t0, t2, t13, List.take_zero, e3]; first | done | rfl | (congr 1; omega))
        · omega
        · clear t0 t2 t13
          rintro N t m1 ds ⟨j, rfl, hds, hm, t0, t2, t3, t13, t49, t50, t51, hp⟩
          simp only at hds hm t0 t2 t3 t13 t49 t50 t51
          subst hds; replace hm := hm.symm; subst hm
          by_cases hj : (j : Int) < 4
          · have hj' : j < 4 := by omega
            have hl2 := wRow_length (R := s.R) (x := word4 ((s.R.drop (4 * i)).take j)) hi'
            have hR : (cH s)[8 + 4 * i + j]? = some (byteV (s.R[4 * i + j]'(by rw [hs.2]; omega))) := by rw [Nat.add_assoc]; exact cH_Ri hs (by omega)
            have hb4 := (s.R[4 * i + j]'(by rw [hs.2]; omega)).toNat_lt
            have hw4 := word4_next ((s.R.drop (4 * i)).take j) (s.R[4 * i + j]'(by rw [hs.2]; omega))
            have hdl : j < (s.R.drop (4 * i)).length := by rw [List.length_drop, hs.2]; omega
            have ht := List.take_succ_eq_append_getElem hdl
            rw [List.getElem_drop] at ht
            rw [← ht] at hw4
            simp (implicitDefEqProofs := false) (maxSteps := 1000000) (disch := first | omega | with_reducible assumption | (simp only [lenT, Nat.reduceAdd]; omega)) only [amT, cut, bnd, Nat.reduceBEq, reduceCtorEq, Nat.reduceEqDiff, Nat.reduceAdd, Nat.reduceMul, Nat.reduceSub, Int.reduceToNat, Int.reduceEq, Int.reduceLT, Int.reduceLE, Int.reduceAdd, Int.reduceSub, Int.reduceMul, reduceIte, resVs, resV, packV, initT, addr, F76_l1, t0, t2, t3, t13, t49, t50, t51, hj, hm, hR, amW, wRow_at, byteV_def, w32_of_byte, binV_shlw8, wRow_set, ← hw4]
            rw [LoopK_normal]; refine ⟨_, ?_, j + 1, rfl, rfl, ?qm, ?q0, ?q2, ?q3, ?q13, ?q49, ?q50, ?q51, ?_⟩
            case qm | q0 | q2 | q3 | q13 | q49 | q50 | q51 => first | rfl | (simp (implicitDefEqProofs := false) (maxSteps := 1000000) (disch := first | omega | with_reducible assumption | (simp only [lenT, Nat.reduceAdd]; omega)) only [amT, cut, bnd, Nat.reduceBEq, reduceCtorEq, Nat.reduceEqDiff, Nat.reduceAdd, Nat.reduceMul, Nat.reduceSub, Int.reduceToNat, Int.reduceEq, Int.reduceLT, Int.reduceLE, Int.reduceAdd, Int.reduceSub, Int.reduceMul, reduceIte, resVs, resV, packV, initT, addr, t0, t2, t3, t13, t49, t50, t51]; first | done | rfl | (congr 1; omega))
            · omega
            · omega
          · have hj4 : j = 4 := by omega
            subst hj4
            simp (implicitDefEqProofs := false) (maxSteps := 1000000) (disch := first | omega | with_reducible assumption | (simp only [lenT, Nat.reduceAdd]; omega)) only [amT, cut, bnd, Nat.reduceBEq, reduceCtorEq, Nat.reduceEqDiff, Nat.reduceAdd, Nat.reduceMul, Nat.reduceSub, Int.reduceToNat, Int.reduceEq, Int.reduceLT, Int.reduceLE, Int.reduceAdd, Int.reduceSub, Int.reduceMul, reduceIte, resVs, resV, packV, initT, addr, F76_l1, t0, t2, t3, t13, t49, t50, t51]
            rw [LoopK_normal]; refine ⟨_, ?_, i + 1, rfl, rfl, ?qm, ?q0, ?q2, ?q13, ?_⟩
            case qm | q0 | q2 | q13 => first | rfl | (simp (implicitDefEqProofs := false) (maxSteps := 1000000) (disch := first | omega | with_reducible assumption | (simp only [lenT, Nat.reduceAdd]; omega)) only [amT, cut, bnd, Nat.reduceBEq, reduceCtorEq, Nat.reduceEqDiff, Nat.reduceAdd, Nat.reduceMul, Nat.reduceSub, Int.reduceToNat, Int.reduceEq, Int.reduceLT, Int.reduceLE, Int.reduceAdd, Int.reduceSub, Int.reduceMul, reduceIte, resVs, resV, packV, initT, addr, t0, t2, t13, hn]; first | done | rfl | (congr 1; omega))
            · omega
            · omega
    · have h64 : i = 64 := by omega
      subst h64
      simp (implicitDefEqProofs := false) (maxSteps := 1000000) (disch := first | omega | with_reducible assumption | (simp only [lenT, Nat.reduceAdd]; omega)) only [amT, cut, bnd, Nat.reduceBEq, reduceCtorEq, Nat.reduceEqDiff, Nat.reduceAdd, Nat.reduceMul, Nat.reduceSub, Int.reduceToNat, Int.reduceEq, Int.reduceLT, Int.reduceLE, Int.reduceAdd, Int.reduceSub, Int.reduceMul, reduceIte, resVs, resV, packV, initT, addr, F76_l0, t0, t2, t13, padW_all]
      exact h _ (by simp (implicitDefEqProofs := false) (maxSteps := 1000000) (disch := first | omega | with_reducible assumption | (simp only [lenT, Nat.reduceAdd]; omega)) only [amT, cut, bnd, Nat.reduceBEq, reduceCtorEq, Nat.reduceEqDiff, Nat.reduceAdd, Nat.reduceMul, Nat.reduceSub, Int.reduceToNat, Int.reduceEq, Int.reduceLT, Int.reduceLE, Int.reduceAdd, Int.reduceSub, Int.reduceMul, reduceIte, resVs, resV, packV, initT, addr, t0, t2, t13]) (by simp (implicitDefEqProofs := false) (maxSteps := 1000000) (disch := first | omega | with_reducible assumption | (simp only [lenT, Nat.reduceAdd]; omega)) only [amT, cut, bnd, Nat.reduceBEq, reduceCtorEq, Nat.reduceEqDiff, Nat.reduceAdd, Nat.reduceMul, Nat.reduceSub, Int.reduceToNat, Int.reduceEq, Int.reduceLT, Int.reduceLE, Int.reduceAdd, Int.reduceSub, Int.reduceMul, reduceIte, resVs, resV, packV, initT, addr, t0, t2, t13])
end Go.Proofs.YtgkmlbkocgjmmaaDoor.S
namespace Go.Proofs.YtgkmlbkocgjmmaaDoor.S
open Go Go.AM
set_option maxRecDepth 100000
set_option linter.unusedVariables false
set_option linter.unusedSimpArgs false

theorem constW_len : constW.length = 64 := rfl
theorem block_ok (m : AMem) (b : Nat) (s : HS) (hg : Glob m) (hs : s.ok) (hb : b < m.size) (hb2 : 2 < b) (hm : m.get b = .cells (cH s) 96 true .exact) :
    DetC Tryd.prog 3 76 [.pointer (some ⟨b, 0, none⟩)] m (.tuple #[]) (mx (m.set b (.cells (cH { s with M := moreStep s.M s.R }) 96 true .exact)) []) := by
  refine set_of_W (fn := Tryd.f76) rfl rfl F76_ok (by simp [F76]) (.tuple (by simp)) (plain_cH _) ?_
  obtain ⟨ek, spk, g0⟩ := hg.k
  have gs := hg.s
  have hkl := constW_len
  have m8 := hs.1
  have z8 : (zip2 beginW s.M).length = 8 := zip2_length rfl m8
  have hsl := sched_length s.R 64
  have hst := @kState (mx m [.cells ((sched s.R 64).map w32) 127 true .exact]) b s (hg.old (Old.here _ _)) hs (by rw [mx_size]; omega) (by rw [mx_old hb]; exact hm)
  simp (implicitDefEqProofs := false) (maxSteps := 1000000) (disch := first | omega | with_reducible assumption | (simp only [lenT, Nat.reduceAdd]; omega)) only [amT, cut, bnd, Nat.reduceBEq, reduceCtorEq, Nat.reduceEqDiff, Nat.reduceAdd, Nat.reduceMul, Nat.reduceSub, Int.reduceToNat, Int.reduceEq, Int.reduceLT, Int.reduceLE, Int.reduceAdd, Int.reduceSub, Int.reduceMul, reduceIte, resVs, resV, packV, initT, addr, F76, zero64]
  refine sched_ok m b s hs hb hm _ _ (by simp (implicitDefEqProofs := false) (maxSteps := 1000000) (disch := first | omega | with_reducible assumption | (simp only [lenT, Nat.reduceAdd]; omega)) only [amT, cut, bnd, Nat.reduceBEq, reduceCtorEq, Nat.reduceEqDiff, Nat.reduceAdd, Nat.reduceMul, Nat.reduceSub, Int.reduceToNat, Int.reduceEq, Int.reduceLT, Int.reduceLE, Int.reduceAdd, Int.reduceSub, Int.reduceMul, reduceIte, resVs, resV, packV, initT, addr]) (by simp (implicitDefEqProofs := false) (maxSteps := 1000000) (disch := first | omega | with_reducible assumption | (simp only [lenT, Nat.reduceAdd]; omega)) only [amT, cut, bnd, Nat.reduceBEq, reduceCtorEq, Nat.reduceEqDiff, Nat.reduceAdd, Nat.reduceMul, Nat.reduceSub, Int.reduceToNat, Int.reduceEq, Int.reduceLT, Int.reduceLE, Int.reduceAdd, Int.reduceSub, Int.reduceMul, reduceIte, resVs, resV, packV, initT, addr]) (by simp (implicitDefEqProofs := false) (maxSteps := 1000000) (disch := first | omega | with_reducible assumption | (simp only [lenT, Nat.reduceAdd]; omega)) only [amT, cut, bnd, Nat.reduceBEq, reduceCtorEq, Nat.reduceEqDiff, Nat.reduceAdd, Nat.reduceMul, Nat.reduceSub, Int.reduceToNat, Int.reduceEq, Int.reduceLT, Int.reduceLE, Int.reduceAdd, Int.reduceSub, Int.reduceMul, reduceIte, resVs, resV, packV, initT, addr]) ?_
  intro t t0 t2
  simp (implicitDefEqProofs := false) (maxSteps := 1000000) (disch := first | omega | with_reducible assumption | (simp only [lenT, Nat.reduceAdd]; omega)) only [amT, cut, bnd, Nat.reduceBEq, reduceCtorEq, Nat.reduceEqDiff, Nat.reduceAdd, Nat.reduceMul, Nat.reduceSub, Int.reduceToNat, Int.reduceEq, Int.reduceLT, Int.reduceLE, Int.reduceAdd, Int.reduceSub, Int.reduceMul, reduceIte, resVs, resV, packV, initT, addr, t0, t2, hst, zero8, g0, cutL_all, amW]
  repeat refine OrW.go ?_
  refine W_loop (fun N qs => ∃ (i : Nat), N = 64 - i ∧ qs.ds = [] ∧ qs.m = mx m [.cells ((sched s.R 64).map w32) 127 true .exact, .cells ((roundsW constW s.R (zip2 beginW s.M) i).map w32) 92 true .exact] ∧ qs.t 0 = .pointer (some ⟨b, 0, none⟩) ∧ qs.t 2 = .pointer (some ⟨m.size, 0, none⟩) ∧ qs.t 6 = .pointer (some ⟨m.size + 1, 0, none⟩) ∧ qs.t 68 = .agg (constW.map w32).toArray ∧ qs.t 69 = .int .i64 i ∧ i ≤ 64) (64 - (0)) ⟨0, rfl, rfl, ?qm, ?q0, ?q2, ?q6, ?q68, ?q69, ?_⟩ ?_
  case qm | q0 | q2 | q6 | q68 | q69 => first | rfl | (simp (implicitDefEqProofs := false) (maxSteps := 1000000) (disch := first | omega | with_reducible assumption | (simp only [lenT, Nat.reduceAdd]; omega)) only [amT, cut, bnd, Nat.reduceBEq, reduceCtorEq, Nat.reduceEqDiff, Nat.reduceAdd, Nat.reduceMul, Nat.reduceSub, Int.reduceToNat, Int.reduceEq, Int.reduceLT, Int.reduceLE, Int.reduceAdd, Int.reduceSub, Int.reduceMul, reduceIte, resVs, resV, packV, initT, addr, t0, t2, roundsW]; first | done | rfl | (congr 1; omega))
  · omega
  · clear t0 t2
    rintro N t m1 ds ⟨i, rfl, hds, hm, t0, t2, t6, t68, t69, hp⟩
    simp only at hds hm t0 t2 t6 t68 t69
    subst hds; replace hm := hm.symm; subst hm
    by_cases hi : (i : Int) < 64
    · have hX : (roundsW constW s.R (zip2 beginW s.M) i).length = 8 := by rw [roundsW_length, z8]
      have hn : roundsW constW s.R (zip2 beginW s.M) (i + 1) = roundW (roundsW constW s.R (zip2 beginW s.M) i) (constW[i]'(by omega)) ((sched s.R 64)[i]'(by omega)) := by
        simp [roundsW, hkl, hsl, show i < 64 by omega]
      obtain ⟨x0, x1, x2, x3, x4, x5, x6, x7, hx⟩ := len8 hX
      rw [hx] at hn
      simp (implicitDefEqProofs := false) (maxSteps := 1000000) (disch := first | omega | with_reducible assumption | (simp only [lenT, Nat.reduceAdd]; omega)) only [amT, cut, bnd, Nat.reduceBEq, reduceCtorEq, Nat.reduceEqDiff, Nat.reduceAdd, Nat.reduceMul, Nat.reduceSub, Int.reduceToNat, Int.reduceEq, Int.reduceLT, Int.reduceLE, Int.reduceAdd, Int.reduceSub, Int.reduceMul, reduceIte, resVs, resV, packV, initT, addr, F76_l2, t0, t2, t6, t68, t69, hi, hx, amW, List.map_cons, List.map_nil, kTurnedA, kTurnedB]
      repeat refine OrW.go ?_
      simp (implicitDefEqProofs := false) (maxSteps := 1000000) (disch := first | omega | with_reducible assumption | (simp only [lenT, Nat.reduceAdd]; omega)) only [amT, cut, bnd, Nat.reduceBEq, reduceCtorEq, Nat.reduceEqDiff, Nat.reduceAdd, Nat.reduceMul, Nat.reduceSub, Int.reduceToNat, Int.reduceEq, Int.reduceLT, Int.reduceLE, Int.reduceAdd, Int.reduceSub, Int.reduceMul, reduceIte, resVs, resV, packV, initT, addr, stepOp_cpy, srcCells_slice, cutL, splice, List.take_succ_cons, List.take_zero, List.drop_succ_cons, List.drop_nil, List.all_cons, List.all_nil, oneCell_w, Nat.min_self, amW, List.map_cons, List.map_nil, t0, t2, t6, t68, t69]
      rw [LoopK_normal]; refine ⟨_, ?_, i + 1, rfl, rfl, ?qm, ?q0, ?q2, ?q6, ?q68, ?q69, ?_⟩
      case qm | q0 | q2 | q6 | q68 | q69 => first | rfl | (simp (implicitDefEqProofs := false) (maxSteps := 1000000) (disch := first | omega | with_reducible assumption | (simp only [lenT, Nat.reduceAdd]; omega)) only [amT, cut, bnd, Nat.reduceBEq, reduceCtorEq, Nat.reduceEqDiff, Nat.reduceAdd, Nat.reduceMul, Nat.reduceSub, Int.reduceToNat, Int.reduceEq, Int.reduceLT, Int.reduceLE, Int.reduceAdd, Int.reduceSub, Int.reduceMul, reduceIte, resVs, resV, packV, initT, addr, t0, t2, t6, t68, t69, hn, roundW, List.map_cons, List.map_nil]; first | done | rfl | (congr 1; omega))
      · omega
      · omega
    · have h64 : i = 64 := by omega
      subst h64
      generalize hV : roundsW constW s.R (zip2 beginW s.M) 64 = V at *
      have hV8 : V.length = 8 := by rw [← hV, roundsW_length, z8]
      have hms : moreStep s.M s.R = zip2 s.M V := by rw [moreStep, hV]
      have hset : m.set b (.cells (cH ⟨s.M, s.R, s.n⟩) 96 true .exact) = m := AMem.set_same hm
      have hzl : (zip2 s.M V).length = s.M.length := by rw [zip2_length m8 hV8, m8]
      simp (implicitDefEqProofs := false) (maxSteps := 1000000) (disch := first | omega | with_reducible assumption | (simp only [lenT, Nat.reduceAdd]; omega)) only [amT, cut, bnd, Nat.reduceBEq, reduceCtorEq, Nat.reduceEqDiff, Nat.reduceAdd, Nat.reduceMul, Nat.reduceSub, Int.reduceToNat, Int.reduceEq, Int.reduceLT, Int.reduceLE, Int.reduceAdd, Int.reduceSub, Int.reduceMul, reduceIte, resVs, resV, packV, initT, addr, F76_l2, t0, t2, t6, t68, t69, cutL_all]
      refine W_loop (fun N qs => ∃ (i : Nat), N = 8 - i ∧ qs.ds = [] ∧ qs.m = mx (m.set b (.cells (cH ⟨mix i (zip2 s.M V) s.M, s.R, s.n⟩) 96 true .exact)) [.cells ((sched s.R 64).map w32) 127 true .exact, .cells (V.map w32) 92 true .exact] ∧ qs.t 0 = .pointer (some ⟨b, 0, none⟩) ∧ qs.t 131 = .agg (V.map w32).toArray ∧ qs.t 132 = .int .i64 i ∧ i ≤ 8) (8 - (0)) ⟨0, rfl, rfl, ?qm, ?q0, ?q131, ?q132, ?_⟩ ?_
      case qm | q0 | q131 | q132 => first | rfl | (simp (implicitDefEqProofs := false) (maxSteps := 1000000) (disch := first | omega | with_reducible assumption | (simp only [lenT, Nat.reduceAdd]; omega)) only [amT, cut, bnd, Nat.reduceBEq, reduceCtorEq, Nat.reduceEqDiff, Nat.reduceAdd, Nat.reduceMul, Nat.reduceSub, Int.reduceToNat, Int.reduceEq, Int.reduceLT, Int.reduceLE, Int.reduceAdd, Int.reduceSub, Int.reduceMul, reduceIte, resVs, resV, packV, initT, addr, t0, t2, t6, t68, t69, mix_zero, hset]; first | done | rfl | (congr 1; omega))
      · omega
      · clear t0 t2 t6 t68 t69 hp hi
        rintro N t m1 ds ⟨i, rfl, hds, hm, t0, t131, t132, hp⟩
        simp only at hds hm t0 t131 t132
        subst hds; replace hm := hm.symm; subst hm
        have hok : HS.ok ⟨mix i (zip2 s.M V) s.M, s.R, s.n⟩ := ⟨by simp only; rw [mix_length hzl, m8], hs.2⟩
        have h73 := cH_length hok
        by_cases hi : (i : Int) < 8
        · have h1 := cH_Mi hok (i := i) (by omega)
          simp only at h1
          rw [mix_get hzl (by omega)] at h1
          have h2 := cH_setM hok (i := i) (by omega) (s.M[i]'(by omega) + V[i]'(by omega))
          simp only at h2
          rw [← zip2_get (by omega) (by omega), mix_set hzl (by omega)] at h2
          have h3 := zip2_get (a := s.M) (b := V) (i := i) (by omega) (by omega)
          simp (implicitDefEqProofs := false) (maxSteps := 1000000) (disch := first | omega | with_reducible assumption | (simp only [lenT, Nat.reduceAdd]; omega)) only [amT, cut, bnd, Nat.reduceBEq, reduceCtorEq, Nat.reduceEqDiff, Nat.reduceAdd, Nat.reduceMul, Nat.reduceSub, Int.reduceToNat, Int.reduceEq, Int.reduceLT, Int.reduceLE, Int.reduceAdd, Int.reduceSub, Int.reduceMul, reduceIte, resVs, resV, packV, initT, addr, F76_l3, t0, t131, t132, hi, amW, h1, ← h3, h2]
          rw [LoopK_normal]; refine ⟨_, ?_, i + 1, rfl, rfl, ?qm, ?q0, ?q131, ?q132, ?_⟩
          case qm | q0 | q131 | q132 => first | rfl | (simp (implicitDefEqProofs := false) (maxSteps := 1000000) (disch := first | omega | with_reducible assumption | (simp only [lenT, Nat.reduceAdd]; omega)) only [amT, cut, bnd, Nat.reduceBEq, reduceCtorEq, Nat.reduceEqDiff, Nat.reduceAdd, Nat.reduceMul, Nat.reduceSub, Int.reduceToNat, Int.reduceEq, Int.reduceLT, Int.reduceLE, Int.reduceAdd, Int.reduceSub, Int.reduceMul, reduceIte, resVs, resV, packV, initT, addr, t0, t131, t132]; first | done | rfl | (congr 1; omega))
          · omega
          · omega
        · have h8 : i = 8 := by omega
          subst h8
          simp (implicitDefEqProofs := false) (maxSteps := 1000000) (disch := first | omega | with_reducible assumption | (simp only [lenT, Nat.reduceAdd]; omega)) only [amT, cut, bnd, Nat.reduceBEq, reduceCtorEq, Nat.reduceEqDiff, Nat.reduceAdd, Nat.reduceMul, Nat.reduceSub, Int.reduceToNat, Int.reduceEq, Int.reduceLT, Int.reduceLE, Int.reduceAdd, Int.reduceSub, Int.reduceMul, reduceIte, resVs, resV, packV, initT, addr, F76_l3, t0, t131, t132, mix_all (show (zip2 s.M V).length = 8 by rw [hzl, m8]) m8, hms]
end Go.Proofs.YtgkmlbkocgjmmaaDoor.S
namespace Go.Proofs.YtgkmlbkocgjmmaaDoor.S
open Go Go.AM
set_option maxRecDepth 100000
set_option linter.unusedVariables false
set_option linter.unusedSimpArgs false

theorem put_nil (m : AMem) (v : Value) : PureC Tryd.prog 3 59 [.pointer none, v] m (.tuple #[]) := by
  refine pure_of_W (fn := Tryd.f59) rfl rfl F59_ok (by simp [F59]) (.tuple (by simp)) ?_
  simp (implicitDefEqProofs := false) (maxSteps := 1000000) (disch := first | omega | with_reducible assumption | (simp only [lenT, Nat.reduceAdd]; omega)) only [amT, cut, bnd, Nat.reduceBEq, reduceCtorEq, Nat.reduceEqDiff, Nat.reduceAdd, Nat.reduceMul, Nat.reduceSub, Int.reduceToNat, Int.reduceEq, Int.reduceLT, Int.reduceLE, Int.reduceAdd, Int.reduceSub, Int.reduceMul, reduceIte, resVs, resV, packV, initT, addr, F59]
  refine W_loop (fun N qs => ∃ (i : Nat), N = 0 ∧ qs.ds = [] ∧ qs.m = mx m [] ∧ qs.t 0 = .pointer none ∧ True) (0) ⟨0, rfl, rfl, ?qm, ?q0, ?_⟩ ?_
  case qm | q0 => first | rfl | (simp (implicitDefEqProofs := false) (maxSteps := 1000000) (disch := first | omega | with_reducible assumption | (simp only [lenT, Nat.reduceAdd]; omega)) only [amT, cut, bnd, Nat.reduceBEq, reduceCtorEq, Nat.reduceEqDiff, Nat.reduceAdd, Nat.reduceMul, Nat.reduceSub, Int.reduceToNat, Int.reduceEq, Int.reduceLT, Int.reduceLE, Int.reduceAdd, Int.reduceSub, Int.reduceMul, reduceIte, resVs, resV, packV, initT, addr]; first | done | rfl | (congr 1; omega))
  · trivial
  · rintro N t m1 ds ⟨i, rfl, hds, hm, t0, hp⟩
    simp only at hds hm t0
    subst hds; replace hm := hm.symm; subst hm
    simp (implicitDefEqProofs := false) (maxSteps := 1000000) (disch := first | omega | with_reducible assumption | (simp only [lenT, Nat.reduceAdd]; omega)) only [amT, cut, bnd, Nat.reduceBEq, reduceCtorEq, Nat.reduceEqDiff, Nat.reduceAdd, Nat.reduceMul, Nat.reduceSub, Int.reduceToNat, Int.reduceEq, Int.reduceLT, Int.reduceLE, Int.reduceAdd, Int.reduceSub, Int.reduceMul, reduceIte, resVs, resV, packV, initT, addr, F59_l0, t0, eqV, Option.isNone]

theorem Glob.set {m : AMem} (h : Glob m) {b : Nat} (hb : 2 < b) (o : AObj) : Glob (m.set b o) :=
  ⟨by rw [AMem.get_set_ne _ _ (by omega)]; exact h.k, by rw [AMem.get_set_ne _ _ (by omega)]; exact h.b, h.s⟩
/-- The state at b. -/
abbrev hAt (m : AMem) (b : Nat) (s : HS) : AMem := m.set b (.cells (cH s) 96 true .exact)

theorem put_ok (m : AMem) (b : Nat) (s : HS) (hg : Glob m) (hs : s.ok) (hb : b < m.size) (hb2 : 2 < b) (hm : m.get b = .cells (cH s) 96 true .exact) (a : Option Addr) (cap : Nat) (c : List UInt8)
    (hc : BSl m a cap c) (hoff : Off a b) (hn : s.n + c.length < 2 ^ 60) :
    DetC Tryd.prog 3 59 [.pointer (some ⟨b, 0, none⟩), .slice a c.length cap] m (.tuple #[]) (mx (hAt m b (s.put c)) []) := by
  refine set_of_W (fn := Tryd.f59) rfl rfl F59_ok (by simp [F59]) (.tuple (by simp)) (plain_cH _) ?_
  have hset : m.set b (.cells (cH s) 96 true .exact) = m := AMem.set_same hm
  simp (implicitDefEqProofs := false) (maxSteps := 1000000) (disch := first | omega | with_reducible assumption | (simp only [lenT, Nat.reduceAdd]; omega)) only [amT, cut, bnd, Nat.reduceBEq, reduceCtorEq, Nat.reduceEqDiff, Nat.reduceAdd, Nat.reduceMul, Nat.reduceSub, Int.reduceToNat, Int.reduceEq, Int.reduceLT, Int.reduceLE, Int.reduceAdd, Int.reduceSub, Int.reduceMul, reduceIte, resVs, resV, packV, initT, addr, F59]
  refine W_loop (fun N qs => ∃ (k : Nat) (a' : Option Addr) (cap' : Nat), N = c.length - k ∧ qs.ds = [] ∧ qs.m = mx (hAt m b (s.put (c.take k))) [] ∧ qs.t 0 = .pointer (some ⟨b, 0, none⟩) ∧ qs.t 1 = .slice a' (c.drop k).length cap' ∧ k ≤ c.length ∧ BSl m a' cap' (c.drop k) ∧ Off a' b) (c.length - (0)) ⟨0, a, cap, rfl, rfl, ?qm, ?q0, ?q1, ?_⟩ ?_
  case qm | q0 | q1 => first | rfl | (simp (implicitDefEqProofs := false) (maxSteps := 1000000) (disch := first | omega | with_reducible assumption | (simp only [lenT, Nat.reduceAdd]; omega)) only [amT, cut, bnd, Nat.reduceBEq, reduceCtorEq, Nat.reduceEqDiff, Nat.reduceAdd, Nat.reduceMul, Nat.reduceSub, Int.reduceToNat, Int.reduceEq, Int.reduceLT, Int.reduceLE, Int.reduceAdd, Int.reduceSub, Int.reduceMul, reduceIte, resVs, resV, packV, initT, addr, List.take_zero, HS.put_nil, hset]; first | done | rfl | (congr 1; omega))
  · exact ⟨by omega, hc, hoff⟩
  · rintro N t m1 ds ⟨k, a', cap', rfl, hds, hm, t0, t1, hp⟩
    simp only at hds hm t0 t1
    subst hds; replace hm := hm.symm; subst hm
    obtain ⟨hk, hc', hoff'⟩ := hp
    have hlen : (c.drop k).length = c.length - k := List.length_drop
    by_cases hz : k = c.length
    · subst hz
      simp (implicitDefEqProofs := false) (maxSteps := 1000000) (disch := first | omega | with_reducible assumption | (simp only [lenT, Nat.reduceAdd]; omega)) only [amT, cut, bnd, Nat.reduceBEq, reduceCtorEq, Nat.reduceEqDiff, Nat.reduceAdd, Nat.reduceMul, Nat.reduceSub, Int.reduceToNat, Int.reduceEq, Int.reduceLT, Int.reduceLE, Int.reduceAdd, Int.reduceSub, Int.reduceMul, reduceIte, resVs, resV, packV, initT, addr, F59_l0, t0, t1, eqV, Option.isNone, List.drop_length]
    · generalize hs1 : s.put (c.take k) = s1 at *
      have hok : s1.ok := by rw [← hs1]; exact HS.put_ok hs _
      have hn1 : s1.n = s.n + k := by rw [← hs1, HS.put_n]; simp; omega
      have hpos : (0 : Int) < ((c.drop k).length : Int) := by omega
      have e1 : (s1.n : Int).tmod 64 = ((s1.n % 64 : Nat) : Int) := tmod_nat _ 64
      have h72 := cH_n hok
      have h73 := cH_length hok
      have hd := hok.2
      obtain ⟨nn, hnn⟩ : ∃ nn, nn = min (c.drop k).length (64 - s1.n % 64) := ⟨_, rfl⟩
      have hbk : b < (hAt m b s1).size := by rw [AMem.size_set]; exact hb
      have hcp := BSl.cpy (m := mx (hAt m b s1) []) ((hc'.set hoff' (.cells (cH s1) 96 true .exact)).old (M := mx (hAt m b s1) []) (Old.here _ _)) (b := b) (o := 8 + s1.n % 64) (dl := 64 - s1.n % 64) (dc := 64 - s1.n % 64) (X := cH s1) (e := 96) (sp := .exact) ((mx_old hbk).trans (AMem.get_set_self _ _ _)) (by omega) (by omega)
      rw [← hnn] at hcp
      obtain ⟨c', hcd⟩ : ∃ c', c' = (c.drop k).take nn := ⟨_, rfl⟩
      rw [← hcd] at hcp
      have hcl : c'.length = nn := by rw [hcd, List.length_take]; omega
      have hR := cH_R hok (at_ := s1.n % 64) (c := c') (by rw [hcl]; omega)
      have hok2 : HS.ok ⟨s1.M, spl s1.R (s1.n % 64) c', s1.n⟩ := ⟨hok.1, by rw [spl_length (by rw [hcl, hd]; omega), hd]⟩
      have hn2 := cH_n hok2
      have h732 := cH_length hok2
      have hsn := cH_setn hok2 (s1.n + nn)
      simp only at hR hn2 hsn
      have e3 : (s1.n : Int) + (nn : Int) = ((s1.n + nn : Nat) : Int) := by omega
      have hdd : (c.drop k).drop nn = c.drop (k + nn) := by rw [List.drop_drop]
      have htk : c.take (k + nn) = c.take k ++ c' := by rw [List.take_add, hcd]
      have hop : (c.drop k).length < openCap := openCap_lt (by omega)
      have hsl := (BSl.tail (m := mx (hAt m b ⟨s1.M, spl s1.R (s1.n % 64) c', s1.n⟩) []) (((hc'.set hoff' _).old (Old.here _ _))) hop (k := nn) (by omega)).1
      have hc3 := (BSl.tail hc' hop (k := nn) (by omega)).2
      have hoff3 := hoff'.tail cap' nn
      rw [hdd] at hc3
      by_cases hfull : ((s1.n % 64 : Nat) : Int) + (nn : Int) = 64
      · have hput : s.put (c.take (k + nn)) = ⟨moreStep s1.M (spl s1.R (s1.n % 64) c'), spl s1.R (s1.n % 64) c', s1.n + nn⟩ := by
          rw [htk, HS.put_append, hs1, HS.put_full hok (by intro h; rw [h] at hcl; simp at hcl; omega) (by rw [hcl]; omega), hcl]
        have hput2 : c.length ≤ k + nn → s.put c = ⟨moreStep s1.M (spl s1.R (s1.n % 64) c'), spl s1.R (s1.n % 64) c', s1.n + nn⟩ := fun h => by rw [List.take_of_length_le h] at hput; exact hput
        have hkb := DetC.known (block_ok (mx (hAt m b ⟨s1.M, spl s1.R (s1.n % 64) c', s1.n + nn⟩) []) b ⟨s1.M, spl s1.R (s1.n % 64) c', s1.n + nn⟩ ((hg.set hb2 _).old (Old.here _ _)) hok2 (by rw [mx_size, AMem.size_set]; omega) hb2 (by rw [mx_old (by rw [AMem.size_set]; exact hb)]; exact AMem.get_set_self _ _ _))
        simp (implicitDefEqProofs := false) (maxSteps := 1000000) (disch := first | omega | with_reducible assumption | (simp only [lenT, Nat.reduceAdd]; omega)) only [amT, cut, bnd, Nat.reduceBEq, reduceCtorEq, Nat.reduceEqDiff, Nat.reduceAdd, Nat.reduceMul, Nat.reduceSub, Int.reduceToNat, Int.reduceEq, Int.reduceLT, Int.reduceLE, Int.reduceAdd, Int.reduceSub, Int.reduceMul, reduceIte, resVs, resV, packV, initT, addr, F59_l0, t0, t1, eqV, Option.isNone, hpos, e1, h72, stepOp_cpy_v, hcp, hR, hn2, stepOp_slV_v, Option.map_none, hsl, e3, hsn, hfull, hkb]
        repeat refine OrW.go ?_
        rw [LoopK_normal]; refine ⟨_, ?_, k + nn, tailA a' cap' nn, tailC cap' nn, rfl, rfl, ?qm, ?q0, ?q1, ?_⟩
        case qm | q0 | q1 => first | rfl | (simp (implicitDefEqProofs := false) (maxSteps := 1000000) (disch := first | omega | with_reducible assumption | (simp only [lenT, Nat.reduceAdd]; omega)) only [amT, cut, bnd, Nat.reduceBEq, reduceCtorEq, Nat.reduceEqDiff, Nat.reduceAdd, Nat.reduceMul, Nat.reduceSub, Int.reduceToNat, Int.reduceEq, Int.reduceLT, Int.reduceLE, Int.reduceAdd, Int.reduceSub, Int.reduceMul, reduceIte, resVs, resV, packV, initT, addr, t0, t1, hput, hput2, hdd]; first | done | rfl | (congr 1; omega))
        · omega
        · exact ⟨by omega, hc3, hoff3⟩
      · have hput : s.put (c.take (k + nn)) = ⟨s1.M, spl s1.R (s1.n % 64) c', s1.n + nn⟩ := by
          rw [htk, HS.put_append, hs1, HS.put_fit hok (by rw [hcl]; omega), hcl]
        have hput2 : c.length ≤ k + nn → s.put c = ⟨s1.M, spl s1.R (s1.n % 64) c', s1.n + nn⟩ := fun h => by rw [List.take_of_length_le h] at hput; exact hput
        simp (implicitDefEqProofs := false) (maxSteps := 1000000) (disch := first | omega | with_reducible assumption | (simp only [lenT, Nat.reduceAdd]; omega)) only [amT, cut, bnd, Nat.reduceBEq, reduceCtorEq, Nat.reduceEqDiff, Nat.reduceAdd, Nat.reduceMul, Nat.reduceSub, Int.reduceToNat, Int.reduceEq, Int.reduceLT, Int.reduceLE, Int.reduceAdd, Int.reduceSub, Int.reduceMul, reduceIte, resVs, resV, packV, initT, addr, F59_l0, t0, t1, eqV, Option.isNone, hpos, e1, h72, stepOp_cpy_v, hcp, hR, hn2, stepOp_slV_v, Option.map_none, hsl, e3, hsn, hfull]
        rw [LoopK_normal]; refine ⟨_, ?_, k + nn, tailA a' cap' nn, tailC cap' nn, rfl, rfl, ?qm, ?q0, ?q1, ?_⟩
        case qm | q0 | q1 => first | rfl | (simp (implicitDefEqProofs := false) (maxSteps := 1000000) (disch := first | omega | with_reducible assumption | (simp only [lenT, Nat.reduceAdd]; omega)) only [amT, cut, bnd, Nat.reduceBEq, reduceCtorEq, Nat.reduceEqDiff, Nat.reduceAdd, Nat.reduceMul, Nat.reduceSub, Int.reduceToNat, Int.reduceEq, Int.reduceLT, Int.reduceLE, Int.reduceAdd, Int.reduceSub, Int.reduceMul, reduceIte, resVs, resV, packV, initT, addr, t0, t1, hput, hput2, hdd]; first | done | rfl | (congr 1; omega))
        · omega
        · exact ⟨by omega, hc3, hoff3⟩
end Go.Proofs.YtgkmlbkocgjmmaaDoor.S
namespace Go.Proofs.YtgkmlbkocgjmmaaDoor.S
open Go Go.AM
set_option maxRecDepth 100000
set_option linter.unusedVariables false
set_option linter.unusedSimpArgs false

def zerosN (n : Nat) : Nat := (119 - n % 64) % 64
def lenB (n : Nat) : List UInt8 := (List.range 8).map fun k => UInt8.ofNat ((8 * n) >>> (56 - 8 * k))
theorem lenB_length (n : Nat) : (lenB n).length = 8 := by simp [lenB]
/-- The first j bytes behind the message, up to its length. -/
def padA (j : Nat) : List UInt8 := match j with | 0 => [] | j + 1 => 128 :: List.replicate j 0
theorem padA_succ (j : Nat) : padA (j + 1) = padA j ++ [if j = 0 then 128 else 0] := by
  cases j with
  | zero => rfl
  | succ j => simp only [padA]; rw [List.replicate_succ']; simp
theorem padA_length (j : Nat) : (padA j).length = j := by cases j <;> simp [padA]
def padB (n : Nat) : List UInt8 := padA (1 + zerosN n) ++ lenB n
/-- A state's bytes. -/
def dig (S : List UInt32) : List UInt8 := (List.range 32).map fun p => UInt8.ofNat ((S.getD (p / 4) 0).toNat >>> (24 - 8 * (p % 4)))
theorem dig_length (S : List UInt32) : (dig S).length = 32 := by simp [dig]
def sumOf (s : HS) : List UInt8 := dig (zip2 beginW (s.put (padB s.n)).M)
theorem sumOf_length (s : HS) : (sumOf s).length = 32 := dig_length _

theorem zero73 : [Value.int .u32 0, .int .u32 0, .int .u32 0, .int .u32 0, .int .u32 0, .int .u32 0, .int .u32 0, .int .u32 0, .int .u8 0, .int .u8 0, .int .u8 0, .int .u8 0, .int .u8 0, .int .u8 0, .int .u8 0, .int .u8 0, .int .u8 0, .int .u8 0, .int .u8 0, .int .u8 0, .int .u8 0, .int .u8 0, .int .u8 0, .int .u8 0, .int .u8 0, .int .u8 0, .int .u8 0, .int .u8 0, .int .u8 0, .int .u8 0, .int .u8 0, .int .u8 0, .int .u8 0, .int .u8 0, .int .u8 0, .int .u8 0, .int .u8 0, .int .u8 0, .int .u8 0, .int .u8 0, .int .u8 0, .int .u8 0, .int .u8 0, .int .u8 0, .int .u8 0, .int .u8 0, .int .u8 0, .int .u8 0, .int .u8 0, .int .u8 0, .int .u8 0, .int .u8 0, .int .u8 0, .int .u8 0, .int .u8 0, .int .u8 0, .int .u8 0, .int .u8 0, .int .u8 0, .int .u8 0, .int .u8 0, .int .u8 0, .int .u8 0, .int .u8 0, .int .u8 0, .int .u8 0, .int .u8 0, .int .u8 0, .int .u8 0, .int .u8 0, .int .u8 0, .int .u8 0, .int .u64 0] = cH hs0 := rfl
theorem zero32 : [Value.int .u8 0, .int .u8 0, .int .u8 0, .int .u8 0, .int .u8 0, .int .u8 0, .int .u8 0, .int .u8 0, .int .u8 0, .int .u8 0, .int .u8 0, .int .u8 0, .int .u8 0, .int .u8 0, .int .u8 0, .int .u8 0, .int .u8 0, .int .u8 0, .int .u8 0, .int .u8 0, .int .u8 0, .int .u8 0, .int .u8 0, .int .u8 0, .int .u8 0, .int .u8 0, .int .u8 0, .int .u8 0, .int .u8 0, .int .u8 0, .int .u8 0, .int .u8 0] = (List.replicate 32 (0 : UInt8)).map byteV := rfl
theorem one_cH (s : HS) : (cH s).all oneCell = true := by simp [cH, oneCell, w32, byteV]
theorem cellsOf_cH (s : HS) : cellsOf (.agg (cH s).toArray) = some (cH s) := by
  simp only [cellsOf]; rw [if_pos (one_cH s)]
theorem put1_known (m : AMem) (d : AObj) (s : HS) (g : List AObj) (c : UInt8) (hg : Glob m) (hs : s.ok) (hn : s.n + 1 < 2 ^ 60) :
    Known Tryd.prog 3 59 [.pointer (some ⟨m.size + 1, 0, none⟩), .slice (some ⟨m.size + (g.length + 1 + 1), 0, none⟩) 1 1] (mx m (d :: .cells (cH s) 96 true .exact :: (g ++ [.cells [.int .u8 (c.toNat : Int)] 5 true .exact]))) (.tuple #[])
      (mx m (d :: .cells (cH (s.put [c])) 96 true .exact :: (g ++ [.cells [.int .u8 (c.toNat : Int)] 5 true .exact]))) := by
  have gs := hg.s
  have h := put_ok (mx m (d :: .cells (cH s) 96 true .exact :: (g ++ [.cells [.int .u8 (c.toNat : Int)] 5 true .exact]))) (m.size + 1) s (hg.old (Old.here _ _)) hs (by rw [mx_size]; simp) (by omega) (mx_new _ _ 1)
    (some ⟨m.size + (g.length + 1 + 1), 0, none⟩) 1 [c] (.inr ⟨_, _, [.int .u8 (c.toNat : Int)], 5, true, .exact, rfl, by rw [mx_size]; simp, by rw [mx_new]; simp, rfl, .inr ⟨openCap_lt (by omega), Nat.le_refl _⟩⟩)
    (fun x o hx => by cases hx; omega) hn
  have e : mx (hAt (mx m (d :: .cells (cH s) 96 true .exact :: (g ++ [.cells [.int .u8 (c.toNat : Int)] 5 true .exact]))) (m.size + 1) (s.put [c])) [] = mx m (d :: .cells (cH (s.put [c])) 96 true .exact :: (g ++ [.cells [.int .u8 (c.toNat : Int)] 5 true .exact])) := by
    simp (implicitDefEqProofs := false) (maxSteps := 1000000) (disch := first | omega | with_reducible assumption | (simp only [lenT, Nat.reduceAdd]; omega)) only [amT, cut, bnd, Nat.reduceBEq, reduceCtorEq, Nat.reduceEqDiff, Nat.reduceAdd, Nat.reduceMul, Nat.reduceSub, Int.reduceToNat, Int.reduceEq, Int.reduceLT, Int.reduceLE, Int.reduceAdd, Int.reduceSub, Int.reduceMul, reduceIte, resVs, resV, packV, initT, addr]
  rw [e] at h
  exact DetC.known h
end Go.Proofs.YtgkmlbkocgjmmaaDoor.S
namespace Go.Proofs.YtgkmlbkocgjmmaaDoor.S
open Go Go.AM
set_option maxRecDepth 100000
set_option linter.unusedVariables false
set_option linter.unusedSimpArgs false

theorem lenB_take {n k : Nat} (hk : k < 8) : (lenB n).take (k + 1) = (lenB n).take k ++ [UInt8.ofNat ((8 * n) >>> (56 - 8 * k))] := by
  rw [List.take_succ_eq_append_getElem (by rw [lenB_length]; exact hk)]; simp [lenB]
theorem u8n (x : Nat) : IntKind.u8.wrap (x : Int) = ((UInt8.ofNat x).toNat : Int) := by simp [IntKind.wrap, IntKind.bits, IntKind.signed]
theorem dig_get {S : List UInt32} (hS : S.length = 8) {i k : Nat} (hi : i < 8) (hk : k < 4) : (dig S)[4 * i + k]'(by rw [dig_length]; omega) = UInt8.ofNat ((S[i]'(by omega)).toNat >>> (24 - 8 * k)) := by
  simp only [dig, List.getElem_map, List.getElem_range]
  rw [show (4 * i + k) / 4 = i by omega, show (4 * i + k) % 4 = k by omega]
  simp [hS, hi]
theorem sumM_ok (m : AMem) (b : Nat) (s : HS) (hg : Glob m) (hs : s.ok) (hb : b < m.size) (hm : m.get b = .cells (cH s) 96 true .exact) (hn : s.n < 2 ^ 59) :
    PureC Tryd.prog 3 60 [.pointer (some ⟨b, 0, none⟩)] m (.agg ((sumOf s).map byteV).toArray) := by
  refine pure_of_W (fn := Tryd.f60) rfl rfl F60_ok (by simp [F60]) (.bytes _) ?_
  have gs := hg.s
  have h73 := cH_all hs
  have hl := cH_length hs
  have hl0 := cH_length hs0_ok
  have h72 := cH_n hs
  simp (implicitDefEqProofs := false) (maxSteps := 1000000) (disch := first | omega | with_reducible assumption | (simp only [lenT, Nat.reduceAdd]; omega)) only [amT, cut, bnd, Nat.reduceBEq, reduceCtorEq, Nat.reduceEqDiff, Nat.reduceAdd, Nat.reduceMul, Nat.reduceSub, Int.reduceToNat, Int.reduceEq, Int.reduceLT, Int.reduceLE, Int.reduceAdd, Int.reduceSub, Int.reduceMul, reduceIte, resVs, resV, packV, initT, addr, F60, eqV, Option.isNone, hm, h73, zero73, cellsOf_cH, zero32, h72]
  refine W_loop (fun N qs => ∃ (j : Nat) (g : List AObj), N = 1 + zerosN s.n - j ∧ qs.ds = [] ∧ qs.m = mx m (.cells ((List.replicate 32 (0 : UInt8)).map byteV) 52 true .exact :: .cells (cH (s.put (padA j))) 96 true .exact :: g) ∧ qs.t 2 = .pointer (some ⟨m.size, 0, none⟩) ∧ qs.t 3 = .pointer (some ⟨m.size + 1, 0, none⟩) ∧ qs.t 4 = .int .u64 (8 * s.n : Nat) ∧ qs.t 5 = .int .u8 (if j = 0 then 128 else 0) ∧ j ≤ 1 + zerosN s.n) (1 + zerosN s.n - (0)) ⟨0, [], rfl, rfl, ?qm, ?q2, ?q3, ?q4, ?q5, ?_⟩ ?_
  case qm | q2 | q3 | q4 | q5 => first | rfl | (simp (implicitDefEqProofs := false) (maxSteps := 1000000) (disch := first | omega | with_reducible assumption | (simp only [lenT, Nat.reduceAdd]; omega)) only [amT, cut, bnd, Nat.reduceBEq, reduceCtorEq, Nat.reduceEqDiff, Nat.reduceAdd, Nat.reduceMul, Nat.reduceSub, Int.reduceToNat, Int.reduceEq, Int.reduceLT, Int.reduceLE, Int.reduceAdd, Int.reduceSub, Int.reduceMul, reduceIte, resVs, resV, packV, initT, addr, padA, HS.put_nil]; first | done | rfl | (congr 1; omega))
  · omega
  · rintro N t m1 ds ⟨j, g, rfl, hds, hm, t2, t3, t4, t5, hp⟩
    simp only at hds hm t2 t3 t4 t5
    subst hds; replace hm := hm.symm; subst hm
    have hok : (s.put (padA j)).ok := HS.put_ok hs _
    have hnj : (s.put (padA j)).n = s.n + j := by rw [HS.put_n, padA_length]
    have h72j := cH_n hok
    have h73j := cH_length hok
    rw [hnj] at h72j
    have e1 : ((s.n + j : Nat) : Int).tmod 64 = (((s.n + j) % 64 : Nat) : Int) := tmod_nat _ 64
    have hz : zerosN s.n = (119 - s.n % 64) % 64 := rfl
    by_cases hj : j = 1 + zerosN s.n
    · have h56 : (((s.n + j) % 64 : Nat) : Int) = 56 := by rw [hj, hz]; omega
      have hj0 : ¬ j = 0 := by omega
      rw [if_neg hj0] at t5
      simp (implicitDefEqProofs := false) (maxSteps := 1000000) (disch := first | omega | with_reducible assumption | (simp only [lenT, Nat.reduceAdd]; omega)) only [amT, cut, bnd, Nat.reduceBEq, reduceCtorEq, Nat.reduceEqDiff, Nat.reduceAdd, Nat.reduceMul, Nat.reduceSub, Int.reduceToNat, Int.reduceEq, Int.reduceLT, Int.reduceLE, Int.reduceAdd, Int.reduceSub, Int.reduceMul, reduceIte, resVs, resV, packV, initT, addr, F60_l0, t2, t3, t4, t5, h72j, e1, h56]
      refine W_loop (fun N qs => ∃ (k : Nat) (g : List AObj), N = 8 - k ∧ qs.ds = [] ∧ qs.m = mx m (.cells ((List.replicate 32 (0 : UInt8)).map byteV) 52 true .exact :: .cells (cH (s.put (padA (1 + zerosN s.n) ++ (lenB s.n).take k))) 96 true .exact :: g) ∧ qs.t 2 = .pointer (some ⟨m.size, 0, none⟩) ∧ qs.t 3 = .pointer (some ⟨m.size + 1, 0, none⟩) ∧ qs.t 4 = .int .u64 (8 * s.n : Nat) ∧ qs.t 6 = .int .i64 (56 - 8 * (k : Int)) ∧ k ≤ 8) (8 - (0)) ⟨0, g, rfl, rfl, ?qm, ?q2, ?q3, ?q4, ?q6, ?_⟩ ?_
      case qm | q2 | q3 | q4 | q6 => first | rfl | (simp (implicitDefEqProofs := false) (maxSteps := 1000000) (disch := first | omega | with_reducible assumption | (simp only [lenT, Nat.reduceAdd]; omega)) only [amT, cut, bnd, Nat.reduceBEq, reduceCtorEq, Nat.reduceEqDiff, Nat.reduceAdd, Nat.reduceMul, Nat.reduceSub, Int.reduceToNat, Int.reduceEq, Int.reduceLT, Int.reduceLE, Int.reduceAdd, Int.reduceSub, Int.reduceMul, reduceIte, resVs, resV, packV, initT, addr, t2, t3, t4, t5, List.take_zero, List.append_nil, ← hj]; first | done | rfl | (congr 1; omega))
      · omega
      · clear t2 t3 t4 t5 h72j h73j hnj hok e1 h56 hj0 hj hp
        rintro N t m1 ds ⟨k, g, rfl, hds, hm, t2, t3, t4, t6, hp⟩
        simp only at hds hm t2 t3 t4 t6
        subst hds; replace hm := hm.symm; subst hm
        have hok : (s.put (padA (1 + zerosN s.n) ++ (lenB s.n).take k)).ok := HS.put_ok hs _
        by_cases hk : (0 : Int) ≤ 56 - 8 * (k : Int)
        · have hk8 : k < 8 := by omega
          have e2 : shr .u64 ((8 * s.n : Nat) : Int) (56 - 8 * (k : Int)) = (((8 * s.n) >>> (56 - 8 * k) : Nat) : Int) := by
            rw [show (56 : Int) - 8 * (k : Int) = ((56 - 8 * k : Nat) : Int) by omega]; exact shr_nat _ _ _ (by simp [IntKind.bits]; omega)
          have hkn := put1_known m (.cells ((List.replicate 32 (0 : UInt8)).map byteV) 52 true .exact) (s.put (padA (1 + zerosN s.n) ++ (lenB s.n).take k)) g (UInt8.ofNat ((8 * s.n) >>> (56 - 8 * k))) hg hok
            (by rw [HS.put_n, List.length_append, padA_length, List.length_take, lenB_length]; omega)
          have hpa : (s.put (padA (1 + zerosN s.n) ++ (lenB s.n).take k)).put [UInt8.ofNat ((8 * s.n) >>> (56 - 8 * k))] = s.put (padA (1 + zerosN s.n) ++ (lenB s.n).take (k + 1)) := by
            rw [lenB_take hk8, ← List.append_assoc, HS.put_append _ _ [_]]
          rw [hpa] at hkn
          simp (implicitDefEqProofs := false) (maxSteps := 1000000) (disch := first | omega | with_reducible assumption | (simp only [lenT, Nat.reduceAdd]; omega)) only [amT, cut, bnd, Nat.reduceBEq, reduceCtorEq, Nat.reduceEqDiff, Nat.reduceAdd, Nat.reduceMul, Nat.reduceSub, Int.reduceToNat, Int.reduceEq, Int.reduceLT, Int.reduceLE, Int.reduceAdd, Int.reduceSub, Int.reduceMul, reduceIte, resVs, resV, packV, initT, addr, F60_l1, t2, t3, t4, t6, hk, e2, u8n, hkn]
          repeat refine OrW.go ?_
          rw [LoopK_normal]; refine ⟨_, ?_, k + 1, g ++ [.cells [.int .u8 ((UInt8.ofNat ((8 * s.n) >>> (56 - 8 * k))).toNat : Int)] 5 true .exact], rfl, rfl, ?qm, ?q2, ?q3, ?q4, ?q6, ?_⟩
          case qm | q2 | q3 | q4 | q6 => first | rfl | (simp (implicitDefEqProofs := false) (maxSteps := 1000000) (disch := first | omega | with_reducible assumption | (simp only [lenT, Nat.reduceAdd]; omega)) only [amT, cut, bnd, Nat.reduceBEq, reduceCtorEq, Nat.reduceEqDiff, Nat.reduceAdd, Nat.reduceMul, Nat.reduceSub, Int.reduceToNat, Int.reduceEq, Int.reduceLT, Int.reduceLE, Int.reduceAdd, Int.reduceSub, Int.reduceMul, reduceIte, resVs, resV, packV, initT, addr, t2, t3, t4, t6]; first | done | rfl | (congr 1; omega))
          · omega
          · omega
        · have hk8 : k = 8 := by omega
          subst hk8
          have hpb : padA (1 + zerosN s.n) ++ (lenB s.n).take 8 = padB s.n := by rw [List.take_of_length_le (by rw [lenB_length]; omega)]; rfl
          rw [hpb] at hok
          generalize hS : zip2 beginW (s.put (padB s.n)).M = S at *
          have hS8 : S.length = 8 := by rw [← hS]; exact zip2_length rfl hok.1
          have hsum : sumOf s = dig S := by rw [sumOf, hS]
          have hst := @kState (mx m (.cells ((List.replicate 32 (0 : UInt8)).map byteV) 52 true .exact :: .cells (cH (s.put (padB s.n))) 96 true .exact :: g)) (m.size + 1) (s.put (padB s.n)) (hg.old (Old.here _ _)) hok (by rw [mx_size]; simp) (mx_new _ _ 1)
          rw [hS] at hst
          simp (implicitDefEqProofs := false) (maxSteps := 1000000) (disch := first | omega | with_reducible assumption | (simp only [lenT, Nat.reduceAdd]; omega)) only [amT, cut, bnd, Nat.reduceBEq, reduceCtorEq, Nat.reduceEqDiff, Nat.reduceAdd, Nat.reduceMul, Nat.reduceSub, Int.reduceToNat, Int.reduceEq, Int.reduceLT, Int.reduceLE, Int.reduceAdd, Int.reduceSub, Int.reduceMul, reduceIte, resVs, resV, packV, initT, addr, F60_l1, t2, t3, t4, t6, hk, hpb, hst]
          repeat refine OrW.go ?_
          refine W_loop (fun N qs => ∃ (i : Nat), N = 8 - i ∧ qs.ds = [] ∧ qs.m = mx m (.cells ((mix (4 * i) (dig S) (List.replicate 32 (0 : UInt8))).map byteV) 52 true .exact :: .cells (cH (s.put (padB s.n))) 96 true .exact :: g) ∧ qs.t 2 = .pointer (some ⟨m.size, 0, none⟩) ∧ qs.t 40 = .agg (S.map w32).toArray ∧ qs.t 41 = .int .i64 i ∧ i ≤ 8) (8 - (0)) ⟨0, rfl, rfl, ?qm, ?q2, ?q40, ?q41, ?_⟩ ?_
          case qm | q2 | q40 | q41 => first | rfl | (simp (implicitDefEqProofs := false) (maxSteps := 1000000) (disch := first | omega | with_reducible assumption | (simp only [lenT, Nat.reduceAdd]; omega)) only [amT, cut, bnd, Nat.reduceBEq, reduceCtorEq, Nat.reduceEqDiff, Nat.reduceAdd, Nat.reduceMul, Nat.reduceSub, Int.reduceToNat, Int.reduceEq, Int.reduceLT, Int.reduceLE, Int.reduceAdd, Int.reduceSub, Int.reduceMul, reduceIte, resVs, resV, packV, initT, addr, mix_zero, t2, t3, t4, t6]; first | done | rfl | (congr 1; omega))
          · omega
          · clear t2 t3 t4 t6 hk hp hst
            rintro N t m1 ds ⟨i, rfl, hds, hm, t2, t40, t41, hp⟩
            simp only at hds hm t2 t40 t41
            subst hds; replace hm := hm.symm; subst hm
            by_cases hi : (i : Int) < 8
            · have hi8 : i < 8 := by omega
              obtain ⟨x, hx⟩ : ∃ x, x = S[i]'(by omega) := ⟨_, rfl⟩
              simp (implicitDefEqProofs := false) (maxSteps := 1000000) (disch := first | omega | with_reducible assumption | (simp only [lenT, Nat.reduceAdd]; omega)) only [amT, cut, bnd, Nat.reduceBEq, reduceCtorEq, Nat.reduceEqDiff, Nat.reduceAdd, Nat.reduceMul, Nat.reduceSub, Int.reduceToNat, Int.reduceEq, Int.reduceLT, Int.reduceLE, Int.reduceAdd, Int.reduceSub, Int.reduceMul, reduceIte, resVs, resV, packV, initT, addr, F60_l2, t2, t40, t41, hi, ws_get, ← hx]
              refine W_loop (fun N qs => ∃ (k : Nat), N = 4 - k ∧ qs.ds = [] ∧ qs.m = mx m (.cells ((mix (4 * i + k) (dig S) (List.replicate 32 (0 : UInt8))).map byteV) 52 true .exact :: .cells (cH (s.put (padB s.n))) 96 true .exact :: g) ∧ qs.t 2 = .pointer (some ⟨m.size, 0, none⟩) ∧ qs.t 7 = .int .i64 i ∧ qs.t 8 = .int .u32 (x.toNat : Int) ∧ qs.t 40 = .agg (S.map w32).toArray ∧ qs.t 41 = .int .i64 i ∧ qs.t 45 = .int .i64 k ∧ k ≤ 4) (4 - (0)) ⟨0, rfl, rfl, ?qm, ?q2, ?q7, ?q8, ?q40, ?q41, ?q45, ?_⟩ ?_
              case qm | q2 | q7 | q8 | q40 | q41 | q45 => first | rfl | (simp (implicitDefEqProofs := false) (maxSteps := 1000000) (disch := first | omega | with_reducible assumption | (simp only [lenT, Nat.reduceAdd]; omega)) only [amT, cut, bnd, Nat.reduceBEq, reduceCtorEq, Nat.reduceEqDiff, Nat.reduceAdd, Nat.reduceMul, Nat.reduceSub, Int.reduceToNat, Int.reduceEq, Int.reduceLT, Int.reduceLE, Int.reduceAdd, Int.reduceSub, Int.reduceMul, reduceIte, resVs, resV, packV, initT, addr, t2, t40, t41, w32_def]; first | done | rfl | (congr 1; omega))
              · omega
              · clear t2 t40 t41
                rintro N t m1 ds ⟨k, rfl, hds, hm, t2, t7, t8, t40, t41, t45, hp⟩
                simp only at hds hm t2 t7 t8 t40 t41 t45
                subst hds; replace hm := hm.symm; subst hm
                have hml : (mix (4 * i + k) (dig S) (List.replicate 32 (0 : UInt8))).length = 32 := by rw [mix_length (by rw [dig_length]; rfl)]; rfl
                by_cases hk : (k : Int) < 4
                · have hk4 : k < 4 := by omega
                  have e1 : (4 : Int) * (i : Int) + (k : Int) = ((4 * i + k : Nat) : Int) := by omega
                  have e2 : shr .u32 (x.toNat : Int) (24 - 8 * (k : Int)) = ((x.toNat >>> (24 - 8 * k) : Nat) : Int) := by
                    rw [show (24 : Int) - 8 * (k : Int) = ((24 - 8 * k : Nat) : Int) by omega]; exact shr_nat _ _ _ (by simp [IntKind.bits]; omega)
                  have e3 := mix_set (k := 4 * i + k) (X := dig S) (B := List.replicate 32 (0 : UInt8)) (by rw [dig_length]; rfl) (by rw [dig_length]; omega)
                  rw [dig_get hS8 hi8 hk4, ← hx] at e3
                  have e4 := map_set_byte (mix (4 * i + k) (dig S) (List.replicate 32 (0 : UInt8))) (4 * i + k) (UInt8.ofNat (x.toNat >>> (24 - 8 * k)))
                  rw [e3, byteV_def] at e4
                  simp (implicitDefEqProofs := false) (maxSteps := 1000000) (disch := first | omega | with_reducible assumption | (simp only [lenT, Nat.reduceAdd]; omega)) only [amT, cut, bnd, Nat.reduceBEq, reduceCtorEq, Nat.reduceEqDiff, Nat.reduceAdd, Nat.reduceMul, Nat.reduceSub, Int.reduceToNat, Int.reduceEq, Int.reduceLT, Int.reduceLE, Int.reduceAdd, Int.reduceSub, Int.reduceMul, reduceIte, resVs, resV, packV, initT, addr, F60_l3, t2, t7, t8, t40, t41, t45, hk, e1, e2, u8n, e4]
                  rw [LoopK_normal]; refine ⟨_, ?_, k + 1, rfl, rfl, ?qm, ?q2, ?q7, ?q8, ?q40, ?q41, ?q45, ?_⟩
                  case qm | q2 | q7 | q8 | q40 | q41 | q45 => first | rfl | (simp (implicitDefEqProofs := false) (maxSteps := 1000000) (disch := first | omega | with_reducible assumption | (simp only [lenT, Nat.reduceAdd]; omega)) only [amT, cut, bnd, Nat.reduceBEq, reduceCtorEq, Nat.reduceEqDiff, Nat.reduceAdd, Nat.reduceMul, Nat.reduceSub, Int.reduceToNat, Int.reduceEq, Int.reduceLT, Int.reduceLE, Int.reduceAdd, Int.reduceSub, Int.reduceMul, reduceIte, resVs, resV, packV, initT, addr, t2, t7, t8, t40, t41, t45]; first | done | rfl | (congr 1; omega))
                  · omega
                  · omega
                · have hk4 : k = 4 := by omega
                  subst hk4
                  simp (implicitDefEqProofs := false) (maxSteps := 1000000) (disch := first | omega | with_reducible assumption | (simp only [lenT, Nat.reduceAdd]; omega)) only [amT, cut, bnd, Nat.reduceBEq, reduceCtorEq, Nat.reduceEqDiff, Nat.reduceAdd, Nat.reduceMul, Nat.reduceSub, Int.reduceToNat, Int.reduceEq, Int.reduceLT, Int.reduceLE, Int.reduceAdd, Int.reduceSub, Int.reduceMul, reduceIte, resVs, resV, packV, initT, addr, F60_l3, t2, t7, t8, t40, t41, t45, hk]
                  rw [LoopK_normal]; refine ⟨_, ?_, i + 1, rfl, rfl, ?qm, ?q2, ?q40, ?q41, ?_⟩
                  case qm | q2 | q40 | q41 => first | rfl | (simp (implicitDefEqProofs := false) (maxSteps := 1000000) (disch := first | omega | with_reducible assumption | (simp only [lenT, Nat.reduceAdd]; omega)) only [amT, cut, bnd, Nat.reduceBEq, reduceCtorEq, Nat.reduceEqDiff, Nat.reduceAdd, Nat.reduceMul, Nat.reduceSub, Int.reduceToNat, Int.reduceEq, Int.reduceLT, Int.reduceLE, Int.reduceAdd, Int.reduceSub, Int.reduceMul, reduceIte, resVs, resV, packV, initT, addr, t2, t7, t8, t40, t41, t45]; first | done | rfl | (congr 1; omega))
                  · omega
                  · omega
            · have hi8 : i = 8 := by omega
              subst hi8
              have hmx := mix_all (k := 32) (X := dig S) (B := List.replicate 32 (0 : UInt8)) (dig_length _) rfl
              have hdl := dig_length S
              simp (implicitDefEqProofs := false) (maxSteps := 1000000) (disch := first | omega | with_reducible assumption | (simp only [lenT, Nat.reduceAdd]; omega)) only [amT, cut, bnd, Nat.reduceBEq, reduceCtorEq, Nat.reduceEqDiff, Nat.reduceAdd, Nat.reduceMul, Nat.reduceSub, Int.reduceToNat, Int.reduceEq, Int.reduceLT, Int.reduceLE, Int.reduceAdd, Int.reduceSub, Int.reduceMul, reduceIte, resVs, resV, packV, initT, addr, F60_l2, t2, t40, t41, hmx, cutL_all, hsum]
    · have hk := put1_known m (.cells ((List.replicate 32 (0 : UInt8)).map byteV) 52 true .exact) (s.put (padA j)) g (if j = 0 then 128 else 0) hg hok (by omega)
      have hpa : (s.put (padA j)).put [if j = 0 then 128 else 0] = s.put (padA (j + 1)) := by rw [padA_succ, HS.put_append]
      rw [hpa] at hk
      by_cases hj0 : j = 0
      · subst hj0
        simp only [if_true] at hk t5
        have h8 : ((128 : UInt8).toNat : Int) = 128 := rfl
        rw [h8] at hk
        rw [Nat.add_zero] at e1 h72j
        by_cases h56 : ((s.n % 64 : Nat) : Int) = 56
        · simp (implicitDefEqProofs := false) (maxSteps := 1000000) (disch := first | omega | with_reducible assumption | (simp only [lenT, Nat.reduceAdd]; omega)) only [amT, cut, bnd, Nat.reduceBEq, reduceCtorEq, Nat.reduceEqDiff, Nat.reduceAdd, Nat.reduceMul, Nat.reduceSub, Int.reduceToNat, Int.reduceEq, Int.reduceLT, Int.reduceLE, Int.reduceAdd, Int.reduceSub, Int.reduceMul, reduceIte, resVs, resV, packV, initT, addr, F60_l0, t2, t3, t4, t5, h72j, e1, h56, hk]
          repeat refine OrW.go ?_
          rw [LoopK_normal]; refine ⟨_, ?_, 0 + 1, g ++ [.cells [.int .u8 128] 5 true .exact], rfl, rfl, ?qm, ?q2, ?q3, ?q4, ?q5, ?_⟩
          case qm | q2 | q3 | q4 | q5 => first | rfl | (simp (implicitDefEqProofs := false) (maxSteps := 1000000) (disch := first | omega | with_reducible assumption | (simp only [lenT, Nat.reduceAdd]; omega)) only [amT, cut, bnd, Nat.reduceBEq, reduceCtorEq, Nat.reduceEqDiff, Nat.reduceAdd, Nat.reduceMul, Nat.reduceSub, Int.reduceToNat, Int.reduceEq, Int.reduceLT, Int.reduceLE, Int.reduceAdd, Int.reduceSub, Int.reduceMul, reduceIte, resVs, resV, packV, initT, addr, t2, t3, t4, t5]; first | done | rfl | (congr 1; omega))
          · omega
          · omega
        · simp (implicitDefEqProofs := false) (maxSteps := 1000000) (disch := first | omega | with_reducible assumption | (simp only [lenT, Nat.reduceAdd]; omega)) only [amT, cut, bnd, Nat.reduceBEq, reduceCtorEq, Nat.reduceEqDiff, Nat.reduceAdd, Nat.reduceMul, Nat.reduceSub, Int.reduceToNat, Int.reduceEq, Int.reduceLT, Int.reduceLE, Int.reduceAdd, Int.reduceSub, Int.reduceMul, reduceIte, resVs, resV, packV, initT, addr, F60_l0, t2, t3, t4, t5, h72j, e1, h56, hk]
          repeat refine OrW.go ?_
          rw [LoopK_normal]; refine ⟨_, ?_, 0 + 1, g ++ [.cells [.int .u8 128] 5 true .exact], rfl, rfl, ?qm, ?q2, ?q3, ?q4, ?q5, ?_⟩
          case qm | q2 | q3 | q4 | q5 => first | rfl | (simp (implicitDefEqProofs := false) (maxSteps := 1000000) (disch := first | omega | with_reducible assumption | (simp only [lenT, Nat.reduceAdd]; omega)) only [amT, cut, bnd, Nat.reduceBEq, reduceCtorEq, Nat.reduceEqDiff, Nat.reduceAdd, Nat.reduceMul, Nat.reduceSub, Int.reduceToNat, Int.reduceEq, Int.reduceLT, Int.reduceLE, Int.reduceAdd, Int.reduceSub, Int.reduceMul, reduceIte, resVs, resV, packV, initT, addr, t2, t3, t4, t5]; first | done | rfl | (congr 1; omega))
          · omega
          · omega
      · have h56 : ¬ (((s.n + j) % 64 : Nat) : Int) = 56 := by omega
        simp only [if_neg hj0] at hk t5
        have h8 : ((0 : UInt8).toNat : Int) = 0 := rfl
        rw [h8] at hk
        simp (implicitDefEqProofs := false) (maxSteps := 1000000) (disch := first | omega | with_reducible assumption | (simp only [lenT, Nat.reduceAdd]; omega)) only [amT, cut, bnd, Nat.reduceBEq, reduceCtorEq, Nat.reduceEqDiff, Nat.reduceAdd, Nat.reduceMul, Nat.reduceSub, Int.reduceToNat, Int.reduceEq, Int.reduceLT, Int.reduceLE, Int.reduceAdd, Int.reduceSub, Int.reduceMul, reduceIte, resVs, resV, packV, initT, addr, F60_l0, t2, t3, t4, t5, h72j, e1, h56, hk]
        repeat refine OrW.go ?_
        rw [LoopK_normal]; refine ⟨_, ?_, j + 1, g ++ [.cells [.int .u8 0] 5 true .exact], rfl, rfl, ?qm, ?q2, ?q3, ?q4, ?q5, ?_⟩
        case qm | q2 | q3 | q4 | q5 => first | rfl | (simp (implicitDefEqProofs := false) (maxSteps := 1000000) (disch := first | omega | with_reducible assumption | (simp only [lenT, Nat.reduceAdd]; omega)) only [amT, cut, bnd, Nat.reduceBEq, reduceCtorEq, Nat.reduceEqDiff, Nat.reduceAdd, Nat.reduceMul, Nat.reduceSub, Int.reduceToNat, Int.reduceEq, Int.reduceLT, Int.reduceLE, Int.reduceAdd, Int.reduceSub, Int.reduceMul, reduceIte, resVs, resV, packV, initT, addr, t2, t3, t4, t5]; first | done | rfl | (congr 1; omega))
        · omega
        · omega
end Go.Proofs.YtgkmlbkocgjmmaaDoor.S
namespace Go.Proofs.YtgkmlbkocgjmmaaDoor.S
open Go Go.AM
set_option maxRecDepth 100000
set_option linter.unusedVariables false
set_option linter.unusedSimpArgs false

/-! sha.Sum -/
def shaR (l : List UInt8) : List UInt8 := sumOf (hs0.put l)
theorem shaR_length (l : List UInt8) : (shaR l).length = 32 := sumOf_length _
theorem sum_ok (m : AMem) (a : Option Addr) (cap : Nat) (c : List UInt8) (hg : Glob m) (hc : BSl m a cap c) (hn : c.length < 2 ^ 58) :
    PureC Tryd.prog 3 35 [.slice a c.length cap] m (.agg ((shaR c).map byteV).toArray) := by
  refine pure_of_W (fn := Tryd.f35) rfl rfl F35_ok (by simp [F35]) (.bytes _) ?_
  have gs := hg.s
  have h1 := DetC.known (put_ok (mx m [.cells ((List.replicate 32 (0 : UInt8)).map byteV) 52 true .exact, .cells (cH hs0) 96 true .exact]) (m.size + 1) hs0 (hg.old (Old.here _ _)) hs0_ok (by rw [mx_size]; simp) (by omega) (mx_new _ _ 1) a cap c (hc.old (Old.here _ _)) (hc.off (by omega)) (by simp [hs0]; omega))
  have hok : (hs0.put c).ok := HS.put_ok hs0_ok _
  have h2 := DetC.known (sumM_ok (mx m [.cells ((List.replicate 32 (0 : UInt8)).map byteV) 52 true .exact, .cells (cH (hs0.put c)) 96 true .exact]) (m.size + 1) (hs0.put c) (hg.old (Old.here _ _)) hok (by rw [mx_size]; simp) (mx_new _ _ 1) (by rw [HS.put_n]; simp [hs0]; omega))
  have hl := sumOf_length (hs0.put c)
  simp (implicitDefEqProofs := false) (maxSteps := 1000000) (disch := first | omega | with_reducible assumption | (simp only [lenT, Nat.reduceAdd]; omega)) only [amT, cut, bnd, Nat.reduceBEq, reduceCtorEq, Nat.reduceEqDiff, Nat.reduceAdd, Nat.reduceMul, Nat.reduceSub, Int.reduceToNat, Int.reduceEq, Int.reduceLT, Int.reduceLE, Int.reduceAdd, Int.reduceSub, Int.reduceMul, reduceIte, resVs, resV, packV, initT, addr, F35, zero73, zero32, h1, h2, cutL_all]
  repeat refine OrW.go ?_
  rfl

/-! The reference. -/
end Go.Proofs.YtgkmlbkocgjmmaaDoor.S
namespace Go.Proofs.YtgkmlbkocgjmmaaDoor
open Go Go.AM
set_option linter.unusedVariables false
set_option linter.unusedSimpArgs false
set_option maxHeartbeats 2000000
set_option maxRecDepth 100000

/-- A derivation's name. -/
def dnameR (d : DrvR) : List UInt8 × Int := if rightR d = true then N.nameR (S.shaR (putB d)) (d.name ++ [46, 100, 114, 118]) else ([], 2)
theorem putB_len {d : DrvR} (hd : d.ok) (hr : rightR d = true) : (putB d).length ≤ 10000000 := by
  obtain ⟨f1, f2, f3⟩ := right_few hr
  have := insB_len hd.inputs d.inputs.length (Nat.le_refl _)
  simp only [putB, List.length_append, textB_len, numB_len, headB, List.length_cons, List.length_nil]; omega
theorem dname_ok (m : AMem) (d : DrvR) (a : Option Addr) (c : Nat) (hg : S.Glob m) (hd : d.ok) (ha : StrR m a d.inputs) :
    RelC Tryd.prog 3 14 [.agg (dRow d a c).toArray] m fun r m' => r = .tuple #[.string ⟨(dnameR d).1.toArray⟩, .int .i64 (dnameR d).2] ∧ Old m m' := by
  refine rel_of_W (fn := Tryd.f14) rfl rfl F14_ok (by simp [F14]) ?_
  have hp := put_ok (mx m [.cells (dRow d a c) 24 true .exact]) d a c hd (ha.old (Old.here _ _))
  have hgS := hg.s
  simp only [dRow] at hp
  repeat first | simp (implicitDefEqProofs := false) (maxSteps := 1000000) (disch := first | omega | with_reducible assumption | (simp only [lenT, Nat.reduceAdd]; omega)) only [amT, cut, bnd, Nat.reduceBEq, reduceCtorEq, Nat.reduceEqDiff, Nat.reduceAdd, Nat.reduceMul, Nat.reduceSub, Int.reduceToNat, Int.reduceEq, Int.reduceLT, Int.reduceLE, Int.reduceAdd, Int.reduceSub, Int.reduceMul, reduceIte, resVs, resV, packV, initT, addr, F14, dRow, cellsOf_dRow, cutL3] | refine OrW.go ?_
  refine RelC.call hp ?_
  rintro r M1 ⟨hO, hr⟩
  have hOm : Old m M1 := (Old.here m _).trans hO
  have hz := hO.1
  rw [mx_size] at hz
  simp only [List.length_cons, List.length_nil, Nat.zero_add] at hz
  have hb : M1.get m.size = .cells [.string ⟨d.name.toArray⟩, .slice a d.inputs.length c, .string ⟨d.recipe.toArray⟩] 24 true .exact := by rw [hO.2 _ (by rw [mx_size]; simp)]; exact mx_new0 _ _
  cases hri : rightR d with
  | false =>
    rw [hri] at hr
    simp only [Bool.false_eq_true, if_false] at hr
    subst hr
    have e : dnameR d = ([], 2) := by simp [dnameR, hri]
    rw [e]
    repeat first | simp (implicitDefEqProofs := false) (maxSteps := 1000000) (disch := first | omega | with_reducible assumption | (simp only [lenT, Nat.reduceAdd]; omega)) only [amT, cut, bnd, Nat.reduceBEq, reduceCtorEq, Nat.reduceEqDiff, Nat.reduceAdd, Nat.reduceMul, Nat.reduceSub, Int.reduceToNat, Int.reduceEq, Int.reduceLT, Int.reduceLE, Int.reduceAdd, Int.reduceSub, Int.reduceMul, reduceIte, resVs, resV, packV, initT, addr] | refine OrW.go ?_
    exact ⟨_, rfl, fun _ => ⟨rfl, hOm.mx []⟩⟩
  | true =>
    rw [hri] at hr
    simp only [if_true] at hr
    obtain ⟨a', c', rfl, hB⟩ := hr
    have e : dnameR d = N.nameR (S.shaR (putB d)) (d.name ++ [46, 100, 114, 118]) := by simp [dnameR, hri]
    rw [e]
    have hl := putB_len hd hri
    have hn := (right_few hri).1
    have k35 := DetC.known (S.sum_ok (mx M1 []) a' c' (putB d) ((hg.old hOm).old (Old.here _ [])) (hB.old (Old.here _ [])) (by omega))
    have k34 := @N.kName (mx M1 []) (d.name ++ [46, 100, 114, 118]) (S.shaR (putB d)) (S.shaR_length _) (by rw [List.length_append]; simp; omega)
    repeat first | simp (implicitDefEqProofs := false) (maxSteps := 1000000) (disch := first | omega | with_reducible assumption | (simp only [lenT, Nat.reduceAdd]; omega)) only [amT, cut, bnd, Nat.reduceBEq, reduceCtorEq, Nat.reduceEqDiff, Nat.reduceAdd, Nat.reduceMul, Nat.reduceSub, Int.reduceToNat, Int.reduceEq, Int.reduceLT, Int.reduceLE, Int.reduceAdd, Int.reduceSub, Int.reduceMul, reduceIte, resVs, resV, packV, initT, addr, hb, k35, k34] | refine OrW.go ?_
    exact ⟨_, rfl, fun _ => ⟨rfl, hOm.mx []⟩⟩
end Go.Proofs.YtgkmlbkocgjmmaaDoor
namespace Go.Proofs.YtgkmlbkocgjmmaaDoor
open Go Go.AM
set_option linter.unusedVariables false
set_option linter.unusedSimpArgs false
set_option maxHeartbeats 2000000
set_option maxRecDepth 100000

theorem cut_one {X : List Value} {o : Nat} {v : Value} (h : X[o]? = some v) : cutL X o 1 = some [v] := by
  obtain ⟨ho, h⟩ := List.getElem?_eq_some_iff.1 h
  unfold cutL
  rw [if_pos (by omega), List.drop_eq_getElem_cons ho, h]; rfl
theorem strR_at (M : AMem) (l : List AObj) (k : Nat) {ls : List (List UInt8)} {X : List Value} {e : TypeId} {w : Bool} {sp : Spare} (h : l[k]? = some (.cells X e w sp)) (hX : X.take ls.length = ls.map sV) : StrR (mx M l) (some ⟨M.size + k, 0, none⟩) ls := fun i hi => by
  have hk : k < l.length := (List.getElem?_eq_some_iff.1 h).1
  have hg : (mx M l).get (M.size + k) = .cells X e w sp := by rw [mx_new]; simp [List.getD, h]
  refine ⟨_, _, rfl, by rw [mx_size]; omega, ?_⟩
  rw [hg, rdO_cells, Nat.zero_add]
  refine cut_one ?_
  have h1 : (X.take ls.length)[i]? = (ls.map sV)[i]? := by rw [hX]
  rw [List.getElem?_take, if_pos hi] at h1
  rw [h1]; simp [hi, sV]
theorem src_at (M : AMem) (l : List AObj) (k : Nat) {ls : List (List UInt8)} {e : TypeId} {w : Bool} {sp : Spare} (h : l[k]? = some (.cells (ls.map sV) e w sp)) : Src (mx M l) (some ⟨M.size + k, 0, none⟩) ls := by
  have hk : k < l.length := (List.getElem?_eq_some_iff.1 h).1
  have hg : (mx M l).get (M.size + k) = .cells (ls.map sV) e w sp := by rw [mx_new]; simp [List.getD, h]
  exact .inr ⟨_, _, rfl, by rw [mx_size]; omega, by rw [hg, rdO_cells]; exact cutL_all (by simp)⟩
theorem intR_at (M : AMem) (l : List AObj) (k : Nat) {ls : List Nat} {e : TypeId} {w : Bool} {sp : Spare} (h : l[k]? = some (.cells (ls.map iV) e w sp)) : IntR (mx M l) (some ⟨M.size + k, 0, none⟩) ls := by
  have hk : k < l.length := (List.getElem?_eq_some_iff.1 h).1
  have hg : (mx M l).get (M.size + k) = .cells (ls.map iV) e w sp := by rw [mx_new]; simp [List.getD, h]
  exact intR_cells (by rw [mx_size]; omega) hg
def wN : List (List UInt8) := [[97], [98], [99], [100]]
def wD : List (List (List UInt8)) := [[[98], [99]], [[99]], [], [[100]]]
def wX : DrvR := ⟨[120], [], []⟩
def wO (z : Nat) : List AObj := [.cells (wN.map sV) 9 true .exact, .cells ([[98], [99]].map sV) 9 true .exact, .cells ([[99]].map sV) 9 true .exact, .cells ([[100]].map sV) 9 true .exact,
  .cells [.slice (some ⟨z + 1, 0, none⟩) 2 2, .slice (some ⟨z + 2, 0, none⟩) 1 1, .slice none 0 0, .slice (some ⟨z + 3, 0, none⟩) 1 1] 22 true .exact]
theorem w_names (m : AMem) : StrR (mx m (wO m.size)) (some ⟨m.size, 0, none⟩) wN := strR_at m (wO m.size) 0 rfl rfl
theorem w_names3 (m : AMem) : StrR (mx m (wO m.size)) (some ⟨m.size, 0, none⟩) (wN.take 3) := strR_at m (wO m.size) 0 rfl rfl
theorem w_needs (m : AMem) : NeedsR (mx m (wO m.size)) (some ⟨m.size + 4, 0, none⟩) wD := fun i hi => by
  have hl : m.size + 4 < (mx m (wO m.size)).size := by rw [mx_size]; simp [wO]
  have hg := mx_new m (wO m.size) 4
  have r1 := src_at m (wO m.size) 1 (ls := [[98], [99]]) rfl
  have r2 := src_at m (wO m.size) 2 (ls := [[99]]) rfl
  have r3 := src_at m (wO m.size) 3 (ls := [[100]]) rfl
  match i, hi with
  | 0, _ => exact ⟨_, _, some ⟨m.size + 1, 0, none⟩, 2, rfl, hl, by rw [hg]; rfl, r1, by simp [wD]⟩
  | 1, _ => exact ⟨_, _, some ⟨m.size + 2, 0, none⟩, 1, rfl, hl, by rw [hg]; rfl, r2, by simp [wD]⟩
  | 2, _ => exact ⟨_, _, none, 0, rfl, hl, by rw [hg]; rfl, .inl ⟨rfl, rfl⟩, by simp [wD]⟩
  | 3, _ => exact ⟨_, _, some ⟨m.size + 3, 0, none⟩, 1, rfl, hl, by rw [hg]; rfl, r3, by simp [wD]⟩
theorem w_sort4 : sortR wN wD = ([], 240) := by decide +kernel
theorem w_sort3 : sortR (wN.take 3) wD = ([2, 1, 0], 0) := by decide +kernel
theorem w_clos1 : closR wN wD [[98]] = ([1, 2], 0) := by
  have h0 := CInv.init wN wD [[98]]
  have h1 := h0.take (k := 1) (by decide +kernel)
  have e1 : ([] : List (List UInt8)) ++ rowOf wD 1 = [[99]] := rfl
  rw [e1] at h1
  have h2 := h1.take (k := 2) (by decide +kernel)
  have e2 : ([] : List (List UInt8)) ++ rowOf wD 2 = [] := rfl
  rw [e2] at h2
  have e3 := closO_of h2
  unfold closR
  rw [if_pos (by decide +kernel), e3]; decide +kernel
theorem w_clos2 : closR wN wD [[100], [120]] = ([3], 0) := by
  have h0 := CInv.init wN wD [[100], [120]]
  have h1 := h0.take (k := 3) (by decide +kernel)
  have e1 : [[120]] ++ rowOf wD 3 = [[120], [100]] := rfl
  rw [e1] at h1
  have h2 := h1.skip fun k hk => by
    rw [show plR wN [120] = none by decide +kernel] at hk; cases hk
  have h3 := h2.skip fun k hk => by
    rw [show plR wN [100] = some 3 by decide +kernel] at hk; cases hk; decide +kernel
  have e3 := closO_of h3
  unfold closR
  rw [if_pos (by decide +kernel), e3]; decide +kernel
theorem w_right : rightR wX = true := by decide +kernel
theorem w_put : putB wX = [68, 82, 86, 49, 0, 0, 0, 1, 120, 0, 0, 0, 0, 0, 0] := by decide +kernel
theorem w_get : getR (putB wX) = (wX, 0) := by kernel_rfl
theorem w_name : (dnameR wX).2 = 0 ∧ (dnameR wX).1.length = 38 := by
  have e : dnameR wX = N.nameR (S.shaR (putB wX)) [120, 46, 100, 114, 118] := by simp only [dnameR, w_right, if_true]; rfl
  have hr : N.rightB [120, 46, 100, 114, 118] = true := by decide +kernel
  rw [e]
  simp [N.nameR, hr, N.lettersOf_length]
theorem w_ok : wX.ok := ⟨by decide, by decide, by decide, by decide⟩
theorem w_sl (a : Nat) (M : AMem) : slVv 1 (.slice (some ⟨a, 0, none⟩) 4 4) none (some (.int .i64 3)) none M = some (.slice (some ⟨a, 0, none⟩) 3 4, M) := by
  have h : ¬ (4 : Nat) = openCap := openCap_ne (by omega)
  simp only [slVv, if_neg h]; rfl
theorem w_rows : ∀ i, (rowOf wD i).length ≤ 1000
  | 0 => by simp [rowOf, wD]
  | 1 => by simp [rowOf, wD]
  | 2 => by simp [rowOf, wD]
  | 3 => by simp [rowOf, wD]
  | n + 4 => by simp [rowOf, wD, List.getD]
theorem same_w {M : AMem} {v : Value} {l : List Nat} (h : IntB M v l) (hl : l.length ≤ 100) (objs : List AObj) (k q : Nat) (hk : objs[k]? = some (.cells (l.map iV) 3 true .exact)) (hq : q = M.size + k) : Known Tryd.prog 3 24 [v, .slice (some ⟨q, 0, none⟩) l.length l.length] (mx M objs) (.bool true) (mx M objs) := by
  obtain ⟨a, c, rfl⟩ := h.len
  subst hq
  have h2 := intR_at M objs k hk
  have := DetC.known (sameInts_ok (mx M objs) a c l (h.row.old (Old.here _ _)) (some ⟨M.size + k, 0, none⟩) l.length l h2 (by omega) (by omega))
  simpa using this
theorem works_ok (m : AMem) (hg : S.Glob m) : PureC Tryd.prog 3 11 [] m (.bool true) := by
  refine pure_of_W (fn := Tryd.f11) rfl rfl F11_ok (by simp [F11]) (.bool _) ?_
  repeat first | simp (implicitDefEqProofs := false) (maxSteps := 1000000) (disch := first | omega | with_reducible assumption | (simp only [lenT, Nat.reduceAdd]; omega)) only [amT, cut, bnd, Nat.reduceBEq, reduceCtorEq, Nat.reduceEqDiff, Nat.reduceAdd, Nat.reduceMul, Nat.reduceSub, Int.reduceToNat, Int.reduceEq, Int.reduceLT, Int.reduceLE, Int.reduceAdd, Int.reduceSub, Int.reduceMul, reduceIte, resVs, resV, packV, initT, addr, F11] | refine OrW.go ?_
  refine RelC.call (sort_ok (mx m (wO m.size)) (some ⟨m.size, 0, none⟩) 4 wN (w_names m) (by decide) (some ⟨m.size + 4, 0, none⟩) 4 wD (w_needs m) (by decide)) ?_
  rintro r M1 ⟨hz1, v1, rfl, hI1⟩
  simp only [w_sort4] at hI1 ⊢
  repeat first | simp (implicitDefEqProofs := false) (maxSteps := 1000000) (disch := first | omega | with_reducible assumption | (simp only [lenT, Nat.reduceAdd]; omega)) only [amT, cut, bnd, Nat.reduceBEq, reduceCtorEq, Nat.reduceEqDiff, Nat.reduceAdd, Nat.reduceMul, Nat.reduceSub, Int.reduceToNat, Int.reduceEq, Int.reduceLT, Int.reduceLE, Int.reduceAdd, Int.reduceSub, Int.reduceMul, reduceIte, resVs, resV, packV, initT, addr, stepOp_slV_v, w_sl] | refine OrW.go ?_
  refine RelC.call (sort_ok (mx M1 []) (some ⟨m.size, 0, none⟩) 4 (wN.take 3) ((w_names3 m).old (hz1.mx [])) (by decide) (some ⟨m.size + 4, 0, none⟩) 4 wD ((w_needs m).old (hz1.mx [])) (by decide)) ?_
  rintro r M2 ⟨hO2, v2, rfl, hI2⟩
  simp only [w_sort3] at hI2 ⊢
  have hz2 : Old (mx m (wO m.size)) M2 := hz1.trans ((Old.here _ _).trans hO2)
  repeat first | simp (implicitDefEqProofs := false) (maxSteps := 1000000) (disch := first | omega | with_reducible assumption | (simp only [lenT, Nat.reduceAdd]; omega)) only [amT, cut, bnd, Nat.reduceBEq, reduceCtorEq, Nat.reduceEqDiff, Nat.reduceAdd, Nat.reduceMul, Nat.reduceSub, Int.reduceToNat, Int.reduceEq, Int.reduceLT, Int.reduceLE, Int.reduceAdd, Int.reduceSub, Int.reduceMul, reduceIte, resVs, resV, packV, initT, addr] | refine OrW.go ?_
  refine RelC.call (closure_ok (mx M2 [.cells ([[98]].map sV) 9 true .exact]) (some ⟨m.size, 0, none⟩) 4 wN ((w_names m).old (hz2.mx _)) (by decide) (some ⟨m.size + 4, 0, none⟩) 4 wD ((w_needs m).old (hz2.mx _)) (by decide) (some ⟨M2.size, 0, none⟩) 1 [[98]] (src_at M2 _ 0 rfl) (by decide) w_rows) ?_
  rintro r M3 ⟨hO3, v3, rfl, hI3⟩
  simp only [w_clos1] at hI3 ⊢
  have hy3 : Old M2 M3 := (Old.here _ _).trans hO3
  have hz3 := hz2.trans hy3
  repeat first | simp (implicitDefEqProofs := false) (maxSteps := 1000000) (disch := first | omega | with_reducible assumption | (simp only [lenT, Nat.reduceAdd]; omega)) only [amT, cut, bnd, Nat.reduceBEq, reduceCtorEq, Nat.reduceEqDiff, Nat.reduceAdd, Nat.reduceMul, Nat.reduceSub, Int.reduceToNat, Int.reduceEq, Int.reduceLT, Int.reduceLE, Int.reduceAdd, Int.reduceSub, Int.reduceMul, reduceIte, resVs, resV, packV, initT, addr] | refine OrW.go ?_
  refine RelC.call (closure_ok (mx M3 [.cells ([[100], [120]].map sV) 9 true .exact]) (some ⟨m.size, 0, none⟩) 4 wN ((w_names m).old (hz3.mx _)) (by decide) (some ⟨m.size + 4, 0, none⟩) 4 wD ((w_needs m).old (hz3.mx _)) (by decide) (some ⟨M3.size, 0, none⟩) 2 [[100], [120]] (src_at M3 _ 0 rfl) (by decide) w_rows) ?_
  rintro r M4 ⟨hO4, v4, rfl, hI4⟩
  simp only [w_clos2] at hI4 ⊢
  have hy4 : Old M3 M4 := (Old.here _ _).trans hO4
  have hz4 := hz3.trans hy4
  repeat first | simp (implicitDefEqProofs := false) (maxSteps := 1000000) (disch := first | omega | with_reducible assumption | (simp only [lenT, Nat.reduceAdd]; omega)) only [amT, cut, bnd, Nat.reduceBEq, reduceCtorEq, Nat.reduceEqDiff, Nat.reduceAdd, Nat.reduceMul, Nat.reduceSub, Int.reduceToNat, Int.reduceEq, Int.reduceLT, Int.reduceLE, Int.reduceAdd, Int.reduceSub, Int.reduceMul, reduceIte, resVs, resV, packV, initT, addr] | refine OrW.go ?_
  refine RelC.call (put_ok (mx M4 []) wX none 0 w_ok (fun i h => by cases h)) ?_
  rintro r M5 ⟨hO5, hr5⟩
  rw [w_right, if_pos rfl] at hr5
  obtain ⟨a5, c5, rfl, hB5⟩ := hr5
  have hy5 : Old M4 M5 := (Old.here _ _).trans hO5
  repeat first | simp (implicitDefEqProofs := false) (maxSteps := 1000000) (disch := first | omega | with_reducible assumption | (simp only [lenT, Nat.reduceAdd]; omega)) only [amT, cut, bnd, Nat.reduceBEq, reduceCtorEq, Nat.reduceEqDiff, Nat.reduceAdd, Nat.reduceMul, Nat.reduceSub, Int.reduceToNat, Int.reduceEq, Int.reduceLT, Int.reduceLE, Int.reduceAdd, Int.reduceSub, Int.reduceMul, reduceIte, resVs, resV, packV, initT, addr] | refine OrW.go ?_
  refine RelC.call (get_ok (mx M5 []) a5 c5 (putB wX) (hB5.old (Old.here _ _)) (by decide +kernel)) ?_
  rintro r M6 ⟨hO6, a6, c6, rfl, hS6⟩
  have hy6 : Old M5 M6 := (Old.here _ _).trans hO6
  simp only [w_get] at hS6 ⊢
  repeat first | simp (implicitDefEqProofs := false) (maxSteps := 1000000) (disch := first | omega | with_reducible assumption | (simp only [lenT, Nat.reduceAdd]; omega)) only [amT, cut, bnd, Nat.reduceBEq, reduceCtorEq, Nat.reduceEqDiff, Nat.reduceAdd, Nat.reduceMul, Nat.reduceSub, Int.reduceToNat, Int.reduceEq, Int.reduceLT, Int.reduceLE, Int.reduceAdd, Int.reduceSub, Int.reduceMul, reduceIte, resVs, resV, packV, initT, addr, dRow, cellsOf_dRow, cutL3, splice3] | refine OrW.go ?_
  have hz6 := hz4.trans (hy5.trans hy6)
  have hgm : Old m M6 := (Old.here m _).trans hz6
  refine RelC.call (dname_ok (mx M6 [.cells (dRow wX a6 c6) 24 true .exact]) wX a6 c6 (hg.old (hgm.mx _)) w_ok (hS6.old (Old.here _ _))) ?_
  rintro r M7 ⟨rfl, hO7⟩
  obtain ⟨n1, n2⟩ := w_name
  rw [n1]
  have hy7 : Old M6 M7 := (Old.here _ _).trans hO7
  have hl6 : M6.size < M7.size := by have := hO7.1; rw [mx_size] at this; simp at this; omega
  have hb6 : M7.get M6.size = .cells (dRow wX a6 c6) 24 true .exact := by rw [hO7.2 _ (by rw [mx_size]; simp)]; exact mx_new0 _ _
  simp only [dRow] at hb6
  have q2 : IntB M7 v2 [2, 1, 0] := hI2.old (hy3.trans (hy4.trans (hy5.trans (hy6.trans hy7))))
  have q3 : IntB M7 v3 [1, 2] := hI3.old (hy4.trans (hy5.trans (hy6.trans hy7)))
  have q4 : IntB M7 v4 [3] := hI4.old (hy5.trans (hy6.trans hy7))
  have s2 := same_w q2 (by decide) [.cells [.int .i64 2, .int .i64 1, .int .i64 0] 3 true .exact] 0 M7.size rfl rfl
  have s3 := same_w q3 (by decide) [.cells [.int .i64 2, .int .i64 1, .int .i64 0] 3 true .exact, .cells [.int .i64 1, .int .i64 2] 3 true .exact] 1 (M7.size + 1) rfl rfl
  have s4 := same_w q4 (by decide) [.cells [.int .i64 2, .int .i64 1, .int .i64 0] 3 true .exact, .cells [.int .i64 1, .int .i64 2] 3 true .exact, .cells [.int .i64 3] 3 true .exact] 2 (M7.size + 2) rfl rfl
  simp only [List.length_cons, List.length_nil, Nat.zero_add, Nat.reduceAdd] at s2 s3 s4
  have hS7 : StrR M7 a6 wX.inputs := (hS6.old (Old.refl _)).old hy7
  have hB7 : BSl M7 a5 c5 (putB wX) := hB5.old (hy6.trans hy7)
  have hstr := (hB7.old (Old.here M7 [.cells [.int .i64 2, .int .i64 1, .int .i64 0] 3 true .exact, .cells [.int .i64 1, .int .i64 2] 3 true .exact, .cells [.int .i64 3] 3 true .exact])).str
  have e1 : strEq ⟨(putB wX).toArray⟩ ⟨[68, 82, 86, 49, 0, 0, 0, 1, 120, 0, 0, 0, 0, 0, 0].toArray⟩ = true := by rw [w_put]; exact strEq_self _
  have e2 : strEq ⟨wX.name.toArray⟩ ⟨[120].toArray⟩ = true := strEq_self _
  have kr := DetC.known (right_ok (mx M7 [.cells [.int .i64 2, .int .i64 1, .int .i64 0] 3 true .exact, .cells [.int .i64 1, .int .i64 2] 3 true .exact, .cells [.int .i64 3] 3 true .exact]) wX a6 c6 w_ok (hS7.old (Old.here _ _)))
  rw [w_right] at kr
  simp only [dRow] at kr
  repeat first | simp (implicitDefEqProofs := false) (maxSteps := 1000000) (disch := first | omega | with_reducible assumption | (simp only [lenT, Nat.reduceAdd]; omega)) only [amT, cut, bnd, Nat.reduceBEq, reduceCtorEq, Nat.reduceEqDiff, Nat.reduceAdd, Nat.reduceMul, Nat.reduceSub, Int.reduceToNat, Int.reduceEq, Int.reduceLT, Int.reduceLE, Int.reduceAdd, Int.reduceSub, Int.reduceMul, reduceIte, resVs, resV, packV, initT, addr, s2, s3, s4, stepOp_b2s_v, hstr, e1, hb6, e2, n2, kr, cutL3] | refine OrW.go ?_
  exact (hgm.trans hy7).mx _
theorem kWorks {M : AMem} (hg : S.Glob M) (l : List AObj) : Known Tryd.prog 3 11 [] (mx M l) (.bool true) (mx M l) := DetC.known (works_ok _ (hg.old (Old.here _ _)))
end Go.Proofs.YtgkmlbkocgjmmaaDoor
namespace Go.Proofs.YtgkmlbkocgjmmaaDoor
open Go Go.AM
set_option linter.unusedVariables false
set_option linter.unusedSimpArgs false
set_option maxHeartbeats 2000000
set_option maxRecDepth 100000

theorem refRight_ok (m : AMem) (d : DrvR) (a : Option Addr) (c : Nat) (hd : d.ok) (ha : StrR m a d.inputs) : PureC Tryd.prog 3 17 [.agg (dRow d a c).toArray] m (.bool (rightR d)) := by
  refine pure_of_W (fn := Tryd.f17) rfl rfl F17_ok (by simp [F17]) (.bool _) ?_
  have hn := hd.name; have hf := hd.few; have hr := hd.recipe
  have kR : N.rightB d.name = N.rightB d.name := rfl
  have kRight := @N.kRefRight (mx m [.cells (dRow d a c) 24 true .exact]) d.name hn
  simp only [dRow] at kRight
  by_cases h1 : N.rightB d.name = true
  case neg =>
    have h1' : N.rightB d.name = false := by simpa using h1
    have e : rightR d = false := by simp [rightR, h1']
    repeat first | simp (implicitDefEqProofs := false) (maxSteps := 1000000) (disch := first | omega | with_reducible assumption | (simp only [lenT, Nat.reduceAdd]; omega)) only [amT, cut, bnd, Nat.reduceBEq, reduceCtorEq, Nat.reduceEqDiff, Nat.reduceAdd, Nat.reduceMul, Nat.reduceSub, Int.reduceToNat, Int.reduceEq, Int.reduceLT, Int.reduceLE, Int.reduceAdd, Int.reduceSub, Int.reduceMul, reduceIte, resVs, resV, packV, initT, addr, F17, dRow, cellsOf_dRow, kRight, h1'] | refine OrW.go ?_
    rw [e]
  by_cases h2 : (60 : Int) < (d.name.length : Int)
  · have e : rightR d = false := by simp [rightR]; intros; omega
    repeat first | simp (implicitDefEqProofs := false) (maxSteps := 1000000) (disch := first | omega | with_reducible assumption | (simp only [lenT, Nat.reduceAdd]; omega)) only [amT, cut, bnd, Nat.reduceBEq, reduceCtorEq, Nat.reduceEqDiff, Nat.reduceAdd, Nat.reduceMul, Nat.reduceSub, Int.reduceToNat, Int.reduceEq, Int.reduceLT, Int.reduceLE, Int.reduceAdd, Int.reduceSub, Int.reduceMul, reduceIte, resVs, resV, packV, initT, addr, F17, dRow, cellsOf_dRow, kRight, h1, h2] | refine OrW.go ?_
    rw [e]
  by_cases h3 : (64 : Int) < (d.inputs.length : Int)
  · have e : rightR d = false := by simp [rightR]; intros; omega
    repeat first | simp (implicitDefEqProofs := false) (maxSteps := 1000000) (disch := first | omega | with_reducible assumption | (simp only [lenT, Nat.reduceAdd]; omega)) only [amT, cut, bnd, Nat.reduceBEq, reduceCtorEq, Nat.reduceEqDiff, Nat.reduceAdd, Nat.reduceMul, Nat.reduceSub, Int.reduceToNat, Int.reduceEq, Int.reduceLT, Int.reduceLE, Int.reduceAdd, Int.reduceSub, Int.reduceMul, reduceIte, resVs, resV, packV, initT, addr, F17, dRow, cellsOf_dRow, kRight, h1, h2, h3] | refine OrW.go ?_
    rw [e]
  by_cases h4 : (262144 : Int) < (d.recipe.length : Int)
  · have e : rightR d = false := by simp [rightR]; intros; omega
    repeat first | simp (implicitDefEqProofs := false) (maxSteps := 1000000) (disch := first | omega | with_reducible assumption | (simp only [lenT, Nat.reduceAdd]; omega)) only [amT, cut, bnd, Nat.reduceBEq, reduceCtorEq, Nat.reduceEqDiff, Nat.reduceAdd, Nat.reduceMul, Nat.reduceSub, Int.reduceToNat, Int.reduceEq, Int.reduceLT, Int.reduceLE, Int.reduceAdd, Int.reduceSub, Int.reduceMul, reduceIte, resVs, resV, packV, initT, addr, F17, dRow, cellsOf_dRow, kRight, h1, h2, h3, h4] | refine OrW.go ?_
    rw [e]
  have e : rightR d = okIns d.inputs d.inputs.length := by
    have g1 : ¬ 60 < d.name.length := by omega
    have g2 : ¬ 64 < d.inputs.length := by omega
    have g3 : ¬ 262144 < d.recipe.length := by omega
    simp [rightR, h1, g1, g2, g3]
  repeat first | simp (implicitDefEqProofs := false) (maxSteps := 1000000) (disch := first | omega | with_reducible assumption | (simp only [lenT, Nat.reduceAdd]; omega)) only [amT, cut, bnd, Nat.reduceBEq, reduceCtorEq, Nat.reduceEqDiff, Nat.reduceAdd, Nat.reduceMul, Nat.reduceSub, Int.reduceToNat, Int.reduceEq, Int.reduceLT, Int.reduceLE, Int.reduceAdd, Int.reduceSub, Int.reduceMul, reduceIte, resVs, resV, packV, initT, addr, F17, dRow, cellsOf_dRow, kRight, h1, h2, h3, h4] | refine OrW.go ?_
  rw [e]
  refine W_loop (fun N qs => ∃ (i : Nat), N = d.inputs.length - i ∧ qs.ds = [] ∧ qs.m = mx m [.cells [.string ⟨d.name.toArray⟩, .slice a d.inputs.length c, .string ⟨d.recipe.toArray⟩] 24 true .exact] ∧ qs.t 1 = .pointer (some ⟨m.size, 0, none⟩) ∧ qs.t 3 = .int .i64 i ∧ i ≤ d.inputs.length ∧ okIns d.inputs i = true) (d.inputs.length - (0)) ⟨0, rfl, rfl, ?qm, ?q1, ?q3, ?_⟩ ?_
  case qm | q1 | q3 => first | rfl | (simp (implicitDefEqProofs := false) (maxSteps := 1000000) (disch := first | omega | with_reducible assumption | (simp only [lenT, Nat.reduceAdd]; omega)) only [amT, cut, bnd, Nat.reduceBEq, reduceCtorEq, Nat.reduceEqDiff, Nat.reduceAdd, Nat.reduceMul, Nat.reduceSub, Int.reduceToNat, Int.reduceEq, Int.reduceLT, Int.reduceLE, Int.reduceAdd, Int.reduceSub, Int.reduceMul, reduceIte, resVs, resV, packV, initT, addr]; first | done | rfl | (congr 1; omega))
  · exact ⟨by omega, rfl⟩
  · rintro N t m1 ds ⟨i, rfl, hds, hm, t1, t3, hp⟩
    simp only at hds hm t1 t3
    subst hds; replace hm := hm.symm; subst hm
    obtain ⟨hi, hp⟩ := hp
    by_cases g : (i : Int) < (d.inputs.length : Int)
    · have hi' : i < d.inputs.length := by omega
      obtain ⟨b, o, rfl, hb, hr1⟩ := ha i hi'
      have hl := hd.inputs _ (List.getElem_mem hi')
      have kP := @N.kRefParse (mx m [.cells [.string ⟨d.name.toArray⟩, .slice (some ⟨b, o, none⟩) d.inputs.length c, .string ⟨d.recipe.toArray⟩] 24 true .exact]) d.inputs[i] hl
      rw [← N.parse_eq] at kP
      have hsucc := okIns_succ d.inputs i
      rw [hp, Bool.true_and] at hsucc
      have hok : okIn d.inputs i = (decide ((N.parseR d.inputs[i]).2.2 = 0) && (decide (i = 0) || !(ltB d.inputs[i] (d.inputs.getD (i - 1) []) || strEq ⟨d.inputs[i].toArray⟩ ⟨(d.inputs.getD (i - 1) []).toArray⟩))) := by
        unfold okIn; rw [show d.inputs.getD i [] = d.inputs[i] from by simp [List.getD, hi']]
      by_cases q1 : (N.parseR d.inputs[i]).2.2 = 0
      · cases i with
        | zero =>
          have hok0 : okIn d.inputs 0 = true := by rw [hok]; simp [q1]
          rw [Nat.add_zero] at hr1
          have g0 : (0 : Int) < (d.inputs.length : Int) := by omega
          repeat first | simp (implicitDefEqProofs := false) (maxSteps := 1000000) (disch := first | omega | with_reducible assumption | (simp only [lenT, Nat.reduceAdd]; omega)) only [amT, cut, bnd, Nat.reduceBEq, reduceCtorEq, Nat.reduceEqDiff, Nat.reduceAdd, Nat.reduceMul, Nat.reduceSub, Int.reduceToNat, Int.reduceEq, Int.reduceLT, Int.reduceLE, Int.reduceAdd, Int.reduceSub, Int.reduceMul, reduceIte, resVs, resV, packV, initT, addr, F17_l0, t1, t3, g0, hr1, kP, q1, undef] | refine OrW.go ?_
          rw [LoopK_normal]; refine ⟨_, ?_, 1, rfl, rfl, ?qm, ?q1, ?q3, ?_⟩
          case qm | q1 | q3 => first | rfl | (simp (implicitDefEqProofs := false) (maxSteps := 1000000) (disch := first | omega | with_reducible assumption | (simp only [lenT, Nat.reduceAdd]; omega)) only [amT, cut, bnd, Nat.reduceBEq, reduceCtorEq, Nat.reduceEqDiff, Nat.reduceAdd, Nat.reduceMul, Nat.reduceSub, Int.reduceToNat, Int.reduceEq, Int.reduceLT, Int.reduceLE, Int.reduceAdd, Int.reduceSub, Int.reduceMul, reduceIte, resVs, resV, packV, initT, addr, t1, t3]; first | done | rfl | (congr 1; omega))
          · omega
          · exact ⟨by omega, by rw [hsucc, hok0]⟩
        | succ k =>
          obtain ⟨b', o', hbe, hb', hr0⟩ := ha k (by omega)
          cases hbe
          have hik : ((k + 1 : Nat) : Int) - 1 = (k : Int) := by omega
          have hk0 : (0 : Int) < ((k + 1 : Nat) : Int) := by omega
          have hkk : d.inputs.getD (k + 1 - 1) [] = d.inputs[k] := by simp [List.getD, show k < d.inputs.length by omega]
          rw [hkk] at hok
          rw [← strLt_mk] at hok
          generalize hlt : (strLt ⟨d.inputs[k + 1].toArray⟩ ⟨d.inputs[k].toArray⟩ || strEq ⟨d.inputs[k + 1].toArray⟩ ⟨d.inputs[k].toArray⟩) = le at hok
          cases le with
          | true =>
            have hbad : okIns d.inputs d.inputs.length = false := okIns_bad hi' (by rw [hok]; simp)
            rw [hbad]
            repeat first | simp (implicitDefEqProofs := false) (maxSteps := 1000000) (disch := first | omega | with_reducible assumption | (simp only [lenT, Nat.reduceAdd]; omega)) only [amT, cut, bnd, Nat.reduceBEq, reduceCtorEq, Nat.reduceEqDiff, Nat.reduceAdd, Nat.reduceMul, Nat.reduceSub, Int.reduceToNat, Int.reduceEq, Int.reduceLT, Int.reduceLE, Int.reduceAdd, Int.reduceSub, Int.reduceMul, reduceIte, resVs, resV, packV, initT, addr, F17_l0, t1, t3, g, hr1, kP, q1, hik, hk0, hr0, binV_sleq, hlt] | refine OrW.go ?_
          | false =>
            repeat first | simp (implicitDefEqProofs := false) (maxSteps := 1000000) (disch := first | omega | with_reducible assumption | (simp only [lenT, Nat.reduceAdd]; omega)) only [amT, cut, bnd, Nat.reduceBEq, reduceCtorEq, Nat.reduceEqDiff, Nat.reduceAdd, Nat.reduceMul, Nat.reduceSub, Int.reduceToNat, Int.reduceEq, Int.reduceLT, Int.reduceLE, Int.reduceAdd, Int.reduceSub, Int.reduceMul, reduceIte, resVs, resV, packV, initT, addr, F17_l0, t1, t3, g, hr1, kP, q1, hik, hk0, hr0, binV_sleq, hlt] | refine OrW.go ?_
            rw [LoopK_normal]; refine ⟨_, ?_, k + 1 + 1, rfl, rfl, ?qm, ?q1, ?q3, ?_⟩
            case qm | q1 | q3 => first | rfl | (simp (implicitDefEqProofs := false) (maxSteps := 1000000) (disch := first | omega | with_reducible assumption | (simp only [lenT, Nat.reduceAdd]; omega)) only [amT, cut, bnd, Nat.reduceBEq, reduceCtorEq, Nat.reduceEqDiff, Nat.reduceAdd, Nat.reduceMul, Nat.reduceSub, Int.reduceToNat, Int.reduceEq, Int.reduceLT, Int.reduceLE, Int.reduceAdd, Int.reduceSub, Int.reduceMul, reduceIte, resVs, resV, packV, initT, addr, t1, t3]; first | done | rfl | (congr 1; omega))
            · omega
            · exact ⟨by omega, by rw [hsucc, hok]; simp [q1]⟩
      · have hbad : okIns d.inputs d.inputs.length = false := okIns_bad hi' (by rw [hok]; simp [q1])
        rw [hbad]
        repeat first | simp (implicitDefEqProofs := false) (maxSteps := 1000000) (disch := first | omega | with_reducible assumption | (simp only [lenT, Nat.reduceAdd]; omega)) only [amT, cut, bnd, Nat.reduceBEq, reduceCtorEq, Nat.reduceEqDiff, Nat.reduceAdd, Nat.reduceMul, Nat.reduceSub, Int.reduceToNat, Int.reduceEq, Int.reduceLT, Int.reduceLE, Int.reduceAdd, Int.reduceSub, Int.reduceMul, reduceIte, resVs, resV, packV, initT, addr, F17_l0, t1, t3, g, hr1, kP, q1, undef] | refine OrW.go ?_
    · obtain rfl : i = d.inputs.length := by omega
      rw [hp]
      repeat first | simp (implicitDefEqProofs := false) (maxSteps := 1000000) (disch := first | omega | with_reducible assumption | (simp only [lenT, Nat.reduceAdd]; omega)) only [amT, cut, bnd, Nat.reduceBEq, reduceCtorEq, Nat.reduceEqDiff, Nat.reduceAdd, Nat.reduceMul, Nat.reduceSub, Int.reduceToNat, Int.reduceEq, Int.reduceLT, Int.reduceLE, Int.reduceAdd, Int.reduceSub, Int.reduceMul, reduceIte, resVs, resV, packV, initT, addr, F17_l0, t1, t3, g] | refine OrW.go ?_
end Go.Proofs.YtgkmlbkocgjmmaaDoor
namespace Go.Proofs.YtgkmlbkocgjmmaaDoor
open Go Go.AM
set_option linter.unusedVariables false
set_option linter.unusedSimpArgs false
set_option maxHeartbeats 2000000
set_option maxRecDepth 100000

/-- The number at a place. -/
def nAt (b : List UInt8) (i : Nat) : Nat := beN ((b.drop i).take 4)
theorem textR_at (b : List UInt8) (i : Nat) : textR ⟨b.drop i, false⟩ =
    if (b.drop i).length < 4 then ([], ⟨b.drop i, true⟩) else if b.length - i - 4 < nAt b i then ([], ⟨b.drop (i + 4), true⟩) else ((b.drop (i + 4)).take (nAt b i), ⟨b.drop (i + 4 + nAt b i), false⟩) := by
  unfold textR
  by_cases h : (b.drop i).length < 4
  · have e : numR ⟨b.drop i, false⟩ 4 = (0, ⟨b.drop i, true⟩) := by
      have e2 : takeR ⟨b.drop i, false⟩ 4 = ([], ⟨b.drop i, true⟩) := by unfold takeR; rw [if_pos (by simpa using h)]
      simp [numR, e2, beN]
    rw [e, if_pos h]; rfl
  · have e : numR ⟨b.drop i, false⟩ 4 = (nAt b i, ⟨b.drop (i + 4), false⟩) := by
      have e2 : takeR ⟨b.drop i, false⟩ 4 = ((b.drop i).take 4, ⟨b.drop (i + 4), false⟩) := by unfold takeR; rw [if_neg (by simpa using h), List.drop_drop]
      simp [numR, e2, nAt]
    rw [e, if_neg h]
    simp only [takeR, Bool.false_or, List.length_drop]
    by_cases h2 : b.length - i - 4 < nAt b i
    · rw [if_pos h2, if_pos (by simp; omega)]
    · rw [if_neg h2, if_neg (by simp; omega), List.drop_drop]
theorem nAt_eq {b : List UInt8} {i : Nat} (h : i + 4 ≤ b.length) : nAt b i = b[i].toNat * 16777216 + b[i + 1].toNat * 65536 + b[i + 2].toNat * 256 + b[i + 3].toNat := by
  unfold nAt
  rw [List.drop_eq_getElem_cons (by omega), List.take_succ_cons, List.drop_eq_getElem_cons (by omega), List.take_succ_cons, List.drop_eq_getElem_cons (by omega), List.take_succ_cons, List.drop_eq_getElem_cons (by omega), List.take_succ_cons, List.take_zero]
  simp only [beN, List.foldl_cons, List.foldl_nil, Nat.add_assoc, Nat.reduceAdd]; omega
def getV (b : List UInt8) (i : Nat) : Value :=
  if (textR ⟨b.drop i, false⟩).2.bad = true then .tuple #[.string ⟨#[]⟩, .int .i64 0, .bool false] else .tuple #[.string ⟨(textR ⟨b.drop i, false⟩).1.toArray⟩, .int .i64 ((i + 4 + (textR ⟨b.drop i, false⟩).1.length : Nat) : Int), .bool true]
theorem refGet_ok (m : AMem) (a : Option Addr) (k : Nat) (b : List UInt8) (hb : BSl m a k b) (hl : b.length ≤ 100000) (i : Nat) (hi : i ≤ b.length) :
    PureC Tryd.prog 3 73 [.slice a b.length k, .int .i64 i] m (getV b i) := by
  have hP : Plain (getV b i) := by
    unfold getV
    split <;> exact .tuple fun v hv => by simp at hv; rcases hv with rfl | rfl | rfl <;> first | exact .string _ | exact .int _ _ | exact .bool _
  refine pure_of_W (fn := Tryd.f73) rfl rfl F73_ok (by simp [F73]) hP ?_
  unfold getV
  rw [textR_at]
  have e4 : (i : Int) + 4 = ((i + 4 : Nat) : Int) := by omega
  by_cases h4 : i + 4 ≤ b.length
  case neg =>
    have g : (b.length : Int) < ((i + 4 : Nat) : Int) := by omega
    have hd : (b.drop i).length < 4 := by rw [List.length_drop]; omega
    rw [if_pos hd]
    repeat first | simp (implicitDefEqProofs := false) (maxSteps := 1000000) (disch := first | omega | with_reducible assumption | (simp only [lenT, Nat.reduceAdd]; omega)) only [amT, cut, bnd, Nat.reduceBEq, reduceCtorEq, Nat.reduceEqDiff, Nat.reduceAdd, Nat.reduceMul, Nat.reduceSub, Int.reduceToNat, Int.reduceEq, Int.reduceLT, Int.reduceLE, Int.reduceAdd, Int.reduceSub, Int.reduceMul, reduceIte, resVs, resV, packV, initT, addr, F73, e4, g] | refine OrW.go ?_
  have g : ¬ (b.length : Int) < ((i + 4 : Nat) : Int) := by omega
  have hd : ¬ (b.drop i).length < 4 := by rw [List.length_drop]; omega
  have hbm := hb.old (Old.here m [])
  obtain ⟨x, o, rfl, r0⟩ := hbm.get (i := i) (by omega)
  obtain ⟨x1, o1, e, r1⟩ := hbm.get (i := i + 1) (by omega)
  cases e
  obtain ⟨x1, o1, e, r2⟩ := hbm.get (i := i + 2) (by omega)
  cases e
  obtain ⟨x1, o1, e, r3⟩ := hbm.get (i := i + 3) (by omega)
  cases e
  rw [rd_def] at r0 r1 r2 r3
  simp only [byteV] at r0 r1 r2 r3
  have hn := nAt_eq h4
  have c0 := b[i].toNat_lt; have c1 := b[i + 1].toNat_lt; have c2 := b[i + 2].toNat_lt; have c3 := b[i + 3].toNat_lt
  generalize b[i].toNat = n0 at r0 hn c0
  generalize b[i + 1].toNat = n1 at r1 hn c1
  generalize b[i + 2].toNat = n2 at r2 hn c2
  generalize b[i + 3].toNat = n3 at r3 hn c3
  have e1 : (i : Int) + 1 = ((i + 1 : Nat) : Int) := by omega
  have e2 : (i : Int) + 2 = ((i + 2 : Nat) : Int) := by omega
  have e3 : (i : Int) + 3 = ((i + 3 : Nat) : Int) := by omega
  have w0 : shl .i64 (n0 : Int) 24 = ((n0 * 16777216 : Nat) : Int) := num_shl n0 (by omega) 24 (by omega)
  have w1 : shl .i64 (n1 : Int) 16 = ((n1 * 65536 : Nat) : Int) := num_shl n1 (by omega) 16 (by omega)
  have w2 : shl .i64 (n2 : Int) 8 = ((n2 * 256 : Nat) : Int) := num_shl n2 (by omega) 8 (by omega)
  have ws : ((n0 * 16777216 : Nat) : Int) + ((n1 * 65536 : Nat) : Int) + ((n2 * 256 : Nat) : Int) + (n3 : Int) = (nAt b i : Int) := by omega
  rw [if_neg hd]
  have e5 : (b.length : Int) - (i : Int) - 4 = ((b.length - i - 4 : Nat) : Int) := by omega
  by_cases h5 : b.length - i - 4 < nAt b i
  · have g5 : ((b.length - i - 4 : Nat) : Int) < (nAt b i : Int) := by omega
    rw [if_pos h5]
    repeat first | simp (implicitDefEqProofs := false) (maxSteps := 1000000) (disch := first | omega | with_reducible assumption | (simp only [lenT, Nat.reduceAdd]; omega)) only [amT, cut, bnd, Nat.reduceBEq, reduceCtorEq, Nat.reduceEqDiff, Nat.reduceAdd, Nat.reduceMul, Nat.reduceSub, Int.reduceToNat, Int.reduceEq, Int.reduceLT, Int.reduceLE, Int.reduceAdd, Int.reduceSub, Int.reduceMul, reduceIte, resVs, resV, packV, initT, addr, F73, e4, g, e1, e2, e3, r0, r1, r2, r3, binV_shl, w0, w1, w2, ws, e5, g5] | refine OrW.go ?_
  · have g5 : ¬ ((b.length - i - 4 : Nat) : Int) < (nAt b i : Int) := by omega
    rw [if_neg h5]
    have e6 : ((i + 4 : Nat) : Int) + (nAt b i : Int) = ((i + 4 + nAt b i : Nat) : Int) := by omega
    obtain ⟨a', c', q1, q2, -⟩ := hbm.sub (openCap_lt (by omega)) (i := i + 4) (j := i + 4 + nAt b i) (by omega) (by omega)
    rw [Nat.add_sub_cancel_left] at q1 q2
    have hln : ((b.drop (i + 4)).take (nAt b i)).length = nAt b i := by rw [List.length_take, List.length_drop]; omega
    have hst := q2.str
    rw [hln] at hst
    simp only [hln]
    repeat first | simp (implicitDefEqProofs := false) (maxSteps := 1000000) (disch := first | omega | with_reducible assumption | (simp only [lenT, Nat.reduceAdd]; omega)) only [amT, cut, bnd, Nat.reduceBEq, reduceCtorEq, Nat.reduceEqDiff, Nat.reduceAdd, Nat.reduceMul, Nat.reduceSub, Int.reduceToNat, Int.reduceEq, Int.reduceLT, Int.reduceLE, Int.reduceAdd, Int.reduceSub, Int.reduceMul, reduceIte, resVs, resV, packV, initT, addr, F73, e4, g, e1, e2, e3, r0, r1, r2, r3, binV_shl, w0, w1, w2, ws, e5, g5, e6, stepOp_slV_v, q1, stepOp_b2s_v, hst] | refine OrW.go ?_
end Go.Proofs.YtgkmlbkocgjmmaaDoor
