/- Derivations: the reference's Get. -/
import Derived.Test.YtgkmlbkocgjmmaaDoorB3
import Derived.Test.YtgkmlbkocgjmmaaDoorDrvF4
import Derived.Test.YtgkmlbkocgjmmaaDoorA4
import Derived.Test.YtgkmlbkocgjmmaaDoorRows
import Derived.WalkKit
import Derived.ProofKit
import Derived.OpenShut
import Derived.ShutString
import Derived.ChangeOld
import Derived.Below
import Derived.SizedLaws
import Derived.Handed
import Derived.JoinedOf
import Derived.Deep.Slices
set_option linter.unusedVariables false
set_option linter.unusedSimpArgs false
set_option linter.unnecessarySimpa false
namespace Go.Proofs.YtgkmlbkocgjmmaaDoor
open Go Go.AM
set_option linter.unusedVariables false
set_option linter.unusedSimpArgs false
set_option maxHeartbeats 2000000
set_option maxRecDepth 100000

theorem textR_not {b : List UInt8} {i : Nat} (hi : i ≤ b.length) (h : (textR ⟨b.drop i, false⟩).2.bad = false) : i + 4 + (textR ⟨b.drop i, false⟩).1.length ≤ b.length ∧ (textR ⟨b.drop i, false⟩).2 = ⟨b.drop (i + 4 + (textR ⟨b.drop i, false⟩).1.length), false⟩ := by
  rw [textR_at] at h ⊢
  split at h
  · cases h
  · split at h
    · cases h
    · rename_i h1 h2
      rw [List.length_drop] at h1
      rw [if_neg (by rw [List.length_drop]; exact h1), if_neg h2]
      have hln : ((b.drop (i + 4)).take (nAt b i)).length = nAt b i := by rw [List.length_take, List.length_drop]; omega
      simp only [hln]
      exact ⟨by omega, trivial⟩
theorem bad_stay (s : Rd) (h : s.bad = true) (n : Nat) : readIns n s = ([], s) := by
  cases n with
  | zero => rfl
  | succ n => simp [readIns, h]
theorem textR_stay (s : Rd) (h : s.bad = true) : (textR s).2.bad = true := by
  obtain ⟨c, b⟩ := s
  simp only at h; subst h; rfl
theorem numR_at (b : List UInt8) (i : Nat) : numR ⟨b.drop i, false⟩ 2 = if b.length < i + 2 ∧ i ≤ b.length ∨ b.length < i then (0, ⟨b.drop i, true⟩) else (beN ((b.drop i).take 2), ⟨b.drop (i + 2), false⟩) := by
  unfold numR takeR
  simp only [Bool.false_or, List.length_drop]
  by_cases h : b.length - i < 2
  · rw [if_pos (by simpa using h), if_pos (by omega)]; rfl
  · rw [if_neg (by simpa using h), if_neg (by omega), List.drop_drop]
theorem beN2 {b : List UInt8} {i : Nat} (h : i + 2 ≤ b.length) : beN ((b.drop i).take 2) = b[i].toNat * 256 + b[i + 1].toNat := by
  rw [List.drop_eq_getElem_cons (by omega), List.take_succ_cons, List.drop_eq_getElem_cons (by omega), List.take_succ_cons, List.take_zero]
  simp only [beN, List.foldl_cons, List.foldl_nil]; omega
theorem numR_stay (s : Rd) (h : s.bad = true) (w : Nat) : (numR s w).2.bad = true := by simp [numR, takeR, h]
theorem readIns_stay (s : Rd) (h : s.bad = true) (n : Nat) : (readIns n s).2.bad = true := by rw [bad_stay s h]; exact h
theorem getR_bad {b : List UInt8} (h : (partsR (b.drop 4)).2.bad = true) : getR b = (nilD, 150) := by
  unfold getR; rw [h]; simp
structure StP (m M : AMem) (d : DrvR) (v : Value) : Prop where
  old : Old m M
  lt : m.size + 1 < M.size
  box : M.get m.size = .cells [.string ⟨#[]⟩, .slice none 0 0, .string ⟨#[]⟩] 24 true .exact
  at_ : M.get (m.size + 1) = .cells [.string ⟨d.name.toArray⟩, v, .string ⟨d.recipe.toArray⟩] 24 true .exact
  own : ∀ x, ownV v x → m.size + 1 < x
  strs : StrB M v d.inputs
theorem StP.set {m M : AMem} {d : DrvR} {v : Value} (h : StP m M d v) (d' : DrvR) (hd : d'.inputs = d.inputs) : StP m (M.set (m.size + 1) (.cells [.string ⟨d'.name.toArray⟩, v, .string ⟨d'.recipe.toArray⟩] 24 true .exact)) d' v :=
  ⟨h.old.set (by omega) _, h.lt, by rw [AMem.get_set_ne _ _ (by omega)]; exact h.box, AMem.get_set_self _ _ _, h.own, by
    rw [hd]; exact h.strs.keep ((Keep.refl (fun x => x = m.size + 1) M).set (fun _ => rfl) _) fun x hx e => by have := h.own x hx; omega⟩
theorem StP.more {m M M' : AMem} {d : DrvR} {v : Value} (h : StP m M d v) (ho : Old M M') : StP m M' d v :=
  ⟨h.old.trans ho, Nat.lt_of_lt_of_le h.lt ho.1, by rw [ho.2 _ (by have := h.lt; omega)]; exact h.box, by rw [ho.2 _ h.lt]; exact h.at_, h.own, h.strs.old ho⟩
/-- One text more. -/
theorem StP.app {m M : AMem} {d : DrvR} {a : Option Addr} {k : Nat} (h : StP m M d (.slice a d.inputs.length k)) (hl : d.inputs.length ≤ 100000) (s : List UInt8) :
    ∃ a' k' M', appV 9 1 16 [.string ⟨#[]⟩] (.slice a d.inputs.length k) (.slice (some ⟨M.size, 0, none⟩) 1 1) (mx M [.cells [.string ⟨s.toArray⟩] 9 true .exact]) = some (.slice a' (d.inputs ++ [s]).length k', mx M' []) ∧ m.size + 1 < M'.size ∧ M'.get (m.size + 1) = M.get (m.size + 1) ∧
      StP m (M'.set (m.size + 1) (.cells [.string ⟨d.name.toArray⟩, .slice a' (d.inputs ++ [s]).length k', .string ⟨d.recipe.toArray⟩] 24 true .exact)) ⟨d.name, d.inputs ++ [s], d.recipe⟩ (.slice a' (d.inputs ++ [s]).length k') := by
  have hlt := h.lt
  obtain ⟨v6, M6, happ, hB6, hk6, ho6⟩ := (h.strs.old (Old.here M [.cells [.string ⟨s.toArray⟩] 9 true .exact])).app (w := .slice (some ⟨M.size, 0, none⟩) 1 1) (news := [s]) (by simp; omega) rfl (by rw [List.length_singleton, srcCells_slice (Nat.le_refl _), rd_def, mx_mx, List.append_nil, mx_new0]; rfl)
  obtain ⟨av6, cv6, rfl⟩ := hB6.len
  rw [mx_mx, List.append_nil] at happ
  have hk6' : ∀ y, y ≤ m.size + 1 → M6.get y = M.get y := fun y hy => by rw [hk6.2 y (by rw [mx_size]; omega) (fun e => by have := h.own y e; omega), mx_old (by omega)]
  have hs6 := hk6.1
  rw [mx_size] at hs6
  have hown : ∀ x, ownV (.slice av6 (d.inputs ++ [s]).length cv6) x → m.size + 1 < x := fun x hx => by
    rcases ho6 x hx with e | e
    · exact h.own x e
    · rw [mx_size] at e; omega
  refine ⟨av6, cv6, M6, happ, by omega, hk6' _ (Nat.le_refl _), ⟨?_, by rw [AMem.size_set]; omega, by rw [AMem.get_set_ne _ _ (by omega), hk6' _ (by omega)]; exact h.box, AMem.get_set_self _ _ _, hown, hB6.keep ((Keep.refl (fun x => x = m.size + 1) M6).set (fun _ => rfl) _) fun x hx e => by have := hown x hx; omega⟩⟩
  exact (show Old m M6 from ⟨by have := h.old.1; omega, fun y hy => by rw [hk6' y (by omega)]; exact h.old.2 y hy⟩).set (by omega) _
def PartsA (b : List UInt8) (m : AMem) (r : Value) (m' : AMem) : Prop := Old m m' ∧ ∃ (d : DrvR) (a : Option Addr) (c : Nat) (ok : Bool), r = .tuple #[.agg (dRow d a c).toArray, .bool ok] ∧ StrR m' a d.inputs ∧ (∀ x o s, a = some ⟨x, o, s⟩ → m.size ≤ x) ∧ getR b = if ok then (d, 0) else (nilD, 150)
theorem parts_ok (m : AMem) (a : Option Addr) (k : Nat) (b : List UInt8) (hb : BSl m a k b) (hl : b.length ≤ 100000) :
    RelC Tryd.prog 3 45 [.slice a b.length k] m fun r m' => PartsA b m r m' := by
  refine rel_of_W (fn := Tryd.f45) rfl rfl F45_ok (by simp [F45]) ?_
  have hfalse : ∀ {M : AMem} {d : DrvR} {v : Value}, StP m M d v → ∀ (c : Nat) (a' : Option Addr), v = .slice a' d.inputs.length c → getR b = (nilD, 150) →
      ∃ w, AEnd.ret (.tuple #[.agg (dRow d a' c).toArray, .bool false]) = .ret w ∧ (m.size ≤ (mx (M.set m.size (.cells (dRow d a' c) 24 true .exact)) []).size → PartsA b m w (mx (M.set m.size (.cells (dRow d a' c) 24 true .exact)) [])) := by
    intro M d v h c a' e hg
    subst e
    refine ⟨_, rfl, fun _ => ⟨(h.old.set (Nat.le_refl _) _).mx [], d, a', c, false, rfl, ?_, (fun x o s e => ?_), hg⟩⟩
    rotate_left
    · subst e
      rcases h.strs with ⟨_, e⟩ | ⟨b', e, _⟩
      · cases e
      · cases e; have := h.own x ⟨_, _, _, rfl⟩; omega
    exact ((h.strs.keep ((Keep.refl (fun x => x = m.size) M).set (fun _ => rfl) _) fun x hx e => by have := h.own x hx; omega).old (Old.here _ [])).row
  have hbm := hb.old (Old.here m [.cells [.string ⟨#[]⟩, .slice none 0 0, .string ⟨#[]⟩] 24 true .exact, .cells [.string ⟨#[]⟩, .slice none 0 0, .string ⟨#[]⟩] 24 true .exact])
  by_cases h4 : (b.length : Int) < 4
  · have hg : getR b = (nilD, 150) := if_neg fun h => by omega
    repeat first | simp (implicitDefEqProofs := false) (maxSteps := 1000000) (disch := first | omega | with_reducible assumption | (simp only [lenT, Nat.reduceAdd]; omega)) only [amT, cut, bnd, Nat.reduceBEq, reduceCtorEq, Nat.reduceEqDiff, Nat.reduceAdd, Nat.reduceMul, Nat.reduceSub, Int.reduceToNat, Int.reduceEq, Int.reduceLT, Int.reduceLE, Int.reduceAdd, Int.reduceSub, Int.reduceMul, reduceIte, resVs, resV, packV, initT, addr, F45, h4, cellsOf_dRow, splice3, cutL3] | refine OrW.go ?_
    exact ⟨_, rfl, fun _ => ⟨Old.here _ _, nilD, none, 0, false, rfl, fun i hi => (by cases hi), (fun x o s h => by cases h), hg⟩⟩
  obtain ⟨a1, c1, q1, q2, -⟩ := hbm.head (openCap_lt (by omega)) (j := 4) (by omega)
  have hst := q2.str
  rw [show (b.take 4).length = 4 by rw [List.length_take]; omega] at hst
  have es := strEq_mk (b.take 4) headB
  simp only [headB] at es
  by_cases hh : b.take 4 = headB
  case neg =>
    have hg : getR b = (nilD, 150) := if_neg fun h => hh h.1
    have es' : strEq ⟨(b.take 4).toArray⟩ ⟨[68, 82, 86, 49].toArray⟩ = false := by rw [es]; exact decide_eq_false hh
    rw [show ((4 : Nat) : Int) = 4 from rfl] at q1
    repeat first | simp (implicitDefEqProofs := false) (maxSteps := 1000000) (disch := first | omega | with_reducible assumption | (simp only [lenT, Nat.reduceAdd]; omega)) only [amT, cut, bnd, Nat.reduceBEq, reduceCtorEq, Nat.reduceEqDiff, Nat.reduceAdd, Nat.reduceMul, Nat.reduceSub, Int.reduceToNat, Int.reduceEq, Int.reduceLT, Int.reduceLE, Int.reduceAdd, Int.reduceSub, Int.reduceMul, reduceIte, resVs, resV, packV, initT, addr, F45, h4, cellsOf_dRow, splice3, cutL3, stepOp_slV_v, q1, stepOp_b2s_v, hst, es'] | refine OrW.go ?_
    exact ⟨_, rfl, fun _ => ⟨Old.here _ _, nilD, none, 0, false, rfl, fun i hi => (by cases hi), (fun x o s h => by cases h), hg⟩⟩
  have es' : strEq ⟨(b.take 4).toArray⟩ ⟨[68, 82, 86, 49].toArray⟩ = true := by rw [es]; exact decide_eq_true hh
  rw [show ((4 : Nat) : Int) = 4 from rfl] at q1
  have hg0 : getR b = if !(partsR (b.drop 4)).2.bad && decide ((partsR (b.drop 4)).2.c.length = 0) && rightR (partsR (b.drop 4)).1 then ((partsR (b.drop 4)).1, 0) else (nilD, 150) := if_pos ⟨hh, by omega⟩
  have kg := DetC.known (refGet_ok (mx m [.cells [.string ⟨#[]⟩, .slice none 0 0, .string ⟨#[]⟩] 24 true .exact, .cells [.string ⟨#[]⟩, .slice none 0 0, .string ⟨#[]⟩] 24 true .exact]) a k b hbm hl 4 (by omega))
  rw [show ((4 : Nat) : Int) = 4 from rfl] at kg
  have hpR : partsR (b.drop 4) = (⟨(textR ⟨b.drop 4, false⟩).1, (readIns (numR (textR ⟨b.drop 4, false⟩).2 2).1 (numR (textR ⟨b.drop 4, false⟩).2 2).2).1, (textR (readIns (numR (textR ⟨b.drop 4, false⟩).2 2).1 (numR (textR ⟨b.drop 4, false⟩).2 2).2).2).1⟩, (textR (readIns (numR (textR ⟨b.drop 4, false⟩).2 2).1 (numR (textR ⟨b.drop 4, false⟩).2 2).2).2).2) := rfl
  cases hb1 : (textR ⟨b.drop 4, false⟩).2.bad with
  | true =>
    have ev : getV b 4 = .tuple #[.string ⟨#[]⟩, .int .i64 0, .bool false] := if_pos hb1
    rw [ev] at kg
    have hg : getR b = (nilD, 150) := getR_bad (by rw [hpR]; exact textR_stay _ (readIns_stay _ (numR_stay _ hb1 2) _))
    repeat first | simp (implicitDefEqProofs := false) (maxSteps := 1000000) (disch := first | omega | with_reducible assumption | (simp only [lenT, Nat.reduceAdd]; omega)) only [amT, cut, bnd, Nat.reduceBEq, reduceCtorEq, Nat.reduceEqDiff, Nat.reduceAdd, Nat.reduceMul, Nat.reduceSub, Int.reduceToNat, Int.reduceEq, Int.reduceLT, Int.reduceLE, Int.reduceAdd, Int.reduceSub, Int.reduceMul, reduceIte, resVs, resV, packV, initT, addr, F45, h4, cellsOf_dRow, splice3, cutL3, stepOp_slV_v, q1, stepOp_b2s_v, hst, es', kg] | refine OrW.go ?_
    exact ⟨_, rfl, fun _ => ⟨Old.here _ _, nilD, none, 0, false, rfl, fun i hi => (by cases hi), (fun x o s h => by cases h), hg⟩⟩
  | false =>
    obtain ⟨t1, t2⟩ := textR_not (by omega) hb1
    have ev : getV b 4 = .tuple #[.string ⟨(textR ⟨b.drop 4, false⟩).1.toArray⟩, .int .i64 ((4 + 4 + (textR ⟨b.drop 4, false⟩).1.length : Nat) : Int), .bool true] := if_neg (by rw [hb1]; simp)
    rw [ev] at kg
    rw [t2] at hpR
    generalize (textR ⟨b.drop 4, false⟩).1 = nm at t1 hpR kg
    generalize hat : 4 + 4 + nm.length = at1 at t1 hpR kg
    rw [numR_at] at hpR
    have e2 : (at1 : Int) + 2 = ((at1 + 2 : Nat) : Int) := by omega
    by_cases h2 : at1 + 2 ≤ b.length
    case neg =>
      have g2 : (b.length : Int) < ((at1 + 2 : Nat) : Int) := by omega
      rw [if_pos (by omega)] at hpR
      have hg : getR b = (nilD, 150) := getR_bad (by rw [hpR]; exact textR_stay _ (readIns_stay _ rfl _))
      repeat first | simp (implicitDefEqProofs := false) (maxSteps := 1000000) (disch := first | omega | with_reducible assumption | (simp only [lenT, Nat.reduceAdd]; omega)) only [amT, cut, bnd, Nat.reduceBEq, reduceCtorEq, Nat.reduceEqDiff, Nat.reduceAdd, Nat.reduceMul, Nat.reduceSub, Int.reduceToNat, Int.reduceEq, Int.reduceLT, Int.reduceLE, Int.reduceAdd, Int.reduceSub, Int.reduceMul, reduceIte, resVs, resV, packV, initT, addr, F45, h4, cellsOf_dRow, splice3, cutL3, stepOp_slV_v, q1, stepOp_b2s_v, hst, es', kg, e2, g2] | refine OrW.go ?_
      exact ⟨_, rfl, fun _ => ⟨Old.here _ _, nilD, none, 0, false, rfl, fun i hi => (by cases hi), (fun x o s h => by cases h), hg⟩⟩
    have g2 : ¬ (b.length : Int) < ((at1 + 2 : Nat) : Int) := by omega
    rw [if_neg (by omega)] at hpR
    have hbm2 := hb.old (Old.here m [.cells [.string ⟨#[]⟩, .slice none 0 0, .string ⟨#[]⟩] 24 true .exact, .cells [.string ⟨nm.toArray⟩, .slice none 0 0, .string ⟨#[]⟩] 24 true .exact])
    obtain ⟨x, o, rfl, r0⟩ := hbm2.get (i := at1) (by omega)
    obtain ⟨x1, o1, e, r1⟩ := hbm2.get (i := at1 + 1) (by omega)
    cases e
    rw [rd_def] at r0 r1
    simp only [byteV] at r0 r1
    have hn := beN2 h2
    have c0 := b[at1].toNat_lt; have c1 := b[at1 + 1].toNat_lt
    generalize b[at1].toNat = n0 at r0 hn c0
    generalize b[at1 + 1].toNat = n1 at r1 hn c1
    have e1 : (at1 : Int) + 1 = ((at1 + 1 : Nat) : Int) := by omega
    have w0 : shl .i64 (n0 : Int) 8 = ((n0 * 256 : Nat) : Int) := num_shl n0 (by omega) 8 (by omega)
    have ws : ((n0 * 256 : Nat) : Int) + (n1 : Int) = (beN ((b.drop at1).take 2) : Int) := by omega
    have hnl : beN ((b.drop at1).take 2) < 65536 := by omega
    generalize beN ((b.drop at1).take 2) = n at hpR hn ws hnl
    repeat first | simp (implicitDefEqProofs := false) (maxSteps := 1000000) (disch := first | omega | with_reducible assumption | (simp only [lenT, Nat.reduceAdd]; omega)) only [amT, cut, bnd, Nat.reduceBEq, reduceCtorEq, Nat.reduceEqDiff, Nat.reduceAdd, Nat.reduceMul, Nat.reduceSub, Int.reduceToNat, Int.reduceEq, Int.reduceLT, Int.reduceLE, Int.reduceAdd, Int.reduceSub, Int.reduceMul, reduceIte, resVs, resV, packV, initT, addr, F45, h4, cellsOf_dRow, splice3, cutL3, stepOp_slV_v, q1, stepOp_b2s_v, hst, es', kg, e2, g2, e1, r0, r1, binV_shl, w0, ws] | refine OrW.go ?_
    have hS0 : StP m (mx m [.cells [.string ⟨#[]⟩, .slice none 0 0, .string ⟨#[]⟩] 24 true .exact, .cells [.string ⟨nm.toArray⟩, .slice none 0 0, .string ⟨#[]⟩] 24 true .exact]) ⟨nm, [], []⟩ (.slice none 0 0) :=
      ⟨Old.here _ _, by rw [mx_size]; simp, mx_new0 _ _, mx_new _ _ 1, fun x ⟨o, l, c, h⟩ => (by cases h), .inl ⟨rfl, rfl⟩⟩
    refine W_loop (fun N qs => ∃ (i : Nat) (M : AMem) (acc : List (List UInt8)) (av : Option Addr) (cv : Nat) (at2 : Nat), N = n - i ∧ qs.ds = [] ∧ qs.m = mx M [] ∧ qs.t 0 = .slice (some ⟨x, o, none⟩) b.length k ∧ qs.t 2 = .pointer (some ⟨m.size, 0, none⟩) ∧ qs.t 4 = .pointer (some ⟨m.size + 1, 0, none⟩) ∧ qs.t 6 = .int .i64 at2 ∧ qs.t 8 = .int .i64 n ∧ qs.t 9 = .int .i64 i ∧ i ≤ n ∧ StP m M ⟨nm, acc, []⟩ (.slice av acc.length cv) ∧ acc.length = i ∧ at2 ≤ b.length ∧ readIns n ⟨b.drop (at1 + 2), false⟩ = (acc ++ (readIns (n - i) ⟨b.drop at2, false⟩).1, (readIns (n - i) ⟨b.drop at2, false⟩).2)) (n - (0)) ⟨0, mx m [.cells [.string ⟨#[]⟩, .slice none 0 0, .string ⟨#[]⟩] 24 true .exact, .cells [.string ⟨nm.toArray⟩, .slice none 0 0, .string ⟨#[]⟩] 24 true .exact], [], none, 0, at1 + 2, rfl, rfl, ?qm, ?q0, ?q2, ?q4, ?q6, ?q8, ?q9, ?_⟩ ?_
    case qm | q0 | q2 | q4 | q6 | q8 | q9 => first | rfl | (simp (implicitDefEqProofs := false) (maxSteps := 1000000) (disch := first | omega | with_reducible assumption | (simp only [lenT, Nat.reduceAdd]; omega)) only [amT, cut, bnd, Nat.reduceBEq, reduceCtorEq, Nat.reduceEqDiff, Nat.reduceAdd, Nat.reduceMul, Nat.reduceSub, Int.reduceToNat, Int.reduceEq, Int.reduceLT, Int.reduceLE, Int.reduceAdd, Int.reduceSub, Int.reduceMul, reduceIte, resVs, resV, packV, initT, addr, mx_mx, List.append_nil]; first | done | rfl | (congr 1; omega))
    · exact ⟨by omega, hS0, rfl, by omega, rfl⟩
    · rintro N t m1 ds ⟨i, M, acc, av, cv, at2, rfl, hds, hm, t0, t2, t4, t6, t8, t9, hp⟩
      simp only at hds hm t0 t2 t4 t6 t8 t9
      subst hds; replace hm := hm.symm; subst hm
      obtain ⟨hi, hS, hal, ha2, hri⟩ := hp
      have hsb := hS.box; have hsa := hS.at_; have hsl := hS.lt
      simp only at hsa
      have kg2 := DetC.known (refGet_ok (mx M []) (some ⟨x, o, none⟩) k b (hb.old (hS.old.mx [])) hl at2 ha2)
      by_cases gi : (i : Int) < (n : Int)
      · rw [show n - i = (n - i - 1) + 1 by omega] at hri
        have hsx : readIns (n - i - 1 + 1) ⟨b.drop at2, false⟩ = ((textR ⟨b.drop at2, false⟩).1 :: (readIns (n - i - 1) (textR ⟨b.drop at2, false⟩).2).1, (readIns (n - i - 1) (textR ⟨b.drop at2, false⟩).2).2) := by simp [readIns]
        rw [hsx] at hri
        cases hb2 : (textR ⟨b.drop at2, false⟩).2.bad with
        | true =>
          have ev2 : getV b at2 = .tuple #[.string ⟨#[]⟩, .int .i64 0, .bool false] := if_pos hb2
          rw [ev2] at kg2
          have hg : getR b = (nilD, 150) := getR_bad (by rw [hpR, hri]; exact textR_stay _ (readIns_stay _ hb2 _))
          repeat first | simp (implicitDefEqProofs := false) (maxSteps := 1000000) (disch := first | omega | with_reducible assumption | (simp only [lenT, Nat.reduceAdd]; omega)) only [amT, cut, bnd, Nat.reduceBEq, reduceCtorEq, Nat.reduceEqDiff, Nat.reduceAdd, Nat.reduceMul, Nat.reduceSub, Int.reduceToNat, Int.reduceEq, Int.reduceLT, Int.reduceLE, Int.reduceAdd, Int.reduceSub, Int.reduceMul, reduceIte, resVs, resV, packV, initT, addr, F45_l0, t0, t2, t4, t6, t8, t9, gi, kg2, hsb, hsa, cellsOf_dRow, splice3, cutL3] | refine OrW.go ?_
          exact hfalse hS cv av rfl hg
        | false =>
          obtain ⟨u3, u4⟩ := textR_not ha2 hb2
          have ev2 : getV b at2 = .tuple #[.string ⟨(textR ⟨b.drop at2, false⟩).1.toArray⟩, .int .i64 ((at2 + 4 + (textR ⟨b.drop at2, false⟩).1.length : Nat) : Int), .bool true] := if_neg (by rw [hb2]; simp)
          rw [ev2] at kg2
          rw [u4] at hri
          generalize (textR ⟨b.drop at2, false⟩).1 = s at u3 hri kg2
          obtain ⟨a', k', M', happ, z1, z2, hS'⟩ := hS.app (by show acc.length ≤ _; omega) s
          simp only at happ z2 hS'
          rw [hsa] at z2
          repeat first | simp (implicitDefEqProofs := false) (maxSteps := 1000000) (disch := first | omega | with_reducible assumption | (simp only [lenT, Nat.reduceAdd]; omega)) only [amT, cut, bnd, Nat.reduceBEq, reduceCtorEq, Nat.reduceEqDiff, Nat.reduceAdd, Nat.reduceMul, Nat.reduceSub, Int.reduceToNat, Int.reduceEq, Int.reduceLT, Int.reduceLE, Int.reduceAdd, Int.reduceSub, Int.reduceMul, reduceIte, resVs, resV, packV, initT, addr, F45_l0, t0, t2, t4, t6, t8, t9, gi, kg2, hsb, hsa, cellsOf_dRow, splice3, cutL3, stepOp_app_v, happ, z2] | refine OrW.go ?_
          rw [LoopK_normal]; refine ⟨_, ?_, i + 1, M'.set (m.size + 1) (.cells [.string ⟨nm.toArray⟩, .slice a' (acc ++ [s]).length k', .string ⟨#[]⟩] 24 true .exact), acc ++ [s], a', k', at2 + 4 + s.length, rfl, rfl, ?qm, ?q0, ?q2, ?q4, ?q6, ?q8, ?q9, ?_⟩
          case qm | q0 | q2 | q4 | q6 | q8 | q9 => first | rfl | (simp (implicitDefEqProofs := false) (maxSteps := 1000000) (disch := first | omega | with_reducible assumption | (simp only [lenT, Nat.reduceAdd]; omega)) only [amT, cut, bnd, Nat.reduceBEq, reduceCtorEq, Nat.reduceEqDiff, Nat.reduceAdd, Nat.reduceMul, Nat.reduceSub, Int.reduceToNat, Int.reduceEq, Int.reduceLT, Int.reduceLE, Int.reduceAdd, Int.reduceSub, Int.reduceMul, reduceIte, resVs, resV, packV, initT, addr, t0, t2, t4, t6, t8, t9]; first | done | rfl | (congr 1; omega))
          · omega
          · refine ⟨by omega, hS', by simp; omega, u3, ?_⟩
            rw [hri, show n - (i + 1) = n - i - 1 by omega]; simp
      · obtain rfl : i = n := by omega
        rw [Nat.sub_self] at hri
        have hri : readIns i ⟨b.drop (at1 + 2), false⟩ = (acc, ⟨b.drop at2, false⟩) := by rw [hri]; simp [readIns]
        rw [hri] at hpR
        simp only at hpR
        cases hb2 : (textR ⟨b.drop at2, false⟩).2.bad with
        | true =>
          have ev2 : getV b at2 = .tuple #[.string ⟨#[]⟩, .int .i64 0, .bool false] := if_pos hb2
          rw [ev2] at kg2
          have hg : getR b = (nilD, 150) := getR_bad (by rw [hpR]; exact hb2)
          have hS' := hS.set ⟨nm, acc, []⟩ rfl
          repeat first | simp (implicitDefEqProofs := false) (maxSteps := 1000000) (disch := first | omega | with_reducible assumption | (simp only [lenT, Nat.reduceAdd]; omega)) only [amT, cut, bnd, Nat.reduceBEq, reduceCtorEq, Nat.reduceEqDiff, Nat.reduceAdd, Nat.reduceMul, Nat.reduceSub, Int.reduceToNat, Int.reduceEq, Int.reduceLT, Int.reduceLE, Int.reduceAdd, Int.reduceSub, Int.reduceMul, reduceIte, resVs, resV, packV, initT, addr, F45_l0, t0, t2, t4, t6, t8, t9, gi, kg2, hsb, hsa, cellsOf_dRow, splice3, cutL3, undef] | refine OrW.go ?_
          exact hfalse hS' cv av rfl hg
        | false =>
          obtain ⟨u3, u4⟩ := textR_not ha2 hb2
          have ev2 : getV b at2 = .tuple #[.string ⟨(textR ⟨b.drop at2, false⟩).1.toArray⟩, .int .i64 ((at2 + 4 + (textR ⟨b.drop at2, false⟩).1.length : Nat) : Int), .bool true] := if_neg (by rw [hb2]; simp)
          rw [ev2] at kg2
          rw [u4] at hpR
          generalize (textR ⟨b.drop at2, false⟩).1 = s at u3 hpR kg2
          have hS' := hS.set ⟨nm, acc, s⟩ rfl
          by_cases ge : ((at2 + 4 + s.length : Nat) : Int) = (b.length : Int)
          · have hc : (b.drop (at2 + 4 + s.length)).length = 0 := by rw [List.length_drop]; omega
            have hil := readIns_len i ⟨b.drop (at1 + 2), false⟩
            rw [hri] at hil
            simp only [List.length_drop] at hil
            have hdok : (⟨nm, acc, s⟩ : DrvR).ok := ⟨by show nm.length ≤ _; omega, fun x hx => by have := hil.2.2 x hx; omega, by show acc.length ≤ _; omega, by show s.length ≤ _; omega⟩
            have k17 := DetC.known (refRight_ok (mx (M.set (m.size + 1) (.cells [.string ⟨nm.toArray⟩, .slice av acc.length cv, .string ⟨s.toArray⟩] 24 true .exact)) []) ⟨nm, acc, s⟩ av cv hdok (hS'.strs.row.old (Old.here _ [])))
            simp only [dRow] at k17
            cases hrr : rightR ⟨nm, acc, s⟩ with
            | true =>
              rw [hrr] at k17
              have hg : getR b = (⟨nm, acc, s⟩, 0) := by rw [hg0, hpR]; simp only [hrr, hc]; rfl
              repeat first | simp (implicitDefEqProofs := false) (maxSteps := 1000000) (disch := first | omega | with_reducible assumption | (simp only [lenT, Nat.reduceAdd]; omega)) only [amT, cut, bnd, Nat.reduceBEq, reduceCtorEq, Nat.reduceEqDiff, Nat.reduceAdd, Nat.reduceMul, Nat.reduceSub, Int.reduceToNat, Int.reduceEq, Int.reduceLT, Int.reduceLE, Int.reduceAdd, Int.reduceSub, Int.reduceMul, reduceIte, resVs, resV, packV, initT, addr, F45_l0, t0, t2, t4, t6, t8, t9, gi, kg2, hsb, hsa, cellsOf_dRow, splice3, cutL3, ge, k17] | refine OrW.go ?_
              exact ⟨_, rfl, fun _ => ⟨(hS'.old.set (Nat.le_refl _) _).mx [], ⟨nm, acc, s⟩, av, cv, true, rfl, ((hS'.strs.keep ((Keep.refl (fun x => x = m.size) _).set (fun _ => rfl) _) fun x hx e => by have := hS'.own x hx; omega).old (Old.here _ [])).row, (fun x o q e => (by
                subst e
                rcases hS'.strs with ⟨_, e⟩ | ⟨b', e, _⟩
                · cases e
                · cases e; have := hS'.own x ⟨_, _, _, rfl⟩; omega)), hg⟩⟩
            | false =>
              rw [hrr] at k17
              have hg : getR b = (nilD, 150) := by rw [hg0, hpR]; simp only [hrr]; simp
              repeat first | simp (implicitDefEqProofs := false) (maxSteps := 1000000) (disch := first | omega | with_reducible assumption | (simp only [lenT, Nat.reduceAdd]; omega)) only [amT, cut, bnd, Nat.reduceBEq, reduceCtorEq, Nat.reduceEqDiff, Nat.reduceAdd, Nat.reduceMul, Nat.reduceSub, Int.reduceToNat, Int.reduceEq, Int.reduceLT, Int.reduceLE, Int.reduceAdd, Int.reduceSub, Int.reduceMul, reduceIte, resVs, resV, packV, initT, addr, F45_l0, t0, t2, t4, t6, t8, t9, gi, kg2, hsb, hsa, cellsOf_dRow, splice3, cutL3, ge, k17] | refine OrW.go ?_
              exact hfalse hS' cv av rfl hg
          · have hc : ¬ (b.drop (at2 + 4 + s.length)).length = 0 := by rw [List.length_drop]; omega
            have hg : getR b = (nilD, 150) := by rw [hg0, hpR]; simp only [hc]; simp
            repeat first | simp (implicitDefEqProofs := false) (maxSteps := 1000000) (disch := first | omega | with_reducible assumption | (simp only [lenT, Nat.reduceAdd]; omega)) only [amT, cut, bnd, Nat.reduceBEq, reduceCtorEq, Nat.reduceEqDiff, Nat.reduceAdd, Nat.reduceMul, Nat.reduceSub, Int.reduceToNat, Int.reduceEq, Int.reduceLT, Int.reduceLE, Int.reduceAdd, Int.reduceSub, Int.reduceMul, reduceIte, resVs, resV, packV, initT, addr, F45_l0, t0, t2, t4, t6, t8, t9, gi, kg2, hsb, hsa, cellsOf_dRow, splice3, cutL3, ge, undef] | refine OrW.go ?_
            exact hfalse hS' cv av rfl hg
end Go.Proofs.YtgkmlbkocgjmmaaDoor
namespace Go.Proofs.YtgkmlbkocgjmmaaDoor
open Go Go.AM
set_option linter.unusedVariables false
set_option linter.unusedSimpArgs false
set_option maxHeartbeats 2000000
set_option maxRecDepth 100000

theorem refGetD_ok (m : AMem) (a : Option Addr) (k : Nat) (b : List UInt8) (hb : BSl m a k b) (hl : b.length ≤ 100000) :
    RelC Tryd.prog 3 19 [.slice a b.length k] m fun r m' => Old m m' ∧ ∃ a' k', r = .tuple #[.agg (dRow (getR b).1 a' k').toArray, .int .i64 (getR b).2] ∧ StrR m' a' (getR b).1.inputs := by
  refine rel_of_W (fn := Tryd.f19) rfl rfl F19_ok (by simp [F19]) ?_
  have hp := parts_ok (mx m [.cells [.string ⟨#[]⟩, .slice none 0 0, .string ⟨#[]⟩] 24 true .exact]) a k b (hb.old (Old.here _ _)) hl
  repeat first | simp (implicitDefEqProofs := false) (maxSteps := 1000000) (disch := first | omega | with_reducible assumption | (simp only [lenT, Nat.reduceAdd]; omega)) only [amT, cut, bnd, Nat.reduceBEq, reduceCtorEq, Nat.reduceEqDiff, Nat.reduceAdd, Nat.reduceMul, Nat.reduceSub, Int.reduceToNat, Int.reduceEq, Int.reduceLT, Int.reduceLE, Int.reduceAdd, Int.reduceSub, Int.reduceMul, reduceIte, resVs, resV, packV, initT, addr, F19] | refine OrW.go ?_
  refine RelC.call hp ?_
  rintro r M1 ⟨hO, d, da, dc, ok, rfl, hS, hap, hg⟩
  have hOm : Old m M1 := (Old.here m _).trans hO
  have hz := hO.1
  rw [mx_size] at hz
  simp only [List.length_cons, List.length_nil, Nat.zero_add] at hz
  have hbx : M1.get m.size = .cells [.string ⟨#[]⟩, .slice none 0 0, .string ⟨#[]⟩] 24 true .exact := by rw [hO.2 _ (by rw [mx_size]; simp)]; exact mx_new0 _ _
  cases ok with
  | false =>
    simp only [Bool.false_eq_true, if_false] at hg
    rw [hg]
    repeat first | simp (implicitDefEqProofs := false) (maxSteps := 1000000) (disch := first | omega | with_reducible assumption | (simp only [lenT, Nat.reduceAdd]; omega)) only [amT, cut, bnd, Nat.reduceBEq, reduceCtorEq, Nat.reduceEqDiff, Nat.reduceAdd, Nat.reduceMul, Nat.reduceSub, Int.reduceToNat, Int.reduceEq, Int.reduceLT, Int.reduceLE, Int.reduceAdd, Int.reduceSub, Int.reduceMul, reduceIte, resVs, resV, packV, initT, addr, dRow, cellsOf_dRow, splice3, cutL3, hbx] | refine OrW.go ?_
    exact ⟨_, rfl, fun _ => ⟨(hOm.set (Nat.le_refl _) _).mx _, none, 0, rfl, fun i hi => by simp [nilD] at hi⟩⟩
  | true =>
    simp only [if_true] at hg
    rw [hg]
    have hS2 : StrR (M1.set m.size (.cells (dRow d da dc) 24 true .exact)) da d.inputs := fun i hi => by
      obtain ⟨b', o', e1, e2, e3⟩ := hS i hi
      have hne : b' ≠ m.size := by
        have := hap _ _ _ e1
        rw [mx_size] at this
        simp only [List.length_cons, List.length_nil] at this
        omega
      exact ⟨b', o', e1, by rw [AMem.size_set]; exact e2, by rw [AMem.get_set_ne _ _ hne]; exact e3⟩
    repeat first | simp (implicitDefEqProofs := false) (maxSteps := 1000000) (disch := first | omega | with_reducible assumption | (simp only [lenT, Nat.reduceAdd]; omega)) only [amT, cut, bnd, Nat.reduceBEq, reduceCtorEq, Nat.reduceEqDiff, Nat.reduceAdd, Nat.reduceMul, Nat.reduceSub, Int.reduceToNat, Int.reduceEq, Int.reduceLT, Int.reduceLE, Int.reduceAdd, Int.reduceSub, Int.reduceMul, reduceIte, resVs, resV, packV, initT, addr, dRow, cellsOf_dRow, splice3, cutL3, hbx] | refine OrW.go ?_
    exact ⟨_, rfl, fun _ => ⟨(hOm.set (Nat.le_refl _) _).mx _, da, dc, rfl, hS2.old (Old.here _ _)⟩⟩
theorem sameTexts_ok (m : AMem) (a1 : Option Addr) (c1 : Nat) (a2 : Option Addr) (c2 : Nat) (l : List (List UInt8)) (h1 : StrR m a1 l) (h2 : StrR m a2 l) (hl : l.length ≤ 9223372036854775807) :
    PureC Tryd.prog 3 46 [.slice a1 l.length c1, .slice a2 l.length c2] m (.bool true) := by
  refine pure_of_W (fn := Tryd.f46) rfl rfl F46_ok (by simp [F46]) (.bool _) ?_
  repeat first | simp (implicitDefEqProofs := false) (maxSteps := 1000000) (disch := first | omega | with_reducible assumption | (simp only [lenT, Nat.reduceAdd]; omega)) only [amT, cut, bnd, Nat.reduceBEq, reduceCtorEq, Nat.reduceEqDiff, Nat.reduceAdd, Nat.reduceMul, Nat.reduceSub, Int.reduceToNat, Int.reduceEq, Int.reduceLT, Int.reduceLE, Int.reduceAdd, Int.reduceSub, Int.reduceMul, reduceIte, resVs, resV, packV, initT, addr, F46] | refine OrW.go ?_
  refine W_loop (fun N qs => ∃ (i : Nat), N = l.length - i ∧ qs.ds = [] ∧ qs.m = mx m [] ∧ qs.t 0 = .slice a1 l.length c1 ∧ qs.t 1 = .slice a2 l.length c2 ∧ qs.t 5 = .int .i64 i ∧ i ≤ l.length) (l.length - (0)) ⟨0, rfl, rfl, ?qm, ?q0, ?q1, ?q5, ?_⟩ ?_
  case qm | q0 | q1 | q5 => first | rfl | (simp (implicitDefEqProofs := false) (maxSteps := 1000000) (disch := first | omega | with_reducible assumption | (simp only [lenT, Nat.reduceAdd]; omega)) only [amT, cut, bnd, Nat.reduceBEq, reduceCtorEq, Nat.reduceEqDiff, Nat.reduceAdd, Nat.reduceMul, Nat.reduceSub, Int.reduceToNat, Int.reduceEq, Int.reduceLT, Int.reduceLE, Int.reduceAdd, Int.reduceSub, Int.reduceMul, reduceIte, resVs, resV, packV, initT, addr]; first | done | rfl | (congr 1; omega))
  · omega
  · rintro N t m1 ds ⟨i, rfl, hds, hm, t0, t1, t5, hp⟩
    simp only at hds hm t0 t1 t5
    subst hds; replace hm := hm.symm; subst hm
    by_cases g : (i : Int) < (l.length : Int)
    · have hi : i < l.length := by omega
      obtain ⟨b1, o1, rfl, hb1, r1⟩ := h1 i hi
      obtain ⟨b2, o2, rfl, hb2, r2⟩ := h2 i hi
      repeat first | simp (implicitDefEqProofs := false) (maxSteps := 1000000) (disch := first | omega | with_reducible assumption | (simp only [lenT, Nat.reduceAdd]; omega)) only [amT, cut, bnd, Nat.reduceBEq, reduceCtorEq, Nat.reduceEqDiff, Nat.reduceAdd, Nat.reduceMul, Nat.reduceSub, Int.reduceToNat, Int.reduceEq, Int.reduceLT, Int.reduceLE, Int.reduceAdd, Int.reduceSub, Int.reduceMul, reduceIte, resVs, resV, packV, initT, addr, F46_l0, t0, t1, t5, g, r1, r2] | refine OrW.go ?_
      rw [LoopK_normal]; refine ⟨_, ?_, i + 1, rfl, rfl, ?qm, ?q0, ?q1, ?q5, ?_⟩
      case qm | q0 | q1 | q5 => first | rfl | (simp (implicitDefEqProofs := false) (maxSteps := 1000000) (disch := first | omega | with_reducible assumption | (simp only [lenT, Nat.reduceAdd]; omega)) only [amT, cut, bnd, Nat.reduceBEq, reduceCtorEq, Nat.reduceEqDiff, Nat.reduceAdd, Nat.reduceMul, Nat.reduceSub, Int.reduceToNat, Int.reduceEq, Int.reduceLT, Int.reduceLE, Int.reduceAdd, Int.reduceSub, Int.reduceMul, reduceIte, resVs, resV, packV, initT, addr, t0, t1, t5]; first | done | rfl | (congr 1; omega))
      · omega
      · omega
    · repeat first | simp (implicitDefEqProofs := false) (maxSteps := 1000000) (disch := first | omega | with_reducible assumption | (simp only [lenT, Nat.reduceAdd]; omega)) only [amT, cut, bnd, Nat.reduceBEq, reduceCtorEq, Nat.reduceEqDiff, Nat.reduceAdd, Nat.reduceMul, Nat.reduceSub, Int.reduceToNat, Int.reduceEq, Int.reduceLT, Int.reduceLE, Int.reduceAdd, Int.reduceSub, Int.reduceMul, reduceIte, resVs, resV, packV, initT, addr, F46_l0, t0, t1, t5, g] | refine OrW.go ?_
theorem same_ok (m : AMem) (d : DrvR) (a1 : Option Addr) (c1 : Nat) (a2 : Option Addr) (c2 : Nat) (h1 : StrR m a1 d.inputs) (h2 : StrR m a2 d.inputs) (hl : d.inputs.length ≤ 9223372036854775807) :
    PureC Tryd.prog 3 20 [.agg (dRow d a1 c1).toArray, .agg (dRow d a2 c2).toArray] m (.bool true) := by
  refine pure_of_W (fn := Tryd.f20) rfl rfl F20_ok (by simp [F20]) (.bool _) ?_
  have k := DetC.known (sameTexts_ok (mx m [.cells (dRow d a1 c1) 24 true .exact, .cells (dRow d a2 c2) 24 true .exact]) a1 c1 a2 c2 d.inputs (h1.old (Old.here _ _)) (h2.old (Old.here _ _)) hl)
  simp only [dRow] at k
  repeat first | simp (implicitDefEqProofs := false) (maxSteps := 1000000) (disch := first | omega | with_reducible assumption | (simp only [lenT, Nat.reduceAdd]; omega)) only [amT, cut, bnd, Nat.reduceBEq, reduceCtorEq, Nat.reduceEqDiff, Nat.reduceAdd, Nat.reduceMul, Nat.reduceSub, Int.reduceToNat, Int.reduceEq, Int.reduceLT, Int.reduceLE, Int.reduceAdd, Int.reduceSub, Int.reduceMul, reduceIte, resVs, resV, packV, initT, addr, F20, dRow, cellsOf_dRow, k] | refine OrW.go ?_
end Go.Proofs.YtgkmlbkocgjmmaaDoor
namespace Go.Proofs.YtgkmlbkocgjmmaaDoor
open Go Go.AM
set_option linter.unusedVariables false
set_option linter.unusedSimpArgs false
set_option maxHeartbeats 2000000
set_option maxRecDepth 100000

theorem BSl.room {M : AMem} {b : Nat} {c : List UInt8} {e : TypeId} {w : Bool} (hb : b < M.size) (hm : M.get b = .cells (c.map byteV) e w (.room [.int .u8 0])) : BSl M (some ⟨b, 0, none⟩) openCap c :=
  .inr ⟨b, 0, _, e, w, _, rfl, hb, hm, by rw [← List.length_map (f := byteV)]; exact cutL_all rfl, .inl ⟨rfl, rfl⟩⟩
theorem getR_len (b : List UInt8) (hl : b.length ≤ 100000) : (getR b).1.inputs.length ≤ 100000 := by
  unfold getR
  split
  · split
    · rename_i h
      simp only [Bool.and_eq_true] at h
      have := (right_few h.2).2.1
      show (partsR _).1.inputs.length ≤ _; omega
    · simp [nilD]
  · simp [nilD]
/-- A row of texts lies in no block of bytes. -/
theorem StrR.apart {M M' : AMem} {a : Option Addr} {l : List (List UInt8)} (h : StrR M a l) {p : Nat} {X : List Value} {e : TypeId} {w : Bool} {sp : Spare} (hp : M.get p = .cells X e w sp) (hX : ∀ v ∈ X, ∃ n, v = .int .u8 n) (hs : M.size ≤ M'.size) (hk : ∀ y, y < M.size → y ≠ p → M'.get y = M.get y) : StrR M' a l := fun i hi => by
  obtain ⟨b, o, h1, h2, h3⟩ := h i hi
  refine ⟨b, o, h1, Nat.lt_of_lt_of_le h2 hs, ?_⟩
  rw [hk b h2]
  · exact h3
  · rintro rfl
    rw [hp, rdO_cells] at h3
    unfold cutL at h3
    split at h3
    · have h4 := Option.some.inj h3
      have : Value.string ⟨l[i].toArray⟩ ∈ X := List.drop_subset _ _ (List.take_subset 1 _ (by rw [h4]; simp))
      obtain ⟨n, hn⟩ := hX _ this
      cases hn
    · cases h3
theorem lawGet (m : AMem) (hg : S.Glob m) (a : Option Addr) (k : Nat) (b : List UInt8) (hb : BSl m a k b) (hbl : b.length ≤ 9223372036854775807) :
    PureC Tryd.prog 3 4 [.slice a b.length k] m (.bool true) := by
  refine pure_of_W (fn := Tryd.f4) rfl rfl F4_ok (by simp [F4]) (.bool _) ?_
  have kw := kWorks hg []
  by_cases h : (3000 : Int) < (b.length : Int)
  · repeat first | simp (implicitDefEqProofs := false) (maxSteps := 1000000) (disch := first | omega | with_reducible assumption | (simp only [lenT, Nat.reduceAdd]; omega)) only [amT, cut, bnd, Nat.reduceBEq, reduceCtorEq, Nat.reduceEqDiff, Nat.reduceAdd, Nat.reduceMul, Nat.reduceSub, Int.reduceToNat, Int.reduceEq, Int.reduceLT, Int.reduceLE, Int.reduceAdd, Int.reduceSub, Int.reduceMul, reduceIte, resVs, resV, packV, initT, addr, F4, h, kw] | refine OrW.go ?_
  have hl : b.length ≤ 3000 := by omega
  have s0 := (hb.old (Old.here m [])).str
  have hown0 : BSl (mx m [.cells (b.map byteV) 5 true (.room [.int .u8 0])]) (some ⟨m.size, 0, none⟩) openCap b := BSl.room (by rw [mx_size]; simp) (mx_new0 _ _)
  have hG := get_ok (mx m [.cells (b.map byteV) 5 true (.room [.int .u8 0])]) _ _ b hown0 (by omega)
  repeat first | simp (implicitDefEqProofs := false) (maxSteps := 1000000) (disch := first | omega | with_reducible assumption | (simp only [lenT, Nat.reduceAdd]; omega)) only [amT, cut, bnd, Nat.reduceBEq, reduceCtorEq, Nat.reduceEqDiff, Nat.reduceAdd, Nat.reduceMul, Nat.reduceSub, Int.reduceToNat, Int.reduceEq, Int.reduceLT, Int.reduceLE, Int.reduceAdd, Int.reduceSub, Int.reduceMul, reduceIte, resVs, resV, packV, initT, addr, F4, h, stepOp_b2s_v, s0] | refine OrW.go ?_
  refine RelC.call hG ?_
  rintro r M1 ⟨hO1, a1, k1, rfl, hS1⟩
  have hz1 := hO1.1
  rw [mx_size] at hz1
  simp only [List.length_cons, List.length_nil, Nat.zero_add] at hz1
  have hOm1 : Old m M1 := (Old.here m _).trans hO1
  have hp1 : M1.get m.size = .cells (b.map byteV) 5 true (.room [.int .u8 0]) := by rw [hO1.2 _ (by rw [mx_size]; simp)]; exact mx_new0 _ _
  have hgl := getR_len b (by omega)
  have hG2 := refGetD_ok (mx M1 [.cells (dRow (getR b).1 a1 k1) 24 true .exact]) a k b (hb.old (hOm1.mx _)) (by omega)
  simp only [dRow] at hG2
  repeat first | simp (implicitDefEqProofs := false) (maxSteps := 1000000) (disch := first | omega | with_reducible assumption | (simp only [lenT, Nat.reduceAdd]; omega)) only [amT, cut, bnd, Nat.reduceBEq, reduceCtorEq, Nat.reduceEqDiff, Nat.reduceAdd, Nat.reduceMul, Nat.reduceSub, Int.reduceToNat, Int.reduceEq, Int.reduceLT, Int.reduceLE, Int.reduceAdd, Int.reduceSub, Int.reduceMul, reduceIte, resVs, resV, packV, initT, addr, dRow, cellsOf_dRow, splice3, cutL3] | refine OrW.go ?_
  refine RelC.call hG2 ?_
  rintro r M2 ⟨hO2, a2, k2, rfl, hS2⟩
  have hz2 := hO2.1
  rw [mx_size] at hz2
  simp only [List.length_cons, List.length_nil, Nat.zero_add] at hz2
  have hO12 : Old M1 M2 := (Old.here M1 _).trans hO2
  have hp2 : M2.get m.size = .cells (b.map byteV) 5 true (.room [.int .u8 0]) := by rw [hO12.2 _ (by omega)]; exact hp1
  have hc2 : M2.get M1.size = .cells (dRow (getR b).1 a1 k1) 24 true .exact := by rw [hO2.2 _ (by rw [mx_size]; simp)]; exact mx_new0 _ _
  have hS12 := hS1.old hO12
  generalize getR b = R at *
  obtain ⟨d, e⟩ := R
  simp only at hc2 hS12 hS1 hS2 hgl
  have ks := DetC.known (same_ok (mx M2 [.cells (dRow d a2 k2) 24 true .exact]) d a1 k1 a2 k2 (hS12.old (Old.here _ _)) (hS2.old (Old.here _ _)) (by omega))
  have hown2 : BSl (mx M2 [.cells (dRow d a2 k2) 24 true .exact]) (some ⟨m.size, 0, none⟩) openCap b := (BSl.room (by omega) hp2).old (Old.here _ _)
  have s1 := hown2.str
  have s2 := (hb.old ((hOm1.trans hO12).mx [.cells (dRow d a2 k2) 24 true .exact])).str
  simp only [dRow] at ks s1 s2 hc2
  repeat first | simp (implicitDefEqProofs := false) (maxSteps := 1000000) (disch := first | omega | with_reducible assumption | (simp only [lenT, Nat.reduceAdd]; omega)) only [amT, cut, bnd, Nat.reduceBEq, reduceCtorEq, Nat.reduceEqDiff, Nat.reduceAdd, Nat.reduceMul, Nat.reduceSub, Int.reduceToNat, Int.reduceEq, Int.reduceLT, Int.reduceLE, Int.reduceAdd, Int.reduceSub, Int.reduceMul, reduceIte, resVs, resV, packV, initT, addr, dRow, cellsOf_dRow, splice3, cutL3, hc2, ks, stepOp_b2s_v, s1, s2] | refine OrW.go ?_
  refine W_loop (fun N qs => ∃ (i : Nat) (M : AMem) (X : List Value), N = b.length - i ∧ qs.ds = [] ∧ qs.m = mx M [] ∧ qs.t 3 = .slice (some ⟨m.size, 0, none⟩) b.length openCap ∧ qs.t 4 = .pointer (some ⟨M1.size, 0, none⟩) ∧ qs.t 6 = .pointer (some ⟨M2.size, 0, none⟩) ∧ qs.t 8 = .int .i64 i ∧ i ≤ b.length ∧ X.length = b.length ∧ (∀ v ∈ X, ∃ n, v = .int .u8 n) ∧ M.size = M2.size + 1 ∧ M.get m.size = .cells X 5 true (.room [.int .u8 0]) ∧ ∀ y, y ≠ m.size → M.get y = (mx M2 [.cells [.string ⟨d.name.toArray⟩, .slice a2 d.inputs.length k2, .string ⟨d.recipe.toArray⟩] 24 true .exact]).get y) (b.length - (0)) ⟨0, mx M2 [.cells [.string ⟨d.name.toArray⟩, .slice a2 d.inputs.length k2, .string ⟨d.recipe.toArray⟩] 24 true .exact], b.map byteV, rfl, rfl, ?qm, ?q3, ?q4, ?q6, ?q8, ?_⟩ ?_
  case qm | q3 | q4 | q6 | q8 => first | rfl | (simp (implicitDefEqProofs := false) (maxSteps := 1000000) (disch := first | omega | with_reducible assumption | (simp only [lenT, Nat.reduceAdd]; omega)) only [amT, cut, bnd, Nat.reduceBEq, reduceCtorEq, Nat.reduceEqDiff, Nat.reduceAdd, Nat.reduceMul, Nat.reduceSub, Int.reduceToNat, Int.reduceEq, Int.reduceLT, Int.reduceLE, Int.reduceAdd, Int.reduceSub, Int.reduceMul, reduceIte, resVs, resV, packV, initT, addr, mx_mx, List.append_nil]; first | done | rfl | (congr 1; omega))
  · refine ⟨by omega, by simp, fun v hv => ?_, by rw [mx_size]; rfl, by rw [mx_old (by omega)]; exact hp2, fun y _ => rfl⟩
    simp only [List.mem_map] at hv; obtain ⟨y, _, rfl⟩ := hv; exact ⟨_, rfl⟩
  · rintro N t m1 ds ⟨i, M, X, rfl, hds, hm, t3, t4, t6, t8, hp⟩
    simp only at hds hm t3 t4 t6 t8
    subst hds; replace hm := hm.symm; subst hm
    obtain ⟨hi, hXl, hX, hMs, hMp, hMk⟩ := hp
    by_cases g : (i : Int) < (b.length : Int)
    · have hi' : i < X.length := by omega
      obtain ⟨n, hn⟩ := hX _ (List.getElem_mem hi')
      have hc : cutL X i 1 = some [.int .u8 n] := cut_one (by rw [List.getElem?_eq_getElem hi', hn])
      have hpl : m.size < M.size := by omega
      repeat first | simp (implicitDefEqProofs := false) (maxSteps := 1000000) (disch := first | omega | with_reducible assumption | (simp only [lenT, Nat.reduceAdd]; omega)) only [amT, cut, bnd, Nat.reduceBEq, reduceCtorEq, Nat.reduceEqDiff, Nat.reduceAdd, Nat.reduceMul, Nat.reduceSub, Int.reduceToNat, Int.reduceEq, Int.reduceLT, Int.reduceLE, Int.reduceAdd, Int.reduceSub, Int.reduceMul, reduceIte, resVs, resV, packV, initT, addr, F4_l0, t3, t4, t6, t8, g, hMp, hc] | refine OrW.go ?_
      rw [LoopK_normal]; refine ⟨_, ?_, i + 1, M.set m.size (.cells (X.set i (.int .u8 (IntKind.u8.wrap (n + 1)))) 5 true (.room [.int .u8 0])), X.set i (.int .u8 (IntKind.u8.wrap (n + 1))), rfl, rfl, ?qm, ?q3, ?q4, ?q6, ?q8, ?_⟩
      case qm | q3 | q4 | q6 | q8 => first | rfl | (simp (implicitDefEqProofs := false) (maxSteps := 1000000) (disch := first | omega | with_reducible assumption | (simp only [lenT, Nat.reduceAdd]; omega)) only [amT, cut, bnd, Nat.reduceBEq, reduceCtorEq, Nat.reduceEqDiff, Nat.reduceAdd, Nat.reduceMul, Nat.reduceSub, Int.reduceToNat, Int.reduceEq, Int.reduceLT, Int.reduceLE, Int.reduceAdd, Int.reduceSub, Int.reduceMul, reduceIte, resVs, resV, packV, initT, addr, t3, t4, t6, t8]; first | done | rfl | (congr 1; omega))
      · omega
      · refine ⟨by omega, by rw [List.length_set]; exact hXl, fun v hv => ?_, hMs, AMem.get_set_self _ _ _, fun y hy => by rw [AMem.get_set_ne _ _ hy]; exact hMk y hy⟩
        rcases List.mem_or_eq_of_mem_set hv with h | rfl
        · exact hX v h
        · exact ⟨_, rfl⟩
    · have h1 : M.get M1.size = .cells [.string ⟨d.name.toArray⟩, .slice a1 d.inputs.length k1, .string ⟨d.recipe.toArray⟩] 24 true .exact := by rw [hMk _ (by omega), mx_old (by omega)]; exact hc2
      have h2 : M.get M2.size = .cells [.string ⟨d.name.toArray⟩, .slice a2 d.inputs.length k2, .string ⟨d.recipe.toArray⟩] 24 true .exact := by rw [hMk _ (by omega)]; exact mx_new0 _ _
      have hbyte : ∀ v ∈ b.map byteV, ∃ n, v = .int .u8 n := fun v hv => by simp only [List.mem_map] at hv; obtain ⟨y, _, rfl⟩ := hv; exact ⟨_, rfl⟩
      have hk2 : ∀ y, y < M2.size → y ≠ m.size → M.get y = M2.get y := fun y hy hne => by rw [hMk y hne, mx_old hy]
      have q1 : StrR M a1 d.inputs := hS12.apart hp2 hbyte (by omega) hk2
      have q2 : StrR M a2 d.inputs := hS2.apart hp2 hbyte (by omega) hk2
      have kl := DetC.known (same_ok (mx M []) d a1 k1 a2 k2 (q1.old (Old.here _ _)) (q2.old (Old.here _ _)) (by omega))
      have hOM : Old m M := ⟨by omega, fun y hy => by rw [hk2 y (by omega) (by omega)]; exact (hOm1.trans hO12).2 y hy⟩
      have kw2 := kWorks (hg.old hOM) []
      have z1 : M1.size < M.size := by omega
      have z2 : M2.size < M.size := by omega
      simp only [dRow] at kl
      repeat first | simp (implicitDefEqProofs := false) (maxSteps := 1000000) (disch := first | omega | with_reducible assumption | (simp only [lenT, Nat.reduceAdd]; omega)) only [amT, cut, bnd, Nat.reduceBEq, reduceCtorEq, Nat.reduceEqDiff, Nat.reduceAdd, Nat.reduceMul, Nat.reduceSub, Int.reduceToNat, Int.reduceEq, Int.reduceLT, Int.reduceLE, Int.reduceAdd, Int.reduceSub, Int.reduceMul, reduceIte, resVs, resV, packV, initT, addr, F4_l0, t3, t4, t6, t8, g, h1, h2, cutL3, kl, kw2] | refine OrW.go ?_
      exact hOM.mx []
end Go.Proofs.YtgkmlbkocgjmmaaDoor
namespace Go.AM
set_option linter.unusedVariables false
section
variable {P : Program}
/-- A laid row of words. -/
theorem laid_words {w : World} {name : String} {g t e : Nat} {n : Nat} {zs : List UInt32} {cs : Array Value} {fuel : Nat} {p : List MemPlace}
    (hg : P.globalNamed name = some g) (hv : w.var? P name = some cs) (ht : P.underlying t = some (.array n e)) (he : P.underlying e = some (.int .u32)) (hct : P.cellsOf t = n) (hc : P.cellsOf e = 1)
    (hd : DataW.trod (fun _ => ()) P w 0 (fun _ => true) false fuel t cs.toList = some (.agg (zs.map fun z => .lit (.int .u32 (z.toNat : Int))), p)) :
    ∃ ty frz, w.heap[g]? = some (.cells cs ty frz) ∧ cs = (zs.map w32).toArray := by
  obtain ⟨xs, mm, _, ex, hlen, hl, hel⟩ := DataW.trod_array ht hd
  have e1 : zs.map (fun z => DataW.lit (.int .u32 (z.toNat : Int))) = xs.map (·.1) := DataW.agg.inj (Prod.mk.inj ex).1
  rw [hct] at hlen
  have hzl : zs.length = n := by have := congrArg List.length e1; simp at this; omega
  simp only [World.var?, hg, Option.bind_some] at hv
  split at hv <;> simp at hv
  rename_i cs' ty frz hh
  subst hv
  refine ⟨ty, frz, hh, ?_⟩
  apply Array.ext'
  apply List.ext_getElem
  · simp [hzl] at hlen ⊢; omega
  · intro i h1 h2
    have hi : i < n := by simp at hlen h1; omega
    have k := hel i hi
    rw [hc, Nat.mul_one] at k
    have k1 : (cs'.toList.drop i).take 1 = [cs'.toList[i]] := by rw [List.drop_eq_getElem_cons h1]; simp
    rw [k1, List.getElem?_eq_getElem (by omega)] at k
    obtain ⟨z, a0, b0, _⟩ := DataW.trod_int he k
    have a1 : cs'.toList[i] = .int .u32 z := by simpa using a0
    rw [a1]
    have e2 := congrArg (fun l => l[i]?) e1
    simp only [List.getElem?_map, List.getElem?_eq_getElem (show i < zs.length by omega), List.getElem?_eq_getElem (show i < xs.length by omega), Option.map_some, Option.some.injEq, b0] at e2
    simp only [DataW.lit.injEq, Lit.int.injEq, true_and] at e2
    simp [w32, e2]
end
end Go.AM
namespace Go.Proofs.YtgkmlbkocgjmmaaDoor.gl
open Go.ChangeShapes Go.WideShapes Go.ChangeAt Go.RowKit
set_option linter.unusedVariables false
theorem own : ownKnob Tryd.prog.godebug = none := by kernel_rfl
theorem laidOut : laidOutB Tryd.prog = true := by kernel_rfl
abbrev laid : List (String × DataW Unit) := [("tithebarn/sha.constants", Rows.laid_tithebarn_sha_constants), ("tithebarn/sha.begin", Rows.laid_tithebarn_sha_begin)]

/-- The listed variables, where they lie. -/
theorem globs {W : World} (h : laidMetH Tryd.prog laid W) : (∃ ty frz, W.heap[0]? = some (.cells (AM.constW.map AM.w32).toArray ty frz)) ∧ ∃ ty frz, W.heap[1]? = some (.cells (AM.beginW.map AM.w32).toArray ty frz) := by
  rw [MakeChecks.laidMetH_plain _ _ _ (by kernel_rfl)] at h
  obtain ⟨ps, ⟨g, t, cs, fuel, p, q, hg, ht, hv, hd, ⟨g2, t2, cs2, fuel2, p2, q2, hg2, ht2, hv2, hd2, _, _⟩, _⟩, _, _⟩ := h
  have k0 : Tryd.prog.globalNamed "tithebarn/sha.constants" = some 0 := by kernel_rfl
  have k1 : Tryd.prog.globalNamed "tithebarn/sha.begin" = some 1 := by kernel_rfl
  obtain rfl := Option.some.inj (k0.symm.trans hg)
  obtain rfl := Option.some.inj (k1.symm.trans hg2)
  obtain rfl := Option.some.inj ((show (Tryd.prog.globals[0]?).map (·.type) = some 127 by kernel_rfl).symm.trans ht)
  obtain rfl := Option.some.inj ((show (Tryd.prog.globals[1]?).map (·.type) = some 92 by kernel_rfl).symm.trans ht2)
  obtain ⟨ty, frz, h1, rfl⟩ := AM.laid_words (zs := AM.constW) k0 hv Tryd.underlying127 Tryd.underlying91 (by kernel_rfl) (by kernel_rfl) hd
  obtain ⟨ty2, frz2, h2, rfl⟩ := AM.laid_words (zs := AM.beginW) k1 hv2 Tryd.underlying92 Tryd.underlying91 (by kernel_rfl) (by kernel_rfl) hd2
  exact ⟨⟨ty, frz, h1⟩, ⟨ty2, frz2, h2⟩⟩

/-- A world in which they are as listed. -/
noncomputable def laidWorld (os : Os) : World :=
  let w0 := World.holding Tryd.prog os ⟨#[], #[], []⟩
  { w0 with heap := (w0.heap.modify 0 fun
      | .cells _ t frozen => .cells (AM.constW.map AM.w32).toArray t frozen
      | o => o).modify 1 fun
      | .cells _ t frozen => .cells (AM.beginW.map AM.w32).toArray t frozen
      | o => o }
theorem laidWorld_met (os : Os) (args : Array Value) : laidMetH Tryd.prog laid ((laidWorld os).forCall (fun _ _ => 0) ⟨#[], args, []⟩).memory := by
  rw [MakeChecks.laidMetH_plain _ _ _ (by kernel_rfl)]
  exact laidMet_of_run' 8 (by kernel_rfl) (by kernel_rfl)

/-- The memory of which a law speaks: the variables, and what the arguments lead to. -/
def osOf (ty ty2 : TypeId) (l : List (AM.AObj × AM.Loc)) : List (AM.AObj × AM.Loc) :=
  (.cells (AM.constW.map AM.w32) ty false (.full 1), ⟨0, 0, 64, 1⟩) :: (.cells (AM.beginW.map AM.w32) ty2 false (.full 1), ⟨1, 0, 8, 1⟩) :: (.dead, ⟨2, 0, 0, 1⟩) :: l
theorem plain_w (l : List UInt32) : ∀ v ∈ l.map AM.w32, AM.Plain v := fun v hv => by
  simp only [List.mem_map] at hv; obtain ⟨x, _, rfl⟩ := hv; exact AM.plain_w32 _
theorem obj_w {W : World} {ρ : AM.Ren} {g : Nat} {l : List UInt32} {ty : TypeId} {frz : Nat × Nat} (h : W.heap[g]? = some (.cells (l.map AM.w32).toArray ty frz)) {n : Nat} (hn : l.length = n) : AM.ObjRel ρ (.cells (l.map AM.w32) ty false (.full 1)) ⟨g, 0, n, 1⟩ W := by
  have := AM.ObjRel.plain (ρ := ρ) (c := l.map AM.w32) (o := 0) (e := ty) h (by simp) (fun j hj => by simp; simp at hj; simp [hj]) (plain_w l) 1 (by omega)
  rwa [List.length_map, hn] at this
theorem wrtL {ty ty2 : TypeId} {l : List (AM.AObj × AM.Loc)} (hl : ∀ x ∈ l, x.1.wrt = false) : ∀ x ∈ osOf ty ty2 l, x.1.wrt = false := fun x hx => by
  simp only [osOf, List.mem_cons] at hx
  rcases hx with rfl | rfl | rfl | hx
  · rfl
  · rfl
  · rfl
  · exact hl x hx
theorem rep {W : World} {ty ty2 : TypeId} {frz frz2 : Nat × Nat} (h0 : W.heap[0]? = some (.cells (AM.constW.map AM.w32).toArray ty frz)) (h1 : W.heap[1]? = some (.cells (AM.beginW.map AM.w32).toArray ty2 frz2))
    {l : List (AM.AObj × AM.Loc)} (hl : ∀ x ∈ l, AM.ObjRel (AM.renOf (osOf ty ty2 l)) x.1 x.2 W) (hw : ∀ x ∈ l, x.1.wrt = false) : AM.Rep 3 (AM.memOf (osOf ty ty2 l)) (AM.renOf (osOf ty ty2 l)) W := by
  refine AM.Rep.of (osOf ty ty2 l) (fun g hg => ?_) (fun x hx => ?_) (wrtL hw)
  · match g, hg with
    | 0, _ => exact ⟨_, rfl, rfl, rfl⟩
    | 1, _ => exact ⟨_, rfl, rfl, rfl⟩
    | 2, _ => exact ⟨_, rfl, rfl, rfl⟩
  · simp only [osOf, List.mem_cons] at hx
    rcases hx with rfl | rfl | rfl | hx
    · exact obj_w h0 rfl
    · exact obj_w h1 rfl
    · trivial
    · exact hl x hx
theorem glob (ty ty2 : TypeId) (l : List (AM.AObj × AM.Loc)) : S.Glob (AM.memOf (osOf ty ty2 l)) := ⟨⟨ty, _, rfl⟩, ⟨ty2, _, rfl⟩, by show 2 < l.length + 1 + 1 + 1; omega⟩
theorem os_at {ty ty2 : TypeId} {l : List (AM.AObj × AM.Loc)} {k : Nat} {x : AM.AObj × AM.Loc} (h : l[k]? = some x) : (osOf ty ty2 l)[3 + k]? = some x := by
  rw [Nat.add_comm]; exact h
theorem get_at {ty ty2 : TypeId} {l : List (AM.AObj × AM.Loc)} {k : Nat} {x : AM.AObj × AM.Loc} (h : l[k]? = some x) : (AM.memOf (osOf ty ty2 l)).get (3 + k) = x.1 := by
  simp only [AM.memOf, os_at h]
theorem ren_at {ty ty2 : TypeId} {l : List (AM.AObj × AM.Loc)} {k : Nat} {x : AM.AObj × AM.Loc} (h : l[k]? = some x) : AM.renOf (osOf ty ty2 l) (3 + k) = some x.2 := by
  simp only [AM.renOf, os_at h, Option.map_some]
theorem lt_at {ty ty2 : TypeId} {l : List (AM.AObj × AM.Loc)} {k : Nat} {x : AM.AObj × AM.Loc} (h : l[k]? = some x) : 3 + k < (AM.memOf (osOf ty ty2 l)).size := by
  have := (List.getElem?_eq_some_iff.1 h).1
  show 3 + k < l.length + 1 + 1 + 1; omega

/-- An argument whose blocks are those from the k-th on. -/
def Arg (W : World) (k : Nat) (L : List (AM.AObj × AM.Loc)) (F : AM.AMem → AM.Ren → Prop) : Prop :=
  (∀ x ∈ L, x.1.wrt = false) ∧ ∀ (ty ty2 : TypeId) (l : List (AM.AObj × AM.Loc)), (∀ j (h : j < L.length), l[k + j]? = some L[j]) → (∀ x ∈ L, AM.ObjRel (AM.renOf (osOf ty ty2 l)) x.1 x.2 W) ∧ F (AM.memOf (osOf ty ty2 l)) (AM.renOf (osOf ty ty2 l))
theorem Arg.none (W : World) (k : Nat) : Arg W k [] fun _ _ => True := ⟨(fun x h => by cases h), fun ty ty2 l _ => ⟨(fun x h => by cases h), trivial⟩⟩
theorem Arg.and {W : World} {k : Nat} {L1 L2 : List (AM.AObj × AM.Loc)} {F1 F2 : AM.AMem → AM.Ren → Prop} (h1 : Arg W k L1 F1) (h2 : Arg W (k + L1.length) L2 F2) : Arg W k (L1 ++ L2) fun m ρ => F1 m ρ ∧ F2 m ρ := by
  refine ⟨fun x hx => (List.mem_append.1 hx).elim (h1.1 x) (h2.1 x), fun ty ty2 l hl => ?_⟩
  obtain ⟨a1, b1⟩ := h1.2 ty ty2 l fun j h => by rw [hl j (by rw [List.length_append]; omega), List.getElem_append_left h]
  obtain ⟨a2, b2⟩ := h2.2 ty ty2 l fun j h => by
    rw [Nat.add_assoc, hl (L1.length + j) (by rw [List.length_append]; omega), List.getElem_append_right (by omega)]
    simp only [Nat.add_sub_cancel_left]
  exact ⟨fun x hx => (List.mem_append.1 hx).elim (a1 x) (a2 x), b1, b2⟩
theorem Arg.all {W : World} {L : List (AM.AObj × AM.Loc)} {F : AM.AMem → AM.Ren → Prop} (h : Arg W 0 L F) (ty ty2 : TypeId) : (∀ x ∈ L, AM.ObjRel (AM.renOf (osOf ty ty2 L)) x.1 x.2 W) ∧ F (AM.memOf (osOf ty ty2 L)) (AM.renOf (osOf ty ty2 L)) :=
  h.2 ty ty2 L fun j hj => by rw [Nat.zero_add]; exact List.getElem?_eq_getElem hj

/-- A row of bytes. -/
theorem arg_bytes {W : World} {v : Value} (h : AM.SlB W v) (k : Nat) : ∃ (x : AM.AObj × AM.Loc) (a : Option Addr) (cap : Nat) (c : List UInt8), c.length ≤ 9223372036854775807 ∧ Arg W k [x] fun m ρ => AM.BSl m a cap c ∧ AM.VRel ρ (.slice a c.length cap) v := by
  cases h with
  | nil => exact ⟨(.dead, ⟨2, 0, 0, 1⟩), none, 0, [], by simp, fun x hx => (by rw [List.mem_singleton] at hx; subst hx; rfl), fun ty ty2 l hl => ⟨fun x hx => (by rw [List.mem_singleton] at hx; subst hx; trivial), .inl ⟨rfl, rfl, rfl⟩, .nilSlice 0 0⟩⟩
  | none a => exact ⟨(.dead, ⟨2, 0, 0, 1⟩), some ⟨0, 0, none⟩, 0, [], by simp, fun x hx => (by rw [List.mem_singleton] at hx; subst hx; rfl), fun ty ty2 l hl => ⟨fun x hx => (by rw [List.mem_singleton] at hx; subst hx; trivial), .inr ⟨0, 0, _, _, _, _, rfl, by show 0 < l.length + 1 + 1 + 1; omega, rfl, AM.cutL_zero (Nat.zero_le _), .inr ⟨AM.zeroCap_lt, Nat.le_refl _⟩⟩, .sliceEnd (b := 0) (o := 0) (L := ⟨0, 0, 64, 1⟩) rfl (.inl rfl)⟩⟩
  | some b o cap c carr t frz hh hl hc hcap hle =>
    have hob : ∀ ρ, AM.ObjRel ρ (.cells (c.map AM.byteV) t false (.full 1)) ⟨b, o, c.length, 1⟩ W := fun ρ => by
      have := AM.ObjRel.plain (ρ := ρ) (c := c.map AM.byteV) (o := o) (e := t) hh (by rw [List.length_map]; exact hl) (fun j hj => by rw [List.getElem_map]; exact hc j (by simpa using hj)) (AM.plain_byteV c) 1 (by omega)
      rw [List.length_map] at this
      exact this
    refine ⟨(.cells (c.map AM.byteV) t false (.full 1), ⟨b, o, c.length, 1⟩), some ⟨3 + k, 0, none⟩, cap, c, by omega, fun x hx => (by rw [List.mem_singleton] at hx; subst hx; rfl), fun ty ty2 l hl => ⟨fun x hx => (by rw [List.mem_singleton] at hx; subst hx; exact hob _), ?_, ?_⟩⟩
    · have h0 := hl 0 (by simp)
      rw [Nat.add_zero] at h0
      refine .inr ⟨3 + k, 0, _, _, _, _, rfl, lt_at h0, get_at h0, ?_, .inr ⟨AM.openCap_lt hcap, hle⟩⟩
      rw [← List.length_map (f := AM.byteV)]; exact AM.cutL_all rfl
    · have h0 := hl 0 (by simp)
      rw [Nat.add_zero] at h0
      exact .slice (b := 3 + k) (o := 0) (ren_at h0) (AM.openCap_lt hcap)
/-- What a row of rows of texts is, in a world. -/
abbrev RowT := List (List UInt8) × Value
def RowT.ok (W : World) (z : RowT) : Prop := AM.SlP W (z.1.map fun s => .string ⟨s.toArray⟩) z.2 ∧ (∀ y ∈ z.1, y.length ≤ 9223372036854775807) ∧ z.1.length ≤ 9223372036854775807
instance : Inhabited RowT := ⟨([], .bool false)⟩
end Go.Proofs.YtgkmlbkocgjmmaaDoor.gl
