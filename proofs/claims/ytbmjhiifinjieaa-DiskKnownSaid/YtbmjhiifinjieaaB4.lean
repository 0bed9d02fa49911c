/- The reference's disk: files as they were changed. -/
import Derived.Test.YtbmjhiifinjieaaB2
import Derived.Test.YtbmjhiifinjieaaB3
set_option linter.unusedVariables false
set_option linter.unusedSimpArgs false
set_option linter.unnecessarySimpa false
namespace Go.Proofs.Ytbmjhiifinjieaa
open Go Go.AM
set_option linter.unusedVariables false
set_option linter.unusedSimpArgs false
set_option linter.unusedSectionVars false
set_option maxHeartbeats 2000000
set_option maxRecDepth 100000

variable [Ex]
def kRow (f : FileR) : List Value := [.string ⟨f.name.toArray⟩, .string ⟨f.dry.toArray⟩, .string ⟨f.wet.toArray⟩, .bool f.born]
def zK : List Value := [.string ⟨#[]⟩, .string ⟨#[]⟩, .string ⟨#[]⟩, .bool false]
def kRows (fs : List FileR) : List Value := (fs.map kRow).flatten
theorem kRows_len (fs : List FileR) : (kRows fs).length = 4 * fs.length := by
  induction fs with
  | nil => rfl
  | cons f fs ih => simp only [kRows, List.map_cons, List.flatten_cons, List.length_append] at ih ⊢; rw [ih]; simp [kRow]; omega
theorem kRows_app (a b : List FileR) : kRows (a ++ b) = kRows a ++ kRows b := by simp [kRows]
theorem kRows_one (f : FileR) : kRows [f] = kRow f := by simp [kRows]
theorem kRows_cell : ∀ {fs : List FileR} {k : Nat} (h : k < fs.length), cell (kRows fs) k = kRow fs[k]
  | f :: fs, 0, _ => by
    rw [show kRows (f :: fs) = kRow f ++ kRows fs from by simp [kRows], cell_app_l (n := 1) (by simp [kRow]) (by omega)]
    exact cell_four rfl
  | f :: fs, k + 1, h => by
    rw [show kRows (f :: fs) = kRow f ++ kRows fs from by simp [kRows], cell_app_r (n := 1) rfl (by omega)]
    exact kRows_cell (by simpa using h)
theorem kRows_one' (fs : List FileR) : (kRows fs).all oneCell = true := by
  induction fs with
  | nil => rfl
  | cons f fs ih => simp only [kRows, List.map_cons, List.flatten_cons, List.all_append] at ih ⊢; rw [ih]; rfl

/-- A slice of kept files. -/
def KeptV (m : AMem) (v : Value) (fs : List FileR) : Prop :=
  (fs = [] ∧ v = .slice none 0 0) ∨ ∃ b, v = .slice (some ⟨b, 0, none⟩) fs.length openCap ∧ b < m.size ∧ m.get b = .cells (kRows fs) 91 true (.room zK)
theorem KeptV.len {m : AMem} {v : Value} {fs : List FileR} (h : KeptV m v fs) : ∃ a cap, v = .slice a fs.length cap := by
  rcases h with ⟨rfl, rfl⟩ | ⟨b, rfl, _⟩
  · exact ⟨_, _, rfl⟩
  · exact ⟨_, _, rfl⟩
theorem KeptV.keep {m m' : AMem} {v : Value} {fs : List FileR} (h : KeptV m v fs) {O : Nat → Prop} (hk : Keep O m m') (ho : ∀ x X w sp, m.get x = .cells X 91 w sp → ¬ O x) : KeptV m' v fs := by
  rcases h with h | ⟨b, h0, h1, h2⟩
  · exact .inl h
  · exact .inr ⟨b, h0, Nat.lt_of_lt_of_le h1 hk.1, by rw [hk.2 b h1 (ho b _ _ _ h2)]; exact h2⟩
theorem KeptV.old {m m' : AMem} {v : Value} {fs : List FileR} (h : KeptV m v fs) (hk : Old m m') : KeptV m' v fs := h.keep (hk.keep fun _ => False) fun _ _ _ _ _ h => h
theorem KeptV.get {m : AMem} {a : Option Addr} {n cap : Nat} {fs : List FileR} (h : KeptV m (.slice a n cap) fs) {k : Nat} (hk : k < fs.length) :
    ∃ b, a = some ⟨b, 0, none⟩ ∧ b < m.size ∧ m.get b = .cells (kRows fs) 91 true (.room zK) ∧ cutL (kRows fs) (k * 4) 4 = some (kRow fs[k]) ∧ cutL (kRows fs) (k * 4) 1 = some [.string ⟨fs[k].name.toArray⟩] := by
  rcases h with ⟨rfl, _⟩ | ⟨b, h0, h1, h2⟩
  · simp at hk
  · cases h0
    have h4 : cutL (kRows fs) (k * 4) 4 = some (kRow fs[k]) := by
      unfold cutL
      rw [if_pos (by rw [kRows_len]; omega), ← kRows_cell hk, Nat.mul_comm k 4]; rfl
    exact ⟨b, rfl, h1, h2, h4, by rw [cutL_take h4 (by omega)]; rfl⟩
theorem eqPL_zK : eqPL zK zK = true := by decide

/-- One behind the others; it comes from a block of its own. -/
theorem app_kept {m : AMem} {v : Value} {fs : List FileR} {f : FileR} {nb : Nat} {e : TypeId} {w : Bool} {sp : Spare} (hF : KeptV m v fs) (hn : fs.length ≤ 1000000) (hnb : nb < m.size) (hr : m.get nb = .cells (kRow f) e w sp) :
    ∃ v' M', appV 91 4 56 zK v (.slice (some ⟨nb, 0, none⟩) 1 1) (mx m []) = some (v', mx M' []) ∧ KeptV M' v' (fs ++ [f]) ∧ Keep (ownV v) m M' ∧ ∀ x, ownV v' x → m.size ≤ x := by
  have hsrc : srcCells 4 1 (.slice (some ⟨nb, 0, none⟩) 1 1) (mx m []) = some (kRow f) := by
    rw [srcCells_slice (Nat.le_refl _), rd_def, mx_old hnb, hr, rdO_cells]; exact cutL_all rfl
  have happ : appV 91 4 56 zK v (.slice (some ⟨nb, 0, none⟩) 1 1) (mx m []) = appendTo 91 4 56 zK v 1 (kRow f) (mx m []) := by
    simp only [appV, srcLen_slice, hsrc]
    rw [if_pos ⟨rfl, by omega, rfl, rfl⟩]
  rw [happ]
  rcases hF with ⟨rfl, rfl⟩ | ⟨b, rfl, hb, hm⟩
  · refine ⟨.slice (some ⟨m.size, 0, none⟩) 1 openCap, mx m [.cells (kRow f) 91 true (.room zK)], ?_, .inr ⟨m.size, rfl, by rw [mx_size]; simp, ?_⟩, (Keep.refl _ _).mx _, fun x ⟨o, l, c, h⟩ => by cases h; exact Nat.le_refl _⟩
    · rw [appendTo_nil (by omega) (by omega) (by omega), mx_push, mx_nil_size, mx_mx]; rfl
    · rw [mx_new0]; simp [kRows_one]
  · refine ⟨.slice (some ⟨m.size, 0, none⟩) (fs.length + 1) openCap, mx (m.set b .dead) [.cells (kRows fs ++ kRow f) 91 true (.room zK)], ?_, .inr ⟨m.size, by simp, by rw [mx_size, AMem.size_set]; simp, ?_⟩, ((Keep.refl _ m).set (fun _ => ⟨_, _, _, rfl⟩) _).mx _, fun x ⟨o, l, c, h⟩ => by cases h; exact Nat.le_refl _⟩
    · rw [appendTo_open (sz := 4) (z' := zK) ((mx_old hb).trans hm) eqPL_zK rfl (by omega) (by rw [kRows_len]; omega) (by omega) (by omega) (by omega), mx_set_old hb, mx_push, mx_nil_size, mx_mx]; rfl
    · rw [← kRows_one, ← kRows_app]
      have := mx_new0 (m.set b .dead) [.cells (kRows (fs ++ [f])) 91 true (.room zK)]
      rw [AMem.size_set] at this; exact this

structure RAt (m : AMem) (p : Nat) (v : Value) (d : DiskR) : Prop where
  lt : p < m.size
  get : m.get p = .cells (d.cells v) 73 true .exact
  files : KeptV m v d.files
theorem RAt.old {m m' : AMem} {p : Nat} {v : Value} {d : DiskR} (h : RAt m p v d) (ho : Old m m') : RAt m' p v d := ⟨Nat.lt_of_lt_of_le h.lt ho.1, by rw [ho.2 p h.lt]; exact h.get, h.files.old ho⟩
theorem RAt.put {m : AMem} {p : Nat} {v : Value} {d d' : DiskR} (h : RAt m p v d) (he : d'.files = d.files) : RAt (m.set p (.cells (d'.cells v) 73 true .exact)) p v d' :=
  ⟨h.lt, AMem.get_set_self _ _ _, by rw [he]; exact h.files.keep ((Keep.refl (fun x => x = p) m).set (fun _ => rfl) _) fun x X w sp hx e => by subst e; rw [h.get] at hx; cases hx⟩
/-- Only the reference's own block has changed. -/
abbrev RStep (p : Nat) (m m' : AMem) : Prop := Keep (fun x => x = p) m m'

/-- The last file of a name. -/
def lookR (fs : List FileR) (s : List UInt8) : Option FileR := fs.reverse.find? fun f => decide (f.name = s)
def lookOr (fs : List FileR) (s : List UInt8) : FileR := (lookR fs s).getD ⟨s, [], [], false⟩
theorem look_take {fs : List FileR} {s : List UInt8} {k : Nat} (hk : k ≤ fs.length) (h : ∀ j (hj : j < fs.length), k ≤ j → fs[j].name ≠ s) : lookR fs s = lookR (fs.take k) s := by
  unfold lookR
  conv => lhs; rw [← List.take_append_drop k fs, List.reverse_append, List.find?_append]
  have : (fs.drop k).reverse.find? (fun f => decide (f.name = s)) = none := by
    rw [List.find?_eq_none]
    intro x hx
    rw [List.mem_reverse] at hx
    obtain ⟨j, hj, rfl⟩ := List.mem_iff_getElem.1 hx
    rw [List.getElem_drop]
    rw [List.length_drop] at hj
    simpa using h (k + j) (by omega) (by omega)
  rw [this]; rfl
theorem look_at {fs : List FileR} {s : List UInt8} {k : Nat} (hk : k < fs.length) (he : fs[k].name = s) (h : ∀ j (hj : j < fs.length), k < j → fs[j].name ≠ s) : lookR fs s = some fs[k] := by
  rw [look_take (k := k + 1) (by omega) (fun j hj hkj => h j hj (by omega))]
  unfold lookR
  rw [List.take_succ_eq_append_getElem hk, List.reverse_append]
  simp [he]

theorem fill_kRow (z1 z2 z3 z4 : Value) (s t u : ByteArray) (b : Bool) : fill [z1, z2, z3, z4] [(0, 4, .agg [.string s, .string t, .string u, .bool b].toArray)] = some [.string s, .string t, .string u, .bool b] := rfl
theorem cellsOf_kRow (s t u : ByteArray) (b : Bool) : cellsOf (.agg [.string s, .string t, .string u, .bool b].toArray) = some [.string s, .string t, .string u, .bool b] := rfl
theorem plain_kRow (f : FileR) : Plain (.agg (kRow f).toArray) := .agg fun v hv => by
  simp [kRow] at hv; rcases hv with rfl | rfl | rfl | rfl
  · exact .string _
  · exact .string _
  · exact .string _
  · exact .bool _
theorem look_ok (m : AMem) (p : Nat) (v : Value) (d : DiskR) (s : List UInt8) (hD : RAt m p v d) (hn : d.files.length ≤ 1000000) :
    PureC Try.prog 0 64 [.pointer (some ⟨p, 0, none⟩), .string ⟨s.toArray⟩] m (.tuple #[.agg (kRow (lookOr d.files s)).toArray, .bool (lookR d.files s).isSome]) := by
  refine pure_of_W (fn := Try.f64) rfl rfl F64_ok (by simp [F64]) (.tuple2 (plain_kRow _) (.bool _)) ?_
  have hp := hD.lt
  have hd := hD.get
  obtain ⟨a, cap, rfl⟩ := hD.files.len
  simp only [DiskR.cells] at hd
  simp (implicitDefEqProofs := false) (maxSteps := 1000000) (disch := first | omega | with_reducible assumption | (simp only [lenT, Nat.reduceAdd]; omega)) only [amT, cut, bnd, Nat.reduceBEq, reduceCtorEq, Nat.reduceEqDiff, Nat.reduceAdd, Nat.reduceMul, Nat.reduceSub, Int.reduceToNat, Int.reduceEq, Int.reduceLT, Int.reduceLE, Int.reduceAdd, Int.reduceSub, Int.reduceMul, reduceIte, resVs, resV, packV, initT, addr, F64, hd]
  refine W_loop (fun N qs => ∃ (k : Nat), N = k + 1 ∧ qs.ds = [] ∧ qs.m = mx m [.cells zK 91 true .exact] ∧ qs.t 0 = .pointer (some ⟨p, 0, none⟩) ∧ qs.t 1 = .string ⟨s.toArray⟩ ∧ qs.t 4 = .pointer (some ⟨m.size, 0, none⟩) ∧ qs.t 6 = .int .i64 ((k : Int) - 1) ∧ k ≤ d.files.length ∧ ∀ j (hj : j < d.files.length), k ≤ j → d.files[j].name ≠ s) ((d.files.length) + 1) ⟨d.files.length, rfl, rfl, ?qm, ?q0, ?q1, ?q4, ?q6, ?_⟩ ?_
  case qm | q0 | q1 | q4 | q6 => first | rfl | (simp (implicitDefEqProofs := false) (maxSteps := 1000000) (disch := first | omega | with_reducible assumption | (simp only [lenT, Nat.reduceAdd]; omega)) only [amT, cut, bnd, Nat.reduceBEq, reduceCtorEq, Nat.reduceEqDiff, Nat.reduceAdd, Nat.reduceMul, Nat.reduceSub, Int.reduceToNat, Int.reduceEq, Int.reduceLT, Int.reduceLE, Int.reduceAdd, Int.reduceSub, Int.reduceMul, reduceIte, resVs, resV, packV, initT, addr, zK]; first | done | rfl | (congr 1; omega))
  · exact ⟨by omega, fun j hj h => by omega⟩
  · rintro N t m1 ds ⟨k, rfl, hds, hm, t0, t1, t4, t6, hp⟩
    simp only at hds hm t0 t1 t4 t6
    subst hds; replace hm := hm.symm; subst hm
    obtain ⟨hk, hp2⟩ := hp
    cases k with
    | zero =>
      have e : lookR d.files s = none := by rw [look_take (Nat.zero_le _) hp2]; rfl
      have h1 : ¬ (0 : Int) ≤ ((0 : Nat) : Int) - 1 := by omega
      have e2 : lookOr d.files s = ⟨s, [], [], false⟩ := by simp [lookOr, e]
      simp (implicitDefEqProofs := false) (maxSteps := 1000000) (disch := first | omega | with_reducible assumption | (simp only [lenT, Nat.reduceAdd]; omega)) only [amT, cut, bnd, Nat.reduceBEq, reduceCtorEq, Nat.reduceEqDiff, Nat.reduceAdd, Nat.reduceMul, Nat.reduceSub, Int.reduceToNat, Int.reduceEq, Int.reduceLT, Int.reduceLE, Int.reduceAdd, Int.reduceSub, Int.reduceMul, reduceIte, resVs, resV, packV, initT, addr, F64_l0, t0, t1, t4, t6, h1, cellsOf_kRow, zK, splice4, cutL4]
      rw [e2, e]; rfl
    | succ k =>
      have h1 : (0 : Int) ≤ (k : Int) := by omega
      have e2 : ((k + 1 : Nat) : Int) - 1 = (k : Int) := by omega
      rw [e2] at t6
      obtain ⟨b, rfl, hb, hg, h4, h1'⟩ := hD.files.get (k := k) (by omega)
      have hek := strEq_mk d.files[k].name s
      simp only [kRow] at h4
      by_cases he : d.files[k].name = s
      · have e := look_at (by omega) he (fun j hj hkj => hp2 j hj (by omega))
        have e3 : lookOr d.files s = d.files[k] := by simp [lookOr, e]
        rw [e3, e]
        simp only [kRow]
        have hek2 : strEq ⟨d.files[k].name.toArray⟩ ⟨s.toArray⟩ = true := by rw [hek]; simp [he]
        simp (implicitDefEqProofs := false) (maxSteps := 1000000) (disch := first | omega | with_reducible assumption | (simp only [lenT, Nat.reduceAdd]; omega)) only [amT, cut, bnd, Nat.reduceBEq, reduceCtorEq, Nat.reduceEqDiff, Nat.reduceAdd, Nat.reduceMul, Nat.reduceSub, Int.reduceToNat, Int.reduceEq, Int.reduceLT, Int.reduceLE, Int.reduceAdd, Int.reduceSub, Int.reduceMul, reduceIte, resVs, resV, packV, initT, addr, F64_l0, t0, t1, t4, t6, h1, hd, hg, h1', hek2, h4, cellsOf_kRow, zK, splice4, cutL4]
        rfl
      · have hek2 : strEq ⟨d.files[k].name.toArray⟩ ⟨s.toArray⟩ = false := by rw [hek]; simp [he]
        simp (implicitDefEqProofs := false) (maxSteps := 1000000) (disch := first | omega | with_reducible assumption | (simp only [lenT, Nat.reduceAdd]; omega)) only [amT, cut, bnd, Nat.reduceBEq, reduceCtorEq, Nat.reduceEqDiff, Nat.reduceAdd, Nat.reduceMul, Nat.reduceSub, Int.reduceToNat, Int.reduceEq, Int.reduceLT, Int.reduceLE, Int.reduceAdd, Int.reduceSub, Int.reduceMul, reduceIte, resVs, resV, packV, initT, addr, F64_l0, t0, t1, t4, t6, h1, hd, hg, h1', hek2]
        rw [LoopK_normal]; refine ⟨_, ?_, k, rfl, rfl, ?qm, ?q0, ?q1, ?q4, ?q6, ?_⟩
        case qm | q0 | q1 | q4 | q6 => first | rfl | (simp (implicitDefEqProofs := false) (maxSteps := 1000000) (disch := first | omega | with_reducible assumption | (simp only [lenT, Nat.reduceAdd]; omega)) only [amT, cut, bnd, Nat.reduceBEq, reduceCtorEq, Nat.reduceEqDiff, Nat.reduceAdd, Nat.reduceMul, Nat.reduceSub, Int.reduceToNat, Int.reduceEq, Int.reduceLT, Int.reduceLE, Int.reduceAdd, Int.reduceSub, Int.reduceMul, reduceIte, resVs, resV, packV, initT, addr, t0, t1, t4, t6]; first | done | rfl | (congr 1; omega))
        · omega
        · refine ⟨by omega, fun j hj hkj => ?_⟩
          rcases Nat.eq_or_lt_of_le hkj with h | h
          · subst h; exact he
          · exact hp2 j hj h

/-- All files but that of a name. -/
def othersR (fs : List FileR) (s : List UInt8) : List FileR := fs.filter fun f => !decide (f.name = s)
theorem others_ok (m : AMem) (p : Nat) (v : Value) (d : DiskR) (s : List UInt8) (hD : RAt m p v d) (hn : d.files.length ≤ 100000) :
    RelC Try.prog 0 68 [.pointer (some ⟨p, 0, none⟩), .string ⟨s.toArray⟩] m fun v' m' => Old m m' ∧ KeptV m' v' (othersR d.files s) ∧ ∀ x, ownV v' x → m.size ≤ x := by
  refine rel_of_W (fn := Try.f68) rfl rfl F68_ok (by simp [F68]) ?_
  have hp := hD.lt
  have hd := hD.get
  obtain ⟨a, cap, rfl⟩ := hD.files.len
  simp only [DiskR.cells] at hd
  simp (implicitDefEqProofs := false) (maxSteps := 1000000) (disch := first | omega | with_reducible assumption | (simp only [lenT, Nat.reduceAdd]; omega)) only [amT, cut, bnd, Nat.reduceBEq, reduceCtorEq, Nat.reduceEqDiff, Nat.reduceAdd, Nat.reduceMul, Nat.reduceSub, Int.reduceToNat, Int.reduceEq, Int.reduceLT, Int.reduceLE, Int.reduceAdd, Int.reduceSub, Int.reduceMul, reduceIte, resVs, resV, packV, initT, addr, F68, hd]
  refine W_loop (fun N qs => ∃ (i : Nat) (M : AMem) (av : Option Addr) (cv : Nat), N = d.files.length - i ∧ qs.ds = [] ∧ qs.m = mx M [] ∧ qs.t 0 = .pointer (some ⟨p, 0, none⟩) ∧ qs.t 1 = .string ⟨s.toArray⟩ ∧ qs.t 5 = .slice av (othersR (d.files.take i) s).length cv ∧ qs.t 6 = .int .i64 i ∧ i ≤ d.files.length ∧ Old m M ∧ KeptV M (.slice av (othersR (d.files.take i) s).length cv) (othersR (d.files.take i) s) ∧ ∀ x, ownV (.slice av (othersR (d.files.take i) s).length cv) x → m.size ≤ x) (d.files.length - (0)) ⟨0, mx m [], none, 0, rfl, rfl, ?qm, ?q0, ?q1, ?q5, ?q6, ?_⟩ ?_
  case qm | q0 | q1 | q5 | q6 => first | rfl | (simp (implicitDefEqProofs := false) (maxSteps := 1000000) (disch := first | omega | with_reducible assumption | (simp only [lenT, Nat.reduceAdd]; omega)) only [amT, cut, bnd, Nat.reduceBEq, reduceCtorEq, Nat.reduceEqDiff, Nat.reduceAdd, Nat.reduceMul, Nat.reduceSub, Int.reduceToNat, Int.reduceEq, Int.reduceLT, Int.reduceLE, Int.reduceAdd, Int.reduceSub, Int.reduceMul, reduceIte, resVs, resV, packV, initT, addr, mx_mx, List.append_nil, othersR, List.take_zero]; first | done | rfl | (congr 1; omega))
  · exact ⟨by omega, Old.here _ _, .inl ⟨rfl, rfl⟩, fun x ⟨o, l, c, h⟩ => by cases h⟩
  · rintro N t m1 ds ⟨i, M, av, cv, rfl, hds, hm, t0, t1, t5, t6, hp⟩
    simp only at hds hm t0 t1 t5 t6
    subst hds; replace hm := hm.symm; subst hm
    obtain ⟨hi, hM, hK, hown⟩ := hp
    have hdM : M.get p = .cells [.slice a d.files.length cap, .int .i64 d.quota, .int .i64 d.steps, .int .i64 d.set, .bool d.off] 73 true .exact := by rw [hM.2 p hD.lt]; exact hd
    have hpM : p < M.size := Nat.lt_of_lt_of_le hD.lt hM.1
    by_cases h1 : (i : Int) < (d.files.length : Int)
    · have hi : i < d.files.length := by omega
      obtain ⟨b, rfl, hb, hg, h4, h1'⟩ := (hD.files.old hM).get hi
      have hek := strEq_mk d.files[i].name s
      simp only [kRow] at h4
      by_cases he : d.files[i].name = s
      · have hek2 : strEq ⟨d.files[i].name.toArray⟩ ⟨s.toArray⟩ = true := by rw [hek]; simp [he]
        have hsucc : othersR (d.files.take (i + 1)) s = othersR (d.files.take i) s := by
          unfold othersR; rw [List.take_succ_eq_append_getElem hi, List.filter_append]; simp [he]
        repeat first | simp (implicitDefEqProofs := false) (maxSteps := 1000000) (disch := first | omega | with_reducible assumption | (simp only [lenT, Nat.reduceAdd]; omega)) only [amT, cut, bnd, Nat.reduceBEq, reduceCtorEq, Nat.reduceEqDiff, Nat.reduceAdd, Nat.reduceMul, Nat.reduceSub, Int.reduceToNat, Int.reduceEq, Int.reduceLT, Int.reduceLE, Int.reduceAdd, Int.reduceSub, Int.reduceMul, reduceIte, resVs, resV, packV, initT, addr, F68_l0, t0, t1, t5, t6, h1, hdM, hg, h1', hek2] | refine OrW.go ?_
        rw [LoopK_normal]; refine ⟨_, ?_, i + 1, M, av, cv, rfl, rfl, ?qm, ?q0, ?q1, ?q5, ?q6, ?_⟩
        case qm | q0 | q1 | q5 | q6 => first | rfl | (simp (implicitDefEqProofs := false) (maxSteps := 1000000) (disch := first | omega | with_reducible assumption | (simp only [lenT, Nat.reduceAdd]; omega)) only [amT, cut, bnd, Nat.reduceBEq, reduceCtorEq, Nat.reduceEqDiff, Nat.reduceAdd, Nat.reduceMul, Nat.reduceSub, Int.reduceToNat, Int.reduceEq, Int.reduceLT, Int.reduceLE, Int.reduceAdd, Int.reduceSub, Int.reduceMul, reduceIte, resVs, resV, packV, initT, addr, t0, t1, t5, t6, hsucc]; first | done | rfl | (congr 1; omega))
        · omega
        · rw [hsucc]; exact ⟨by omega, hM, hK, hown⟩
      · have hek2 : strEq ⟨d.files[i].name.toArray⟩ ⟨s.toArray⟩ = false := by rw [hek]; simp [he]
        have hsucc : othersR (d.files.take (i + 1)) s = othersR (d.files.take i) s ++ [d.files[i]] := by
          unfold othersR; rw [List.take_succ_eq_append_getElem hi, List.filter_append]; simp [he]
        have hlen : (othersR (d.files.take i) s).length ≤ d.files.length := Nat.le_trans (List.length_filter_le _ _) (by rw [List.length_take]; omega)
        have hK2 := hK.old (Old.here M [.cells (kRow d.files[i]) 91 true .exact])
        obtain ⟨v', M', happ, hK3, hk3, ho3⟩ := app_kept (nb := M.size) (f := d.files[i]) hK2 (by omega) (by rw [mx_size]; simp) (mx_new0 _ _)
        obtain ⟨av', cv', rfl⟩ := hK3.len
        rw [← hsucc] at hK3 happ ho3
        rw [mx_mx, List.append_nil] at happ
        simp only [kRow, zK] at happ
        repeat first | simp (implicitDefEqProofs := false) (maxSteps := 1000000) (disch := first | omega | with_reducible assumption | (simp only [lenT, Nat.reduceAdd]; omega)) only [amT, cut, bnd, Nat.reduceBEq, reduceCtorEq, Nat.reduceEqDiff, Nat.reduceAdd, Nat.reduceMul, Nat.reduceSub, Int.reduceToNat, Int.reduceEq, Int.reduceLT, Int.reduceLE, Int.reduceAdd, Int.reduceSub, Int.reduceMul, reduceIte, resVs, resV, packV, initT, addr, F68_l0, t0, t1, t5, t6, h1, hdM, hg, h1', hek2, h4, fill_kRow, stepOp_app_v, happ] | refine OrW.go ?_
        rw [LoopK_normal]; refine ⟨_, ?_, i + 1, M', av', cv', rfl, rfl, ?qm, ?q0, ?q1, ?q5, ?q6, ?_⟩
        case qm | q0 | q1 | q5 | q6 => first | rfl | (simp (implicitDefEqProofs := false) (maxSteps := 1000000) (disch := first | omega | with_reducible assumption | (simp only [lenT, Nat.reduceAdd]; omega)) only [amT, cut, bnd, Nat.reduceBEq, reduceCtorEq, Nat.reduceEqDiff, Nat.reduceAdd, Nat.reduceMul, Nat.reduceSub, Int.reduceToNat, Int.reduceEq, Int.reduceLT, Int.reduceLE, Int.reduceAdd, Int.reduceSub, Int.reduceMul, reduceIte, resVs, resV, packV, initT, addr, t0, t1, t5, t6]; first | done | rfl | (congr 1; omega))
        · omega
        · exact ⟨by omega, hk3.keep_old (hM.mx _) hown, hK3, fun x hx => Nat.le_trans hM.1 (Nat.le_trans (by rw [mx_size]; omega) (ho3 x hx))⟩
    · obtain rfl : i = d.files.length := by omega
      rw [List.take_length] at hK hown t5
      repeat first | simp (implicitDefEqProofs := false) (maxSteps := 1000000) (disch := first | omega | with_reducible assumption | (simp only [lenT, Nat.reduceAdd]; omega)) only [amT, cut, bnd, Nat.reduceBEq, reduceCtorEq, Nat.reduceEqDiff, Nat.reduceAdd, Nat.reduceMul, Nat.reduceSub, Int.reduceToNat, Int.reduceEq, Int.reduceLT, Int.reduceLE, Int.reduceAdd, Int.reduceSub, Int.reduceMul, reduceIte, resVs, resV, packV, initT, addr, F68_l0, t0, t1, t5, t6, h1, hdM] | refine OrW.go ?_
      exact ⟨_, rfl, fun _ => ⟨hM.mx _, hK.old (Old.here _ _), hown⟩⟩
end Go.Proofs.Ytbmjhiifinjieaa
namespace Go.Proofs.Ytbmjhiifinjieaa
open Go Go.AM
set_option linter.unusedVariables false
set_option linter.unusedSimpArgs false
set_option linter.unusedSectionVars false
set_option maxHeartbeats 2000000
set_option maxRecDepth 100000

variable [Ex]
theorem none_ok (m : AMem) (s : List UInt8) (h : s.length ≤ 9223372036854775807) : PureC Try.prog 0 73 [.string ⟨s.toArray⟩] m (.bool (badN s)) := by
  refine pure_of_W (fn := Try.f73) rfl rfl F73_ok (by simp [F73]) (.bool _) ?_
  by_cases h1 : (s.length : Int) = 0
  · have : s = [] := List.length_eq_zero_iff.1 (by omega)
    repeat first | simp (implicitDefEqProofs := false) (maxSteps := 1000000) (disch := first | omega | with_reducible assumption | (simp only [lenT, Nat.reduceAdd]; omega)) only [amT, cut, bnd, Nat.reduceBEq, reduceCtorEq, Nat.reduceEqDiff, Nat.reduceAdd, Nat.reduceMul, Nat.reduceSub, Int.reduceToNat, Int.reduceEq, Int.reduceLT, Int.reduceLE, Int.reduceAdd, Int.reduceSub, Int.reduceMul, reduceIte, resVs, resV, packV, initT, addr, F73, h1] | refine OrW.go ?_
    simp [badN, this]
  · have h2 : s ≠ [] := fun e => by subst e; simp at h1
    by_cases h3 : (128 : Int) < (s.length : Int)
    · have h4 : 128 < s.length := by omega
      repeat first | simp (implicitDefEqProofs := false) (maxSteps := 1000000) (disch := first | omega | with_reducible assumption | (simp only [lenT, Nat.reduceAdd]; omega)) only [amT, cut, bnd, Nat.reduceBEq, reduceCtorEq, Nat.reduceEqDiff, Nat.reduceAdd, Nat.reduceMul, Nat.reduceSub, Int.reduceToNat, Int.reduceEq, Int.reduceLT, Int.reduceLE, Int.reduceAdd, Int.reduceSub, Int.reduceMul, reduceIte, resVs, resV, packV, initT, addr, F73, h1, h3] | refine OrW.go ?_
      simp [badN, h4]
    · have h4 : ¬ 128 < s.length := by omega
      repeat first | simp (implicitDefEqProofs := false) (maxSteps := 1000000) (disch := first | omega | with_reducible assumption | (simp only [lenT, Nat.reduceAdd]; omega)) only [amT, cut, bnd, Nat.reduceBEq, reduceCtorEq, Nat.reduceEqDiff, Nat.reduceAdd, Nat.reduceMul, Nat.reduceSub, Int.reduceToNat, Int.reduceEq, Int.reduceLT, Int.reduceLE, Int.reduceAdd, Int.reduceSub, Int.reduceMul, reduceIte, resVs, resV, packV, initT, addr, F73, h1, h3] | refine OrW.go ?_
      simp [badN, h2, h4]
theorem rcrash_ok (m : AMem) (p : Nat) (hp : p < m.size) {v q st se off : Value} {e : TypeId} {sp : Spare} (hd : m.get p = .cells [v, q, st, se, off] e true sp) :
    DetC Try.prog 0 48 [.pointer (some ⟨p, 0, none⟩)] m (.tuple #[]) (mx (m.set p (.cells [v, q, st, .int .i64 (-1), .bool true] e true sp)) []) := by
  refine det_exact (fn := Try.f48) rfl rfl F48_ok (by simp [F48]) ?_
  simp (implicitDefEqProofs := false) (maxSteps := 1000000) (disch := first | omega | with_reducible assumption | (simp only [lenT, Nat.reduceAdd]; omega)) only [amT, cut, bnd, Nat.reduceBEq, reduceCtorEq, Nat.reduceEqDiff, Nat.reduceAdd, Nat.reduceMul, Nat.reduceSub, Int.reduceToNat, Int.reduceEq, Int.reduceLT, Int.reduceLE, Int.reduceAdd, Int.reduceSub, Int.reduceMul, reduceIte, resVs, resV, packV, initT, addr, F48, hd]
theorem rfail_ok (m : AMem) (p : Nat) (n : Int) (hp : p < m.size) {v q st se off : Value} {e : TypeId} {sp : Spare} (hd : m.get p = .cells [v, q, st, se, off] e true sp) :
    DetC Try.prog 0 47 [.pointer (some ⟨p, 0, none⟩), .int .i64 n] m (.tuple #[]) (mx (m.set p (.cells [v, q, st, .int .i64 (max (-1) n), off] e true sp)) []) := by
  refine det_exact (fn := Try.f47) rfl rfl F47_ok (by simp [F47]) ?_
  simp (implicitDefEqProofs := false) (maxSteps := 1000000) (disch := first | omega | with_reducible assumption | (simp only [lenT, Nat.reduceAdd]; omega)) only [amT, cut, bnd, Nat.reduceBEq, reduceCtorEq, Nat.reduceEqDiff, Nat.reduceAdd, Nat.reduceMul, Nat.reduceSub, Int.reduceToNat, Int.reduceEq, Int.reduceLT, Int.reduceLE, Int.reduceAdd, Int.reduceSub, Int.reduceMul, reduceIte, resVs, resV, packV, initT, addr, F47, hd, stepOp_mnx, mnx_max]
theorem rstep_ok (m : AMem) (p : Nat) (hp : p < m.size) {v q : Value} {st se : Int} {off : Bool} {e : TypeId} {sp : Spare} (hd : m.get p = .cells [v, q, .int .i64 st, .int .i64 se, .bool off] e true sp) (h0 : 0 ≤ st) (h1 : st ≤ 4611686018427387904) (h2 : -1 ≤ se) (h3 : se ≤ 9223372036854775807) :
    DetC Try.prog 0 66 [.pointer (some ⟨p, 0, none⟩)] m (.bool (!decide (se = 0))) (mx (m.set p (.cells (stepCells v q st se off) e true sp)) []) := by
  refine det_exact (fn := Try.f66) rfl rfl F66_ok (by simp [F66]) ?_
  by_cases hs : se = 0
  · subst hs
    have k := DetC.known (rcrash_ok (mx (m.set p (.cells [v, q, .int .i64 (st + 1), .int .i64 0, .bool off] e true sp)) []) p (by rw [mx_size, AMem.size_set]; simp; omega) (by rw [mx_old (by rw [AMem.size_set]; exact hp)]; exact AMem.get_set_self _ _ _))
    repeat first | simp (implicitDefEqProofs := false) (maxSteps := 1000000) (disch := first | omega | with_reducible assumption | (simp only [lenT, Nat.reduceAdd]; omega)) only [amT, cut, bnd, Nat.reduceBEq, reduceCtorEq, Nat.reduceEqDiff, Nat.reduceAdd, Nat.reduceMul, Nat.reduceSub, Int.reduceToNat, Int.reduceEq, Int.reduceLT, Int.reduceLE, Int.reduceAdd, Int.reduceSub, Int.reduceMul, reduceIte, resVs, resV, packV, initT, addr, F66, hd, k, stepCells] | refine OrW.go ?_
    skip
  · repeat first | simp (implicitDefEqProofs := false) (maxSteps := 1000000) (disch := first | omega | with_reducible assumption | (simp only [lenT, Nat.reduceAdd]; omega)) only [amT, cut, bnd, Nat.reduceBEq, reduceCtorEq, Nat.reduceEqDiff, Nat.reduceAdd, Nat.reduceMul, Nat.reduceSub, Int.reduceToNat, Int.reduceEq, Int.reduceLT, Int.reduceLE, Int.reduceAdd, Int.reduceSub, Int.reduceMul, reduceIte, resVs, resV, packV, initT, addr, F66, hd, hs, stepOp_mnx, mnx_max, stepCells] | refine OrW.go ?_
    skip
theorem rnew_ok (m : AMem) (q : Int) : DetC Try.prog 0 26 [.int .i64 q] m (.pointer (some ⟨m.size, 0, none⟩)) (mx m [.cells ((newR q).cells (.slice none 0 0)) 73 true .exact]) := by
  refine det_exact (fn := Try.f26) rfl rfl F26_ok (by simp [F26]) ?_
  simp (implicitDefEqProofs := false) (maxSteps := 1000000) (disch := first | omega | with_reducible assumption | (simp only [lenT, Nat.reduceAdd]; omega)) only [amT, cut, bnd, Nat.reduceBEq, reduceCtorEq, Nat.reduceEqDiff, Nat.reduceAdd, Nat.reduceMul, Nat.reduceSub, Int.reduceToNat, Int.reduceEq, Int.reduceLT, Int.reduceLE, Int.reduceAdd, Int.reduceSub, Int.reduceMul, reduceIte, resVs, resV, packV, initT, addr, F26, stepOp_mnx, mnx_max, cellsOf_disk, newR, DiskR.cells]
  skip
def kAll (fs : List FileR) (s : List UInt8) : List UInt8 := (lookOr fs s).dry ++ (lookOr fs s).wet
theorem rsize_ok (m : AMem) (p : Nat) (v : Value) (d : DiskR) (s : List UInt8) (hD : RAt m p v d) (hn : d.files.length ≤ 1000000) (hb : (lookOr d.files s).size ≤ 4611686018427387904) :
    PureC Try.prog 0 63 [.pointer (some ⟨p, 0, none⟩), .string ⟨s.toArray⟩] m (.int .i64 (lookOr d.files s).size) := by
  refine pure_of_W (fn := Try.f63) rfl rfl F63_ok (by simp [F63]) (.int _ _) ?_
  have k := DetC.known (look_ok (mx m []) p v d s (hD.old (Old.here _ _)) hn)
  simp only [kRow] at k
  simp only [FileR.size] at hb
  repeat first | simp (implicitDefEqProofs := false) (maxSteps := 1000000) (disch := first | omega | with_reducible assumption | (simp only [lenT, Nat.reduceAdd]; omega)) only [amT, cut, bnd, Nat.reduceBEq, reduceCtorEq, Nat.reduceEqDiff, Nat.reduceAdd, Nat.reduceMul, Nat.reduceSub, Int.reduceToNat, Int.reduceEq, Int.reduceLT, Int.reduceLE, Int.reduceAdd, Int.reduceSub, Int.reduceMul, reduceIte, resVs, resV, packV, initT, addr, F63, k, cellsOf_kRow, splice4, cutL4] | refine OrW.go ?_
  simp [FileR.size]
def rbarsE (d : DiskR) (s t : List UInt8) (must : Bool) : Int := if d.off then 40 else if badN s || badN t then 2 else if must && !(lookR d.files s).isSome then 5 else 0
theorem rbars_ok (m : AMem) (p : Nat) (v : Value) (d : DiskR) (s t : List UInt8) (must : Bool) (hs : s.length ≤ 9223372036854775807) (ht : t.length ≤ 9223372036854775807) (hD : RAt m p v d) (hn : d.files.length ≤ 1000000) :
    PureC Try.prog 0 62 [.pointer (some ⟨p, 0, none⟩), .string ⟨s.toArray⟩, .string ⟨t.toArray⟩, .bool must] m (.int .i64 (rbarsE d s t must)) := by
  refine pure_of_W (fn := Try.f62) rfl rfl F62_ok (by simp [F62]) (.int _ _) ?_
  have hd := hD.get
  have hp := hD.lt
  simp only [DiskR.cells] at hd
  have k := DetC.known (look_ok (mx m []) p v d s (hD.old (Old.here _ _)) hn)
  have k1 := fun M => DetC.known (none_ok M s hs)
  have k2 := fun M => DetC.known (none_ok M t ht)
  simp only [kRow] at k
  cases ho : d.off with
  | true =>
    rw [ho] at hd
    repeat first | simp (implicitDefEqProofs := false) (maxSteps := 1000000) (disch := first | omega | with_reducible assumption | (simp only [lenT, Nat.reduceAdd]; omega)) only [amT, cut, bnd, Nat.reduceBEq, reduceCtorEq, Nat.reduceEqDiff, Nat.reduceAdd, Nat.reduceMul, Nat.reduceSub, Int.reduceToNat, Int.reduceEq, Int.reduceLT, Int.reduceLE, Int.reduceAdd, Int.reduceSub, Int.reduceMul, reduceIte, resVs, resV, packV, initT, addr, F62, k, cellsOf_kRow, splice4, cutL4, hd] | refine OrW.go ?_
    simp [rbarsE, ho]
  | false =>
    rw [ho] at hd
    cases b1 : badN s with
    | true =>
      rw [b1] at k1
      repeat first | simp (implicitDefEqProofs := false) (maxSteps := 1000000) (disch := first | omega | with_reducible assumption | (simp only [lenT, Nat.reduceAdd]; omega)) only [amT, cut, bnd, Nat.reduceBEq, reduceCtorEq, Nat.reduceEqDiff, Nat.reduceAdd, Nat.reduceMul, Nat.reduceSub, Int.reduceToNat, Int.reduceEq, Int.reduceLT, Int.reduceLE, Int.reduceAdd, Int.reduceSub, Int.reduceMul, reduceIte, resVs, resV, packV, initT, addr, F62, k, cellsOf_kRow, splice4, cutL4, hd, k1] | refine OrW.go ?_
      simp [rbarsE, ho, b1]
    | false =>
      rw [b1] at k1
      cases b2 : badN t with
      | true =>
        rw [b2] at k2
        repeat first | simp (implicitDefEqProofs := false) (maxSteps := 1000000) (disch := first | omega | with_reducible assumption | (simp only [lenT, Nat.reduceAdd]; omega)) only [amT, cut, bnd, Nat.reduceBEq, reduceCtorEq, Nat.reduceEqDiff, Nat.reduceAdd, Nat.reduceMul, Nat.reduceSub, Int.reduceToNat, Int.reduceEq, Int.reduceLT, Int.reduceLE, Int.reduceAdd, Int.reduceSub, Int.reduceMul, reduceIte, resVs, resV, packV, initT, addr, F62, k, cellsOf_kRow, splice4, cutL4, hd, k1, k2] | refine OrW.go ?_
        simp [rbarsE, ho, b1, b2]
      | false =>
        rw [b2] at k2
        cases must with
        | false =>
          repeat first | simp (implicitDefEqProofs := false) (maxSteps := 1000000) (disch := first | omega | with_reducible assumption | (simp only [lenT, Nat.reduceAdd]; omega)) only [amT, cut, bnd, Nat.reduceBEq, reduceCtorEq, Nat.reduceEqDiff, Nat.reduceAdd, Nat.reduceMul, Nat.reduceSub, Int.reduceToNat, Int.reduceEq, Int.reduceLT, Int.reduceLE, Int.reduceAdd, Int.reduceSub, Int.reduceMul, reduceIte, resVs, resV, packV, initT, addr, F62, k, cellsOf_kRow, splice4, cutL4, hd, k1, k2] | refine OrW.go ?_
          simp [rbarsE, ho, b1, b2]
        | true =>
          cases hl : (lookR d.files s).isSome with
          | true =>
            rw [hl] at k
            repeat first | simp (implicitDefEqProofs := false) (maxSteps := 1000000) (disch := first | omega | with_reducible assumption | (simp only [lenT, Nat.reduceAdd]; omega)) only [amT, cut, bnd, Nat.reduceBEq, reduceCtorEq, Nat.reduceEqDiff, Nat.reduceAdd, Nat.reduceMul, Nat.reduceSub, Int.reduceToNat, Int.reduceEq, Int.reduceLT, Int.reduceLE, Int.reduceAdd, Int.reduceSub, Int.reduceMul, reduceIte, resVs, resV, packV, initT, addr, F62, k, cellsOf_kRow, splice4, cutL4, hd, k1, k2] | refine OrW.go ?_
            simp [rbarsE, ho, b1, b2, hl]
          | false =>
            rw [hl] at k
            repeat first | simp (implicitDefEqProofs := false) (maxSteps := 1000000) (disch := first | omega | with_reducible assumption | (simp only [lenT, Nat.reduceAdd]; omega)) only [amT, cut, bnd, Nat.reduceBEq, reduceCtorEq, Nat.reduceEqDiff, Nat.reduceAdd, Nat.reduceMul, Nat.reduceSub, Int.reduceToNat, Int.reduceEq, Int.reduceLT, Int.reduceLE, Int.reduceAdd, Int.reduceSub, Int.reduceMul, reduceIte, resVs, resV, packV, initT, addr, F62, k, cellsOf_kRow, splice4, cutL4, hd, k1, k2] | refine OrW.go ?_
            simp [rbarsE, ho, b1, b2, hl]
end Go.Proofs.Ytbmjhiifinjieaa
namespace Go.Proofs.Ytbmjhiifinjieaa
open Go Go.AM
set_option linter.unusedVariables false
set_option linter.unusedSimpArgs false
set_option linter.unusedSectionVars false
set_option maxHeartbeats 2000000
set_option maxRecDepth 100000

variable [Ex]
theorem changes_ok (m : AMem) (p : Nat) (v : Value) (d : DiskR) (f : FileR) (hD : RAt m p v d) (hn : d.files.length ≤ 100000) :
    RelC Try.prog 0 65 [.pointer (some ⟨p, 0, none⟩), .agg (kRow f).toArray] m fun r m' => r = .tuple #[] ∧ ∃ v', RAt m' p v' { d with files := othersR d.files f.name ++ [f] } ∧ RStep p m m' := by
  refine rel_of_W (fn := Try.f65) rfl rfl F65_ok (by simp [F65]) ?_
  have hd := hD.get
  have hp := hD.lt
  have hO := Old.here m [.cells (kRow f) 91 true .exact]
  have hO2 : Old m (mx m [.cells (kRow f) 91 true .exact, .cells (kRow f) 91 true .exact]) := Old.here m _
  have hoth := others_ok _ p v d f.name (hD.old hO2) hn
  have hlen : (othersR d.files f.name).length ≤ d.files.length := List.length_filter_le _ _
  repeat first | simp (implicitDefEqProofs := false) (maxSteps := 1000000) (disch := first | omega | with_reducible assumption | (simp only [lenT, Nat.reduceAdd]; omega)) only [amT, cut, bnd, Nat.reduceBEq, reduceCtorEq, Nat.reduceEqDiff, Nat.reduceAdd, Nat.reduceMul, Nat.reduceSub, Int.reduceToNat, Int.reduceEq, Int.reduceLT, Int.reduceLE, Int.reduceAdd, Int.reduceSub, Int.reduceMul, reduceIte, resVs, resV, packV, initT, addr, F65, kRow, cellsOf_kRow, cutL4, fill_kRow] | refine OrW.go ?_
  refine RelC.call hoth ?_
  rintro r M ⟨hO3, hK, hown⟩
  have hs := hO3.1
  rw [mx_size] at hs
  simp only [List.length_cons, List.length_nil] at hs
  have r0 : M.get m.size = .cells (kRow f) 91 true .exact := by rw [hO3.2 _ (by rw [mx_size]; simp)]; exact mx_new0 _ _
  have r1 : M.get (m.size + 1) = .cells (kRow f) 91 true .exact := by rw [hO3.2 _ (by rw [mx_size]; simp)]; exact mx_new _ _ 1
  obtain ⟨v', M', happ, hK2, hk2, hown2⟩ := app_kept (nb := m.size + 1) (f := f) hK (by omega) (by omega) r1
  have hoA := hk2.keep_old hO3 hown
  have hO4 := hO2.trans hoA
  have hdM : M'.get p = .cells (d.cells v) 73 true .exact := by rw [hO4.2 p hp]; exact hd
  have hpM : p < M'.size := Nat.lt_of_lt_of_le hp hO4.1
  have hpM0 : p < M.size := Nat.lt_of_lt_of_le hp (hO2.trans hO3).1
  have hdM0 : M.get p = .cells (d.cells v) 73 true .exact := by rw [(hO2.trans hO3).2 p hp]; exact hd
  have fin : RAt (M'.set p (.cells (({ d with files := othersR d.files f.name ++ [f] } : DiskR).cells v') 73 true .exact)) p v' { d with files := othersR d.files f.name ++ [f] } ∧ RStep p m (M'.set p (.cells (({ d with files := othersR d.files f.name ++ [f] } : DiskR).cells v') 73 true .exact)) :=
    ⟨⟨by rw [AMem.size_set]; exact hpM, AMem.get_set_self _ _ _, hK2.keep ((Keep.refl (fun x => x = p) M').set (fun _ => rfl) _) fun x X w sp hx e => by subst e; rw [hdM] at hx; cases hx⟩, (hO4.keep (fun x => x = p)).set (fun _ => rfl) _⟩
  obtain ⟨av, cv, rfl⟩ := hK.len
  obtain ⟨av', cv', rfl⟩ := hK2.len
  simp only [kRow, zK] at r0 r1 happ
  simp only [DiskR.cells] at hdM hdM0
  simp only [DiskR.cells, List.length_append, List.length_cons, List.length_nil, Nat.zero_add] at fin
  repeat first | simp (implicitDefEqProofs := false) (maxSteps := 1000000) (disch := first | omega | with_reducible assumption | (simp only [lenT, Nat.reduceAdd]; omega)) only [amT, cut, bnd, Nat.reduceBEq, reduceCtorEq, Nat.reduceEqDiff, Nat.reduceAdd, Nat.reduceMul, Nat.reduceSub, Int.reduceToNat, Int.reduceEq, Int.reduceLT, Int.reduceLE, Int.reduceAdd, Int.reduceSub, Int.reduceMul, reduceIte, resVs, resV, packV, initT, addr, r0, r1, cutL4, stepOp_app_v, happ, hdM, hdM0] | refine OrW.go ?_
  exact ⟨_, rfl, fun _ => ⟨rfl, _, fin.1.old (Old.here _ _), fin.2.mx _⟩⟩
theorem rstep_d (m : AMem) (p : Nat) (v : Value) (d : DiskR) (hD : RAt m p v d) (s0 : 0 ≤ d.steps) (s1 : d.steps ≤ 1000000000) (t0 : -1 ≤ d.set) (t1 : d.set ≤ 9223372036854775807) :
    DetC Try.prog 0 66 [.pointer (some ⟨p, 0, none⟩)] m (.bool (!decide (d.set = 0))) (mx (m.set p (.cells (d.step.cells v) 73 true .exact)) []) := by
  have := rstep_ok m p hD.lt hD.get s0 (by omega) t0 t1
  rwa [step_cells] at this
/-- The reference's drying. -/
def rdriesR (d : DiskR) (frm to : List UInt8) (n : Nat) : Int × DiskR :=
  if d.set = 0 then (40, d.step) else (0, { d.step with files := othersR (othersR d.files frm) to ++ [⟨to, (kAll d.files frm).take n, [], true⟩] })
theorem rdries_ok (m : AMem) (p : Nat) (v : Value) (d : DiskR) (frm to : List UInt8) (n : Nat) (hD : RAt m p v d) (hn : d.files.length ≤ 100000) (hk : n ≤ (kAll d.files frm).length) (hb : (kAll d.files frm).length ≤ 1000000000)
    (s0 : 0 ≤ d.steps) (s1 : d.steps ≤ 1000000000) (t0 : -1 ≤ d.set) (t1 : d.set ≤ 9223372036854775807) :
    RelC Try.prog 0 67 [.pointer (some ⟨p, 0, none⟩), .string ⟨frm.toArray⟩, .string ⟨to.toArray⟩, .int .i64 n] m fun r m' => r = .int .i64 (rdriesR d frm to n).1 ∧ ∃ v', RAt m' p v' (rdriesR d frm to n).2 ∧ RStep p m m' := by
  refine rel_of_W (fn := Try.f67) rfl rfl F67_ok (by simp [F67]) ?_
  have hp := hD.lt
  have k66 := DetC.known (rstep_d m p v d hD s0 s1 t0 t1).start
  have hD1 : RAt (m.set p (.cells (d.step.cells v) 73 true .exact)) p v d.step := hD.put (step_files d)
  have hst1 : RStep p m (m.set p (.cells (d.step.cells v) 73 true .exact)) := (Keep.refl (fun x => x = p) m).set (fun _ => rfl) _
  generalize m.set p (.cells (d.step.cells v) 73 true .exact) = m1 at *
  by_cases hset : d.set = 0
  · have e : rdriesR d frm to n = (40, d.step) := by simp [rdriesR, hset]
    repeat first | simp (implicitDefEqProofs := false) (maxSteps := 1000000) (disch := first | omega | with_reducible assumption | (simp only [lenT, Nat.reduceAdd]; omega)) only [amT, cut, bnd, Nat.reduceBEq, reduceCtorEq, Nat.reduceEqDiff, Nat.reduceAdd, Nat.reduceMul, Nat.reduceSub, Int.reduceToNat, Int.reduceEq, Int.reduceLT, Int.reduceLE, Int.reduceAdd, Int.reduceSub, Int.reduceMul, reduceIte, resVs, resV, packV, initT, addr, F67, k66, hset] | refine OrW.go ?_
    exact ⟨_, rfl, fun _ => ⟨by rw [e], by rw [e]; exact ⟨_, hD1.old (Old.here _ _), hst1.mx _⟩⟩⟩
  · have hd0 : decide (d.set = 0) = false := by simp [hset]
    have k64 := DetC.known (look_ok (mx m1 []) p v d.step frm (hD1.old (Old.here _ _)) (by rw [step_files]; omega))
    rw [step_files] at k64
    simp only [kRow] at k64
    have hoth := others_ok (mx m1 [.cells (kRow (lookOr d.files frm)) 91 true .exact]) p v d.step frm (hD1.old (Old.here _ _)) (by rw [step_files]; omega)
    rw [step_files] at hoth
    simp only [kRow] at hoth
    repeat first | simp (implicitDefEqProofs := false) (maxSteps := 1000000) (disch := first | omega | with_reducible assumption | (simp only [lenT, Nat.reduceAdd]; omega)) only [amT, cut, bnd, Nat.reduceBEq, reduceCtorEq, Nat.reduceEqDiff, Nat.reduceAdd, Nat.reduceMul, Nat.reduceSub, Int.reduceToNat, Int.reduceEq, Int.reduceLT, Int.reduceLE, Int.reduceAdd, Int.reduceSub, Int.reduceMul, reduceIte, resVs, resV, packV, initT, addr, F67, k66, hd0, k64, cellsOf_kRow, splice4, cutL4] | refine OrW.go ?_
    refine RelC.call hoth ?_
    rintro r M ⟨hO3, hK, hown⟩
    have hO4 : Old m1 M := (Old.here m1 _).trans hO3
    have hM := hO4.1
    have hp1 := hD1.lt
    have hpM : p < M.size := by omega
    have hg1 := hD1.get
    have hgM : M.get p = .cells (d.step.cells v) 73 true .exact := by rw [hO4.2 p hp1]; exact hg1
    have hM3 := hO3.1
    rw [mx_size] at hM3
    simp only [List.length_cons, List.length_nil] at hM3
    have r0 : M.get m1.size = .cells (kRow (lookOr d.files frm)) 91 true .exact := by rw [hO3.2 _ (by rw [mx_size]; simp)]; exact mx_new0 _ _
    have hne : m1.size ≠ p := by omega
    obtain ⟨av, cv, rfl⟩ := hK.len
    have hD2 : RAt (M.set p (.cells (({ d.step with files := othersR d.files frm } : DiskR).cells (.slice av (othersR d.files frm).length cv)) 73 true .exact)) p (.slice av (othersR d.files frm).length cv) { d.step with files := othersR d.files frm } :=
      ⟨by rw [AMem.size_set]; exact hpM, AMem.get_set_self _ _ _, hK.keep ((Keep.refl (fun x => x = p) M).set (fun _ => rfl) _) fun x X w sp hx e => by subst e; rw [hgM] at hx; cases hx⟩
    have hst2 : RStep p m (M.set p (.cells (({ d.step with files := othersR d.files frm } : DiskR).cells (.slice av (othersR d.files frm).length cv)) 73 true .exact)) := (hst1.trans (hO4.keep (fun x => x = p)) (fun _ _ h => h)).set (fun _ => rfl) _
    have hch := changes_ok _ p _ _ ⟨to, (kAll d.files frm).take n, [], true⟩ (hD2.old (Old.here _ [])) (by have := List.length_filter_le (fun f : FileR => !decide (f.name = frm)) d.files; show (othersR d.files frm).length ≤ 100000; unfold othersR; omega)
    have e : rdriesR d frm to n = (0, { d.step with files := othersR (othersR d.files frm) to ++ [⟨to, (kAll d.files frm).take n, [], true⟩] }) := by simp [rdriesR, hset]
    simp only [DiskR.cells] at hgM hch hst2
    simp only [kRow, kAll] at r0 hch
    simp only [kAll, List.length_append] at hk hb
    repeat first | simp (implicitDefEqProofs := false) (maxSteps := 1000000) (disch := first | omega | with_reducible assumption | (simp only [lenT, Nat.reduceAdd]; omega)) only [amT, cut, bnd, Nat.reduceBEq, reduceCtorEq, Nat.reduceEqDiff, Nat.reduceAdd, Nat.reduceMul, Nat.reduceSub, Int.reduceToNat, Int.reduceEq, Int.reduceLT, Int.reduceLE, Int.reduceAdd, Int.reduceSub, Int.reduceMul, reduceIte, resVs, resV, packV, initT, addr, hgM, r0, hne, cutL4] | refine OrW.go ?_
    refine RelC.call hch ?_
    rintro r M2 ⟨rfl, v2, hR, hS⟩
    repeat first | simp (implicitDefEqProofs := false) (maxSteps := 1000000) (disch := first | omega | with_reducible assumption | (simp only [lenT, Nat.reduceAdd]; omega)) only [amT, cut, bnd, Nat.reduceBEq, reduceCtorEq, Nat.reduceEqDiff, Nat.reduceAdd, Nat.reduceMul, Nat.reduceSub, Int.reduceToNat, Int.reduceEq, Int.reduceLT, Int.reduceLE, Int.reduceAdd, Int.reduceSub, Int.reduceMul, reduceIte, resVs, resV, packV, initT, addr] | refine OrW.go ?_
    exact ⟨_, rfl, fun _ => ⟨by rw [e], by rw [e]; exact ⟨_, hR.old (Old.here _ _), (Keep.trans (hst2.mx []) hS (fun _ _ h => h)).mx _⟩⟩⟩
end Go.Proofs.Ytbmjhiifinjieaa
namespace Go.Proofs.Ytbmjhiifinjieaa
open Go Go.AM
set_option linter.unusedVariables false
set_option linter.unusedSimpArgs false
set_option linter.unusedSectionVars false
set_option maxHeartbeats 2000000
set_option maxRecDepth 100000

variable [Ex]
structure ROk (d : DiskR) : Prop where
  few : d.files.length ≤ 10000
  used : usedR d.files ≤ 50000000
  q0 : 0 ≤ d.quota
  q1 : d.quota ≤ 9223372036854775807
  s0 : 0 ≤ d.steps
  s1 : d.steps ≤ 1000000000
  t0 : -1 ≤ d.set
  t1 : d.set ≤ 9223372036854775807
theorem look_size (fs : List FileR) (s : List UInt8) : (lookOr fs s).size ≤ usedR fs := by
  unfold lookOr
  cases h : lookR fs s with
  | none => simp [FileR.size]
  | some f =>
    have hm : f ∈ fs := by have := List.mem_of_find?_eq_some h; simpa using this
    obtain ⟨k, hk, rfl⟩ := List.mem_iff_getElem.1 hm
    exact size_le hk
theorem kAll_len (fs : List FileR) (s : List UInt8) : (kAll fs s).length = (lookOr fs s).size := by simp [kAll, FileR.size]
/-- A drying call of the reference. -/
def rdoR (d : DiskR) (s t : List UInt8) (n : Nat) : Int × DiskR := if rbarsE d s t true = 0 then rdriesR d s t n else (rbarsE d s t true, d)
theorem rsync_ok (m : AMem) (p : Nat) (v : Value) (d : DiskR) (s : List UInt8) (hs : s.length ≤ 9223372036854775807) (hD : RAt m p v d) (hO : ROk d) :
    RelC Try.prog 0 42 [.pointer (some ⟨p, 0, none⟩), .string ⟨s.toArray⟩] m fun r m' => r = .int .i64 (rdoR d s s (lookOr d.files s).size).1 ∧ ∃ v', RAt m' p v' (rdoR d s s (lookOr d.files s).size).2 ∧ RStep p m m' := by
  refine rel_of_W (fn := Try.f42) rfl rfl F42_ok (by simp [F42]) ?_
  have hf := hO.few; have hu := hO.used; have hz := look_size d.files s
  have kb := DetC.known (rbars_ok (mx m []) p v d s s true hs hs (hD.old (Old.here _ _)) (by omega))
  have ks := DetC.known (rsize_ok (mx m []) p v d s (hD.old (Old.here _ _)) (by omega) (by omega))
  by_cases h0 : rbarsE d s s true = 0
  · have e : rdoR d s s (lookOr d.files s).size = rdriesR d s s (lookOr d.files s).size := by simp [rdoR, h0]
    have hdr := rdries_ok m p v d s s (lookOr d.files s).size hD (by omega) (by rw [kAll_len]; exact Nat.le_refl _) (by rw [kAll_len]; omega) hO.s0 hO.s1 hO.t0 hO.t1
    rw [h0] at kb
    repeat first | simp (implicitDefEqProofs := false) (maxSteps := 1000000) (disch := first | omega | with_reducible assumption | (simp only [lenT, Nat.reduceAdd]; omega)) only [amT, cut, bnd, Nat.reduceBEq, reduceCtorEq, Nat.reduceEqDiff, Nat.reduceAdd, Nat.reduceMul, Nat.reduceSub, Int.reduceToNat, Int.reduceEq, Int.reduceLT, Int.reduceLE, Int.reduceAdd, Int.reduceSub, Int.reduceMul, reduceIte, resVs, resV, packV, initT, addr, F42, kb, ks] | refine OrW.go ?_
    refine RelC.call hdr.at ?_
    rintro r M ⟨rfl, v', h1, h2⟩
    repeat first | simp (implicitDefEqProofs := false) (maxSteps := 1000000) (disch := first | omega | with_reducible assumption | (simp only [lenT, Nat.reduceAdd]; omega)) only [amT, cut, bnd, Nat.reduceBEq, reduceCtorEq, Nat.reduceEqDiff, Nat.reduceAdd, Nat.reduceMul, Nat.reduceSub, Int.reduceToNat, Int.reduceEq, Int.reduceLT, Int.reduceLE, Int.reduceAdd, Int.reduceSub, Int.reduceMul, reduceIte, resVs, resV, packV, initT, addr] | refine OrW.go ?_
    exact ⟨_, rfl, fun _ => ⟨by rw [e], by rw [e]; exact ⟨_, h1.old (Old.here _ _), h2.mx _⟩⟩⟩
  · have e : rdoR d s s (lookOr d.files s).size = (rbarsE d s s true, d) := by simp [rdoR, h0]
    repeat first | simp (implicitDefEqProofs := false) (maxSteps := 1000000) (disch := first | omega | with_reducible assumption | (simp only [lenT, Nat.reduceAdd]; omega)) only [amT, cut, bnd, Nat.reduceBEq, reduceCtorEq, Nat.reduceEqDiff, Nat.reduceAdd, Nat.reduceMul, Nat.reduceSub, Int.reduceToNat, Int.reduceEq, Int.reduceLT, Int.reduceLE, Int.reduceAdd, Int.reduceSub, Int.reduceMul, reduceIte, resVs, resV, packV, initT, addr, F42, kb, h0] | refine OrW.go ?_
    exact ⟨_, rfl, fun _ => ⟨by rw [e], by rw [e]; exact ⟨_, hD.old (Old.here _ _), (Old.here m _).keep _⟩⟩⟩
theorem rrename_ok (m : AMem) (p : Nat) (v : Value) (d : DiskR) (s t : List UInt8) (hs : s.length ≤ 9223372036854775807) (ht : t.length ≤ 9223372036854775807) (hD : RAt m p v d) (hO : ROk d) :
    RelC Try.prog 0 44 [.pointer (some ⟨p, 0, none⟩), .string ⟨s.toArray⟩, .string ⟨t.toArray⟩] m fun r m' => r = .int .i64 (rdoR d s t (lookOr d.files s).size).1 ∧ ∃ v', RAt m' p v' (rdoR d s t (lookOr d.files s).size).2 ∧ RStep p m m' := by
  refine rel_of_W (fn := Try.f44) rfl rfl F44_ok (by simp [F44]) ?_
  have hf := hO.few; have hu := hO.used; have hz := look_size d.files s
  have kb := DetC.known (rbars_ok (mx m []) p v d s t true hs ht (hD.old (Old.here _ _)) (by omega))
  have ks := DetC.known (rsize_ok (mx m []) p v d s (hD.old (Old.here _ _)) (by omega) (by omega))
  by_cases h0 : rbarsE d s t true = 0
  · have e : rdoR d s t (lookOr d.files s).size = rdriesR d s t (lookOr d.files s).size := by simp [rdoR, h0]
    have hdr := rdries_ok m p v d s t (lookOr d.files s).size hD (by omega) (by rw [kAll_len]; exact Nat.le_refl _) (by rw [kAll_len]; omega) hO.s0 hO.s1 hO.t0 hO.t1
    rw [h0] at kb
    repeat first | simp (implicitDefEqProofs := false) (maxSteps := 1000000) (disch := first | omega | with_reducible assumption | (simp only [lenT, Nat.reduceAdd]; omega)) only [amT, cut, bnd, Nat.reduceBEq, reduceCtorEq, Nat.reduceEqDiff, Nat.reduceAdd, Nat.reduceMul, Nat.reduceSub, Int.reduceToNat, Int.reduceEq, Int.reduceLT, Int.reduceLE, Int.reduceAdd, Int.reduceSub, Int.reduceMul, reduceIte, resVs, resV, packV, initT, addr, F44, kb, ks] | refine OrW.go ?_
    refine RelC.call hdr.at ?_
    rintro r M ⟨rfl, v', h1, h2⟩
    repeat first | simp (implicitDefEqProofs := false) (maxSteps := 1000000) (disch := first | omega | with_reducible assumption | (simp only [lenT, Nat.reduceAdd]; omega)) only [amT, cut, bnd, Nat.reduceBEq, reduceCtorEq, Nat.reduceEqDiff, Nat.reduceAdd, Nat.reduceMul, Nat.reduceSub, Int.reduceToNat, Int.reduceEq, Int.reduceLT, Int.reduceLE, Int.reduceAdd, Int.reduceSub, Int.reduceMul, reduceIte, resVs, resV, packV, initT, addr] | refine OrW.go ?_
    exact ⟨_, rfl, fun _ => ⟨by rw [e], by rw [e]; exact ⟨_, h1.old (Old.here _ _), h2.mx _⟩⟩⟩
  · have e : rdoR d s t (lookOr d.files s).size = (rbarsE d s t true, d) := by simp [rdoR, h0]
    repeat first | simp (implicitDefEqProofs := false) (maxSteps := 1000000) (disch := first | omega | with_reducible assumption | (simp only [lenT, Nat.reduceAdd]; omega)) only [amT, cut, bnd, Nat.reduceBEq, reduceCtorEq, Nat.reduceEqDiff, Nat.reduceAdd, Nat.reduceMul, Nat.reduceSub, Int.reduceToNat, Int.reduceEq, Int.reduceLT, Int.reduceLE, Int.reduceAdd, Int.reduceSub, Int.reduceMul, reduceIte, resVs, resV, packV, initT, addr, F44, kb, h0] | refine OrW.go ?_
    exact ⟨_, rfl, fun _ => ⟨by rw [e], by rw [e]; exact ⟨_, hD.old (Old.here _ _), (Old.here m _).keep _⟩⟩⟩
def rcutR (d : DiskR) (s : List UInt8) (n : Int) : Int × DiskR :=
  if rbarsE d s s true = 0 then (if n < 0 ∨ ((lookOr d.files s).size : Int) < n then (2, d) else rdriesR d s s n.toNat) else (rbarsE d s s true, d)
theorem rcut_ok (m : AMem) (p : Nat) (v : Value) (d : DiskR) (s : List UInt8) (n : Int) (hs : s.length ≤ 9223372036854775807) (hD : RAt m p v d) (hO : ROk d) :
    RelC Try.prog 0 43 [.pointer (some ⟨p, 0, none⟩), .string ⟨s.toArray⟩, .int .i64 n] m fun r m' => r = .int .i64 (rcutR d s n).1 ∧ ∃ v', RAt m' p v' (rcutR d s n).2 ∧ RStep p m m' := by
  refine rel_of_W (fn := Try.f43) rfl rfl F43_ok (by simp [F43]) ?_
  have hf := hO.few; have hu := hO.used; have hz := look_size d.files s
  have kb := DetC.known (rbars_ok (mx m []) p v d s s true hs hs (hD.old (Old.here _ _)) (by omega))
  have ks := DetC.known (rsize_ok (mx m []) p v d s (hD.old (Old.here _ _)) (by omega) (by omega))
  have same : ∀ e, rcutR d s n = (e, d) → ∃ v', RAt (mx m []) p v' (rcutR d s n).2 ∧ RStep p m (mx m []) := fun e h => by rw [h]; exact ⟨_, hD.old (Old.here _ _), (Old.here m _).keep _⟩
  by_cases h0 : rbarsE d s s true = 0
  · rw [h0] at kb
    by_cases h1 : n < 0
    · have e : rcutR d s n = (2, d) := by simp [rcutR, h0, h1]
      repeat first | simp (implicitDefEqProofs := false) (maxSteps := 1000000) (disch := first | omega | with_reducible assumption | (simp only [lenT, Nat.reduceAdd]; omega)) only [amT, cut, bnd, Nat.reduceBEq, reduceCtorEq, Nat.reduceEqDiff, Nat.reduceAdd, Nat.reduceMul, Nat.reduceSub, Int.reduceToNat, Int.reduceEq, Int.reduceLT, Int.reduceLE, Int.reduceAdd, Int.reduceSub, Int.reduceMul, reduceIte, resVs, resV, packV, initT, addr, F43, kb, ks, h1] | refine OrW.go ?_
      exact ⟨_, rfl, fun _ => ⟨by rw [e], same _ e⟩⟩
    · by_cases h2 : ((lookOr d.files s).size : Int) < n
      · have e : rcutR d s n = (2, d) := by simp [rcutR, h0, h2]
        repeat first | simp (implicitDefEqProofs := false) (maxSteps := 1000000) (disch := first | omega | with_reducible assumption | (simp only [lenT, Nat.reduceAdd]; omega)) only [amT, cut, bnd, Nat.reduceBEq, reduceCtorEq, Nat.reduceEqDiff, Nat.reduceAdd, Nat.reduceMul, Nat.reduceSub, Int.reduceToNat, Int.reduceEq, Int.reduceLT, Int.reduceLE, Int.reduceAdd, Int.reduceSub, Int.reduceMul, reduceIte, resVs, resV, packV, initT, addr, F43, kb, ks, h1, h2] | refine OrW.go ?_
        exact ⟨_, rfl, fun _ => ⟨by rw [e], same _ e⟩⟩
      · have e : rcutR d s n = rdriesR d s s n.toNat := by simp [rcutR, h0, h1, h2]
        have hdr := rdries_ok m p v d s s n.toNat hD (by omega) (by rw [kAll_len]; omega) (by rw [kAll_len]; omega) hO.s0 hO.s1 hO.t0 hO.t1
        rw [show ((n.toNat : Nat) : Int) = n by omega] at hdr
        repeat first | simp (implicitDefEqProofs := false) (maxSteps := 1000000) (disch := first | omega | with_reducible assumption | (simp only [lenT, Nat.reduceAdd]; omega)) only [amT, cut, bnd, Nat.reduceBEq, reduceCtorEq, Nat.reduceEqDiff, Nat.reduceAdd, Nat.reduceMul, Nat.reduceSub, Int.reduceToNat, Int.reduceEq, Int.reduceLT, Int.reduceLE, Int.reduceAdd, Int.reduceSub, Int.reduceMul, reduceIte, resVs, resV, packV, initT, addr, F43, kb, ks, h1, h2] | refine OrW.go ?_
        refine RelC.call hdr.at ?_
        rintro r M ⟨rfl, v', h3, h4⟩
        repeat first | simp (implicitDefEqProofs := false) (maxSteps := 1000000) (disch := first | omega | with_reducible assumption | (simp only [lenT, Nat.reduceAdd]; omega)) only [amT, cut, bnd, Nat.reduceBEq, reduceCtorEq, Nat.reduceEqDiff, Nat.reduceAdd, Nat.reduceMul, Nat.reduceSub, Int.reduceToNat, Int.reduceEq, Int.reduceLT, Int.reduceLE, Int.reduceAdd, Int.reduceSub, Int.reduceMul, reduceIte, resVs, resV, packV, initT, addr] | refine OrW.go ?_
        exact ⟨_, rfl, fun _ => ⟨by rw [e], by rw [e]; exact ⟨_, h3.old (Old.here _ _), h4.mx _⟩⟩⟩
  · have e : rcutR d s n = (rbarsE d s s true, d) := by simp [rcutR, h0]
    repeat first | simp (implicitDefEqProofs := false) (maxSteps := 1000000) (disch := first | omega | with_reducible assumption | (simp only [lenT, Nat.reduceAdd]; omega)) only [amT, cut, bnd, Nat.reduceBEq, reduceCtorEq, Nat.reduceEqDiff, Nat.reduceAdd, Nat.reduceMul, Nat.reduceSub, Int.reduceToNat, Int.reduceEq, Int.reduceLT, Int.reduceLE, Int.reduceAdd, Int.reduceSub, Int.reduceMul, reduceIte, resVs, resV, packV, initT, addr, F43, kb, h0] | refine OrW.go ?_
    exact ⟨_, rfl, fun _ => ⟨by rw [e], same _ e⟩⟩
def rreadR (d : DiskR) (s : List UInt8) : Int × List UInt8 := if rbarsE d s s true = 0 then (0, kAll d.files s) else (rbarsE d s s true, [])
theorem rread_ok (m : AMem) (p : Nat) (v : Value) (d : DiskR) (s : List UInt8) (hs : s.length ≤ 9223372036854775807) (hD : RAt m p v d) (hO : ROk d) :
    RelC Try.prog 0 46 [.pointer (some ⟨p, 0, none⟩), .string ⟨s.toArray⟩] m fun r m' => ∃ a cap, r = .tuple #[.slice a (rreadR d s).2.length cap, .int .i64 (rreadR d s).1] ∧ Old m m' ∧ BSl m' a cap (rreadR d s).2 := by
  refine rel_of_W (fn := Try.f46) rfl rfl F46_ok (by simp [F46]) ?_
  have hf := hO.few; have hu := hO.used; have hz := look_size d.files s
  have kb := DetC.known (rbars_ok (mx m []) p v d s s true hs hs (hD.old (Old.here _ _)) (by omega))
  have kl := DetC.known (look_ok (mx m []) p v d s (hD.old (Old.here _ _)) (by omega))
  simp only [kRow] at kl
  by_cases h0 : rbarsE d s s true = 0
  · have e : rreadR d s = (0, kAll d.files s) := by simp [rreadR, h0]
    rw [h0] at kb
    simp only [FileR.size] at hz
    repeat first | simp (implicitDefEqProofs := false) (maxSteps := 1000000) (disch := first | omega | with_reducible assumption | (simp only [lenT, Nat.reduceAdd]; omega)) only [amT, cut, bnd, Nat.reduceBEq, reduceCtorEq, Nat.reduceEqDiff, Nat.reduceAdd, Nat.reduceMul, Nat.reduceSub, Int.reduceToNat, Int.reduceEq, Int.reduceLT, Int.reduceLE, Int.reduceAdd, Int.reduceSub, Int.reduceMul, reduceIte, resVs, resV, packV, initT, addr, F46, kb, kl, cellsOf_kRow, splice4, cutL4] | refine OrW.go ?_
    refine ⟨_, rfl, fun _ => ⟨some ⟨m.size + 1, 0, none⟩, openCap, ?_, ?_⟩⟩
    · rw [e]; simp [kAll]
    · rw [e]; exact bsl_room m _ 1 (e := 5) (w := true) (sp := .room [.int .u8 0]) (by simp [kAll]) rfl
  · have e : rreadR d s = (rbarsE d s s true, []) := by simp [rreadR, h0]
    repeat first | simp (implicitDefEqProofs := false) (maxSteps := 1000000) (disch := first | omega | with_reducible assumption | (simp only [lenT, Nat.reduceAdd]; omega)) only [amT, cut, bnd, Nat.reduceBEq, reduceCtorEq, Nat.reduceEqDiff, Nat.reduceAdd, Nat.reduceMul, Nat.reduceSub, Int.reduceToNat, Int.reduceEq, Int.reduceLT, Int.reduceLE, Int.reduceAdd, Int.reduceSub, Int.reduceMul, reduceIte, resVs, resV, packV, initT, addr, F46, kb, h0] | refine OrW.go ?_
    refine ⟨_, rfl, fun _ => ⟨none, 0, ?_, ?_⟩⟩
    · rw [e]; rfl
    · rw [e]; exact .inl ⟨rfl, rfl, rfl⟩

def rremoveR (d : DiskR) (s : List UInt8) : Int × DiskR :=
  if rbarsE d s s true = 0 then (if d.set = 0 then (40, d.step) else (0, { d.step with files := othersR d.files s })) else (rbarsE d s s true, d)
theorem rremove_ok (m : AMem) (p : Nat) (v : Value) (d : DiskR) (s : List UInt8) (hs : s.length ≤ 9223372036854775807) (hD : RAt m p v d) (hO : ROk d) :
    RelC Try.prog 0 45 [.pointer (some ⟨p, 0, none⟩), .string ⟨s.toArray⟩] m fun r m' => r = .int .i64 (rremoveR d s).1 ∧ ∃ v', RAt m' p v' (rremoveR d s).2 ∧ RStep p m m' := by
  refine rel_of_W (fn := Try.f45) rfl rfl F45_ok (by simp [F45]) ?_
  have hp := hD.lt
  have hf := hO.few
  have kb := DetC.known (rbars_ok (mx m []) p v d s s true hs hs (hD.old (Old.here _ _)) (by omega))
  by_cases h0 : rbarsE d s s true = 0
  · rw [h0] at kb
    have k66 := DetC.known (rstep_d m p v d hD hO.s0 hO.s1 hO.t0 hO.t1).start
    have hD1 : RAt (m.set p (.cells (d.step.cells v) 73 true .exact)) p v d.step := hD.put (step_files d)
    have hst1 : RStep p m (m.set p (.cells (d.step.cells v) 73 true .exact)) := (Keep.refl (fun x => x = p) m).set (fun _ => rfl) _
    generalize m.set p (.cells (d.step.cells v) 73 true .exact) = m1 at *
    by_cases hset : d.set = 0
    · have e : rremoveR d s = (40, d.step) := by simp [rremoveR, h0, hset]
      repeat first | simp (implicitDefEqProofs := false) (maxSteps := 1000000) (disch := first | omega | with_reducible assumption | (simp only [lenT, Nat.reduceAdd]; omega)) only [amT, cut, bnd, Nat.reduceBEq, reduceCtorEq, Nat.reduceEqDiff, Nat.reduceAdd, Nat.reduceMul, Nat.reduceSub, Int.reduceToNat, Int.reduceEq, Int.reduceLT, Int.reduceLE, Int.reduceAdd, Int.reduceSub, Int.reduceMul, reduceIte, resVs, resV, packV, initT, addr, F45, kb, k66, hset] | refine OrW.go ?_
      exact ⟨_, rfl, fun _ => ⟨by rw [e], by rw [e]; exact ⟨_, hD1.old (Old.here _ _), hst1.mx _⟩⟩⟩
    · have hd0 : decide (d.set = 0) = false := by simp [hset]
      have hoth := others_ok m1 p v d.step s hD1 (by rw [step_files]; omega)
      rw [step_files] at hoth
      repeat first | simp (implicitDefEqProofs := false) (maxSteps := 1000000) (disch := first | omega | with_reducible assumption | (simp only [lenT, Nat.reduceAdd]; omega)) only [amT, cut, bnd, Nat.reduceBEq, reduceCtorEq, Nat.reduceEqDiff, Nat.reduceAdd, Nat.reduceMul, Nat.reduceSub, Int.reduceToNat, Int.reduceEq, Int.reduceLT, Int.reduceLE, Int.reduceAdd, Int.reduceSub, Int.reduceMul, reduceIte, resVs, resV, packV, initT, addr, F45, kb, k66, hd0] | refine OrW.go ?_
      refine RelC.call hoth.at ?_
      rintro r M ⟨hO4, hK, hown⟩
      have hp1 := hD1.lt
      have hpM : p < M.size := Nat.lt_of_lt_of_le hp1 hO4.1
      have hg1 := hD1.get
      have hgM : M.get p = .cells (d.step.cells v) 73 true .exact := by rw [hO4.2 p hp1]; exact hg1
      obtain ⟨av, cv, rfl⟩ := hK.len
      have hD2 : RAt (M.set p (.cells (({ d.step with files := othersR d.files s } : DiskR).cells (.slice av (othersR d.files s).length cv)) 73 true .exact)) p (.slice av (othersR d.files s).length cv) { d.step with files := othersR d.files s } :=
        ⟨by rw [AMem.size_set]; exact hpM, AMem.get_set_self _ _ _, hK.keep ((Keep.refl (fun x => x = p) M).set (fun _ => rfl) _) fun x X w sp hx e => by subst e; rw [hgM] at hx; cases hx⟩
      have hst2 : RStep p m (M.set p (.cells (({ d.step with files := othersR d.files s } : DiskR).cells (.slice av (othersR d.files s).length cv)) 73 true .exact)) := (hst1.trans (hO4.keep (fun x => x = p)) (fun _ _ h => h)).set (fun _ => rfl) _
      have e : rremoveR d s = (0, { d.step with files := othersR d.files s }) := by simp [rremoveR, h0, hset]
      simp only [DiskR.cells] at hgM hst2 hD2
      repeat first | simp (implicitDefEqProofs := false) (maxSteps := 1000000) (disch := first | omega | with_reducible assumption | (simp only [lenT, Nat.reduceAdd]; omega)) only [amT, cut, bnd, Nat.reduceBEq, reduceCtorEq, Nat.reduceEqDiff, Nat.reduceAdd, Nat.reduceMul, Nat.reduceSub, Int.reduceToNat, Int.reduceEq, Int.reduceLT, Int.reduceLE, Int.reduceAdd, Int.reduceSub, Int.reduceMul, reduceIte, resVs, resV, packV, initT, addr, hgM] | refine OrW.go ?_
      exact ⟨_, rfl, fun _ => ⟨by rw [e], by rw [e]; exact ⟨_, hD2.old (Old.here _ _), hst2.mx _⟩⟩⟩
  · have e : rremoveR d s = (rbarsE d s s true, d) := by simp [rremoveR, h0]
    repeat first | simp (implicitDefEqProofs := false) (maxSteps := 1000000) (disch := first | omega | with_reducible assumption | (simp only [lenT, Nat.reduceAdd]; omega)) only [amT, cut, bnd, Nat.reduceBEq, reduceCtorEq, Nat.reduceEqDiff, Nat.reduceAdd, Nat.reduceMul, Nat.reduceSub, Int.reduceToNat, Int.reduceEq, Int.reduceLT, Int.reduceLE, Int.reduceAdd, Int.reduceSub, Int.reduceMul, reduceIte, resVs, resV, packV, initT, addr, F45, kb, h0] | refine OrW.go ?_
    exact ⟨_, rfl, fun _ => ⟨by rw [e], by rw [e]; exact ⟨_, hD.old (Old.here _ _), (Old.here m _).keep _⟩⟩⟩
end Go.Proofs.Ytbmjhiifinjieaa
namespace Go.Proofs.Ytbmjhiifinjieaa
open Go Go.AM
set_option linter.unusedVariables false
set_option linter.unusedSimpArgs false
set_option linter.unusedSectionVars false
set_option maxHeartbeats 2000000
set_option maxRecDepth 100000

variable [Ex]
theorem cutL_sub {X : List Value} {k n : Nat} {r : List Value} (h : cutL X k n = some r) {j : Nat} (hj : j < n) : cutL X (k + j) 1 = (r[j]?).map fun x => [x] := by
  have hl := cutL_le h
  unfold cutL at h
  rw [if_pos hl] at h
  cases h
  unfold cutL
  rw [if_pos (by omega), List.getElem?_take, if_pos hj, List.getElem?_drop, List.getElem?_eq_getElem (by omega), List.drop_eq_getElem_cons (by omega)]; rfl
theorem rused_ok (m : AMem) (p : Nat) (v : Value) (d : DiskR) (hD : RAt m p v d) (hO : ROk d) : PureC Try.prog 0 51 [.pointer (some ⟨p, 0, none⟩)] m (.int .i64 (usedR d.files)) := by
  refine pure_of_W (fn := Try.f51) rfl rfl F51_ok (by simp [F51]) (.int _ _) ?_
  have hp := hD.lt
  have hd := hD.get
  have hu := hO.used
  have hf := hO.few
  obtain ⟨a, cap, rfl⟩ := hD.files.len
  simp only [DiskR.cells] at hd
  simp (implicitDefEqProofs := false) (maxSteps := 1000000) (disch := first | omega | with_reducible assumption | (simp only [lenT, Nat.reduceAdd]; omega)) only [amT, cut, bnd, Nat.reduceBEq, reduceCtorEq, Nat.reduceEqDiff, Nat.reduceAdd, Nat.reduceMul, Nat.reduceSub, Int.reduceToNat, Int.reduceEq, Int.reduceLT, Int.reduceLE, Int.reduceAdd, Int.reduceSub, Int.reduceMul, reduceIte, resVs, resV, packV, initT, addr, F51]
  refine W_loop (fun N qs => ∃ (i : Nat), N = d.files.length - i ∧ qs.ds = [] ∧ qs.m = mx m [] ∧ qs.t 0 = .pointer (some ⟨p, 0, none⟩) ∧ qs.t 3 = .int .i64 (usedR (d.files.take i)) ∧ qs.t 4 = .int .i64 i ∧ i ≤ d.files.length) (d.files.length - (0)) ⟨0, rfl, rfl, ?qm, ?q0, ?q3, ?q4, ?_⟩ ?_
  case qm | q0 | q3 | q4 => first | rfl | (simp (implicitDefEqProofs := false) (maxSteps := 1000000) (disch := first | omega | with_reducible assumption | (simp only [lenT, Nat.reduceAdd]; omega)) only [amT, cut, bnd, Nat.reduceBEq, reduceCtorEq, Nat.reduceEqDiff, Nat.reduceAdd, Nat.reduceMul, Nat.reduceSub, Int.reduceToNat, Int.reduceEq, Int.reduceLT, Int.reduceLE, Int.reduceAdd, Int.reduceSub, Int.reduceMul, reduceIte, resVs, resV, packV, initT, addr, usedR, List.take_zero]; first | done | rfl | (congr 1; omega))
  · omega
  · rintro N t m1 ds ⟨i, rfl, hds, hm, t0, t3, t4, hp⟩
    simp only at hds hm t0 t3 t4
    subst hds; replace hm := hm.symm; subst hm
    by_cases h1 : (i : Int) < (d.files.length : Int)
    · have hi : i < d.files.length := by omega
      obtain ⟨b, rfl, hb, hg, h4, h1'⟩ := hD.files.get hi
      simp only [kRow] at h4
      have hs : usedR (d.files.take (i + 1)) = usedR (d.files.take i) + d.files[i].size := by
        unfold usedR; rw [List.take_succ_eq_append_getElem hi, List.map_append, List.sum_append]; simp
      have hle : usedR (d.files.take (i + 1)) ≤ usedR d.files := by
        unfold usedR
        conv => rhs; rw [← List.take_append_drop (i + 1) d.files, List.map_append, List.sum_append]
        omega
      rw [hs] at hle
      simp only [FileR.size] at hs hle
      have f1 : rdO (m.get b) (i * 4 + 1) 1 = some [.string ⟨d.files[i].dry.toArray⟩] := by
        rw [hg, rdO_cells]
        have := cutL_sub h4 (j := 1) (by omega)
        exact this
      have f2 : rdO (m.get b) (i * 4 + 2) 1 = some [.string ⟨d.files[i].wet.toArray⟩] := by
        rw [hg, rdO_cells]
        have := cutL_sub h4 (j := 2) (by omega)
        exact this
      repeat first | simp (implicitDefEqProofs := false) (maxSteps := 1000000) (disch := first | omega | with_reducible assumption | (simp only [lenT, Nat.reduceAdd]; omega)) only [amT, cut, bnd, Nat.reduceBEq, reduceCtorEq, Nat.reduceEqDiff, Nat.reduceAdd, Nat.reduceMul, Nat.reduceSub, Int.reduceToNat, Int.reduceEq, Int.reduceLT, Int.reduceLE, Int.reduceAdd, Int.reduceSub, Int.reduceMul, reduceIte, resVs, resV, packV, initT, addr, F51_l0, t0, t3, t4, h1, hd, f1, f2] | refine OrW.go ?_
      rw [LoopK_normal]; refine ⟨_, ?_, i + 1, rfl, rfl, ?qm, ?q0, ?q3, ?q4, ?_⟩
      case qm | q0 | q3 | q4 => first | rfl | (simp (implicitDefEqProofs := false) (maxSteps := 1000000) (disch := first | omega | with_reducible assumption | (simp only [lenT, Nat.reduceAdd]; omega)) only [amT, cut, bnd, Nat.reduceBEq, reduceCtorEq, Nat.reduceEqDiff, Nat.reduceAdd, Nat.reduceMul, Nat.reduceSub, Int.reduceToNat, Int.reduceEq, Int.reduceLT, Int.reduceLE, Int.reduceAdd, Int.reduceSub, Int.reduceMul, reduceIte, resVs, resV, packV, initT, addr, t0, t3, t4, hs, Int.natCast_add]; first | done | rfl | (congr 1; omega))
      · omega
      · omega
    · obtain rfl : i = d.files.length := by omega
      rw [List.take_length] at t3
      simp (implicitDefEqProofs := false) (maxSteps := 1000000) (disch := first | omega | with_reducible assumption | (simp only [lenT, Nat.reduceAdd]; omega)) only [amT, cut, bnd, Nat.reduceBEq, reduceCtorEq, Nat.reduceEqDiff, Nat.reduceAdd, Nat.reduceMul, Nat.reduceSub, Int.reduceToNat, Int.reduceEq, Int.reduceLT, Int.reduceLE, Int.reduceAdd, Int.reduceSub, Int.reduceMul, reduceIte, resVs, resV, packV, initT, addr, F51_l0, t0, t3, t4, h1, hd]
end Go.Proofs.Ytbmjhiifinjieaa
namespace Go.Proofs.Ytbmjhiifinjieaa
open Go Go.AM
set_option linter.unusedVariables false
set_option linter.unusedSimpArgs false
set_option linter.unusedSectionVars false
set_option maxHeartbeats 2000000
set_option maxRecDepth 100000

variable [Ex]
theorem lookOr_name (fs : List FileR) (s : List UInt8) : (lookOr fs s).name = s := by
  unfold lookOr
  cases h : lookR fs s with
  | none => rfl
  | some f => have := List.find?_some h; simpa using this
def rappendR (d : DiskR) (s c : List UInt8) : Int × DiskR :=
  if rbarsE d s s false = 0 then
    if (8388608 : Int) < ((lookOr d.files s).size : Int) + c.length then (3, d)
    else if d.quota < (usedR d.files : Int) + c.length then (41, d)
    else (if d.set = 0 then 40 else 0, DiskR.step { d with files := othersR d.files s ++ [⟨s, (lookOr d.files s).dry, (lookOr d.files s).wet ++ c, (lookOr d.files s).born⟩] })
  else (rbarsE d s s false, d)
theorem rappend_ok (m : AMem) (p : Nat) (v : Value) (d : DiskR) (s : List UInt8) (a3 : Option Addr) (cap3 : Nat) (c : List UInt8) (hs : s.length ≤ 9223372036854775807) (hc : BSl m a3 cap3 c) (hcl : c.length ≤ 1000000) (hD : RAt m p v d) (hO : ROk d) :
    RelC Try.prog 0 41 [.pointer (some ⟨p, 0, none⟩), .string ⟨s.toArray⟩, .slice a3 c.length cap3] m fun r m' => r = .int .i64 (rappendR d s c).1 ∧ ∃ v', RAt m' p v' (rappendR d s c).2 ∧ RStep p m m' := by
  refine rel_of_W (fn := Try.f41) rfl rfl F41_ok (by simp [F41]) ?_
  have hf := hO.few; have hu := hO.used; have hz := look_size d.files s
  have hp := hD.lt
  have hd := hD.get
  have hq1 := hO.q1
  have hq0 := hO.q0
  have kb := DetC.known (rbars_ok (mx m []) p v d s s false hs hs (hD.old (Old.here _ _)) (by omega))
  have ks := DetC.known (rsize_ok (mx m []) p v d s (hD.old (Old.here _ _)) (by omega) (by omega))
  have ku := DetC.known (rused_ok (mx m []) p v d (hD.old (Old.here _ _)) hO)
  have kl := DetC.known (look_ok (mx m []) p v d s (hD.old (Old.here _ _)) (by omega))
  have same : ∀ e, rappendR d s c = (e, d) → ∃ v', RAt (mx m []) p v' (rappendR d s c).2 ∧ RStep p m (mx m []) := fun e h => by rw [h]; exact ⟨_, hD.old (Old.here _ _), (Old.here m _).keep _⟩
  simp only [DiskR.cells] at hd
  by_cases h0 : rbarsE d s s false = 0
  · rw [h0] at kb
    by_cases h1 : (8388608 : Int) < ((lookOr d.files s).size : Int) + c.length
    · have e : rappendR d s c = (3, d) := by simp [rappendR, h0, h1]
      repeat first | simp (implicitDefEqProofs := false) (maxSteps := 1000000) (disch := first | omega | with_reducible assumption | (simp only [lenT, Nat.reduceAdd]; omega)) only [amT, cut, bnd, Nat.reduceBEq, reduceCtorEq, Nat.reduceEqDiff, Nat.reduceAdd, Nat.reduceMul, Nat.reduceSub, Int.reduceToNat, Int.reduceEq, Int.reduceLT, Int.reduceLE, Int.reduceAdd, Int.reduceSub, Int.reduceMul, reduceIte, resVs, resV, packV, initT, addr, F41, kb, ks, h1] | refine OrW.go ?_
      exact ⟨_, rfl, fun _ => ⟨by rw [e], same _ e⟩⟩
    · by_cases h2 : d.quota < (usedR d.files : Int) + c.length
      · have e : rappendR d s c = (41, d) := by simp [rappendR, h0, h1, h2]
        repeat first | simp (implicitDefEqProofs := false) (maxSteps := 1000000) (disch := first | omega | with_reducible assumption | (simp only [lenT, Nat.reduceAdd]; omega)) only [amT, cut, bnd, Nat.reduceBEq, reduceCtorEq, Nat.reduceEqDiff, Nat.reduceAdd, Nat.reduceMul, Nat.reduceSub, Int.reduceToNat, Int.reduceEq, Int.reduceLT, Int.reduceLE, Int.reduceAdd, Int.reduceSub, Int.reduceMul, reduceIte, resVs, resV, packV, initT, addr, F41, kb, ks, h1, hd, ku, h2] | refine OrW.go ?_
        exact ⟨_, rfl, fun _ => ⟨by rw [e], same _ e⟩⟩
      · have e : rappendR d s c = (if d.set = 0 then 40 else 0, DiskR.step { d with files := othersR d.files s ++ [⟨s, (lookOr d.files s).dry, (lookOr d.files s).wet ++ c, (lookOr d.files s).born⟩] }) := by simp [rappendR, h0, h1, h2]
        have hln := lookOr_name d.files s
        simp only [kRow, hln] at kl
        have hstr := (hc.old (Old.here m [.cells [.string ⟨s.toArray⟩, .string ⟨(lookOr d.files s).dry.toArray⟩, .string ⟨(lookOr d.files s).wet.toArray⟩, .bool (lookOr d.files s).born] 91 true .exact])).str
        simp only [FileR.size] at hz
        have hch := changes_ok (mx m [.cells [.string ⟨s.toArray⟩, .string ⟨(lookOr d.files s).dry.toArray⟩, .string ⟨((lookOr d.files s).wet ++ c).toArray⟩, .bool (lookOr d.files s).born] 91 true .exact]) p v d ⟨s, (lookOr d.files s).dry, (lookOr d.files s).wet ++ c, (lookOr d.files s).born⟩ (hD.old (Old.here _ _)) (by omega)
        simp only [kRow] at hch
        repeat first | simp (implicitDefEqProofs := false) (maxSteps := 1000000) (disch := first | omega | with_reducible assumption | (simp only [lenT, Nat.reduceAdd]; omega)) only [amT, cut, bnd, Nat.reduceBEq, reduceCtorEq, Nat.reduceEqDiff, Nat.reduceAdd, Nat.reduceMul, Nat.reduceSub, Int.reduceToNat, Int.reduceEq, Int.reduceLT, Int.reduceLE, Int.reduceAdd, Int.reduceSub, Int.reduceMul, reduceIte, resVs, resV, packV, initT, addr, F41, kb, ks, h1, hd, ku, h2, kl, cellsOf_kRow, splice4, cutL4, stepOp_b2s_v, hstr] | refine OrW.go ?_
        refine RelC.call hch ?_
        rintro r M ⟨rfl, v', hR, hS⟩
        have k66 := DetC.known (rstep_d M p v' _ hR hO.s0 hO.s1 hO.t0 hO.t1).start
        have hR2 := hR.put (step_files _)
        have hst : RStep p m (M.set p (.cells ((DiskR.step { d with files := othersR d.files s ++ [⟨s, (lookOr d.files s).dry, (lookOr d.files s).wet ++ c, (lookOr d.files s).born⟩] }).cells v') 73 true .exact)) := (((Old.here m _).keep (fun x => x = p)).trans hS (fun _ _ h => h)).set (fun _ => rfl) _
        by_cases hset : d.set = 0
        · have hd0 : decide (d.set = 0) = true := by simp [hset]
          repeat first | simp (implicitDefEqProofs := false) (maxSteps := 1000000) (disch := first | omega | with_reducible assumption | (simp only [lenT, Nat.reduceAdd]; omega)) only [amT, cut, bnd, Nat.reduceBEq, reduceCtorEq, Nat.reduceEqDiff, Nat.reduceAdd, Nat.reduceMul, Nat.reduceSub, Int.reduceToNat, Int.reduceEq, Int.reduceLT, Int.reduceLE, Int.reduceAdd, Int.reduceSub, Int.reduceMul, reduceIte, resVs, resV, packV, initT, addr, k66, hd0] | refine OrW.go ?_
          exact ⟨_, rfl, fun _ => ⟨by rw [e]; simp [hset], by rw [e]; exact ⟨_, hR2.old (Old.here _ _), hst.mx _⟩⟩⟩
        · have hd0 : decide (d.set = 0) = false := by simp [hset]
          repeat first | simp (implicitDefEqProofs := false) (maxSteps := 1000000) (disch := first | omega | with_reducible assumption | (simp only [lenT, Nat.reduceAdd]; omega)) only [amT, cut, bnd, Nat.reduceBEq, reduceCtorEq, Nat.reduceEqDiff, Nat.reduceAdd, Nat.reduceMul, Nat.reduceSub, Int.reduceToNat, Int.reduceEq, Int.reduceLT, Int.reduceLE, Int.reduceAdd, Int.reduceSub, Int.reduceMul, reduceIte, resVs, resV, packV, initT, addr, k66, hd0] | refine OrW.go ?_
          exact ⟨_, rfl, fun _ => ⟨by rw [e]; simp [hset], by rw [e]; exact ⟨_, hR2.old (Old.here _ _), hst.mx _⟩⟩⟩
  · have e : rappendR d s c = (rbarsE d s s false, d) := by simp [rappendR, h0]
    repeat first | simp (implicitDefEqProofs := false) (maxSteps := 1000000) (disch := first | omega | with_reducible assumption | (simp only [lenT, Nat.reduceAdd]; omega)) only [amT, cut, bnd, Nat.reduceBEq, reduceCtorEq, Nat.reduceEqDiff, Nat.reduceAdd, Nat.reduceMul, Nat.reduceSub, Int.reduceToNat, Int.reduceEq, Int.reduceLT, Int.reduceLE, Int.reduceAdd, Int.reduceSub, Int.reduceMul, reduceIte, resVs, resV, packV, initT, addr, F41, kb, h0] | refine OrW.go ?_
    exact ⟨_, rfl, fun _ => ⟨by rw [e], same _ e⟩⟩
end Go.Proofs.Ytbmjhiifinjieaa
namespace Go.Proofs.Ytbmjhiifinjieaa
open Go Go.AM
set_option linter.unusedVariables false
set_option linter.unusedSimpArgs false
set_option linter.unusedSectionVars false

variable [Ex]
theorem look_app (fs : List FileR) (f : FileR) (s : List UInt8) : lookR (fs ++ [f]) s = if f.name = s then some f else lookR fs s := by
  unfold lookR
  rw [List.reverse_append]
  by_cases h : f.name = s <;> simp [h]
theorem look_others (fs : List FileR) (t s : List UInt8) : lookR (othersR fs t) s = if t = s then none else lookR fs s := by
  unfold lookR othersR
  rw [← List.filter_reverse, List.find?_filter]
  by_cases h : t = s
  · rw [if_pos h, List.find?_eq_none]
    intro x _
    subst h
    simp
  · rw [if_neg h]
    congr 1
    funext x
    by_cases hx : x.name = s
    · have : x.name ≠ t := fun e => h (e.symm.trans hx)
      simp [hx, this]
      intro e; exact h e.symm
    · simp [hx]
theorem oth_all {fs : List FileR} {t : List UInt8} (h : ∀ f ∈ fs, f.name ≠ t) : othersR fs t = fs := by
  unfold othersR; rw [List.filter_eq_self]; intro f hf; simpa using h f hf
theorem oth_cons (f : FileR) (fs : List FileR) (t : List UInt8) : othersR (f :: fs) t = if f.name = t then othersR fs t else f :: othersR fs t := by
  unfold othersR; rw [List.filter_cons]; by_cases h : f.name = t <;> simp [h]
theorem oth_perm {a b : List FileR} (h : a.Perm b) (t : List UInt8) : (othersR a t).Perm (othersR b t) := h.filter _
theorem del_oth : ∀ {fs : List FileR} (h : Sorted fs) {t : List UInt8} (ht : isAt fs t = true), delR fs t = othersR fs t
  | [], _, t, ht => by cases ht
  | f :: fs, h, t, ht => by
    rw [isAt_cons] at ht
    rw [del_cons, oth_cons]
    split
    · rename_i h1
      rw [if_pos h1] at ht
      rw [if_neg (ltB_ne h1), del_oth h.tl ht]
    · rename_i h1
      rw [if_neg h1] at ht
      have hf : f.name = t := by simpa using ht
      rw [if_pos hf, oth_all]
      intro x hx e
      have := h.hd x hx
      rw [e, hf, ltB_irrefl] at this; cases this
theorem lay_perm : ∀ {fs : List FileR} (h : Sorted fs) (g : FileR), (layR fs g).Perm (othersR fs g.name ++ [g])
  | [], _, g => by rw [lay_nil]; exact List.Perm.refl _
  | f :: fs, h, g => by
    rw [lay_cons, oth_cons]
    split
    · rename_i h1
      rw [if_neg (ltB_ne h1)]
      exact (lay_perm h.tl g).cons f
    · rename_i h1
      have hgt : ∀ x ∈ fs, x.name ≠ g.name := fun x hx e => by
        have := h.hd x hx
        rw [e] at this; exact h1 this
      split
      · rw [oth_all hgt]
        exact List.perm_append_comm (l₁ := [g]) (l₂ := fs)
      · rw [oth_all hgt]
        exact List.perm_append_comm (l₁ := [g]) (l₂ := f :: fs)
theorem used_perm {a b : List FileR} (h : a.Perm b) : usedR a = usedR b := by unfold usedR; exact (h.map _).sum_nat
/-- Both have the same files. -/
structure Same (d r : DiskR) : Prop where
  sorted : Sorted d.files
  perm : d.files.Perm r.files
  file : ∀ s, getF d.files s = lookR r.files s
  quota : d.quota = r.quota
  steps : d.steps = r.steps
  set : d.set = r.set
  off : d.off = r.off
theorem Same.there {d r : DiskR} (h : Same d r) (s : List UInt8) : isAt d.files s = (lookR r.files s).isSome := by rw [(isAt_get h.sorted s).1, h.file]
theorem Same.or {d r : DiskR} (h : Same d r) (s : List UInt8) : fileOr d.files s = lookOr r.files s := by rw [(isAt_get h.sorted s).2, h.file]; rfl
theorem Same.new (q : Int) : Same (newR q) (newR q) := ⟨.nil, .refl _, fun _ => rfl, rfl, rfl, rfl, rfl⟩
theorem Same.step {d r : DiskR} (h : Same d r) : Same d.step r.step := by
  unfold DiskR.step
  rw [h.set]
  split
  · exact ⟨h.sorted, h.perm, h.file, h.quota, by simp only [h.steps], rfl, rfl⟩
  · exact ⟨h.sorted, h.perm, h.file, h.quota, by simp only [h.steps], by simp only, h.off⟩
theorem Same.fail {d r : DiskR} (h : Same d r) (n : Int) : Same (failR d n) (failR r n) := ⟨h.sorted, h.perm, h.file, h.quota, h.steps, rfl, h.off⟩
theorem Same.crash {d r : DiskR} (h : Same d r) : Same (crashR d) (crashR r) := ⟨h.sorted, h.perm, h.file, h.quota, h.steps, rfl, rfl⟩
theorem Same.lay {d r : DiskR} (h : Same d r) (f : FileR) : Same { d with files := layR d.files f } { r with files := othersR r.files f.name ++ [f] } :=
  ⟨h.sorted.lay f, (lay_perm h.sorted f).trans ((oth_perm h.perm _).append_right [f]), fun s => by
    simp only []
    rw [get_lay, look_app, look_others, h.file]
    by_cases e : f.name = s <;> simp [e], h.quota, h.steps, h.set, h.off⟩
theorem Same.del {d r : DiskR} (h : Same d r) {t : List UInt8} (ht : isAt d.files t = true) : Same { d with files := delR d.files t } { r with files := othersR r.files t } :=
  ⟨h.sorted.erase _, by simp only []; rw [del_oth h.sorted ht]; exact oth_perm h.perm t, fun s => by
    simp only []
    rw [get_del h.sorted ht, look_others, h.file], h.quota, h.steps, h.set, h.off⟩
theorem bars_alike {d r : DiskR} (h : Same d r) (s : List UInt8) : barsE d.off [s] = rbarsE r s s false := by
  unfold barsE rbarsE; rw [h.off]; cases r.off <;> cases hb : badN s <;> simp [hb]
theorem Same.append {d r : DiskR} (h : Same d r) (s c : List UInt8) : (appendR d s c).1 = (rappendR r s c).1 ∧ Same (appendR d s c).2 (rappendR r s c).2 := by
  have hb := bars_alike h s
  have ho := h.or s
  have hu := used_perm h.perm
  have hn := lookOr_name r.files s
  have hs := h.set
  unfold appendR rappendR
  rw [hb, ho, hu, h.quota]
  split
  · have i1 : ((8388608 : Int) - ((lookOr r.files s).size : Int) < c.length) = ((8388608 : Int) < ((lookOr r.files s).size : Int) + c.length) := propext ⟨fun _ => by omega, fun _ => by omega⟩
    have i2 : (r.quota - (usedR r.files : Int) < c.length) = (r.quota < (usedR r.files : Int) + c.length) := propext ⟨fun _ => by omega, fun _ => by omega⟩
    simp only [i1, i2]
    by_cases g1 : (8388608 : Int) < ((lookOr r.files s).size : Int) + c.length
    · simp only [if_pos g1]; exact ⟨trivial, h⟩
    · simp only [if_neg g1]
      by_cases g2 : r.quota < (usedR r.files : Int) + c.length
      · simp only [if_pos g2]; exact ⟨trivial, h⟩
      · simp only [if_neg g2]
        refine ⟨by simp only [hs], ?_⟩
        have hl := (h.lay { lookOr r.files s with wet := (lookOr r.files s).wet ++ c }).step
        simp only [hn, h.quota] at hl ⊢
        exact hl
  · exact ⟨rfl, h⟩
end Go.Proofs.Ytbmjhiifinjieaa
namespace Go.Proofs.Ytbmjhiifinjieaa
open Go Go.AM
set_option linter.unusedVariables false
set_option linter.unusedSimpArgs false
set_option linter.unusedSectionVars false

variable [Ex]
theorem Same.all {d r : DiskR} (h : Same d r) {a : List UInt8} (ht : isAt d.files a = true) : (fileAt d.files a).all = kAll r.files a := by
  have := h.or a
  unfold fileOr at this
  rw [ht] at this
  simp only [if_true] at this
  rw [this]; rfl
theorem Same.dry {d r : DiskR} (h : Same d r) (a b : List UInt8) : (driesR d a b some).1 = (rdoR r a b (lookOr r.files a).size).1 ∧ Same (driesR d a b some).2 (rdoR r a b (lookOr r.files a).size).2 := by
  have ht := h.there a
  cases hoff : r.off with
  | true => simp [driesR, rdoR, barsE, rbarsE, h.off, hoff, h]
  | false =>
    cases ba : badN a with
    | true => simp [driesR, rdoR, barsE, rbarsE, h.off, hoff, ba, h]
    | false =>
      cases bb : badN b with
      | true => simp [driesR, rdoR, barsE, rbarsE, h.off, hoff, ba, bb, h]
      | false =>
        cases hl : (lookR r.files a).isSome with
        | false =>
          rw [hl] at ht
          simp [driesR, rdoR, barsE, rbarsE, h.off, hoff, ba, bb, hl, ht, h]
        | true =>
          rw [hl] at ht
          have hall := h.all ht
          have htk : (kAll r.files a).take (lookOr r.files a).size = kAll r.files a := List.take_of_length_le (by rw [kAll_len]; exact Nat.le_refl _)
          have e1 : barsE d.off [a, b] = 0 := by simp [barsE, h.off, hoff, ba, bb]
          have e2 : rbarsE r a b true = 0 := by simp [rbarsE, hoff, ba, bb, hl]
          unfold driesR rdoR rdriesR
          rw [if_pos e1, if_pos e2, if_pos ht, hall, htk, h.set]
          simp only []
          by_cases hset : r.set = 0
          · simp only [if_pos hset]; exact ⟨trivial, h.step⟩
          · simp only [if_neg hset]
            have ht2 : isAt d.step.files a = true := by rw [step_files]; exact ht
            have := ((h.step).del ht2).lay ⟨b, kAll r.files a, [], true⟩
            simp only [step_files] at this
            exact ⟨trivial, this⟩

theorem Same.cut {d r : DiskR} (h : Same d r) (a : List UInt8) (n : Int) : (driesR d a a (cutN n)).1 = (rcutR r a n).1 ∧ Same (driesR d a a (cutN n)).2 (rcutR r a n).2 := by
  have ht := h.there a
  cases hoff : r.off with
  | true => simp [driesR, rcutR, barsE, rbarsE, h.off, hoff, h]
  | false =>
    cases ba : badN a with
    | true => simp [driesR, rcutR, barsE, rbarsE, h.off, hoff, ba, h]
    | false =>
      cases hl : (lookR r.files a).isSome with
      | false =>
        rw [hl] at ht
        simp [driesR, rcutR, barsE, rbarsE, h.off, hoff, ba, hl, ht, h]
      | true =>
        rw [hl] at ht
        have hall := h.all ht
        have e1 : barsE d.off [a, a] = 0 := by simp [barsE, h.off, hoff, ba]
        have e2 : rbarsE r a a true = 0 := by simp [rbarsE, hoff, ba, hl]
        have hk := kAll_len r.files a
        unfold driesR rcutR rdriesR
        rw [if_pos e1, if_pos e2, if_pos ht, hall, h.set]
        unfold cutN
        rw [hk]
        by_cases hn : n < 0 ∨ ((lookOr r.files a).size : Int) < n
        · simp only [if_pos hn]; exact ⟨trivial, h⟩
        · simp only [if_neg hn]
          by_cases hset : r.set = 0
          · simp only [if_pos hset]; exact ⟨trivial, h.step⟩
          · simp only [if_neg hset]
            have ht2 : isAt d.step.files a = true := by rw [step_files]; exact ht
            have := ((h.step).del ht2).lay ⟨a, (kAll r.files a).take n.toNat, [], true⟩
            simp only [step_files] at this
            exact ⟨trivial, this⟩
theorem bars_true {d r : DiskR} (h : Same d r) (s : List UInt8) : (barsE d.off [s] = 0 ∧ rbarsE r s s true = (if (lookR r.files s).isSome then 0 else 5)) ∨ (barsE d.off [s] ≠ 0 ∧ rbarsE r s s true = barsE d.off [s]) := by
  cases hoff : r.off <;> cases ba : badN s <;> cases hl : (lookR r.files s).isSome <;> simp [barsE, rbarsE, h.off, hoff, ba, hl]
theorem Same.rem {d r : DiskR} (h : Same d r) (s : List UInt8) : (removeR d s).1 = (rremoveR r s).1 ∧ Same (removeR d s).2 (rremoveR r s).2 := by
  have ht := h.there s
  unfold removeR rremoveR
  rcases bars_true h s with ⟨e1, e2⟩ | ⟨e1, e2⟩
  · rw [if_pos e1, e2]
    cases hl : (lookR r.files s).isSome with
    | false => rw [hl] at ht; simp [ht, h]
    | true =>
      rw [hl] at ht
      rw [if_pos ht, h.set]
      simp only [if_true]
      by_cases hset : r.set = 0
      · simp only [if_pos hset]; exact ⟨trivial, h.step⟩
      · simp only [if_neg hset]
        have ht2 : isAt d.step.files s = true := by rw [step_files]; exact ht
        have := (h.step).del ht2
        simp only [step_files] at this
        exact ⟨trivial, this⟩
  · rw [if_neg e1, e2, if_neg e1]; exact ⟨rfl, h⟩
theorem Same.read {d r : DiskR} (h : Same d r) (s : List UInt8) : readR d s = rreadR r s := by
  have ht := h.there s
  unfold readR rreadR
  rcases bars_true h s with ⟨e1, e2⟩ | ⟨e1, e2⟩
  · rw [if_pos e1, e2]
    cases hl : (lookR r.files s).isSome with
    | false => rw [hl] at ht; simp [ht]
    | true => rw [hl] at ht; rw [if_pos ht, h.all ht]; simp
  · rw [if_neg e1, e2, if_neg e1]
end Go.Proofs.Ytbmjhiifinjieaa
namespace Go.Proofs.Ytbmjhiifinjieaa
open Go Go.AM
set_option linter.unusedVariables false
set_option linter.unusedSimpArgs false
set_option linter.unusedSectionVars false

variable [Ex]
/-- By their names, one after the other put in its place. -/
def sortR (fs : List FileR) : List FileR := fs.foldl (fun o f => insR o (place o f.name) f) []
theorem ins_lay {o : List FileR} (hS : Sorted o) {f : FileR} (h : ∀ g ∈ o, g.name ≠ f.name) : insR o (place o f.name) f = layR o f := by
  have hn : isAt o f.name = false := by
    rw [(isAt_get hS f.name).1, getF_none h]; rfl
  unfold layR; rw [hn]; simp
theorem sort_ok : ∀ (fs o : List FileR), Sorted o → (o ++ fs).Pairwise (fun a b => a.name ≠ b.name) → Sorted (fs.foldl (fun o f => insR o (place o f.name) f) o) ∧ (fs.foldl (fun o f => insR o (place o f.name) f) o).Perm (o ++ fs)
  | [], o, hS, _ => ⟨hS, by simp⟩
  | f :: fs, o, hS, hd => by
    have hne : ∀ g ∈ o, g.name ≠ f.name := fun g hg => (List.pairwise_append.1 hd).2.2 g hg f (by simp)
    have e := ins_lay hS hne
    have hp : (layR o f).Perm (o ++ [f]) := by have := lay_perm hS f; rwa [oth_all hne] at this
    have hd2 : (layR o f ++ fs).Pairwise (fun a b => a.name ≠ b.name) := by
      refine List.Perm.pairwise (l := o ++ f :: fs) ?_ hd (fun h => fun e => h e.symm)
      have := (hp.append_right fs).symm
      simpa using this
    obtain ⟨h1, h2⟩ := sort_ok fs (layR o f) (hS.lay f) hd2
    simp only [List.foldl_cons, e]
    exact ⟨h1, h2.trans (by simpa using hp.append_right fs)⟩

theorem sorted_eq : ∀ {a b : List FileR}, Sorted a → Sorted b → a.Perm b → a = b
  | [], b, _, _, h => (List.nil_perm.1 h).symm
  | x :: a, [], _, _, h => by have := h.length_eq; simp at this
  | x :: a, y :: b, ha, hb, h => by
    have hxy : x = y := by
      have h1 : x ∈ y :: b := h.subset (by simp)
      have h2 : y ∈ x :: a := h.symm.subset (by simp)
      rcases List.mem_cons.1 h1 with h1 | h1
      · exact h1
      · rcases List.mem_cons.1 h2 with h2 | h2
        · exact h2.symm
        · have := ltB_trans (ha.hd y h2) (hb.hd x h1)
          rw [ltB_irrefl] at this; cases this
    subst hxy
    rw [sorted_eq ha.tl hb.tl ((List.perm_cons x).1 h)]
theorem Same.sort {d r : DiskR} (h : Same d r) : sortR r.files = d.files := by
  have hd : (d.files).Pairwise (fun a b => a.name ≠ b.name) := List.Pairwise.imp (fun h => ltB_ne h) h.sorted
  have hr : (r.files).Pairwise (fun a b => a.name ≠ b.name) := List.Perm.pairwise h.perm hd (fun h e => h e.symm)
  obtain ⟨h1, h2⟩ := sort_ok r.files [] .nil (by simpa using hr)
  exact sorted_eq h1 h.sorted (h2.trans (by simpa using h.perm.symm))

theorem get_look : ∀ {fs : List FileR}, Sorted fs → ∀ s, getF fs s = lookR fs s
  | [], _, s => rfl
  | f :: fs, h, s => by
    have ih := get_look h.tl s
    have e : lookR (f :: fs) s = (lookR fs s).or (if f.name = s then some f else none) := by
      unfold lookR
      rw [List.reverse_cons, List.find?_append]
      by_cases hs : f.name = s <;> simp [hs]
    rw [getF_cons, e, ← ih]
    by_cases hs : f.name = s
    · have : getF fs s = none := getF_none fun x hx ex => by
        have := h.hd x hx
        rw [ex, hs, ltB_irrefl] at this; cases this
      simp [hs, this]
    · cases getF fs s <;> simp [hs]
/-- The reference comes on. -/
def rOnR (r : DiskR) (keep : List Int) : DiskR := if r.off then { r with files := onFiles keep (sortR r.files) (sortR r.files).length, set := -1, off := false } else { r with set := -1 }
theorem Same.on {d r : DiskR} (h : Same d r) (keep : List Int) : Same (onR d keep) (rOnR r keep) := by
  unfold onR rOnR
  rw [h.off, h.sort]
  split
  · have hs : Sorted (onFiles keep d.files d.files.length) := by rw [onS_eq]; exact h.sorted.onS 0
    exact ⟨hs, .refl _, get_look hs, h.quota, h.steps, rfl, rfl⟩
  · exact ⟨h.sorted, h.perm, h.file, h.quota, h.steps, rfl, by simp only []⟩
end Go.Proofs.Ytbmjhiifinjieaa
namespace Go.Proofs.Ytbmjhiifinjieaa
open Go Go.AM
set_option linter.unusedVariables false
set_option linter.unusedSimpArgs false
set_option linter.unusedSectionVars false
set_option maxHeartbeats 2000000
set_option maxRecDepth 100000

variable [Ex]
/-- Rows of files as Files tells them. -/
inductive Rows (m : AMem) : List FileR → List Value → Prop
  | nil : Rows m [] []
  | cons {f : FileR} {b : Nat} {fs : List FileR} {X : List Value} : b < m.size → m.get b = .cells (f.all.map byteV) 5 true (.room [.int .u8 0]) → Rows m fs X → Rows m (f :: fs) (.string ⟨f.name.toArray⟩ :: .slice (some ⟨b, 0, none⟩) f.all.length openCap :: X)
theorem Rows.len {m : AMem} {fs : List FileR} {X : List Value} (h : Rows m fs X) : X.length = 2 * fs.length := by
  induction h with
  | nil => rfl
  | cons _ _ _ ih => simp only [List.length_cons, ih]; omega
theorem Rows.one {m : AMem} {fs : List FileR} {X : List Value} (h : Rows m fs X) : X.all oneCell = true := by
  induction h with
  | nil => rfl
  | cons _ _ _ ih => simp only [List.all_cons, ih]; rfl
theorem Rows.app {m : AMem} {fs gs : List FileR} {X Y : List Value} (h : Rows m fs X) (h' : Rows m gs Y) : Rows m (fs ++ gs) (X ++ Y) := by
  induction h with
  | nil => exact h'
  | cons h1 h2 _ ih => exact .cons h1 h2 ih
theorem Rows.take {m : AMem} {fs : List FileR} {X : List Value} (h : Rows m fs X) : ∀ n, Rows m (fs.take n) (X.take (2 * n)) := by
  induction h with
  | nil => intro n; simp; exact .nil
  | cons h1 h2 _ ih =>
    intro n
    cases n with
    | zero => exact .nil
    | succ n => rw [show 2 * (n + 1) = 2 * n + 1 + 1 by omega]; simp only [List.take_succ_cons]; exact .cons h1 h2 (ih n)
theorem Rows.drop {m : AMem} {fs : List FileR} {X : List Value} (h : Rows m fs X) : ∀ n, Rows m (fs.drop n) (X.drop (2 * n)) := by
  induction h with
  | nil => intro n; simp; exact .nil
  | cons h1 h2 h3 ih =>
    intro n
    cases n with
    | zero => exact .cons h1 h2 h3
    | succ n => rw [show 2 * (n + 1) = 2 * n + 1 + 1 by omega]; simp only [List.drop_succ_cons]; exact ih n
theorem Rows.keep {m m' : AMem} {fs : List FileR} {X : List Value} (h : Rows m fs X) {O : Nat → Prop} (hk : Keep O m m') (ho : ∀ x Y w sp, m.get x = .cells Y 5 w sp → ¬ O x) : Rows m' fs X := by
  induction h with
  | nil => exact .nil
  | cons h1 h2 _ ih => exact .cons (Nat.lt_of_lt_of_le h1 hk.1) (by rw [hk.2 _ h1 (ho _ _ _ _ h2)]; exact h2) ih
theorem Rows.get {m : AMem} {fs : List FileR} {X : List Value} (h : Rows m fs X) {k : Nat} (hk : k < fs.length) : ∃ b, cutL X (k * 2) 2 = some [.string ⟨fs[k].name.toArray⟩, .slice (some ⟨b, 0, none⟩) fs[k].all.length openCap] ∧ b < m.size ∧ m.get b = .cells (fs[k].all.map byteV) 5 true (.room [.int .u8 0]) := by
  have hd := h.drop k
  have hl := h.len
  rw [List.drop_eq_getElem_cons hk] at hd
  generalize hY : X.drop (2 * k) = Y at hd
  cases hd with
  | cons h1 h2 h3 =>
    refine ⟨_, ?_, h1, h2⟩
    unfold cutL
    rw [if_pos (by omega), Nat.mul_comm k 2, hY]; rfl
def zO : List Value := [.string ⟨#[]⟩, .slice none 0 0]
/-- A slice of such rows. -/
def FilV (m : AMem) (v : Value) (fs : List FileR) : Prop :=
  (fs = [] ∧ v = .slice none 0 0) ∨ ∃ b X, v = .slice (some ⟨b, 0, none⟩) fs.length openCap ∧ b < m.size ∧ m.get b = .cells X 77 true (.room zO) ∧ Rows m fs X
theorem FilV.len {m : AMem} {v : Value} {fs : List FileR} (h : FilV m v fs) : ∃ a cap, v = .slice a fs.length cap := by
  rcases h with ⟨rfl, rfl⟩ | ⟨b, X, rfl, _⟩
  · exact ⟨_, _, rfl⟩
  · exact ⟨_, _, rfl⟩
theorem FilV.keep {m m' : AMem} {v : Value} {fs : List FileR} (h : FilV m v fs) {O : Nat → Prop} (hk : Keep O m m') (ho : ∀ x Y w sp, m.get x = .cells Y 5 w sp → ¬ O x) (hv : ∀ x, ownV v x → ¬ O x) : FilV m' v fs := by
  rcases h with h | ⟨b, X, rfl, h1, h2, h3⟩
  · exact .inl h
  · exact .inr ⟨b, X, rfl, Nat.lt_of_lt_of_le h1 hk.1, by rw [hk.2 b h1 (hv b ⟨_, _, _, rfl⟩)]; exact h2, h3.keep hk ho⟩
theorem FilV.old {m m' : AMem} {v : Value} {fs : List FileR} (h : FilV m v fs) (hk : Old m m') : FilV m' v fs := h.keep (hk.keep fun _ => False) (fun _ _ _ _ _ h => h) (fun _ _ h => h)
theorem FilV.no5 {m : AMem} {v : Value} {fs : List FileR} (h : FilV m v fs) : ∀ x X w sp, m.get x = .cells X 5 w sp → ¬ ownV v x := by
  rintro x X w sp hx ⟨o, l, c, rfl⟩
  rcases h with ⟨_, h⟩ | ⟨b, Y, h, _, h2, _⟩
  · cases h
  · cases h; rw [h2] at hx; cases hx
theorem FilV.get {m : AMem} {a : Option Addr} {n cap : Nat} {fs : List FileR} (h : FilV m (.slice a n cap) fs) {k : Nat} (hk : k < fs.length) :
    ∃ b X bb, a = some ⟨b, 0, none⟩ ∧ b < m.size ∧ m.get b = .cells X 77 true (.room zO) ∧ cutL X (k * 2) 1 = some [.string ⟨fs[k].name.toArray⟩] ∧ cutL X (k * 2 + 1) 1 = some [.slice (some ⟨bb, 0, none⟩) fs[k].all.length openCap] ∧ bb < m.size ∧ m.get bb = .cells (fs[k].all.map byteV) 5 true (.room [.int .u8 0]) := by
  rcases h with ⟨rfl, _⟩ | ⟨b, X, h0, h1, h2, h3⟩
  · simp at hk
  · cases h0
    obtain ⟨bb, e, h4, h5⟩ := h3.get hk
    exact ⟨b, X, bb, rfl, h1, h2, by rw [cutL_take e (by omega)]; rfl, by have := cutL_sub e (j := 1) (by omega); exact this, h4, h5⟩
theorem eqPL_zO : eqPL zO zO = true := by decide

/-- Rows behind rows. -/
theorem app_fil {m : AMem} {v w : Value} {fs gs : List FileR} {Y : List Value} (hF : FilV m v fs) (hn : fs.length + gs.length ≤ 1000000) (hw : srcLen w = some gs.length) (hs : srcCells 2 gs.length w (mx m []) = some Y) (hY : Rows m gs Y) :
    ∃ v' M', appV 77 2 40 zO v w (mx m []) = some (v', mx M' []) ∧ FilV M' v' (fs ++ gs) ∧ Keep (ownV v) m M' ∧ ∀ x, ownV v' x → ownV v x ∨ m.size ≤ x := by
  have hl := hY.len
  have happ : appV 77 2 40 zO v w (mx m []) = appendTo 77 2 40 zO v gs.length Y (mx m []) := by
    simp only [appV, hw, hs]
    rw [if_pos ⟨rfl, by omega, hY.one, by omega⟩]
  rw [happ]
  by_cases h0 : gs = []
  · subst h0
    simp only [List.length_nil, Nat.mul_zero] at hl
    refine ⟨v, m, ?_, by rw [List.append_nil]; exact hF, .refl _ _, fun x h => .inl h⟩
    rcases hF with ⟨rfl, rfl⟩ | ⟨b, X, rfl, hb, hm, hX⟩
    · rfl
    · have hXl := hX.len
      simp only [appendTo, if_true, mx_old hb, hm, List.length_nil]
      rw [if_pos (show (Spare.room zO).size = 2 from rfl), if_pos (by omega)]
  · have hg : 0 < gs.length := List.length_pos_iff.2 h0
    rcases hF with ⟨rfl, rfl⟩ | ⟨b, X, rfl, hb, hm, hX⟩
    · refine ⟨.slice (some ⟨m.size, 0, none⟩) gs.length openCap, mx m [.cells Y 77 true (.room zO)], ?_, .inr ⟨m.size, Y, rfl, by rw [mx_size]; simp, mx_new0 _ _, hY.keep ((Old.here m _).keep fun _ => False) fun _ _ _ _ _ h => h⟩, (Keep.refl _ _).mx _, fun x ⟨o, l, c, h⟩ => by cases h; exact .inr (Nat.le_refl _)⟩
      rw [appendTo_nil hg (by simp only [List.length_nil] at hn; omega) (by simp only [List.length_nil] at hn; omega), mx_push, mx_nil_size, mx_mx]; rfl
    · have hk : Keep (ownV (.slice (some ⟨b, 0, none⟩) fs.length openCap)) m (m.set b .dead) := (Keep.refl _ m).set (fun _ => ⟨_, _, _, rfl⟩) _
      have hk2 := hk.mx [.cells (X ++ Y) 77 true (.room zO)]
      have hno := FilV.no5 (.inr ⟨b, X, rfl, hb, hm, hX⟩ : FilV m (.slice (some ⟨b, 0, none⟩) fs.length openCap) fs)
      refine ⟨.slice (some ⟨m.size, 0, none⟩) (fs.length + gs.length) openCap, mx (m.set b .dead) [.cells (X ++ Y) 77 true (.room zO)], ?_, .inr ⟨m.size, X ++ Y, by simp, by rw [mx_size, AMem.size_set]; simp, ?_, (hX.app hY).keep hk2 hno⟩, hk2, fun x ⟨o, l, c, h⟩ => by cases h; exact .inr (Nat.le_refl _)⟩
      · rw [appendTo_open (sz := 2) (z' := zO) ((mx_old hb).trans hm) eqPL_zO rfl (by omega) (by rw [hX.len]; omega) hg (by omega) (by omega), mx_set_old hb, mx_push, mx_nil_size, mx_mx]; rfl
      · have := mx_new0 (m.set b .dead) [.cells (X ++ Y) 77 true (.room zO)]
        rw [AMem.size_set] at this; exact this
theorem fil_head {m : AMem} {a : Option Addr} {cap : Nat} {fs : List FileR} (hF : FilV m (.slice a fs.length cap) fs) {n : Nat} (hn : n ≤ fs.length) (M : AMem) (hM : Old m M) :
    ∃ w Y, slVv 2 (.slice a fs.length cap) none (some (.int .i64 (n : Int))) none M = some (w, M) ∧ srcLen w = some (fs.take n).length ∧ srcCells 2 (fs.take n).length w M = some Y ∧ Rows m (fs.take n) Y := by
  rcases hF with ⟨rfl, h⟩ | ⟨b, X, h, hb, hm, hX⟩
  · cases h
    obtain rfl : n = 0 := by simpa using hn
    exact ⟨.slice none 0 0, [], by simp [slVv, cutV, openCap], rfl, rfl, .nil⟩
  · cases h
    have hl := hX.len
    have hg : M.get b = .cells X 77 true (.room zO) := by rw [hM.2 b hb]; exact hm
    refine ⟨.slice (some ⟨b, 0, none⟩) n openCap, X.take (2 * n), ?_, by rw [srcLen_slice, List.length_take]; congr 1; omega, ?_, hX.take n⟩
    · simp only [slVv, if_true, hg]
      rw [if_pos ⟨rfl, by omega⟩, cut4hi (by omega)]
      simp
    · rw [List.length_take, srcCells_slice (by omega), rd_def, hg, rdO_cells]
      unfold cutL
      rw [if_pos (by omega), List.drop_zero]; congr 2; omega
theorem fil_tail {m : AMem} {a : Option Addr} {cap : Nat} {fs : List FileR} (hF : FilV m (.slice a fs.length cap) fs) {n : Nat} (hn : n ≤ fs.length) (M : AMem) (hM : Old m M) :
    ∃ w Y, slVv 2 (.slice a fs.length cap) (some (.int .i64 (n : Int))) none none M = some (w, M) ∧ srcLen w = some (fs.drop n).length ∧ srcCells 2 (fs.drop n).length w M = some Y ∧ Rows m (fs.drop n) Y := by
  rcases hF with ⟨rfl, h⟩ | ⟨b, X, h, hb, hm, hX⟩
  · cases h
    obtain rfl : n = 0 := by simpa using hn
    exact ⟨.slice none 0 0, [], by simp [slVv, cutV, openCap], rfl, rfl, .nil⟩
  · cases h
    have hl := hX.len
    have hg : M.get b = .cells X 77 true (.room zO) := by rw [hM.2 b hb]; exact hm
    refine ⟨.slice (some ⟨b, n * 2, none⟩) (fs.length - n) openCap, X.drop (2 * n), ?_, by rw [srcLen_slice, List.length_drop], ?_, hX.drop n⟩
    · simp only [slVv, if_true, hg]
      rw [if_pos ⟨rfl, by omega⟩, cut4lo hn (by omega)]
      simp
    · rw [List.length_drop, srcCells_slice (by omega), rd_def, hg, rdO_cells]
      unfold cutL
      rw [if_pos (by omega), List.take_of_length_le (by rw [List.length_drop]; omega), Nat.mul_comm]

theorem fill_oRow (z1 z2 : Value) (s : ByteArray) (a : Option Addr) (l c : Nat) : fill [z1, z2] [(0, 2, .agg [.string s, .slice a l c].toArray)] = some [.string s, .slice a l c] := rfl
theorem sortR_len' : ∀ (fs o : List FileR), (fs.foldl (fun o f => insR o (place o f.name) f) o).length = o.length + fs.length
  | [], o => rfl
  | f :: fs, o => by
    have : place o f.name ≤ o.length := List.findIdx_le_length
    rw [List.foldl_cons, sortR_len' fs, insR_len this, List.length_cons]; omega
theorem sortR_len (fs : List FileR) : (sortR fs).length = fs.length := by unfold sortR; rw [sortR_len']; simp
/-- The place of a name, found by going on. -/
theorem files_ok (m : AMem) (p : Nat) (v : Value) (d : DiskR) (hD : RAt m p v d) (hO : ROk d) :
    RelC Try.prog 0 50 [.pointer (some ⟨p, 0, none⟩)] m fun v' m' => Old m m' ∧ FilV m' v' (sortR d.files) := by
  refine rel_of_W (fn := Try.f50) rfl rfl F50_ok (by simp [F50]) ?_
  have hp0 := hD.lt
  have hd := hD.get
  have hf := hO.few
  have hu := hO.used
  obtain ⟨a, cap, rfl⟩ := hD.files.len
  simp only [DiskR.cells] at hd
  repeat first | simp (implicitDefEqProofs := false) (maxSteps := 1000000) (disch := first | omega | with_reducible assumption | (simp only [lenT, Nat.reduceAdd]; omega)) only [amT, cut, bnd, Nat.reduceBEq, reduceCtorEq, Nat.reduceEqDiff, Nat.reduceAdd, Nat.reduceMul, Nat.reduceSub, Int.reduceToNat, Int.reduceEq, Int.reduceLT, Int.reduceLE, Int.reduceAdd, Int.reduceSub, Int.reduceMul, reduceIte, resVs, resV, packV, initT, addr, F50] | refine OrW.go ?_
  refine W_loop (fun N qs => ∃ (i : Nat) (M : AMem) (av : Option Addr) (cv : Nat), N = d.files.length - i ∧ qs.ds = [] ∧ qs.m = mx M [] ∧ qs.t 0 = .pointer (some ⟨p, 0, none⟩) ∧ qs.t 3 = .slice av (sortR (d.files.take i)).length cv ∧ qs.t 4 = .int .i64 i ∧ i ≤ d.files.length ∧ Old m M ∧ FilV M (.slice av (sortR (d.files.take i)).length cv) (sortR (d.files.take i))) (d.files.length - (0)) ⟨0, mx m [], none, 0, rfl, rfl, ?qm, ?q0, ?q3, ?q4, ?_⟩ ?_
  case qm | q0 | q3 | q4 => first | rfl | (simp (implicitDefEqProofs := false) (maxSteps := 1000000) (disch := first | omega | with_reducible assumption | (simp only [lenT, Nat.reduceAdd]; omega)) only [amT, cut, bnd, Nat.reduceBEq, reduceCtorEq, Nat.reduceEqDiff, Nat.reduceAdd, Nat.reduceMul, Nat.reduceSub, Int.reduceToNat, Int.reduceEq, Int.reduceLT, Int.reduceLE, Int.reduceAdd, Int.reduceSub, Int.reduceMul, reduceIte, resVs, resV, packV, initT, addr, mx_mx, List.append_nil, sortR, List.take_zero, List.foldl_nil]; first | done | rfl | (congr 1; omega))
  · exact ⟨by omega, Old.here _ _, .inl ⟨rfl, rfl⟩⟩
  · rintro N t m1 ds ⟨i, M, av, cv, rfl, hds, hm, t0, t3, t4, hp⟩
    simp only at hds hm t0 t3 t4
    subst hds; replace hm := hm.symm; subst hm
    obtain ⟨hi, hM, hV⟩ := hp
    have hdM : M.get p = .cells [.slice a d.files.length cap, .int .i64 d.quota, .int .i64 d.steps, .int .i64 d.set, .bool d.off] 73 true .exact := by rw [hM.2 p hD.lt]; exact hd
    have hpM : p < M.size := Nat.lt_of_lt_of_le hD.lt hM.1
    by_cases h1 : (i : Int) < (d.files.length : Int)
    · have hi : i < d.files.length := by omega
      obtain ⟨b, rfl, hb, hg, h4, h1'⟩ := (hD.files.old hM).get hi
      have hsucc : sortR (d.files.take (i + 1)) = insR (sortR (d.files.take i)) (place (sortR (d.files.take i)) d.files[i].name) d.files[i] := by
        unfold sortR; rw [List.take_succ_eq_append_getElem hi, List.foldl_append]; rfl
      have hlen : (sortR (d.files.take i)).length = i := by rw [sortR_len, List.length_take]; omega
      generalize sortR (d.files.take i) = o at hV hsucc t3 hlen
      repeat first | simp (implicitDefEqProofs := false) (maxSteps := 1000000) (disch := first | omega | with_reducible assumption | (simp only [lenT, Nat.reduceAdd]; omega)) only [amT, cut, bnd, Nat.reduceBEq, reduceCtorEq, Nat.reduceEqDiff, Nat.reduceAdd, Nat.reduceMul, Nat.reduceSub, Int.reduceToNat, Int.reduceEq, Int.reduceLT, Int.reduceLE, Int.reduceAdd, Int.reduceSub, Int.reduceMul, reduceIte, resVs, resV, packV, initT, addr, F50_l0, t0, t3, t4, h1, hdM] | refine OrW.go ?_
      refine W_loop (fun N qs => ∃ (j : Nat), N = o.length - j ∧ qs.ds = [] ∧ qs.m = mx M [] ∧ qs.t 0 = .pointer (some ⟨p, 0, none⟩) ∧ qs.t 3 = .slice av o.length cv ∧ qs.t 4 = .int .i64 i ∧ qs.t 5 = .int .i64 j ∧ j ≤ o.length ∧ ∀ k (hk : k < o.length), k < j → ltB o[k].name d.files[i].name = true) (o.length - (0)) ⟨0, rfl, rfl, ?qm, ?q0, ?q3, ?q4, ?q5, ?_⟩ ?_
      case qm | q0 | q3 | q4 | q5 => first | rfl | (simp (implicitDefEqProofs := false) (maxSteps := 1000000) (disch := first | omega | with_reducible assumption | (simp only [lenT, Nat.reduceAdd]; omega)) only [amT, cut, bnd, Nat.reduceBEq, reduceCtorEq, Nat.reduceEqDiff, Nat.reduceAdd, Nat.reduceMul, Nat.reduceSub, Int.reduceToNat, Int.reduceEq, Int.reduceLT, Int.reduceLE, Int.reduceAdd, Int.reduceSub, Int.reduceMul, reduceIte, resVs, resV, packV, initT, addr, t0, t3, t4]; first | done | rfl | (congr 1; omega))
      · exact ⟨by omega, fun k hk h => by omega⟩
      · rintro N t m1 ds ⟨j, rfl, hds, hm, t0, t3, t4, t5, hp⟩
        simp only at hds hm t0 t3 t4 t5
        subst hds; replace hm := hm.symm; subst hm
        obtain ⟨hj, hlt⟩ := hp
        by_cases h2 : (j : Int) < (o.length : Int)
        · have hj' : j < o.length := by omega
          obtain ⟨b2, X2, bb2, rfl, hb2, hg2, e1, e2, hbb, hgb⟩ := hV.get hj'
          simp only [kRow] at h4
          cases hl : ltB o[j].name d.files[i].name with
          | true =>
            repeat first | simp (implicitDefEqProofs := false) (maxSteps := 1000000) (disch := first | omega | with_reducible assumption | (simp only [lenT, Nat.reduceAdd]; omega)) only [amT, cut, bnd, Nat.reduceBEq, reduceCtorEq, Nat.reduceEqDiff, Nat.reduceAdd, Nat.reduceMul, Nat.reduceSub, Int.reduceToNat, Int.reduceEq, Int.reduceLT, Int.reduceLE, Int.reduceAdd, Int.reduceSub, Int.reduceMul, reduceIte, resVs, resV, packV, initT, addr, F50_l1, t0, t3, t4, t5, h2, hg2, hdM, hg, e1, h1', binV_slss, strLt_mk, hl] | refine OrW.go ?_
            rw [LoopK_normal]; refine ⟨_, ?_, j + 1, rfl, rfl, ?qm, ?q0, ?q3, ?q4, ?q5, ?_⟩
            case qm | q0 | q3 | q4 | q5 => first | rfl | (simp (implicitDefEqProofs := false) (maxSteps := 1000000) (disch := first | omega | with_reducible assumption | (simp only [lenT, Nat.reduceAdd]; omega)) only [amT, cut, bnd, Nat.reduceBEq, reduceCtorEq, Nat.reduceEqDiff, Nat.reduceAdd, Nat.reduceMul, Nat.reduceSub, Int.reduceToNat, Int.reduceEq, Int.reduceLT, Int.reduceLE, Int.reduceAdd, Int.reduceSub, Int.reduceMul, reduceIte, resVs, resV, packV, initT, addr, t0, t3, t4, t5]; first | done | rfl | (congr 1; omega))
            · omega
            · refine ⟨by omega, fun k hk hkj => ?_⟩
              rcases Nat.lt_or_ge k j with h | h
              · exact hlt k hk h
              · obtain rfl : k = j := by omega
                exact hl
          | false =>
            have hpl : place o d.files[i].name = j := by
              unfold place
              rw [List.findIdx_eq hj']
              exact ⟨by simp [hl], fun k hk => by simp [hlt k (by omega) hk]⟩
            obtain ⟨w1, Y1, q1, q2, q3, q4⟩ := fil_head hV (n := j) hj (mx M []) (Old.here M [])
            obtain ⟨v1, M1, q5, q6, q7, q8⟩ := app_fil (m := M) (v := .slice none 0 0) (fs := []) (.inl ⟨rfl, rfl⟩) (by rw [List.length_take, List.length_nil]; omega) q2 q3 q4
            rw [List.nil_append] at q6
            have hO1 : Old M M1 := q7.keep_old (Old.refl M) (fun x ⟨o, l, c, h⟩ => by cases h)
            have ho1 : ∀ x, ownV v1 x → M.size ≤ x := fun x h => (q8 x h).elim (fun ⟨o, l, c, h⟩ => by cases h) id
            have hd1 : M1.get p = .cells [.slice (some ⟨b, 0, none⟩) d.files.length cap, .int .i64 d.quota, .int .i64 d.steps, .int .i64 d.set, .bool d.off] 73 true .exact := by rw [hO1.2 p hpM]; exact hdM
            have hp1 : p < M1.size := Nat.lt_of_lt_of_le hpM hO1.1
            have hb1 : b < M1.size := Nat.lt_of_lt_of_le hb hO1.1
            have hg1 : M1.get b = .cells (kRows d.files) 91 true (.room zK) := by rw [hO1.2 b hb]; exact hg
            have f0 : rdO (M1.get b) (i * 4) 1 = some [.string ⟨d.files[i].name.toArray⟩] := by rw [hg1, rdO_cells]; exact h1'
            have f1 : rdO (M1.get b) (i * 4 + 1) 1 = some [.string ⟨d.files[i].dry.toArray⟩] := by rw [hg1, rdO_cells]; exact cutL_sub h4 (j := 1) (by omega)
            have f2 : rdO (M1.get b) (i * 4 + 2) 1 = some [.string ⟨d.files[i].wet.toArray⟩] := by rw [hg1, rdO_cells]; exact cutL_sub h4 (j := 2) (by omega)
            have hz : d.files[i].dry.length + d.files[i].wet.length ≤ 50000000 := Nat.le_trans (size_le hi) hu
            have hO2 := Old.here M1 [.cells (d.files[i].all.map byteV) 5 true (.room [.int .u8 0]), .cells [.string ⟨d.files[i].name.toArray⟩, .slice (some ⟨M1.size, 0, none⟩) d.files[i].all.length openCap] 77 true .exact]
            obtain ⟨v2, M2, q9, q10, q11, q12⟩ := app_fil (gs := [d.files[i]]) (w := .slice (some ⟨M1.size + 1, 0, none⟩) 1 1) (Y := [.string ⟨d.files[i].name.toArray⟩, .slice (some ⟨M1.size, 0, none⟩) d.files[i].all.length openCap]) (q6.old hO2) (by rw [List.length_take]; simp; omega) rfl
              (by rw [List.length_singleton, srcCells_slice (by omega), rd_def, mx_mx, List.append_nil, mx_new, List.getD_cons_succ, List.getD_cons_zero, rdO_cells]; rfl)
              (.cons (by rw [mx_size]; simp) (mx_new0 _ _) .nil)
            have hO3 : Old M M2 := q11.keep_old (hO1.trans hO2) ho1
            have ho3 : ∀ x, ownV v2 x → M.size ≤ x := fun x h => (q12 x h).elim (ho1 x) (fun h => Nat.le_trans (hO1.trans hO2).1 h)
            obtain ⟨w3, Y3, q13, q14, q15, q16⟩ := fil_tail hV (n := j) hj (mx M2 []) (hO3.mx [])
            obtain ⟨v3, M3, q17, q18, q19, q20⟩ := app_fil (m := M2) q10 (by simp; omega) q14 q15 (q16.keep (hO3.keep fun _ => False) fun _ _ _ _ _ h => h)
            have hO4 : Old M M3 := q19.keep_old hO3 ho3
            have hR : sortR (d.files.take (i + 1)) = List.take j o ++ [d.files[i]] ++ List.drop j o := by rw [hsucc, hpl]; simp [insR]
            rw [← hR] at q18
            obtain ⟨a3, c3, rfl⟩ := q18.len
            rw [mx_mx, List.append_nil] at q9
            simp only [zO, FileR.all, List.length_append] at q5 q9 q17
            repeat first | simp (implicitDefEqProofs := false) (maxSteps := 1000000) (disch := first | omega | with_reducible assumption | (simp only [lenT, Nat.reduceAdd]; omega)) only [amT, cut, bnd, Nat.reduceBEq, reduceCtorEq, Nat.reduceEqDiff, Nat.reduceAdd, Nat.reduceMul, Nat.reduceSub, Int.reduceToNat, Int.reduceEq, Int.reduceLT, Int.reduceLE, Int.reduceAdd, Int.reduceSub, Int.reduceMul, reduceIte, resVs, resV, packV, initT, addr, F50_l1, t0, t3, t4, t5, h2, hg2, hdM, hg, e1, h1', binV_slss, strLt_mk, hl, stepOp_slV_v, q1, stepOp_app_v, fill_oRow, q5, hd1, f0, f1, f2, q9, q13, q17] | refine OrW.go ?_
            rw [LoopK_normal]; refine ⟨_, ?_, i + 1, M3, a3, c3, rfl, rfl, ?qm, ?q0, ?q3, ?q4, ?_⟩
            case qm | q0 | q3 | q4 => first | rfl | (simp (implicitDefEqProofs := false) (maxSteps := 1000000) (disch := first | omega | with_reducible assumption | (simp only [lenT, Nat.reduceAdd]; omega)) only [amT, cut, bnd, Nat.reduceBEq, reduceCtorEq, Nat.reduceEqDiff, Nat.reduceAdd, Nat.reduceMul, Nat.reduceSub, Int.reduceToNat, Int.reduceEq, Int.reduceLT, Int.reduceLE, Int.reduceAdd, Int.reduceSub, Int.reduceMul, reduceIte, resVs, resV, packV, initT, addr, t0, t3, t4, t5]; first | done | rfl | (congr 1; omega))
            · omega
            · exact ⟨by omega, hM.trans hO4, q18⟩
        · have hjl : j = o.length := by omega
          have hpl : place o d.files[i].name = j := by
            unfold place
            rw [hjl, List.findIdx_eq_length]
            intro x hx
            obtain ⟨k, hk, rfl⟩ := List.mem_iff_getElem.1 hx
            simp [hlt k hk (by omega)]
          simp only [kRow] at h4
          obtain ⟨w1, Y1, q1, q2, q3, q4⟩ := fil_head hV (n := j) hj (mx M []) (Old.here M [])
          obtain ⟨v1, M1, q5, q6, q7, q8⟩ := app_fil (m := M) (v := .slice none 0 0) (fs := []) (.inl ⟨rfl, rfl⟩) (by rw [List.length_take, List.length_nil]; omega) q2 q3 q4
          rw [List.nil_append] at q6
          have hO1 : Old M M1 := q7.keep_old (Old.refl M) (fun x ⟨o, l, c, h⟩ => by cases h)
          have ho1 : ∀ x, ownV v1 x → M.size ≤ x := fun x h => (q8 x h).elim (fun ⟨o, l, c, h⟩ => by cases h) id
          have hd1 : M1.get p = .cells [.slice (some ⟨b, 0, none⟩) d.files.length cap, .int .i64 d.quota, .int .i64 d.steps, .int .i64 d.set, .bool d.off] 73 true .exact := by rw [hO1.2 p hpM]; exact hdM
          have hp1 : p < M1.size := Nat.lt_of_lt_of_le hpM hO1.1
          have hb1 : b < M1.size := Nat.lt_of_lt_of_le hb hO1.1
          have hg1 : M1.get b = .cells (kRows d.files) 91 true (.room zK) := by rw [hO1.2 b hb]; exact hg
          have f0 : rdO (M1.get b) (i * 4) 1 = some [.string ⟨d.files[i].name.toArray⟩] := by rw [hg1, rdO_cells]; exact h1'
          have f1 : rdO (M1.get b) (i * 4 + 1) 1 = some [.string ⟨d.files[i].dry.toArray⟩] := by rw [hg1, rdO_cells]; exact cutL_sub h4 (j := 1) (by omega)
          have f2 : rdO (M1.get b) (i * 4 + 2) 1 = some [.string ⟨d.files[i].wet.toArray⟩] := by rw [hg1, rdO_cells]; exact cutL_sub h4 (j := 2) (by omega)
          have hz : d.files[i].dry.length + d.files[i].wet.length ≤ 50000000 := Nat.le_trans (size_le hi) hu
          have hO2 := Old.here M1 [.cells (d.files[i].all.map byteV) 5 true (.room [.int .u8 0]), .cells [.string ⟨d.files[i].name.toArray⟩, .slice (some ⟨M1.size, 0, none⟩) d.files[i].all.length openCap] 77 true .exact]
          obtain ⟨v2, M2, q9, q10, q11, q12⟩ := app_fil (gs := [d.files[i]]) (w := .slice (some ⟨M1.size + 1, 0, none⟩) 1 1) (Y := [.string ⟨d.files[i].name.toArray⟩, .slice (some ⟨M1.size, 0, none⟩) d.files[i].all.length openCap]) (q6.old hO2) (by rw [List.length_take]; simp; omega) rfl
            (by rw [List.length_singleton, srcCells_slice (by omega), rd_def, mx_mx, List.append_nil, mx_new, List.getD_cons_succ, List.getD_cons_zero, rdO_cells]; rfl)
            (.cons (by rw [mx_size]; simp) (mx_new0 _ _) .nil)
          have hO3 : Old M M2 := q11.keep_old (hO1.trans hO2) ho1
          have ho3 : ∀ x, ownV v2 x → M.size ≤ x := fun x h => (q12 x h).elim (ho1 x) (fun h => Nat.le_trans (hO1.trans hO2).1 h)
          obtain ⟨w3, Y3, q13, q14, q15, q16⟩ := fil_tail hV (n := j) hj (mx M2 []) (hO3.mx [])
          obtain ⟨v3, M3, q17, q18, q19, q20⟩ := app_fil (m := M2) q10 (by simp; omega) q14 q15 (q16.keep (hO3.keep fun _ => False) fun _ _ _ _ _ h => h)
          have hO4 : Old M M3 := q19.keep_old hO3 ho3
          have hR : sortR (d.files.take (i + 1)) = List.take j o ++ [d.files[i]] ++ List.drop j o := by rw [hsucc, hpl]; simp [insR]
          rw [← hR] at q18
          obtain ⟨a3, c3, rfl⟩ := q18.len
          rw [mx_mx, List.append_nil] at q9
          simp only [zO, FileR.all, List.length_append] at q5 q9 q17
          repeat first | simp (implicitDefEqProofs := false) (maxSteps := 1000000) (disch := first | omega | with_reducible assumption | (simp only [lenT, Nat.reduceAdd]; omega)) only [amT, cut, bnd, Nat.reduceBEq, reduceCtorEq, Nat.reduceEqDiff, Nat.reduceAdd, Nat.reduceMul, Nat.reduceSub, Int.reduceToNat, Int.reduceEq, Int.reduceLT, Int.reduceLE, Int.reduceAdd, Int.reduceSub, Int.reduceMul, reduceIte, resVs, resV, packV, initT, addr, F50_l1, t0, t3, t4, t5, h2, hg, hdM, h1', stepOp_slV_v, q1, stepOp_app_v, fill_oRow, q5, hd1, f0, f1, f2, q9, q13, q17] | refine OrW.go ?_
          rw [LoopK_normal]; refine ⟨_, ?_, i + 1, M3, a3, c3, rfl, rfl, ?qm, ?q0, ?q3, ?q4, ?_⟩
          case qm | q0 | q3 | q4 => first | rfl | (simp (implicitDefEqProofs := false) (maxSteps := 1000000) (disch := first | omega | with_reducible assumption | (simp only [lenT, Nat.reduceAdd]; omega)) only [amT, cut, bnd, Nat.reduceBEq, reduceCtorEq, Nat.reduceEqDiff, Nat.reduceAdd, Nat.reduceMul, Nat.reduceSub, Int.reduceToNat, Int.reduceEq, Int.reduceLT, Int.reduceLE, Int.reduceAdd, Int.reduceSub, Int.reduceMul, reduceIte, resVs, resV, packV, initT, addr, t0, t3, t4, t5]; first | done | rfl | (congr 1; omega))
          · omega
          · exact ⟨by omega, hM.trans hO4, q18⟩
    · obtain rfl : i = d.files.length := by omega
      rw [List.take_length] at hV t3
      repeat first | simp (implicitDefEqProofs := false) (maxSteps := 1000000) (disch := first | omega | with_reducible assumption | (simp only [lenT, Nat.reduceAdd]; omega)) only [amT, cut, bnd, Nat.reduceBEq, reduceCtorEq, Nat.reduceEqDiff, Nat.reduceAdd, Nat.reduceMul, Nat.reduceSub, Int.reduceToNat, Int.reduceEq, Int.reduceLT, Int.reduceLE, Int.reduceAdd, Int.reduceSub, Int.reduceMul, reduceIte, resVs, resV, packV, initT, addr, F50_l0, t0, t3, t4, h1, hdM] | refine OrW.go ?_
      exact ⟨_, rfl, fun _ => ⟨hM.mx _, hV.old (Old.here _ _)⟩⟩
end Go.Proofs.Ytbmjhiifinjieaa
namespace Go.Proofs.Ytbmjhiifinjieaa
open Go Go.AM
set_option linter.unusedVariables false
set_option linter.unusedSimpArgs false
set_option linter.unusedSectionVars false
set_option maxHeartbeats 2000000
set_option maxRecDepth 100000
variable [Ex]

theorem getF_at : ∀ {fs : List FileR}, Sorted fs → ∀ {i : Nat} (hi : i < fs.length), getF fs fs[i].name = some fs[i]
  | f :: fs, h, 0, _ => by rw [getF_cons]; simp
  | f :: fs, h, i + 1, hi => by
    have hi' : i < fs.length := by simpa using hi
    have := h.hd fs[i] (List.getElem_mem hi')
    rw [getF_cons, List.getElem_cons_succ, if_neg (ltB_ne this)]
    exact getF_at h.tl hi'
theorem look_sorted {d r : DiskR} (h : Same d r) {i : Nat} (hi : i < (sortR r.files).length) : lookOr r.files (sortR r.files)[i].name = (sortR r.files)[i] := by
  have e := h.sort
  have hi2 : i < d.files.length := by rw [← e]; exact hi
  have e2 : (sortR r.files)[i] = d.files[i] := by simp [e]
  have := getF_at h.sorted hi2
  rw [h.file] at this
  rw [e2]; simp [lookOr, this]
theorem kRow_new (s t : List UInt8) : fill [.string ⟨#[]⟩, .string ⟨#[]⟩, .string ⟨#[]⟩, .bool false] [(0, 1, .string ⟨s.toArray⟩), (1, 1, .string ⟨t.toArray⟩), (3, 1, .bool true)] = some (kRow ⟨s, t, [], true⟩) := rfl
theorem ron_ok (m : AMem) (p : Nat) (v : Value) (d : DiskR) (hD : RAt m p v d) (hO : ROk d) (hL : ∀ i (hi : i < (sortR d.files).length), lookOr d.files (sortR d.files)[i].name = (sortR d.files)[i]) (kv : Value) (keep : List Int) (hk : IntV m kv keep) (hkl : keep.length ≤ 9223372036854775807) (hk64 : ∀ x ∈ keep, -9223372036854775808 ≤ x ∧ x ≤ 9223372036854775807) (hkp : ∀ b o n c, kv = .slice (some ⟨b, o, none⟩) n c → b ≠ p) :
    RelC Try.prog 0 49 [.pointer (some ⟨p, 0, none⟩), kv] m fun r m' => r = .tuple #[] ∧ ∃ v', RAt m' p v' (rOnR d keep) ∧ RStep p m m' := by
  refine rel_of_W (fn := Try.f49) rfl rfl F49_ok (by simp [F49]) ?_
  obtain ⟨fs, q, st, se, off⟩ := d
  have hp := hD.lt
  have hd := hD.get
  have hf := hO.few
  have hu := hO.used
  have hD1 : RAt (m.set p (.cells (({ files := fs, quota := q, steps := st, set := -1, off := off } : DiskR).cells v) 73 true .exact)) p v { files := fs, quota := q, steps := st, set := -1, off := off } := hD.put rfl
  have hst1 : RStep p m (m.set p (.cells (({ files := fs, quota := q, steps := st, set := -1, off := off } : DiskR).cells v) 73 true .exact)) := (Keep.refl (fun x => x = p) m).set (fun _ => rfl) _
  have hO1 : ROk { files := fs, quota := q, steps := st, set := -1, off := off } := ⟨hf, hu, hO.q0, hO.q1, hO.s0, hO.s1, by show (-1 : Int) ≤ -1; omega, by show (-1 : Int) ≤ _; omega⟩
  have hk1 : IntV (m.set p (.cells (({ files := fs, quota := q, steps := st, set := -1, off := off } : DiskR).cells v) 73 true .exact)) kv keep := hk.keep (O := fun x => x = p) ((Keep.refl (fun x => x = p) m).set (fun _ => rfl) _) fun b o n c h => hkp b o n c h
  have hms : (m.set p (.cells (({ files := fs, quota := q, steps := st, set := -1, off := off } : DiskR).cells v) 73 true .exact)).size = m.size := rfl
  have hfil := files_ok _ p v _ hD1 hO1
  have hd1 := hD1.get
  simp only [DiskR.cells] at hd hf hu hD1 hst1 hk1 hms hfil hd1 hL
  generalize hm1 : m.set p (.cells [v, .int .i64 q, .int .i64 st, .int .i64 (-1), .bool off] 73 true .exact) = m1 at hD1 hst1 hk1 hms hfil hd1
  cases off with
  | false =>
    have e : rOnR { files := fs, quota := q, steps := st, set := se, off := false } keep = { files := fs, quota := q, steps := st, set := -1, off := false } := by simp [rOnR]
    rw [e]
    repeat first | simp (implicitDefEqProofs := false) (maxSteps := 1000000) (disch := first | omega | with_reducible assumption | (simp only [lenT, Nat.reduceAdd]; omega)) only [amT, cut, bnd, Nat.reduceBEq, reduceCtorEq, Nat.reduceEqDiff, Nat.reduceAdd, Nat.reduceMul, Nat.reduceSub, Int.reduceToNat, Int.reduceEq, Int.reduceLT, Int.reduceLE, Int.reduceAdd, Int.reduceSub, Int.reduceMul, reduceIte, resVs, resV, packV, initT, addr, F49, hd, hm1, hd1] | refine OrW.go ?_
    exact ⟨_, rfl, fun _ => ⟨rfl, _, hD1.old (Old.here _ []), hst1.mx []⟩⟩
  | true =>
    have e : rOnR { files := fs, quota := q, steps := st, set := se, off := true } keep = { files := onFiles keep (sortR fs) (sortR fs).length, quota := q, steps := st, set := -1, off := false } := by simp [rOnR]
    rw [e]
    have hSl : (sortR fs).length = fs.length := sortR_len _
    have hSs : ∀ {i : Nat} (hi : i < (sortR fs).length), (sortR fs)[i].size ≤ usedR fs := fun hi => by rw [← hL _ hi]; exact look_size _ _
    generalize sortR fs = S at hfil e hSl hSs hL
    obtain ⟨ak, ck, rfl, hki⟩ := hk1
    repeat first | simp (implicitDefEqProofs := false) (maxSteps := 1000000) (disch := first | omega | with_reducible assumption | (simp only [lenT, Nat.reduceAdd]; omega)) only [amT, cut, bnd, Nat.reduceBEq, reduceCtorEq, Nat.reduceEqDiff, Nat.reduceAdd, Nat.reduceMul, Nat.reduceSub, Int.reduceToNat, Int.reduceEq, Int.reduceLT, Int.reduceLE, Int.reduceAdd, Int.reduceSub, Int.reduceMul, reduceIte, resVs, resV, packV, initT, addr, F49, hd, hm1, hd1] | refine OrW.go ?_
    refine RelC.call hfil.at ?_
    rintro r Mf ⟨hOf, hFil⟩
    obtain ⟨af, cf, rfl⟩ := hFil.len
    repeat first | simp (implicitDefEqProofs := false) (maxSteps := 1000000) (disch := first | omega | with_reducible assumption | (simp only [lenT, Nat.reduceAdd]; omega)) only [amT, cut, bnd, Nat.reduceBEq, reduceCtorEq, Nat.reduceEqDiff, Nat.reduceAdd, Nat.reduceMul, Nat.reduceSub, Int.reduceToNat, Int.reduceEq, Int.reduceLT, Int.reduceLE, Int.reduceAdd, Int.reduceSub, Int.reduceMul, reduceIte, resVs, resV, packV, initT, addr] | refine OrW.go ?_
    refine W_loop (fun N qs => ∃ (i : Nat) (M : AMem) (av : Option Addr) (cv : Nat), N = S.length - i ∧ qs.ds = [] ∧ qs.m = mx M [] ∧ qs.t 0 = .pointer (some ⟨p, 0, none⟩) ∧ qs.t 1 = .slice ak keep.length ck ∧ qs.t 4 = .slice av (onFiles keep S i).length cv ∧ qs.t 5 = .slice af S.length cf ∧ qs.t 6 = .int .i64 i ∧ i ≤ S.length ∧ Old m1 M ∧ Old Mf M ∧ KeptV M (.slice av (onFiles keep S i).length cv) (onFiles keep S i) ∧ ∀ x, ownV (.slice av (onFiles keep S i).length cv) x → Mf.size ≤ x) (S.length - (0)) ⟨0, Mf, none, 0, rfl, rfl, ?qm, ?q0, ?q1, ?q4, ?q5, ?q6, ?_⟩ ?_
    case qm | q0 | q1 | q4 | q5 | q6 => first | rfl | (simp (implicitDefEqProofs := false) (maxSteps := 1000000) (disch := first | omega | with_reducible assumption | (simp only [lenT, Nat.reduceAdd]; omega)) only [amT, cut, bnd, Nat.reduceBEq, reduceCtorEq, Nat.reduceEqDiff, Nat.reduceAdd, Nat.reduceMul, Nat.reduceSub, Int.reduceToNat, Int.reduceEq, Int.reduceLT, Int.reduceLE, Int.reduceAdd, Int.reduceSub, Int.reduceMul, reduceIte, resVs, resV, packV, initT, addr, onFiles]; first | done | rfl | (congr 1; omega))
    · exact ⟨by omega, hOf, .refl _, .inl ⟨rfl, rfl⟩, fun x ⟨o, l, c, h⟩ => by cases h⟩
    · rintro N t m1 ds ⟨i, M, av, cv, rfl, hds, hm, t0, t1, t4, t5, t6, hp⟩
      simp only at hds hm t0 t1 t4 t5 t6
      subst hds; replace hm := hm.symm; subst hm
      obtain ⟨hi, hM, hMf, hK, hown⟩ := hp
      have hpM : p < M.size := Nat.lt_of_lt_of_le hD1.lt hM.1
      have hdM : M.get p = .cells [v, .int .i64 q, .int .i64 st, .int .i64 (-1), .bool true] 73 true .exact := by rw [hM.2 p hD1.lt]; exact hd1
      by_cases h1 : (i : Int) < (S.length : Int)
      · have hi : i < S.length := by omega
        obtain ⟨b, X, bb, rfl, hb, hX, e1, -, -, -⟩ := (hFil.old hMf).get hi
        have k64 := DetC.known (look_ok (mx M []) p v _ S[i].name (hD1.old (hM.mx [])) (by show fs.length ≤ _; omega))
        simp only [kRow, hL i hi] at k64
        have hsz : S[i].size ≤ 50000000 := Nat.le_trans (hSs hi) hu
        simp only [FileR.size] at hsz
        have hsl := stays_le keep i S[i].wet.length
        have kst := DetC.known (stays_ok (mx M [.cells [.string ⟨S[i].name.toArray⟩, .string ⟨S[i].dry.toArray⟩, .string ⟨S[i].wet.toArray⟩, .bool S[i].born] 91 true .exact]) _ keep (IntV.old ⟨ak, ck, rfl, hki⟩ (hM.mx _)) hkl hk64 i S[i].wet.length (by omega) (by omega))
        have hsucc := onFiles_succ keep S hi
        have hoL := onFiles_len keep S i
        have hone : onFile keep i S[i] = if S[i].born || decide (0 < (S[i].dry ++ S[i].wet.take (staysR keep i S[i].wet.length)).length) then some ⟨S[i].name, S[i].dry ++ S[i].wet.take (staysR keep i S[i].wet.length), [], true⟩ else none := rfl
        generalize hns : staysR keep i S[i].wet.length = ns at hsl kst hone
        have hek : strEq ⟨(S[i].dry ++ S[i].wet.take ns).toArray⟩ ⟨#[]⟩ = decide (S[i].dry ++ S[i].wet.take ns = []) := strEq_mk _ []
        by_cases hin : S[i].born = true ∨ S[i].dry ++ S[i].wet.take ns ≠ []
        · have hon : onFile keep i S[i] = some ⟨S[i].name, S[i].dry ++ S[i].wet.take ns, [], true⟩ := by
            rw [hone]
            rw [if_pos]
            rcases hin with h | h
            · simp [h]
            · have := List.length_pos_iff.2 h
              rw [Bool.or_eq_true]; exact .inr (decide_eq_true this)
          rw [hon, Option.toList_some] at hsucc
          have hK2 := hK.old (Old.here M [.cells (kRow S[i]) 91 true .exact, .cells (kRow ⟨S[i].name, S[i].dry ++ S[i].wet.take ns, [], true⟩) 91 true .exact])
          obtain ⟨v', M', happ, hK3, hk3, ho3⟩ := app_kept (nb := M.size + 1) (f := ⟨S[i].name, S[i].dry ++ S[i].wet.take ns, [], true⟩) hK2 (by omega) (by rw [mx_size]; simp) (mx_new _ _ 1)
          have hO2 : Old Mf (mx M [.cells (kRow S[i]) 91 true .exact, .cells (kRow ⟨S[i].name, S[i].dry ++ S[i].wet.take ns, [], true⟩) 91 true .exact]) := hMf.mx _
          have hO3 := hk3.keep_old hO2 hown
          have ho4 : ∀ x, ownV v' x → Mf.size ≤ x := fun x hx => Nat.le_trans hO2.1 (ho3 x hx)
          obtain ⟨av', cv', rfl⟩ := hK3.len
          rw [← hsucc] at hK3 happ ho4
          rw [mx_mx, List.append_nil] at happ
          simp only [kRow, zK] at happ
          cases hb0 : S[i].born with
          | true =>
            rw [hb0] at happ k64 kst
            repeat first | simp (implicitDefEqProofs := false) (maxSteps := 1000000) (disch := first | omega | with_reducible assumption | (simp only [lenT, Nat.reduceAdd]; omega)) only [amT, cut, bnd, Nat.reduceBEq, reduceCtorEq, Nat.reduceEqDiff, Nat.reduceAdd, Nat.reduceMul, Nat.reduceSub, Int.reduceToNat, Int.reduceEq, Int.reduceLT, Int.reduceLE, Int.reduceAdd, Int.reduceSub, Int.reduceMul, reduceIte, resVs, resV, packV, initT, addr, F49_l0, t0, t1, t4, t5, t6, h1, hX, e1, k64, cellsOf_kRow, splice4, cutL4, kst, kRow_new, kRow, fill_kRow, stepOp_app_v, happ] | refine OrW.go ?_
            rw [LoopK_normal]; refine ⟨_, ?_, i + 1, M', av', cv', rfl, rfl, ?qm, ?q0, ?q1, ?q4, ?q5, ?q6, ?_⟩
            case qm | q0 | q1 | q4 | q5 | q6 => first | rfl | (simp (implicitDefEqProofs := false) (maxSteps := 1000000) (disch := first | omega | with_reducible assumption | (simp only [lenT, Nat.reduceAdd]; omega)) only [amT, cut, bnd, Nat.reduceBEq, reduceCtorEq, Nat.reduceEqDiff, Nat.reduceAdd, Nat.reduceMul, Nat.reduceSub, Int.reduceToNat, Int.reduceEq, Int.reduceLT, Int.reduceLE, Int.reduceAdd, Int.reduceSub, Int.reduceMul, reduceIte, resVs, resV, packV, initT, addr, t0, t1, t4, t5, t6]; first | done | rfl | (congr 1; omega))
            · omega
            · exact ⟨by omega, hOf.trans hO3, hO3, hK3, ho4⟩
          | false =>
            have hne : S[i].dry ++ S[i].wet.take ns ≠ [] := hin.resolve_left (by simp [hb0])
            have hek2 : strEq ⟨(S[i].dry ++ S[i].wet.take ns).toArray⟩ ⟨#[]⟩ = false := by rw [hek]; simp [hne]
            rw [hb0] at happ k64 kst
            repeat first | simp (implicitDefEqProofs := false) (maxSteps := 1000000) (disch := first | omega | with_reducible assumption | (simp only [lenT, Nat.reduceAdd]; omega)) only [amT, cut, bnd, Nat.reduceBEq, reduceCtorEq, Nat.reduceEqDiff, Nat.reduceAdd, Nat.reduceMul, Nat.reduceSub, Int.reduceToNat, Int.reduceEq, Int.reduceLT, Int.reduceLE, Int.reduceAdd, Int.reduceSub, Int.reduceMul, reduceIte, resVs, resV, packV, initT, addr, F49_l0, t0, t1, t4, t5, t6, h1, hX, e1, k64, cellsOf_kRow, splice4, cutL4, kst, hek2, kRow_new, kRow, fill_kRow, stepOp_app_v, happ] | refine OrW.go ?_
            rw [LoopK_normal]; refine ⟨_, ?_, i + 1, M', av', cv', rfl, rfl, ?qm, ?q0, ?q1, ?q4, ?q5, ?q6, ?_⟩
            case qm | q0 | q1 | q4 | q5 | q6 => first | rfl | (simp (implicitDefEqProofs := false) (maxSteps := 1000000) (disch := first | omega | with_reducible assumption | (simp only [lenT, Nat.reduceAdd]; omega)) only [amT, cut, bnd, Nat.reduceBEq, reduceCtorEq, Nat.reduceEqDiff, Nat.reduceAdd, Nat.reduceMul, Nat.reduceSub, Int.reduceToNat, Int.reduceEq, Int.reduceLT, Int.reduceLE, Int.reduceAdd, Int.reduceSub, Int.reduceMul, reduceIte, resVs, resV, packV, initT, addr, t0, t1, t4, t5, t6]; first | done | rfl | (congr 1; omega))
            · omega
            · exact ⟨by omega, hOf.trans hO3, hO3, hK3, ho4⟩
        · have hb0 : S[i].born = false := by cases h : S[i].born with | false => rfl | true => exact absurd (.inl h) hin
          have hnil : S[i].dry ++ S[i].wet.take ns = [] := Classical.byContradiction fun h => hin (.inr h)
          have hon : onFile keep i S[i] = none := by rw [hone]; simp [hb0, hnil]
          rw [hon, Option.toList_none, List.append_nil] at hsucc
          have hek2 : strEq ⟨(S[i].dry ++ S[i].wet.take ns).toArray⟩ ⟨#[]⟩ = true := by rw [hek]; simp [hnil]
          rw [hb0] at k64 kst
          repeat first | simp (implicitDefEqProofs := false) (maxSteps := 1000000) (disch := first | omega | with_reducible assumption | (simp only [lenT, Nat.reduceAdd]; omega)) only [amT, cut, bnd, Nat.reduceBEq, reduceCtorEq, Nat.reduceEqDiff, Nat.reduceAdd, Nat.reduceMul, Nat.reduceSub, Int.reduceToNat, Int.reduceEq, Int.reduceLT, Int.reduceLE, Int.reduceAdd, Int.reduceSub, Int.reduceMul, reduceIte, resVs, resV, packV, initT, addr, F49_l0, t0, t1, t4, t5, t6, h1, hX, e1, k64, cellsOf_kRow, splice4, cutL4, kst, hek2] | refine OrW.go ?_
          rw [LoopK_normal]; refine ⟨_, ?_, i + 1, mx M [.cells [.string ⟨S[i].name.toArray⟩, .string ⟨S[i].dry.toArray⟩, .string ⟨S[i].wet.toArray⟩, .bool false] 91 true .exact], av, cv, rfl, rfl, ?qm, ?q0, ?q1, ?q4, ?q5, ?q6, ?_⟩
          case qm | q0 | q1 | q4 | q5 | q6 => first | rfl | (simp (implicitDefEqProofs := false) (maxSteps := 1000000) (disch := first | omega | with_reducible assumption | (simp only [lenT, Nat.reduceAdd]; omega)) only [amT, cut, bnd, Nat.reduceBEq, reduceCtorEq, Nat.reduceEqDiff, Nat.reduceAdd, Nat.reduceMul, Nat.reduceSub, Int.reduceToNat, Int.reduceEq, Int.reduceLT, Int.reduceLE, Int.reduceAdd, Int.reduceSub, Int.reduceMul, reduceIte, resVs, resV, packV, initT, addr, t0, t1, t4, t5, t6, hsucc]; first | done | rfl | (congr 1; omega))
          · omega
          · rw [hsucc]
            exact ⟨by omega, hM.mx _, hMf.mx _, hK.old (Old.here _ _), hown⟩
      · obtain rfl : i = S.length := by omega
        have fin : RAt (M.set p (.cells (({ files := onFiles keep S S.length, quota := q, steps := st, set := -1, off := false } : DiskR).cells (.slice av (onFiles keep S S.length).length cv)) 73 true .exact)) p (.slice av (onFiles keep S S.length).length cv) { files := onFiles keep S S.length, quota := q, steps := st, set := -1, off := false } :=
          ⟨by rw [AMem.size_set]; exact hpM, AMem.get_set_self _ _ _, hK.keep ((Keep.refl (fun x => x = p) M).set (fun _ => rfl) _) fun x X w sp hx e => by subst e; rw [hdM] at hx; cases hx⟩
        have hst2 : RStep p m (M.set p (.cells (({ files := onFiles keep S S.length, quota := q, steps := st, set := -1, off := false } : DiskR).cells (.slice av (onFiles keep S S.length).length cv)) 73 true .exact)) := (hst1.trans (hM.keep (fun x => x = p)) (fun _ _ h => h)).set (fun _ => rfl) _
        simp only [DiskR.cells] at fin hst2
        repeat first | simp (implicitDefEqProofs := false) (maxSteps := 1000000) (disch := first | omega | with_reducible assumption | (simp only [lenT, Nat.reduceAdd]; omega)) only [amT, cut, bnd, Nat.reduceBEq, reduceCtorEq, Nat.reduceEqDiff, Nat.reduceAdd, Nat.reduceMul, Nat.reduceSub, Int.reduceToNat, Int.reduceEq, Int.reduceLT, Int.reduceLE, Int.reduceAdd, Int.reduceSub, Int.reduceMul, reduceIte, resVs, resV, packV, initT, addr, F49_l0, t0, t1, t4, t5, t6, h1, hdM] | refine OrW.go ?_
        exact ⟨_, rfl, fun _ => ⟨rfl, _, fin.old (Old.here _ []), hst2.mx []⟩⟩
end Go.Proofs.Ytbmjhiifinjieaa
namespace Go.Proofs.Ytbmjhiifinjieaa
open Go Go.AM
set_option linter.unusedVariables false
set_option linter.unusedSimpArgs false
set_option linter.unusedSectionVars false
set_option maxHeartbeats 2000000
set_option maxRecDepth 100000

variable [Ex]
/-- What the reference does, its answer and what is read. -/
def hasR (r : DiskR) (x : ActR) : (Int × List UInt8) × DiskR :=
  if x.act.tmod 10 = 0 ∨ x.act.tmod 10 = 1 then (((rappendR r x.name x.b).1, []), (rappendR r x.name x.b).2)
  else if x.act.tmod 10 = 2 then (((rdoR r x.name x.name (lookOr r.files x.name).size).1, []), (rdoR r x.name x.name (lookOr r.files x.name).size).2)
  else if x.act.tmod 10 = 3 then (((rcutR r x.name x.n).1, []), (rcutR r x.name x.n).2)
  else if x.act.tmod 10 = 4 then (((rdoR r x.name x.to (lookOr r.files x.name).size).1, []), (rdoR r x.name x.to (lookOr r.files x.name).size).2)
  else if x.act.tmod 10 = 5 then (((rremoveR r x.name).1, []), (rremoveR r x.name).2)
  else if x.act.tmod 10 = 6 then (rreadR r x.name, r)
  else if x.act.tmod 10 = 7 then ((0, []), failR r x.n)
  else if x.act.tmod 10 = 8 then ((0, []), crashR r)
  else ((0, []), rOnR r x.keep)
theorem Same.does {d r : DiskR} (h : Same d r) (x : ActR) : (doesR d x).1 = (hasR r x).1 ∧ Same (doesR d x).2 (hasR r x).2 := by
  unfold doesR hasR
  split; · obtain ⟨e, s⟩ := h.append x.name x.b; exact ⟨by simp only [e], s⟩
  split; · obtain ⟨e, s⟩ := h.dry x.name x.name; exact ⟨by simp only [e], s⟩
  split; · obtain ⟨e, s⟩ := h.cut x.name x.n; exact ⟨by simp only [e], s⟩
  split; · obtain ⟨e, s⟩ := h.dry x.name x.to; exact ⟨by simp only [e], s⟩
  split; · obtain ⟨e, s⟩ := h.rem x.name; exact ⟨by simp only [e], s⟩
  split; · exact ⟨h.read x.name, h⟩
  split; · exact ⟨rfl, h.fail x.n⟩
  split; · exact ⟨rfl, h.crash⟩
  · exact ⟨rfl, h.on x.keep⟩
theorem has_ok (M : AMem) (p : Nat) (v : Value) (r : DiskR) (hR : RAt M p v r) (hO : ROk r) (hL : ∀ i (hi : i < (sortR r.files).length), lookOr r.files (sortR r.files)[i].name = (sortR r.files)[i])
    (x : ActR) (hx : x.ok) (ka : Option Addr) (kc : Nat) (hA : ActV M x ka kc) (hkp : ∀ b o, ka = some ⟨b, o, none⟩ → b ≠ p) (hs : x.b.length ≤ 1000) :
    RelC Try.prog 0 27 [.pointer (some ⟨p, 0, none⟩), .agg (actRow x ka kc).toArray] M fun w m' => w = .tuple #[.int .i64 (hasR r x).1.1, .string ⟨(hasR r x).1.2.toArray⟩] ∧ ∃ v', RAt m' p v' (hasR r x).2 ∧ RStep p M m' := by
  refine rel_of_W (fn := Try.f27) rfl rfl F27_ok (by simp [F27]) ?_
  have hn0 := Int.tmod_nonneg 10 hx.act.1
  have hn9 := Int.tmod_lt_of_pos x.act (show (0 : Int) < 10 by omega)
  have hI := hR.old (Old.here M [.cells (actRow x ka kc) 44 true .exact])
  have hO1 := Old.here M [.cells (actRow x ka kc) 44 true .exact]
  have hd := hR.get
  have hp := hR.lt
  simp only [actRow] at hI hO1
  simp only [DiskR.cells] at hd
  generalize hq : x.act.tmod 10 = q at hn0 hn9
  have fin : ∀ (e : Int) (s : List UInt8) (r' : DiskR) (m' : AMem) (v' : Value), hasR r x = ((e, s), r') → RAt m' p v' r' → RStep p M m' →
      (.tuple #[.int .i64 e, .string ⟨s.toArray⟩] : Value) = .tuple #[.int .i64 (hasR r x).1.1, .string ⟨(hasR r x).1.2.toArray⟩] ∧ ∃ v', RAt m' p v' (hasR r x).2 ∧ RStep p M m' := by
    rintro e s r' m' v' h h1 h2
    rw [h]; exact ⟨rfl, v', h1, h2⟩
  have stp : ∀ {m' : AMem}, RStep p (mx M [.cells (actRow x ka kc) 44 true .exact]) m' → RStep p M (mx m' []) := fun hs => (((Old.here M _).keep (fun x => x = p)).trans hs (fun _ _ h => h)).mx _
  simp only [actRow] at stp
  by_cases q2 : q = 2
  · subst q2
    have hc := rsync_ok _ p v r x.name hx.name hI hO
    repeat first | simp (implicitDefEqProofs := false) (maxSteps := 1000000) (disch := first | omega | with_reducible assumption | (simp only [lenT, Nat.reduceAdd]; omega)) only [amT, cut, bnd, Nat.reduceBEq, reduceCtorEq, Nat.reduceEqDiff, Nat.reduceAdd, Nat.reduceMul, Nat.reduceSub, Int.reduceToNat, Int.reduceEq, Int.reduceLT, Int.reduceLE, Int.reduceAdd, Int.reduceSub, Int.reduceMul, reduceIte, resVs, resV, packV, initT, addr, F27, actRow, cellsOf6, hq] | refine OrW.go ?_
    refine RelC.call hc ?_
    rintro w M1 ⟨rfl, v1, h1, hst⟩
    repeat first | simp (implicitDefEqProofs := false) (maxSteps := 1000000) (disch := first | omega | with_reducible assumption | (simp only [lenT, Nat.reduceAdd]; omega)) only [amT, cut, bnd, Nat.reduceBEq, reduceCtorEq, Nat.reduceEqDiff, Nat.reduceAdd, Nat.reduceMul, Nat.reduceSub, Int.reduceToNat, Int.reduceEq, Int.reduceLT, Int.reduceLE, Int.reduceAdd, Int.reduceSub, Int.reduceMul, reduceIte, resVs, resV, packV, initT, addr] | refine OrW.go ?_
    exact ⟨_, rfl, fun _ => fin _ _ _ _ _ (by simp [hasR, hq]) (h1.old (Old.here _ [])) (stp hst)⟩
  by_cases q3 : q = 3
  · subst q3
    have hc := rcut_ok _ p v r x.name x.n hx.name hI hO
    repeat first | simp (implicitDefEqProofs := false) (maxSteps := 1000000) (disch := first | omega | with_reducible assumption | (simp only [lenT, Nat.reduceAdd]; omega)) only [amT, cut, bnd, Nat.reduceBEq, reduceCtorEq, Nat.reduceEqDiff, Nat.reduceAdd, Nat.reduceMul, Nat.reduceSub, Int.reduceToNat, Int.reduceEq, Int.reduceLT, Int.reduceLE, Int.reduceAdd, Int.reduceSub, Int.reduceMul, reduceIte, resVs, resV, packV, initT, addr, F27, actRow, cellsOf6, hq] | refine OrW.go ?_
    refine RelC.call hc ?_
    rintro w M1 ⟨rfl, v1, h1, hst⟩
    repeat first | simp (implicitDefEqProofs := false) (maxSteps := 1000000) (disch := first | omega | with_reducible assumption | (simp only [lenT, Nat.reduceAdd]; omega)) only [amT, cut, bnd, Nat.reduceBEq, reduceCtorEq, Nat.reduceEqDiff, Nat.reduceAdd, Nat.reduceMul, Nat.reduceSub, Int.reduceToNat, Int.reduceEq, Int.reduceLT, Int.reduceLE, Int.reduceAdd, Int.reduceSub, Int.reduceMul, reduceIte, resVs, resV, packV, initT, addr] | refine OrW.go ?_
    exact ⟨_, rfl, fun _ => fin _ _ _ _ _ (by simp [hasR, hq]) (h1.old (Old.here _ [])) (stp hst)⟩
  by_cases q4 : q = 4
  · subst q4
    have hc := rrename_ok _ p v r x.name x.to hx.name hx.to hI hO
    repeat first | simp (implicitDefEqProofs := false) (maxSteps := 1000000) (disch := first | omega | with_reducible assumption | (simp only [lenT, Nat.reduceAdd]; omega)) only [amT, cut, bnd, Nat.reduceBEq, reduceCtorEq, Nat.reduceEqDiff, Nat.reduceAdd, Nat.reduceMul, Nat.reduceSub, Int.reduceToNat, Int.reduceEq, Int.reduceLT, Int.reduceLE, Int.reduceAdd, Int.reduceSub, Int.reduceMul, reduceIte, resVs, resV, packV, initT, addr, F27, actRow, cellsOf6, hq] | refine OrW.go ?_
    refine RelC.call hc ?_
    rintro w M1 ⟨rfl, v1, h1, hst⟩
    repeat first | simp (implicitDefEqProofs := false) (maxSteps := 1000000) (disch := first | omega | with_reducible assumption | (simp only [lenT, Nat.reduceAdd]; omega)) only [amT, cut, bnd, Nat.reduceBEq, reduceCtorEq, Nat.reduceEqDiff, Nat.reduceAdd, Nat.reduceMul, Nat.reduceSub, Int.reduceToNat, Int.reduceEq, Int.reduceLT, Int.reduceLE, Int.reduceAdd, Int.reduceSub, Int.reduceMul, reduceIte, resVs, resV, packV, initT, addr] | refine OrW.go ?_
    exact ⟨_, rfl, fun _ => fin _ _ _ _ _ (by simp [hasR, hq]) (h1.old (Old.here _ [])) (stp hst)⟩
  by_cases q5 : q = 5
  · subst q5
    have hc := rremove_ok _ p v r x.name hx.name hI hO
    repeat first | simp (implicitDefEqProofs := false) (maxSteps := 1000000) (disch := first | omega | with_reducible assumption | (simp only [lenT, Nat.reduceAdd]; omega)) only [amT, cut, bnd, Nat.reduceBEq, reduceCtorEq, Nat.reduceEqDiff, Nat.reduceAdd, Nat.reduceMul, Nat.reduceSub, Int.reduceToNat, Int.reduceEq, Int.reduceLT, Int.reduceLE, Int.reduceAdd, Int.reduceSub, Int.reduceMul, reduceIte, resVs, resV, packV, initT, addr, F27, actRow, cellsOf6, hq] | refine OrW.go ?_
    refine RelC.call hc ?_
    rintro w M1 ⟨rfl, v1, h1, hst⟩
    repeat first | simp (implicitDefEqProofs := false) (maxSteps := 1000000) (disch := first | omega | with_reducible assumption | (simp only [lenT, Nat.reduceAdd]; omega)) only [amT, cut, bnd, Nat.reduceBEq, reduceCtorEq, Nat.reduceEqDiff, Nat.reduceAdd, Nat.reduceMul, Nat.reduceSub, Int.reduceToNat, Int.reduceEq, Int.reduceLT, Int.reduceLE, Int.reduceAdd, Int.reduceSub, Int.reduceMul, reduceIte, resVs, resV, packV, initT, addr] | refine OrW.go ?_
    exact ⟨_, rfl, fun _ => fin _ _ _ _ _ (by simp [hasR, hq]) (h1.old (Old.here _ [])) (stp hst)⟩
  by_cases q7 : q = 7
  · subst q7
    have k := DetC.known (rfail_ok _ p x.n hI.lt hI.get)
    repeat first | simp (implicitDefEqProofs := false) (maxSteps := 1000000) (disch := first | omega | with_reducible assumption | (simp only [lenT, Nat.reduceAdd]; omega)) only [amT, cut, bnd, Nat.reduceBEq, reduceCtorEq, Nat.reduceEqDiff, Nat.reduceAdd, Nat.reduceMul, Nat.reduceSub, Int.reduceToNat, Int.reduceEq, Int.reduceLT, Int.reduceLE, Int.reduceAdd, Int.reduceSub, Int.reduceMul, reduceIte, resVs, resV, packV, initT, addr, F27, actRow, cellsOf6, hq, k] | refine OrW.go ?_
    exact ⟨_, rfl, fun _ => fin _ _ _ _ _ (by simp [hasR, hq]) ((hR.put (d' := failR r x.n) rfl).old (Old.here _ _)) (((Keep.refl (fun x => x = p) M).set (fun _ => rfl) (.cells ((failR r x.n).cells v) 73 true .exact)).mx _)⟩
  by_cases q8 : q = 8
  · subst q8
    have k := DetC.known (rcrash_ok _ p hI.lt hI.get)
    repeat first | simp (implicitDefEqProofs := false) (maxSteps := 1000000) (disch := first | omega | with_reducible assumption | (simp only [lenT, Nat.reduceAdd]; omega)) only [amT, cut, bnd, Nat.reduceBEq, reduceCtorEq, Nat.reduceEqDiff, Nat.reduceAdd, Nat.reduceMul, Nat.reduceSub, Int.reduceToNat, Int.reduceEq, Int.reduceLT, Int.reduceLE, Int.reduceAdd, Int.reduceSub, Int.reduceMul, reduceIte, resVs, resV, packV, initT, addr, F27, actRow, cellsOf6, hq, k] | refine OrW.go ?_
    exact ⟨_, rfl, fun _ => fin _ _ _ _ _ (by simp [hasR, hq]) ((hR.put (d' := crashR r) rfl).old (Old.here _ _)) (((Keep.refl (fun x => x = p) M).set (fun _ => rfl) (.cells ((crashR r).cells v) 73 true .exact)).mx _)⟩
  by_cases q9 : q = 9
  · subst q9
    have hc := ron_ok _ p v r hI hO hL (.slice ka x.keep.length kc) x.keep (hA.1.old hO1) hx.keep hx.k64 (fun b o n c e => by cases e; exact hkp b o rfl)
    repeat first | simp (implicitDefEqProofs := false) (maxSteps := 1000000) (disch := first | omega | with_reducible assumption | (simp only [lenT, Nat.reduceAdd]; omega)) only [amT, cut, bnd, Nat.reduceBEq, reduceCtorEq, Nat.reduceEqDiff, Nat.reduceAdd, Nat.reduceMul, Nat.reduceSub, Int.reduceToNat, Int.reduceEq, Int.reduceLT, Int.reduceLE, Int.reduceAdd, Int.reduceSub, Int.reduceMul, reduceIte, resVs, resV, packV, initT, addr, F27, actRow, cellsOf6, hq] | refine OrW.go ?_
    refine RelC.call hc ?_
    rintro w M1 ⟨rfl, v1, h1, hst⟩
    repeat first | simp (implicitDefEqProofs := false) (maxSteps := 1000000) (disch := first | omega | with_reducible assumption | (simp only [lenT, Nat.reduceAdd]; omega)) only [amT, cut, bnd, Nat.reduceBEq, reduceCtorEq, Nat.reduceEqDiff, Nat.reduceAdd, Nat.reduceMul, Nat.reduceSub, Int.reduceToNat, Int.reduceEq, Int.reduceLT, Int.reduceLE, Int.reduceAdd, Int.reduceSub, Int.reduceMul, reduceIte, resVs, resV, packV, initT, addr] | refine OrW.go ?_
    exact ⟨_, rfl, fun _ => fin _ _ _ _ _ (by simp [hasR, hq]) (h1.old (Old.here _ [])) (stp hst)⟩
  by_cases q6 : q = 6
  · subst q6
    have hc := rread_ok _ p v r x.name hx.name hI hO
    repeat first | simp (implicitDefEqProofs := false) (maxSteps := 1000000) (disch := first | omega | with_reducible assumption | (simp only [lenT, Nat.reduceAdd]; omega)) only [amT, cut, bnd, Nat.reduceBEq, reduceCtorEq, Nat.reduceEqDiff, Nat.reduceAdd, Nat.reduceMul, Nat.reduceSub, Int.reduceToNat, Int.reduceEq, Int.reduceLT, Int.reduceLE, Int.reduceAdd, Int.reduceSub, Int.reduceMul, reduceIte, resVs, resV, packV, initT, addr, F27, actRow, cellsOf6, hq] | refine OrW.go ?_
    refine RelC.call hc ?_
    rintro w M1 ⟨a, cap, rfl, hO, hB⟩
    have hstr := (hB.old (Old.here M1 [])).str
    repeat first | simp (implicitDefEqProofs := false) (maxSteps := 1000000) (disch := first | omega | with_reducible assumption | (simp only [lenT, Nat.reduceAdd]; omega)) only [amT, cut, bnd, Nat.reduceBEq, reduceCtorEq, Nat.reduceEqDiff, Nat.reduceAdd, Nat.reduceMul, Nat.reduceSub, Int.reduceToNat, Int.reduceEq, Int.reduceLT, Int.reduceLE, Int.reduceAdd, Int.reduceSub, Int.reduceMul, reduceIte, resVs, resV, packV, initT, addr, stepOp_b2s_v, hstr] | refine OrW.go ?_
    exact ⟨_, rfl, fun _ => fin _ _ _ _ _ (by simp [hasR, hq]) ((hI.old hO).old (Old.here _ [])) (((hO1.trans hO).mx []).keep _)⟩
  have q01 : q = 0 ∨ q = 1 := by omega
  have hI2 := hR.old (Old.here M [.cells (actRow x ka kc) 44 true .exact, .cells (x.b.map byteV) 5 true (.room [.int .u8 0])])
  have hc := rappend_ok _ p v r x.name _ openCap x.b hx.name (bsl_room M _ 1 rfl rfl) (by omega) hI2 hO
  have stp2 : ∀ {m' : AMem}, RStep p (mx M [.cells (actRow x ka kc) 44 true .exact, .cells (x.b.map byteV) 5 true (.room [.int .u8 0])]) m' → RStep p M (mx m' []) := fun hs => (((Old.here M _).keep (fun x => x = p)).trans hs (fun _ _ h => h)).mx _
  simp only [actRow] at hc stp2
  rcases q01 with rfl | rfl
  · repeat first | simp (implicitDefEqProofs := false) (maxSteps := 1000000) (disch := first | omega | with_reducible assumption | (simp only [lenT, Nat.reduceAdd]; omega)) only [amT, cut, bnd, Nat.reduceBEq, reduceCtorEq, Nat.reduceEqDiff, Nat.reduceAdd, Nat.reduceMul, Nat.reduceSub, Int.reduceToNat, Int.reduceEq, Int.reduceLT, Int.reduceLE, Int.reduceAdd, Int.reduceSub, Int.reduceMul, reduceIte, resVs, resV, packV, initT, addr, F27, actRow, cellsOf6, hq] | refine OrW.go ?_
    refine RelC.call hc ?_
    rintro w M1 ⟨rfl, v1, h1, hst⟩
    repeat first | simp (implicitDefEqProofs := false) (maxSteps := 1000000) (disch := first | omega | with_reducible assumption | (simp only [lenT, Nat.reduceAdd]; omega)) only [amT, cut, bnd, Nat.reduceBEq, reduceCtorEq, Nat.reduceEqDiff, Nat.reduceAdd, Nat.reduceMul, Nat.reduceSub, Int.reduceToNat, Int.reduceEq, Int.reduceLT, Int.reduceLE, Int.reduceAdd, Int.reduceSub, Int.reduceMul, reduceIte, resVs, resV, packV, initT, addr] | refine OrW.go ?_
    exact ⟨_, rfl, fun _ => fin _ _ _ _ _ (by simp [hasR, hq]) (h1.old (Old.here _ [])) (stp2 hst)⟩
  · repeat first | simp (implicitDefEqProofs := false) (maxSteps := 1000000) (disch := first | omega | with_reducible assumption | (simp only [lenT, Nat.reduceAdd]; omega)) only [amT, cut, bnd, Nat.reduceBEq, reduceCtorEq, Nat.reduceEqDiff, Nat.reduceAdd, Nat.reduceMul, Nat.reduceSub, Int.reduceToNat, Int.reduceEq, Int.reduceLT, Int.reduceLE, Int.reduceAdd, Int.reduceSub, Int.reduceMul, reduceIte, resVs, resV, packV, initT, addr, F27, actRow, cellsOf6, hq] | refine OrW.go ?_
    refine RelC.call hc ?_
    rintro w M1 ⟨rfl, v1, h1, hst⟩
    repeat first | simp (implicitDefEqProofs := false) (maxSteps := 1000000) (disch := first | omega | with_reducible assumption | (simp only [lenT, Nat.reduceAdd]; omega)) only [amT, cut, bnd, Nat.reduceBEq, reduceCtorEq, Nat.reduceEqDiff, Nat.reduceAdd, Nat.reduceMul, Nat.reduceSub, Int.reduceToNat, Int.reduceEq, Int.reduceLT, Int.reduceLE, Int.reduceAdd, Int.reduceSub, Int.reduceMul, reduceIte, resVs, resV, packV, initT, addr] | refine OrW.go ?_
    exact ⟨_, rfl, fun _ => fin _ _ _ _ _ (by simp [hasR, hq]) (h1.old (Old.here _ [])) (stp2 hst)⟩
end Go.Proofs.Ytbmjhiifinjieaa
namespace Go.Proofs.Ytbmjhiifinjieaa
open Go Go.AM
set_option linter.unusedVariables false
set_option linter.unusedSimpArgs false
set_option linter.unusedSectionVars false
set_option maxHeartbeats 2000000
set_option maxRecDepth 100000

variable [Ex]
/-- All files have names that may be. -/
def GoodN (fs : List FileR) : Prop := ∀ f ∈ fs, badN f.name = false
theorem GoodN.oth {fs : List FileR} (h : GoodN fs) (s : List UInt8) : GoodN (othersR fs s) := fun f hf => h f (List.mem_filter.1 hf).1
theorem GoodN.one {fs : List FileR} (h : GoodN fs) {f : FileR} (hf : badN f.name = false) : GoodN (fs ++ [f]) := fun g hg => by
  rcases List.mem_append.1 hg with h1 | h1
  · exact h g h1
  · rw [List.mem_singleton] at h1; subst h1; exact hf
theorem rbars_zero {r : DiskR} {s t : List UInt8} {b : Bool} (h : rbarsE r s t b = 0) : badN s = false ∧ badN t = false := by
  unfold rbarsE at h
  split at h
  · simp at h
  · split at h
    · simp at h
    · rename_i h2; simpa using h2
theorem GoodN.dry {r : DiskR} (h : GoodN r.files) (a : List UInt8) {b : List UInt8} (n : Nat) (hb : badN b = false) : GoodN (rdriesR r a b n).2.files := by
  unfold rdriesR
  split
  · rw [step_files]; exact h
  · exact ((h.oth a).oth b).one hb
theorem GoodN.rdo {r : DiskR} (h : GoodN r.files) (a b : List UInt8) (n : Nat) : GoodN (rdoR r a b n).2.files := by
  unfold rdoR
  split
  · rename_i h0; exact h.dry a n (rbars_zero h0).2
  · exact h
theorem GoodN.sort {fs : List FileR} (h : GoodN fs) : ∀ f ∈ sortR fs, badN f.name = false := by
  have key : ∀ (l o : List FileR), GoodN l → GoodN o → GoodN (l.foldl (fun o f => insR o (place o f.name) f) o) := by
    intro l
    induction l with
    | nil => intro o _ ho; exact ho
    | cons f l ih =>
      intro o hl ho
      refine ih _ (fun g hg => hl g (by simp [hg])) fun g hg => ?_
      rcases List.mem_append.1 hg with h1 | h1
      · exact ho g (List.mem_of_mem_take h1)
      · rcases List.mem_cons.1 h1 with rfl | h1
        · exact hl g (by simp)
        · exact ho g (List.mem_of_mem_drop h1)
  exact key fs [] h fun _ h => by cases h
theorem GoodN.on {fs : List FileR} (h : GoodN fs) (keep : List Int) (n : Nat) : GoodN (onFiles keep fs n) := fun g hg => by
  simp only [onFiles, List.mem_filterMap] at hg
  obtain ⟨i, _, hi⟩ := hg
  cases hf : fs[i]? with
  | none => rw [hf] at hi; cases hi
  | some f =>
    rw [hf] at hi
    have hm : f ∈ fs := List.mem_of_getElem? hf
    simp only [Option.bind_some, onFile] at hi
    split at hi
    · cases hi; exact h f hm
    · cases hi
theorem GoodN.has {r : DiskR} (h : GoodN r.files) (x : ActR) : GoodN (hasR r x).2.files := by
  unfold hasR
  split
  · show GoodN (rappendR r x.name x.b).2.files
    unfold rappendR
    split
    · rename_i h0
      split; · exact h
      split; · exact h
      rw [step_files]
      exact (h.oth _).one (rbars_zero h0).1
    · exact h
  split; · exact h.rdo _ _ _
  split
  · show GoodN (rcutR r x.name x.n).2.files
    unfold rcutR
    split
    · rename_i h0
      split; · exact h
      exact h.dry _ _ (rbars_zero h0).1
    · exact h
  split; · exact h.rdo _ _ _
  split
  · show GoodN (rremoveR r x.name).2.files
    unfold rremoveR
    split
    · split
      · rw [step_files]; exact h
      · exact h.oth _
    · exact h
  split; · exact h
  split; · exact h
  split; · exact h
  · show GoodN (rOnR r x.keep).files
    unfold rOnR
    split
    · exact GoodN.on h.sort _ _
    · exact h
theorem ROk.of {d r : DiskR} (h : Same d r) (hd : DOk d) : ROk r :=
  ⟨by rw [← h.perm.length_eq]; exact hd.few, by rw [← used_perm h.perm]; exact hd.used, by rw [← h.quota]; exact hd.q0, by rw [← h.quota]; exact hd.q1, by rw [← h.steps]; exact hd.s0, by rw [← h.steps]; exact hd.s1, by rw [← h.set]; exact hd.t0, by rw [← h.set]; exact hd.t1⟩
theorem read_file {d r : DiskR} (h : Same d r) (hN : GoodN r.files) (hoff : r.off = false) {i : Nat} (hi : i < d.files.length) : readR d d.files[i].name = (0, d.files[i].all) := by
  have hg : badN d.files[i].name = false := hN _ (h.perm.subset (List.getElem_mem hi))
  have hget := getF_at h.sorted hi
  have ht : isAt d.files d.files[i].name = true := by rw [(isAt_get h.sorted _).1, hget]; rfl
  unfold readR
  rw [if_pos (by simp [barsE, h.off, hoff, hg]), if_pos ht, h.all ht]
  rw [h.file] at hget
  simp [kAll, lookOr, hget, FileR.all]
theorem alike_ok (M : AMem) (p p2 : Nat) (v v2 : Value) (d r : DiskR) (hD : DAt M p v d) (hR : RAt M p2 v2 r) (hS : Same d r) (hO : DOk d) (hN : GoodN r.files) :
    RelC Try.prog 0 28 [.pointer (some ⟨p, 0, none⟩), .pointer (some ⟨p2, 0, none⟩)] M fun w m' => w = .bool true ∧ Old M m' := by
  refine rel_of_W (fn := Try.f28) rfl rfl F28_ok (by simp [F28]) ?_
  have hRO := ROk.of hS hO
  have hso := hS.sort
  have hp := hD.lt
  have hp2 := hR.lt
  have hfew := hO.few
  have hused := hO.used
  have hup := used_perm hS.perm
  obtain ⟨a, cap, rfl⟩ := hD.files.len
  have hD1 := hD.old (Old.here M [])
  have hn := names_ok (mx M []) p a cap d.files hD1.lt hD1.get hD1.files (by omega)
  repeat first | simp (implicitDefEqProofs := false) (maxSteps := 1000000) (disch := first | omega | with_reducible assumption | (simp only [lenT, Nat.reduceAdd]; omega)) only [amT, cut, bnd, Nat.reduceBEq, reduceCtorEq, Nat.reduceEqDiff, Nat.reduceAdd, Nat.reduceMul, Nat.reduceSub, Int.reduceToNat, Int.reduceEq, Int.reduceLT, Int.reduceLE, Int.reduceAdd, Int.reduceSub, Int.reduceMul, reduceIte, resVs, resV, packV, initT, addr, F28] | refine OrW.go ?_
  refine RelC.call hn ?_
  rintro l M1 ⟨hO1, hL⟩
  obtain ⟨al, cl, rfl⟩ := hL.len
  have hR1 := (hR.old (Old.here M [])).old hO1
  have hf := files_ok (mx M1 []) p2 v2 r (hR1.old (Old.here _ _)) hRO
  repeat first | simp (implicitDefEqProofs := false) (maxSteps := 1000000) (disch := first | omega | with_reducible assumption | (simp only [lenT, Nat.reduceAdd]; omega)) only [amT, cut, bnd, Nat.reduceBEq, reduceCtorEq, Nat.reduceEqDiff, Nat.reduceAdd, Nat.reduceMul, Nat.reduceSub, Int.reduceToNat, Int.reduceEq, Int.reduceLT, Int.reduceLE, Int.reduceAdd, Int.reduceSub, Int.reduceMul, reduceIte, resVs, resV, packV, initT, addr] | refine OrW.go ?_
  refine RelC.call hf ?_
  rintro fl M2 ⟨hO2, hF⟩
  rw [hso] at hF
  obtain ⟨af, cf, rfl⟩ := hF.len
  have hOM : Old M M2 := ((Old.here M []).trans hO1).trans ((Old.here M1 []).trans hO2)
  have hDM := (hD.old hOM).old (Old.here M2 [])
  have hRM := (hR.old hOM).old (Old.here M2 [])
  have ku := DetC.known (used_ok (mx M2 []) p a cap d.files hDM.lt hDM.get hDM.files (by omega) (by omega))
  have kru := DetC.known (rused_ok (mx M2 []) p2 v2 r hRM hRO)
  have ks := DetC.known (steps_ok (mx M2 []) p hDM.lt hDM.get)
  have ko := DetC.known (off_ok (mx M2 []) p hDM.lt hDM.get)
  have hrd : M2.get p2 = .cells (r.cells v2) 73 true .exact := (hR.old hOM).get
  have hp2M : p2 < M2.size := (hR.old hOM).lt
  rw [← hup] at kru
  simp only [DiskR.cells, ← hS.steps, ← hS.off] at hrd
  rw [List.length_map] at hL
  have hO2'' : Old M1 M2 := (Old.here M1 []).trans hO2
  repeat first | simp (implicitDefEqProofs := false) (maxSteps := 1000000) (disch := first | omega | with_reducible assumption | (simp only [lenT, Nat.reduceAdd]; omega)) only [amT, cut, bnd, Nat.reduceBEq, reduceCtorEq, Nat.reduceEqDiff, Nat.reduceAdd, Nat.reduceMul, Nat.reduceSub, Int.reduceToNat, Int.reduceEq, Int.reduceLT, Int.reduceLE, Int.reduceAdd, Int.reduceSub, Int.reduceMul, reduceIte, resVs, resV, packV, initT, addr, hrd, ku, kru, ks, ko] | refine OrW.go ?_
  refine W_loop (fun N qs => ∃ (i : Nat) (M3 : AMem), N = d.files.length - i ∧ qs.ds = [] ∧ qs.m = mx M3 [] ∧ qs.t 0 = .pointer (some ⟨p, 0, none⟩) ∧ qs.t 1 = .pointer (some ⟨p2, 0, none⟩) ∧ qs.t 5 = .slice al d.files.length cl ∧ qs.t 6 = .slice af d.files.length cf ∧ qs.t 7 = .int .i64 i ∧ i ≤ d.files.length ∧ Old M2 M3) (d.files.length - (0)) ⟨0, M2, rfl, rfl, ?qm, ?q0, ?q1, ?q5, ?q6, ?q7, ?_⟩ ?_
  case qm | q0 | q1 | q5 | q6 | q7 => first | rfl | (simp (implicitDefEqProofs := false) (maxSteps := 1000000) (disch := first | omega | with_reducible assumption | (simp only [lenT, Nat.reduceAdd]; omega)) only [amT, cut, bnd, Nat.reduceBEq, reduceCtorEq, Nat.reduceEqDiff, Nat.reduceAdd, Nat.reduceMul, Nat.reduceSub, Int.reduceToNat, Int.reduceEq, Int.reduceLT, Int.reduceLE, Int.reduceAdd, Int.reduceSub, Int.reduceMul, reduceIte, resVs, resV, packV, initT, addr]; first | done | rfl | (congr 1; omega))
  · exact ⟨by omega, .refl _⟩
  · rintro N t m1 ds ⟨i, M3, rfl, hds, hm, t0, t1, t5, t6, t7, hp⟩
    simp only at hds hm t0 t1 t5 t6 t7
    subst hds; replace hm := hm.symm; subst hm
    obtain ⟨hi, hO3⟩ := hp
    have hOM3 := hOM.trans hO3
    by_cases h1 : (i : Int) < (d.files.length : Int)
    · have hi : i < d.files.length := by omega
      obtain ⟨bl, rfl, hbl, hrl⟩ := (((hL.old hO2'').old hO3)).get (i := i) (by rw [List.length_map]; exact hi)
      obtain ⟨bf, X, bb, rfl, hbf, hX, e1, e2, hbb, hgb⟩ := (hF.old hO3).get hi
      rw [List.getElem_map, rd_def] at hrl
      have hrdc := read_ok (mx M3 []) p _ d d.files[i].name (by have := hN _ (hS.perm.subset (List.getElem_mem hi)); simp [badN] at this; omega) ((hD.old hOM3).old (Old.here _ _)) hO
      repeat first | simp (implicitDefEqProofs := false) (maxSteps := 1000000) (disch := first | omega | with_reducible assumption | (simp only [lenT, Nat.reduceAdd]; omega)) only [amT, cut, bnd, Nat.reduceBEq, reduceCtorEq, Nat.reduceEqDiff, Nat.reduceAdd, Nat.reduceMul, Nat.reduceSub, Int.reduceToNat, Int.reduceEq, Int.reduceLT, Int.reduceLE, Int.reduceAdd, Int.reduceSub, Int.reduceMul, reduceIte, resVs, resV, packV, initT, addr, F28_l0, t0, t1, t5, t6, t7, h1, hrl] | refine OrW.go ?_
      refine RelC.call hrdc ?_
      rintro w M4 ⟨b, rfl, hO4, hB⟩
      obtain ⟨ab, cb, rfl, hbs⟩ := hB.bsl'
      have hO5 : Old M3 M4 := (Old.here M3 []).trans hO4
      have f1 : rdO (M4.get bl) i 1 = some [.string ⟨d.files[i].name.toArray⟩] := by rw [hO5.2 bl hbl]; exact hrl
      have f2 : M4.get bf = .cells X 77 true (.room zO) := by rw [hO5.2 bf hbf]; exact hX
      have f3 : M4.get p2 = .cells (r.cells v2) 73 true .exact := ((hR.old hOM3).old hO5).get
      have hp4 : p2 < M4.size := ((hR.old hOM3).old hO5).lt
      have hbl4 : bl < M4.size := Nat.lt_of_lt_of_le hbl hO5.1
      have hbf4 : bf < M4.size := Nat.lt_of_lt_of_le hbf hO5.1
      have hstr := (hbs.old (Old.here M4 [])).str
      have hbs2 : BSl (mx M4 []) (some ⟨bb, 0, none⟩) openCap d.files[i].all := BSl.old (.inr ⟨bb, 0, _, _, _, _, rfl, hbb, hgb, cutL_all (by simp), .inl ⟨rfl, rfl⟩⟩) (hO5.trans (Old.here M4 []))
      have hstr2 := hbs2.str
      cases hoff : r.off with
      | true =>
        simp only [DiskR.cells, hoff] at f3
        repeat first | simp (implicitDefEqProofs := false) (maxSteps := 1000000) (disch := first | omega | with_reducible assumption | (simp only [lenT, Nat.reduceAdd]; omega)) only [amT, cut, bnd, Nat.reduceBEq, reduceCtorEq, Nat.reduceEqDiff, Nat.reduceAdd, Nat.reduceMul, Nat.reduceSub, Int.reduceToNat, Int.reduceEq, Int.reduceLT, Int.reduceLE, Int.reduceAdd, Int.reduceSub, Int.reduceMul, reduceIte, resVs, resV, packV, initT, addr, t0, t1, t5, t6, t7, f1, f2, e1, f3, undef] | refine OrW.go ?_
        rw [LoopK_normal]; refine ⟨_, ?_, i + 1, M4, rfl, rfl, ?qm, ?q0, ?q1, ?q5, ?q6, ?q7, ?_⟩
        case qm | q0 | q1 | q5 | q6 | q7 => first | rfl | (simp (implicitDefEqProofs := false) (maxSteps := 1000000) (disch := first | omega | with_reducible assumption | (simp only [lenT, Nat.reduceAdd]; omega)) only [amT, cut, bnd, Nat.reduceBEq, reduceCtorEq, Nat.reduceEqDiff, Nat.reduceAdd, Nat.reduceMul, Nat.reduceSub, Int.reduceToNat, Int.reduceEq, Int.reduceLT, Int.reduceLE, Int.reduceAdd, Int.reduceSub, Int.reduceMul, reduceIte, resVs, resV, packV, initT, addr, t0, t1, t5, t6, t7]; first | done | rfl | (congr 1; omega))
        · omega
        · exact ⟨by omega, hO3.trans hO5⟩
      | false =>
        have hrf := read_file hS hN hoff hi
        rw [hrf] at hstr
        simp only [DiskR.cells, hoff] at f3
        repeat first | simp (implicitDefEqProofs := false) (maxSteps := 1000000) (disch := first | omega | with_reducible assumption | (simp only [lenT, Nat.reduceAdd]; omega)) only [amT, cut, bnd, Nat.reduceBEq, reduceCtorEq, Nat.reduceEqDiff, Nat.reduceAdd, Nat.reduceMul, Nat.reduceSub, Int.reduceToNat, Int.reduceEq, Int.reduceLT, Int.reduceLE, Int.reduceAdd, Int.reduceSub, Int.reduceMul, reduceIte, resVs, resV, packV, initT, addr, t0, t1, t5, t6, t7, f1, f2, e1, e2, f3, hrf, stepOp_b2s_v, hstr, hstr2, undef] | refine OrW.go ?_
        rw [LoopK_normal]; refine ⟨_, ?_, i + 1, M4, rfl, rfl, ?qm, ?q0, ?q1, ?q5, ?q6, ?q7, ?_⟩
        case qm | q0 | q1 | q5 | q6 | q7 => first | rfl | (simp (implicitDefEqProofs := false) (maxSteps := 1000000) (disch := first | omega | with_reducible assumption | (simp only [lenT, Nat.reduceAdd]; omega)) only [amT, cut, bnd, Nat.reduceBEq, reduceCtorEq, Nat.reduceEqDiff, Nat.reduceAdd, Nat.reduceMul, Nat.reduceSub, Int.reduceToNat, Int.reduceEq, Int.reduceLT, Int.reduceLE, Int.reduceAdd, Int.reduceSub, Int.reduceMul, reduceIte, resVs, resV, packV, initT, addr, t0, t1, t5, t6, t7]; first | done | rfl | (congr 1; omega))
        · omega
        · exact ⟨by omega, hO3.trans hO5⟩
    · obtain rfl : i = d.files.length := by omega
      repeat first | simp (implicitDefEqProofs := false) (maxSteps := 1000000) (disch := first | omega | with_reducible assumption | (simp only [lenT, Nat.reduceAdd]; omega)) only [amT, cut, bnd, Nat.reduceBEq, reduceCtorEq, Nat.reduceEqDiff, Nat.reduceAdd, Nat.reduceMul, Nat.reduceSub, Int.reduceToNat, Int.reduceEq, Int.reduceLT, Int.reduceLE, Int.reduceAdd, Int.reduceSub, Int.reduceMul, reduceIte, resVs, resV, packV, initT, addr, F28_l0, t0, t1, t5, t6, t7, h1] | refine OrW.go ?_
      exact ⟨_, rfl, fun _ => ⟨rfl, hOM3.mx _⟩⟩
end Go.Proofs.Ytbmjhiifinjieaa
