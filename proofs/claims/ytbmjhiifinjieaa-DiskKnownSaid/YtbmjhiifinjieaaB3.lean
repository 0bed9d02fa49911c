/- DiskDry. -/
import Derived.Test.YtbmjhiifinjieaaB2
set_option linter.unusedVariables false
set_option linter.unusedSimpArgs false
set_option linter.unnecessarySimpa false
namespace Go.Proofs.Ytbmjhiifinjieaa
open Go Go.AM
set_option linter.unusedVariables false
set_option linter.unusedSimpArgs false
set_option linter.unusedSectionVars false
set_option maxHeartbeats 2000000
set_option maxRecDepth 100000
variable [Ex]

def fF (A : List UInt8) (dry : Nat) (born : Bool) : FileR := ⟨[102], A.take dry, A.drop dry, born⟩
theorem fF_size {A : List UInt8} {dry : Nat} (h : dry ≤ A.length) (born : Bool) : (fF A dry born).size = A.length := by simp [fF, FileR.size]; omega
/-- So far. -/
structure Dry (d : DiskR) (i : Nat) (A : List UInt8) (dry : Nat) (born : Bool) : Prop where
  files : d.files = if i = 0 then [] else [fF A dry born]
  quota : d.quota = 1048576
  le : dry ≤ A.length
  zero : i = 0 → A = [] ∧ dry = 0 ∧ born = false
  len : A.length ≤ 3000
theorem step_off (d : DiskR) (h : d.off = false) : (DiskR.step d).off = decide (d.set = 0) := by unfold DiskR.step; split <;> simp_all
theorem step_quota (d : DiskR) : (DiskR.step d).quota = d.quota := by unfold DiskR.step; split <;> rfl
theorem Dry.append {d : DiskR} {i : Nat} {A : List UInt8} {dry : Nat} {born : Bool} (h : Dry d i A dry born) (ho : d.off = false) (p : List UInt8) (hp : A.length + p.length ≤ 3000) :
    (appendR d [102] p).1 = (if d.set = 0 then 40 else 0) ∧ Dry (appendR d [102] p).2 (i + 1) (A ++ p) dry born ∧ (appendR d [102] p).2.off = decide (d.set = 0) := by
  have hs : (fileOr d.files [102]).size = A.length := by
    rw [h.files]
    split
    · rename_i h0; rw [(h.zero h0).1]; rfl
    · exact fF_size h.le born
  have hu : usedR d.files = A.length := by
    rw [h.files]
    split
    · rename_i h0; rw [(h.zero h0).1]; rfl
    · simp only [usedR, List.map_cons, List.map_nil, List.sum_cons, List.sum_nil]; rw [fF_size h.le]; rfl
  have hq := h.quota
  have hl : layR d.files { fileOr d.files [102] with wet := (fileOr d.files [102]).wet ++ p } = [fF (A ++ p) dry born] := by
    rw [h.files]
    have hle := h.le
    split
    · rename_i h0
      obtain ⟨rfl, rfl, rfl⟩ := h.zero h0
      simp [layR, isAt, place, fileOr, insR, fF]
    · have e : fileOr [fF A dry born] [102] = fF A dry born := rfl
      rw [e]
      show [(FileR.mk [102] (A.take dry) (A.drop dry ++ p) born)] = _
      simp only [fF]
      rw [List.take_append_of_le_length hle, List.drop_append_of_le_length hle]
  have e : appendR d [102] p = (if d.set = 0 then 40 else 0, DiskR.step { d with files := [fF (A ++ p) dry born] }) := by
    unfold appendR
    rw [ho, if_pos (by rfl), if_neg (by rw [hs]; omega), if_neg (by rw [hu, hq]; omega), hl]
  rw [e]
  refine ⟨rfl, ⟨by rw [step_files, if_neg (by omega)], by rw [step_quota]; exact hq, by rw [List.length_append]; have := h.le; omega, fun h => by omega, by rw [List.length_append]; exact hp⟩, ?_⟩
  rw [step_off _ (by simpa using ho)]
theorem Dry.sync {d : DiskR} {i : Nat} {A : List UInt8} {dry : Nat} {born : Bool} (h : Dry d (i + 1) A dry born) :
    ((driesR d [102] [102] some).1 = 0 ∧ Dry (driesR d [102] [102] some).2 (i + 1) A A.length true) ∨ ((driesR d [102] [102] some).1 = 40 ∧ Dry (driesR d [102] [102] some).2 (i + 1) A dry born) := by
  have hf := h.files
  rw [if_neg (by omega)] at hf
  have hall : (fF A dry born).all = A := by simp [fF, FileR.all]
  cases ho : d.off with
  | true =>
    have e : driesR d [102] [102] some = (40, d) := by unfold driesR; rw [ho]; rfl
    rw [e]; exact .inr ⟨rfl, h⟩
  | false =>
    have e : driesR d [102] [102] some = if d.set = 0 then (40, d.step) else (0, { d.step with files := [fF A A.length true] }) := by
      unfold driesR
      rw [ho, hf]
      rw [if_pos (by rfl), if_pos (by rfl)]
      have e1 : fileAt [fF A dry born] [102] = fF A dry born := rfl
      rw [e1, hall]
      simp only []
      have e2 : layR ([fF A dry born].eraseIdx (place [fF A dry born] [102])) ⟨[102], A, [], true⟩ = [fF A A.length true] := by
        show [FileR.mk [102] A [] true] = _
        simp [fF]
      rw [e2]
    rw [e]
    split
    · exact .inr ⟨rfl, ⟨by rw [step_files, hf, if_neg (by omega)], by rw [step_quota]; exact h.quota, h.le, fun h => by omega, h.len⟩⟩
    · exact .inl ⟨rfl, ⟨by rw [if_neg (by omega)], by simp only []; rw [step_quota]; exact h.quota, Nat.le_refl _, fun h => by omega, h.len⟩⟩
theorem Dry.on {d : DiskR} {i : Nat} {A : List UInt8} {dry : Nat} {born : Bool} (h : Dry d i A dry born) (k : Int) :
    (onR (crashR d) [k]).off = false ∧ (onR (crashR d) [k]).files = if dry + staysR [k] 0 (A.length - dry) = 0 ∧ born = false then [] else [⟨[102], A.take (dry + staysR [k] 0 (A.length - dry)), [], true⟩] := by
  refine ⟨by simp [onR, crashR], ?_⟩
  have hle := h.le
  have hst := stays_le [k] 0 (A.length - dry)
  have e0 : (onR (crashR d) [k]).files = onS [k] 0 d.files := by simp only [onR, crashR, if_true, onS_eq]
  rw [e0, h.files]
  split
  · rename_i h0
    obtain ⟨rfl, rfl, rfl⟩ := h.zero h0
    have : staysR [k] 0 (([] : List UInt8).length - 0) = 0 := by have := stays_le [k] 0 (([] : List UInt8).length - 0); simpa using this
    rw [this]; rfl
  · have e1 : (fF A dry born).wet.length = A.length - dry := by simp [fF]
    have e2 : (fF A dry born).dry ++ (fF A dry born).wet.take (staysR [k] 0 (A.length - dry)) = A.take (dry + staysR [k] 0 (A.length - dry)) := by
      simp only [fF]; rw [List.take_add]
    have e3 : onFile [k] 0 (fF A dry born) = if (born || decide (0 < dry + staysR [k] 0 (A.length - dry))) then some ⟨[102], A.take (dry + staysR [k] 0 (A.length - dry)), [], true⟩ else none := by
      unfold onFile
      rw [e1, e2, List.length_take, Nat.min_eq_left (by omega)]; rfl
    rw [onS, e3, onS]
    generalize dry + staysR [k] 0 (A.length - dry) = n
    cases born <;> cases n <;> simp
theorem on_again (d : DiskR) (B : List UInt8) (k : Int) (hf : d.files = [⟨[102], B, [], true⟩]) : (onR (crashR d) [k]).off = false ∧ (onR (crashR d) [k]).files = [⟨[102], B, [], true⟩] := by
  refine ⟨by simp [onR, crashR], ?_⟩
  have e0 : (onR (crashR d) [k]).files = onS [k] 0 d.files := by simp only [onR, crashR, if_true, onS_eq]
  rw [e0, hf]
  simp [onS, onFile]
theorem read_one (d : DiskR) (B : List UInt8) (ho : d.off = false) (hf : d.files = [⟨[102], B, [], true⟩]) : readR d [102] = (0, B) := by
  unfold readR; rw [ho, hf]
  rw [if_pos (by rfl), if_pos (by rfl)]
  show (0, B ++ []) = _
  simp
theorem read_none (d : DiskR) (ho : d.off = false) (hf : d.files = []) : readR d [102] = (5, []) := by
  unfold readR; rw [ho, hf]; rfl

theorem rowV_str {m : AMem} {a : Option Addr} {ls : List (List UInt8)} (h : RowV m a (ls.map strV)) {i : Nat} (hi : i < ls.length) : ∃ b, a = some ⟨b, 0, none⟩ ∧ b < m.size ∧ rdO (m.get b) i 1 = some [.string ⟨ls[i].toArray⟩] := by
  rcases h.2 with h0 | ⟨b, ty, rfl, hg⟩
  · obtain rfl : ls = [] := by simpa using h0
    cases hi
  · refine ⟨b, rfl, h.1 _ _ rfl, ?_⟩
    rw [hg, rdO_cells, cutL_one, strs_get hi]; rfl
def F3_r : ACode := F3.code.tl.tl.tl.tl.tl.tl
def F3_s : ACode := F3_r.tl.tl.tl.tl.tl.tl
theorem F3_cut : F3.code = .seq F3.code.hd (.seq F3.code.tl.hd (.seq F3.code.tl.tl.hd (.seq F3.code.tl.tl.tl.hd (.seq F3.code.tl.tl.tl.tl.hd (.seq F3.code.tl.tl.tl.tl.tl.hd F3_r))))) := rfl
theorem F3_r_cut : F3_r = .seq F3_r.hd (.seq F3_r.tl.hd (.seq F3_r.tl.tl.hd (.seq F3_r.tl.tl.tl.hd (.seq F3_r.tl.tl.tl.tl.hd (.seq F3_r.tl.tl.tl.tl.tl.hd F3_s))))) := rfl
theorem dry_tail (m M : AMem) (l : List AObj) (v : Value) (d : DiskR) (h : DIn m (mx M l) m.size v d) (hb : Bud d 100) (A : List UInt8) (n : Nat) (N : Int) (hN : N = (n : Int)) (hn : n ≤ A.length) (hf : d.files = [⟨[102], A.take n, [], true⟩]) (again : Int)
    (ha : -9223372036854775808 ≤ again ∧ again ≤ 9223372036854775807) (t : Tmps)
    (t4 : t 4 = .int .i64 again) (t11 : t 11 = .pointer (some ⟨m.size, 0, none⟩)) (t12 : t 12 = .string ⟨A.toArray⟩) (t19 : t 19 = .int .i64 N) :
    W Try.prog 0 F3_s (RetK F3.res fun r m' => r = .ret (.bool true) ∧ Old m m') ⟨t, mx M l, []⟩ := by
  subst hN
  have h1 := crash_in h
  repeat first | simp (implicitDefEqProofs := false) (maxSteps := 1000000) (disch := first | omega | with_reducible assumption | (simp only [lenT, Nat.reduceAdd]; omega)) only [amT, cut, bnd, Nat.reduceBEq, reduceCtorEq, Nat.reduceEqDiff, Nat.reduceAdd, Nat.reduceMul, Nat.reduceSub, Int.reduceToNat, Int.reduceEq, Int.reduceLT, Int.reduceLE, Int.reduceAdd, Int.reduceSub, Int.reduceMul, reduceIte, resVs, resV, packV, initT, addr, F3_s, F3_r, F3, hd_seq, tl_seq, t11] | refine OrW.go ?_
  refine RelC.call h1 ?_
  rintro r M1 ⟨rfl, v1, h1, -⟩
  have h2 := on_in (h1.mx [.cells [.int .i64 again] 3 true .exact]) hb.crash (by omega) _ [again] (intv_new M1 _ 0 (cap := 1) rfl) (by simp) (by simpa using ha) (fun b o n c e => by have := h1.here.lt; cases e; omega)
  have b2 := hb.crash.on [again]
  obtain ⟨o2, f2⟩ := on_again d (A.take n) again hf
  generalize onR (crashR d) [again] = D2 at *
  repeat first | simp (implicitDefEqProofs := false) (maxSteps := 1000000) (disch := first | omega | with_reducible assumption | (simp only [lenT, Nat.reduceAdd]; omega)) only [amT, cut, bnd, Nat.reduceBEq, reduceCtorEq, Nat.reduceEqDiff, Nat.reduceAdd, Nat.reduceMul, Nat.reduceSub, Int.reduceToNat, Int.reduceEq, Int.reduceLT, Int.reduceLE, Int.reduceAdd, Int.reduceSub, Int.reduceMul, reduceIte, resVs, resV, packV, initT, addr, t4, t11] | refine OrW.go ?_
  refine RelC.call h2 ?_
  rintro r M2 ⟨rfl, v2, h2, -⟩
  have h3 := read_in (h2.mx []) b2 (by omega) [102] (by simp)
  rw [read_one D2 _ o2 f2] at h3
  repeat first | simp (implicitDefEqProofs := false) (maxSteps := 1000000) (disch := first | omega | with_reducible assumption | (simp only [lenT, Nat.reduceAdd]; omega)) only [amT, cut, bnd, Nat.reduceBEq, reduceCtorEq, Nat.reduceEqDiff, Nat.reduceAdd, Nat.reduceMul, Nat.reduceSub, Int.reduceToNat, Int.reduceEq, Int.reduceLT, Int.reduceLE, Int.reduceAdd, Int.reduceSub, Int.reduceMul, reduceIte, resVs, resV, packV, initT, addr, t11] | refine OrW.go ?_
  refine RelC.call h3 ?_
  rintro r M3 ⟨b, rfl, h3, -, hB⟩
  obtain ⟨ab, cb, rfl, hbs⟩ := hB.bsl'
  have hstr := (hbs.old (Old.here M3 [])).str
  have kW := DetC.known (works_ok (mx M3 []))
  have hlast := (h3.mx []).old
  have e1 : ((n : Int)).toNat = n := by omega
  repeat first | simp (implicitDefEqProofs := false) (maxSteps := 1000000) (disch := first | omega | with_reducible assumption | (simp only [lenT, Nat.reduceAdd]; omega)) only [amT, cut, bnd, Nat.reduceBEq, reduceCtorEq, Nat.reduceEqDiff, Nat.reduceAdd, Nat.reduceMul, Nat.reduceSub, Int.reduceToNat, Int.reduceEq, Int.reduceLT, Int.reduceLE, Int.reduceAdd, Int.reduceSub, Int.reduceMul, reduceIte, resVs, resV, packV, initT, addr, t12, t19, stepOp_b2s_v, hstr, kW] | refine OrW.go ?_
  exact hlast
theorem dry_rest (m M : AMem) (v : Value) (d : DiskR) (h : DIn m M m.size v d) (hb : Bud d 100) (i : Nat) (A : List UInt8) (dry : Nat) (born : Bool) (hd : Dry d i A dry born) (keep again : Int)
    (hk : -9223372036854775808 ≤ keep ∧ keep ≤ 9223372036854775807) (ha : -9223372036854775808 ≤ again ∧ again ≤ 9223372036854775807) (t : Tmps)
    (t3 : t 3 = .int .i64 keep) (t4 : t 4 = .int .i64 again) (t11 : t 11 = .pointer (some ⟨m.size, 0, none⟩)) (t12 : t 12 = .string ⟨A.toArray⟩) (t13 : t 13 = .int .i64 dry) (t14 : t 14 = .bool born) :
    W Try.prog 0 F3_r (RetK F3.res fun r m' => r = .ret (.bool true) ∧ Old m m') ⟨t, mx M [], []⟩ := by
  have hle := hd.le
  have hlen := hd.len
  have hst := stays_le [keep] 0 (A.length - dry)
  have h1 := crash_in (h.mx [])
  rw [F3_r_cut]
  repeat first | simp (implicitDefEqProofs := false) (maxSteps := 1000000) (disch := first | omega | with_reducible assumption | (simp only [lenT, Nat.reduceAdd]; omega)) only [amT, cut, bnd, Nat.reduceBEq, reduceCtorEq, Nat.reduceEqDiff, Nat.reduceAdd, Nat.reduceMul, Nat.reduceSub, Int.reduceToNat, Int.reduceEq, Int.reduceLT, Int.reduceLE, Int.reduceAdd, Int.reduceSub, Int.reduceMul, reduceIte, resVs, resV, packV, initT, addr, F3_r, F3, hd_seq, tl_seq, t11] | refine OrW.go ?_
  refine RelC.call h1 ?_
  rintro r M1 ⟨rfl, v1, h1, -⟩
  have h2 := on_in (h1.mx [.cells [.int .i64 keep] 3 true .exact]) hb.crash (by omega) _ [keep] (intv_new M1 _ 0 (cap := 1) rfl) (by simp) (by simpa using hk) (fun b o n c e => by have := h1.here.lt; cases e; omega)
  have b2 := hb.crash.on [keep]
  obtain ⟨o2, f2⟩ := hd.on keep
  generalize onR (crashR d) [keep] = D2 at *
  repeat first | simp (implicitDefEqProofs := false) (maxSteps := 1000000) (disch := first | omega | with_reducible assumption | (simp only [lenT, Nat.reduceAdd]; omega)) only [amT, cut, bnd, Nat.reduceBEq, reduceCtorEq, Nat.reduceEqDiff, Nat.reduceAdd, Nat.reduceMul, Nat.reduceSub, Int.reduceToNat, Int.reduceEq, Int.reduceLT, Int.reduceLE, Int.reduceAdd, Int.reduceSub, Int.reduceMul, reduceIte, resVs, resV, packV, initT, addr, t3, t11] | refine OrW.go ?_
  refine RelC.call h2 ?_
  rintro r M2 ⟨rfl, v2, h2, -⟩
  have h3 := read_in (h2.mx []) b2 (by omega) [102] (by simp)
  repeat first | simp (implicitDefEqProofs := false) (maxSteps := 1000000) (disch := first | omega | with_reducible assumption | (simp only [lenT, Nat.reduceAdd]; omega)) only [amT, cut, bnd, Nat.reduceBEq, reduceCtorEq, Nat.reduceEqDiff, Nat.reduceAdd, Nat.reduceMul, Nat.reduceSub, Int.reduceToNat, Int.reduceEq, Int.reduceLT, Int.reduceLE, Int.reduceAdd, Int.reduceSub, Int.reduceMul, reduceIte, resVs, resV, packV, initT, addr, t11] | refine OrW.go ?_
  refine RelC.call h3 ?_
  rintro r M3 ⟨b, rfl, h3, -, hB⟩
  obtain ⟨ab, cb, rfl, hbs⟩ := hB.bsl'
  have k19 : Known Try.prog 0 19 [.slice (some ⟨M3.size, 0, none⟩) 1 1, .int .i64 0, .int .i64 ((A.length : Int) - (dry : Int))] (mx M3 [.cells [.int .i64 keep] 3 true .exact]) (.int .i64 (staysR [keep] 0 (A.length - dry))) (mx M3 [.cells [.int .i64 keep] 3 true .exact]) := by
    have k := DetC.known (stays_ok (mx M3 [.cells [.int .i64 keep] 3 true .exact]) _ [keep] (intv_new M3 _ 0 (cap := 1) rfl) (by simp) (by simpa using hk) 0 (A.length - dry) (by omega) (by omega))
    rw [show ((A.length - dry : Nat) : Int) = (A.length : Int) - (dry : Int) by omega] at k
    exact k
  generalize staysR [keep] 0 (A.length - dry) = w at *
  have hI := h3.mx [.cells [.int .i64 keep] 3 true .exact]
  have kN := names_in hI b2 (by omega)
  have kW := DetC.known (works_ok (mx M3 [.cells [.int .i64 keep] 3 true .exact]))
  by_cases hc : dry + w = 0 ∧ born = false
  · rw [if_pos hc] at f2
    rw [read_none D2 o2 f2]
    rw [f2] at kN
    obtain ⟨hw0, rfl⟩ := hc
    have hz : (dry : Int) + (w : Int) = 0 := by omega
    repeat first | simp (implicitDefEqProofs := false) (maxSteps := 1000000) (disch := first | omega | with_reducible assumption | (simp only [lenT, Nat.reduceAdd]; omega)) only [amT, cut, bnd, Nat.reduceBEq, reduceCtorEq, Nat.reduceEqDiff, Nat.reduceAdd, Nat.reduceMul, Nat.reduceSub, Int.reduceToNat, Int.reduceEq, Int.reduceLT, Int.reduceLE, Int.reduceAdd, Int.reduceSub, Int.reduceMul, reduceIte, resVs, resV, packV, initT, addr, t3, t11, t12, t13, t14, k19, hz] | refine OrW.go ?_
    refine RelC.call kN ?_
    rintro r M4 ⟨hO4, hS⟩
    obtain ⟨an, cn, rfl⟩ := hS.len
    have kW4 := DetC.known (works_ok (mx M4 []))
    have hlast := (hI.old.trans hO4).mx []
    repeat first | simp (implicitDefEqProofs := false) (maxSteps := 1000000) (disch := first | omega | with_reducible assumption | (simp only [lenT, Nat.reduceAdd]; omega)) only [amT, cut, bnd, Nat.reduceBEq, reduceCtorEq, Nat.reduceEqDiff, Nat.reduceAdd, Nat.reduceMul, Nat.reduceSub, Int.reduceToNat, Int.reduceEq, Int.reduceLT, Int.reduceLE, Int.reduceAdd, Int.reduceSub, Int.reduceMul, reduceIte, resVs, resV, packV, initT, addr, show (List.map FileR.name []).length = 0 from rfl, kW4] | refine OrW.go ?_
    first | exact hlast | exact hI.old.trans hO4
  · rw [if_neg hc] at f2
    rw [read_one D2 _ o2 f2]
    rw [read_one D2 _ o2 f2] at hbs
    have hstr := (hbs.old (Old.here M3 [.cells [.int .i64 keep] 3 true .exact])).str
    have h4 := crash_in hI
    have hn : ((dry : Int) + (w : Int)).toNat = dry + w := by omega
    have tail := fun (t : Tmps) (N : Int) (hN : N = ((dry + w : Nat) : Int)) => dry_tail m M3 _ _ D2 hI b2 A (dry + w) N hN (by omega) f2 again ha t
    by_cases hz : (dry : Int) + (w : Int) = 0
    · obtain rfl : born = true := by
        cases born with
        | true => rfl
        | false => exact absurd ⟨by omega, rfl⟩ hc
      have hn0 : dry + w = 0 := by omega
      repeat first | simp (implicitDefEqProofs := false) (maxSteps := 1000000) (disch := first | omega | with_reducible assumption | (simp only [lenT, Nat.reduceAdd]; omega)) only [amT, cut, bnd, Nat.reduceBEq, reduceCtorEq, Nat.reduceEqDiff, Nat.reduceAdd, Nat.reduceMul, Nat.reduceSub, Int.reduceToNat, Int.reduceEq, Int.reduceLT, Int.reduceLE, Int.reduceAdd, Int.reduceSub, Int.reduceMul, reduceIte, resVs, resV, packV, initT, addr, t3, t11, t12, t13, t14, k19, hz, stepOp_b2s_v, hstr] | refine OrW.go ?_
      rw [hn0]
      repeat first | simp (implicitDefEqProofs := false) (maxSteps := 1000000) (disch := first | omega | with_reducible assumption | (simp only [lenT, Nat.reduceAdd]; omega)) only [amT, cut, bnd, Nat.reduceBEq, reduceCtorEq, Nat.reduceEqDiff, Nat.reduceAdd, Nat.reduceMul, Nat.reduceSub, Int.reduceToNat, Int.reduceEq, Int.reduceLT, Int.reduceLE, Int.reduceAdd, Int.reduceSub, Int.reduceMul, reduceIte, resVs, resV, packV, initT, addr] | refine OrW.go ?_
      exact tail _ 0 (by omega) (by simp (implicitDefEqProofs := false) (maxSteps := 1000000) (disch := first | omega | with_reducible assumption | (simp only [lenT, Nat.reduceAdd]; omega)) only [amT, cut, bnd, Nat.reduceBEq, reduceCtorEq, Nat.reduceEqDiff, Nat.reduceAdd, Nat.reduceMul, Nat.reduceSub, Int.reduceToNat, Int.reduceEq, Int.reduceLT, Int.reduceLE, Int.reduceAdd, Int.reduceSub, Int.reduceMul, reduceIte, resVs, resV, packV, initT, addr, t4]) (by simp (implicitDefEqProofs := false) (maxSteps := 1000000) (disch := first | omega | with_reducible assumption | (simp only [lenT, Nat.reduceAdd]; omega)) only [amT, cut, bnd, Nat.reduceBEq, reduceCtorEq, Nat.reduceEqDiff, Nat.reduceAdd, Nat.reduceMul, Nat.reduceSub, Int.reduceToNat, Int.reduceEq, Int.reduceLT, Int.reduceLE, Int.reduceAdd, Int.reduceSub, Int.reduceMul, reduceIte, resVs, resV, packV, initT, addr, t11]) (by simp (implicitDefEqProofs := false) (maxSteps := 1000000) (disch := first | omega | with_reducible assumption | (simp only [lenT, Nat.reduceAdd]; omega)) only [amT, cut, bnd, Nat.reduceBEq, reduceCtorEq, Nat.reduceEqDiff, Nat.reduceAdd, Nat.reduceMul, Nat.reduceSub, Int.reduceToNat, Int.reduceEq, Int.reduceLT, Int.reduceLE, Int.reduceAdd, Int.reduceSub, Int.reduceMul, reduceIte, resVs, resV, packV, initT, addr, t12]) (by simp (implicitDefEqProofs := false) (maxSteps := 1000000) (disch := first | omega | with_reducible assumption | (simp only [lenT, Nat.reduceAdd]; omega)) only [amT, cut, bnd, Nat.reduceBEq, reduceCtorEq, Nat.reduceEqDiff, Nat.reduceAdd, Nat.reduceMul, Nat.reduceSub, Int.reduceToNat, Int.reduceEq, Int.reduceLT, Int.reduceLE, Int.reduceAdd, Int.reduceSub, Int.reduceMul, reduceIte, resVs, resV, packV, initT, addr])
    · repeat first | simp (implicitDefEqProofs := false) (maxSteps := 1000000) (disch := first | omega | with_reducible assumption | (simp only [lenT, Nat.reduceAdd]; omega)) only [amT, cut, bnd, Nat.reduceBEq, reduceCtorEq, Nat.reduceEqDiff, Nat.reduceAdd, Nat.reduceMul, Nat.reduceSub, Int.reduceToNat, Int.reduceEq, Int.reduceLT, Int.reduceLE, Int.reduceAdd, Int.reduceSub, Int.reduceMul, reduceIte, resVs, resV, packV, initT, addr, t3, t11, t12, t13, t14, k19, hz, stepOp_b2s_v, hstr, hn] | refine OrW.go ?_
      exact tail _ ((dry : Int) + (w : Int)) (by omega) (by simp (implicitDefEqProofs := false) (maxSteps := 1000000) (disch := first | omega | with_reducible assumption | (simp only [lenT, Nat.reduceAdd]; omega)) only [amT, cut, bnd, Nat.reduceBEq, reduceCtorEq, Nat.reduceEqDiff, Nat.reduceAdd, Nat.reduceMul, Nat.reduceSub, Int.reduceToNat, Int.reduceEq, Int.reduceLT, Int.reduceLE, Int.reduceAdd, Int.reduceSub, Int.reduceMul, reduceIte, resVs, resV, packV, initT, addr, t4]) (by simp (implicitDefEqProofs := false) (maxSteps := 1000000) (disch := first | omega | with_reducible assumption | (simp only [lenT, Nat.reduceAdd]; omega)) only [amT, cut, bnd, Nat.reduceBEq, reduceCtorEq, Nat.reduceEqDiff, Nat.reduceAdd, Nat.reduceMul, Nat.reduceSub, Int.reduceToNat, Int.reduceEq, Int.reduceLT, Int.reduceLE, Int.reduceAdd, Int.reduceSub, Int.reduceMul, reduceIte, resVs, resV, packV, initT, addr, t11]) (by simp (implicitDefEqProofs := false) (maxSteps := 1000000) (disch := first | omega | with_reducible assumption | (simp only [lenT, Nat.reduceAdd]; omega)) only [amT, cut, bnd, Nat.reduceBEq, reduceCtorEq, Nat.reduceEqDiff, Nat.reduceAdd, Nat.reduceMul, Nat.reduceSub, Int.reduceToNat, Int.reduceEq, Int.reduceLT, Int.reduceLE, Int.reduceAdd, Int.reduceSub, Int.reduceMul, reduceIte, resVs, resV, packV, initT, addr, t12]) (by simp (implicitDefEqProofs := false) (maxSteps := 1000000) (disch := first | omega | with_reducible assumption | (simp only [lenT, Nat.reduceAdd]; omega)) only [amT, cut, bnd, Nat.reduceBEq, reduceCtorEq, Nat.reduceEqDiff, Nat.reduceAdd, Nat.reduceMul, Nat.reduceSub, Int.reduceToNat, Int.reduceEq, Int.reduceLT, Int.reduceLE, Int.reduceAdd, Int.reduceSub, Int.reduceMul, reduceIte, resVs, resV, packV, initT, addr])
omit [Ex] in
theorem lawDry' (m : AMem) (a : Option Addr) (cap : Nat) (ls : List (List UInt8)) (hls : ∀ i (h : i < ls.length), ∃ bb, a = some ⟨bb, 0, none⟩ ∧ bb < m.size ∧ rdO (m.get bb) i 1 = some [.string ⟨ls[i].toArray⟩]) (hl64 : ls.length ≤ 9223372036854775807) (hs64 : ∀ s ∈ ls, s.length ≤ 9223372036854775807)
    (x : Int) (hx : 0 ≤ x ∧ x ≤ 4294967295) (fail keep again : Int) (hf : -9223372036854775808 ≤ fail ∧ fail ≤ 9223372036854775807) (hk : -9223372036854775808 ≤ keep ∧ keep ≤ 9223372036854775807) (ha : -9223372036854775808 ≤ again ∧ again ≤ 9223372036854775807) :
    PureC Try.prog 0 3 [.slice a ls.length cap, .int .u32 x, .int .i64 fail, .int .i64 keep, .int .i64 again] m (.bool true) := by
  refine pure_of_W (fn := Try.f3) rfl rfl F3_ok (by simp [F3]) (.bool _) ?_
  letI : Ex := ⟨m.size⟩
  have kW := DetC.known (works_ok m).start
  by_cases g1 : (30 : Int) < (ls.length : Int)
  · repeat first | simp (implicitDefEqProofs := false) (maxSteps := 1000000) (disch := first | omega | with_reducible assumption | (simp only [lenT, Nat.reduceAdd]; omega)) only [amT, cut, bnd, Nat.reduceBEq, reduceCtorEq, Nat.reduceEqDiff, Nat.reduceAdd, Nat.reduceMul, Nat.reduceSub, Int.reduceToNat, Int.reduceEq, Int.reduceLT, Int.reduceLE, Int.reduceAdd, Int.reduceSub, Int.reduceMul, reduceIte, resVs, resV, packV, initT, addr, F3, g1, kW] | refine OrW.go ?_
    exact Old.refl m
  have k11 := DetC.known (new_ok m 1048576).start
  have h0 := (DIn.new (Old.refl m) (Nat.le_refl _) 1048576)
  have b0 : Bud (newR 1048576) 0 := Bud.new (by omega)
  have h1 := fail_in h0 fail
  have b1 := b0.fail (n := fail) (by omega)
  rw [F3_cut]
  repeat first | simp (implicitDefEqProofs := false) (maxSteps := 1000000) (disch := first | omega | with_reducible assumption | (simp only [lenT, Nat.reduceAdd]; omega)) only [amT, cut, bnd, Nat.reduceBEq, reduceCtorEq, Nat.reduceEqDiff, Nat.reduceAdd, Nat.reduceMul, Nat.reduceSub, Int.reduceToNat, Int.reduceEq, Int.reduceLT, Int.reduceLE, Int.reduceAdd, Int.reduceSub, Int.reduceMul, reduceIte, resVs, resV, packV, initT, addr, F3, hd_seq, tl_seq, g1, k11] | refine OrW.go ?_
  refine RelC.call h1 ?_
  rintro r M1 ⟨rfl, v1, h1, -⟩
  have d1 : Dry (failR (newR 1048576) fail) 0 [] 0 false := ⟨rfl, rfl, by simp, fun _ => ⟨rfl, rfl, rfl⟩, by simp⟩
  generalize failR (newR 1048576) fail = D1 at *
  repeat first | simp (implicitDefEqProofs := false) (maxSteps := 1000000) (disch := first | omega | with_reducible assumption | (simp only [lenT, Nat.reduceAdd]; omega)) only [amT, cut, bnd, Nat.reduceBEq, reduceCtorEq, Nat.reduceEqDiff, Nat.reduceAdd, Nat.reduceMul, Nat.reduceSub, Int.reduceToNat, Int.reduceEq, Int.reduceLT, Int.reduceLE, Int.reduceAdd, Int.reduceSub, Int.reduceMul, reduceIte, resVs, resV, packV, initT, addr] | refine OrW.go ?_
  refine W_loop (fun N qs => ∃ (i : Nat) (M : AMem) (v : Value) (d : DiskR) (dry : Nat) (born : Bool), N = ls.length - i ∧ qs.ds = [] ∧ qs.m = mx M [] ∧ qs.t 0 = .slice a ls.length cap ∧ qs.t 1 = .int .u32 x ∧ qs.t 3 = .int .i64 keep ∧ qs.t 4 = .int .i64 again ∧ qs.t 11 = .pointer (some ⟨m.size, 0, none⟩) ∧ qs.t 12 = .string ⟨(ls.take i).flatten.toArray⟩ ∧ qs.t 13 = .int .i64 dry ∧ qs.t 14 = .bool born ∧ qs.t 15 = .int .i64 i ∧ i ≤ ls.length ∧ DIn m M m.size v d ∧ Bud d (2 * i) ∧ Dry d i (ls.take i).flatten dry born ∧ (ls.take i).flatten.length ≤ 100 * i) (ls.length - (0)) ⟨0, M1, v1, D1, 0, false, rfl, rfl, ?qm, ?q0, ?q1, ?q3, ?q4, ?q11, ?q12, ?q13, ?q14, ?q15, ?_⟩ ?_
  case qm | q0 | q1 | q3 | q4 | q11 | q12 | q13 | q14 | q15 => first | rfl | (simp (implicitDefEqProofs := false) (maxSteps := 1000000) (disch := first | omega | with_reducible assumption | (simp only [lenT, Nat.reduceAdd]; omega)) only [amT, cut, bnd, Nat.reduceBEq, reduceCtorEq, Nat.reduceEqDiff, Nat.reduceAdd, Nat.reduceMul, Nat.reduceSub, Int.reduceToNat, Int.reduceEq, Int.reduceLT, Int.reduceLE, Int.reduceAdd, Int.reduceSub, Int.reduceMul, reduceIte, resVs, resV, packV, initT, addr, List.take_zero, List.flatten_nil]; first | done | rfl | (congr 1; omega))
  · exact ⟨by omega, h1, b1, d1, by simp⟩
  · rintro N t m1 ds ⟨i, M, v, d, dry, born, rfl, hds, hm, t0, t1, t3, t4, t11, t12, t13, t14, t15, hp⟩
    simp only at hds hm t0 t1 t3 t4 t11 t12 t13 t14 t15
    subst hds; replace hm := hm.symm; subst hm
    obtain ⟨hi, hI, hB, hDry, hA⟩ := hp
    have fin := fun (t : Tmps) => dry_rest m M v d hI (hB.up (by omega)) i _ dry born hDry keep again hk ha t
    by_cases hil : (i : Int) < (ls.length : Int)
    · have hil' : i < ls.length := by omega
      have k13 := DetC.known (off_ok (mx M []) m.size (hI.mx []).here.lt (hI.mx []).here.get)
      cases hoff : d.off with
      | true =>
        rw [hoff] at k13
        repeat first | simp (implicitDefEqProofs := false) (maxSteps := 1000000) (disch := first | omega | with_reducible assumption | (simp only [lenT, Nat.reduceAdd]; omega)) only [amT, cut, bnd, Nat.reduceBEq, reduceCtorEq, Nat.reduceEqDiff, Nat.reduceAdd, Nat.reduceMul, Nat.reduceSub, Int.reduceToNat, Int.reduceEq, Int.reduceLT, Int.reduceLE, Int.reduceAdd, Int.reduceSub, Int.reduceMul, reduceIte, resVs, resV, packV, initT, addr, F3_l0, t0, t1, t3, t4, t11, t12, t13, t14, t15, hil, k13] | refine OrW.go ?_
        refine fin _ ?_ ?_ ?_ ?_ ?_ ?_
        all_goals (try simp (implicitDefEqProofs := false) (maxSteps := 1000000) (disch := first | omega | with_reducible assumption | (simp only [lenT, Nat.reduceAdd]; omega)) only [amT, cut, bnd, Nat.reduceBEq, reduceCtorEq, Nat.reduceEqDiff, Nat.reduceAdd, Nat.reduceMul, Nat.reduceSub, Int.reduceToNat, Int.reduceEq, Int.reduceLT, Int.reduceLE, Int.reduceAdd, Int.reduceSub, Int.reduceMul, reduceIte, resVs, resV, packV, initT, addr, t0, t1, t3, t4, t11, t12, t13, t14, t15])
      | false =>
        rw [hoff] at k13
        obtain ⟨bb, rfl, hbb, hg⟩ := hls i hil'
        have hgM : rdO (M.get bb) i 1 = some [.string ⟨ls[i].toArray⟩] := by rw [hI.old.2 bb hbb]; exact hg
        have hbM : bb < M.size := Nat.lt_of_lt_of_le hbb hI.old.1
        by_cases g2 : (100 : Int) < (ls[i].length : Int)
        · have kWM := DetC.known (works_ok (mx M []))
          repeat first | simp (implicitDefEqProofs := false) (maxSteps := 1000000) (disch := first | omega | with_reducible assumption | (simp only [lenT, Nat.reduceAdd]; omega)) only [amT, cut, bnd, Nat.reduceBEq, reduceCtorEq, Nat.reduceEqDiff, Nat.reduceAdd, Nat.reduceMul, Nat.reduceSub, Int.reduceToNat, Int.reduceEq, Int.reduceLT, Int.reduceLE, Int.reduceAdd, Int.reduceSub, Int.reduceMul, reduceIte, resVs, resV, packV, initT, addr, F3_l0, t0, t1, t3, t4, t11, t12, t13, t14, t15, hil, k13, hgM, g2, kWM] | refine OrW.go ?_
          exact (hI.mx []).old
        · have htk : (ls.take (i + 1)).flatten = (ls.take i).flatten ++ ls[i] := by rw [List.take_succ_eq_append_getElem hil', List.flatten_append]; simp
          obtain ⟨e1, hD2, hoff2⟩ := hDry.append hoff ls[i] (by omega)
          have hB2 := hB.append [102] ls[i] (by omega)
          have hap := append_in (hI.mx [.cells (ls[i].map byteV) 5 true (.room [.int .u8 0])]) hB (by omega) [102] _ openCap ls[i] (by simp) (bsl_room M _ 0 rfl rfl) (by omega)
          rw [e1] at hap
          generalize (appendR d [102] ls[i]).2 = d2 at *
          repeat first | simp (implicitDefEqProofs := false) (maxSteps := 1000000) (disch := first | omega | with_reducible assumption | (simp only [lenT, Nat.reduceAdd]; omega)) only [amT, cut, bnd, Nat.reduceBEq, reduceCtorEq, Nat.reduceEqDiff, Nat.reduceAdd, Nat.reduceMul, Nat.reduceSub, Int.reduceToNat, Int.reduceEq, Int.reduceLT, Int.reduceLE, Int.reduceAdd, Int.reduceSub, Int.reduceMul, reduceIte, resVs, resV, packV, initT, addr, F3_l0, t0, t1, t3, t4, t11, t12, t13, t14, t15, hil, k13, hgM, g2] | refine OrW.go ?_
          refine RelC.call hap ?_
          rintro r M2 ⟨rfl, v2, hI2, -⟩
          have hgM2 : rdO (M2.get bb) i 1 = some [.string ⟨ls[i].toArray⟩] := by rw [hI2.old.2 bb hbb]; exact hg
          have hbM2 : bb < M2.size := Nat.lt_of_lt_of_le hbb hI2.old.1
          have hsy := sync_in (hI2.mx []) hB2 (by omega) [102] (by simp)
          have hB3 := hB2.dries [102] [102] some (fun c c' h => by cases h; exact Nat.le_refl _)
          rw [← htk] at hD2
          have he : (if d.set = 0 then (40 : Int) else 0) = 0 ∨ (if d.set = 0 then (40 : Int) else 0) = 40 := by split <;> simp
          generalize (if d.set = 0 then (40 : Int) else 0) = e at *
          by_cases hbit : ibits .and .u32 (shr .u32 x i) 1 = 1
          · have hsync := hD2.sync
            generalize hds : driesR d2 [102] [102] some = ds at *
            obtain ⟨es, d3⟩ := ds
            simp only [] at hsync hsy hB3
            have hlen2 : (ls.take (i + 1)).flatten.length ≤ 100 * (i + 1) := by rw [htk, List.length_append]; omega
            rcases he with rfl | rfl
            · repeat first | simp (implicitDefEqProofs := false) (maxSteps := 1000000) (disch := first | omega | with_reducible assumption | (simp only [lenT, Nat.reduceAdd]; omega)) only [amT, cut, bnd, Nat.reduceBEq, reduceCtorEq, Nat.reduceEqDiff, Nat.reduceAdd, Nat.reduceMul, Nat.reduceSub, Int.reduceToNat, Int.reduceEq, Int.reduceLT, Int.reduceLE, Int.reduceAdd, Int.reduceSub, Int.reduceMul, reduceIte, resVs, resV, packV, initT, addr, t0, t1, t3, t4, t11, t12, t13, t14, t15, hgM2, hbit] | refine OrW.go ?_
              refine RelC.call hsy ?_
              rintro r M3 ⟨rfl, v3, hI3, -⟩
              rcases hsync with ⟨rfl, hD3⟩ | ⟨rfl, hD3⟩
              · repeat first | simp (implicitDefEqProofs := false) (maxSteps := 1000000) (disch := first | omega | with_reducible assumption | (simp only [lenT, Nat.reduceAdd]; omega)) only [amT, cut, bnd, Nat.reduceBEq, reduceCtorEq, Nat.reduceEqDiff, Nat.reduceAdd, Nat.reduceMul, Nat.reduceSub, Int.reduceToNat, Int.reduceEq, Int.reduceLT, Int.reduceLE, Int.reduceAdd, Int.reduceSub, Int.reduceMul, reduceIte, resVs, resV, packV, initT, addr, t0, t1, t3, t4, t11, t12, t13, t14, t15] | refine OrW.go ?_
                rw [LoopK_normal]; refine ⟨_, ?_, i + 1, M3, v3, d3, (ls.take (i + 1)).flatten.length, true, rfl, rfl, ?qm, ?q0, ?q1, ?q3, ?q4, ?q11, ?q12, ?q13, ?q14, ?q15, ?_⟩
                case qm | q0 | q1 | q3 | q4 | q11 | q12 | q13 | q14 | q15 => first | rfl | (simp (implicitDefEqProofs := false) (maxSteps := 1000000) (disch := first | omega | with_reducible assumption | (simp only [lenT, Nat.reduceAdd]; omega)) only [amT, cut, bnd, Nat.reduceBEq, reduceCtorEq, Nat.reduceEqDiff, Nat.reduceAdd, Nat.reduceMul, Nat.reduceSub, Int.reduceToNat, Int.reduceEq, Int.reduceLT, Int.reduceLE, Int.reduceAdd, Int.reduceSub, Int.reduceMul, reduceIte, resVs, resV, packV, initT, addr, t0, t1, t3, t4, t11, t12, t13, t14, t15, htk]; first | done | rfl | (congr 1; omega))
                · omega
                · exact ⟨by omega, hI3, hB3.up (by omega), hD3, hlen2⟩
              · repeat first | simp (implicitDefEqProofs := false) (maxSteps := 1000000) (disch := first | omega | with_reducible assumption | (simp only [lenT, Nat.reduceAdd]; omega)) only [amT, cut, bnd, Nat.reduceBEq, reduceCtorEq, Nat.reduceEqDiff, Nat.reduceAdd, Nat.reduceMul, Nat.reduceSub, Int.reduceToNat, Int.reduceEq, Int.reduceLT, Int.reduceLE, Int.reduceAdd, Int.reduceSub, Int.reduceMul, reduceIte, resVs, resV, packV, initT, addr, t0, t1, t3, t4, t11, t12, t13, t14, t15] | refine OrW.go ?_
                rw [LoopK_normal]; refine ⟨_, ?_, i + 1, M3, v3, d3, dry, born, rfl, rfl, ?qm, ?q0, ?q1, ?q3, ?q4, ?q11, ?q12, ?q13, ?q14, ?q15, ?_⟩
                case qm | q0 | q1 | q3 | q4 | q11 | q12 | q13 | q14 | q15 => first | rfl | (simp (implicitDefEqProofs := false) (maxSteps := 1000000) (disch := first | omega | with_reducible assumption | (simp only [lenT, Nat.reduceAdd]; omega)) only [amT, cut, bnd, Nat.reduceBEq, reduceCtorEq, Nat.reduceEqDiff, Nat.reduceAdd, Nat.reduceMul, Nat.reduceSub, Int.reduceToNat, Int.reduceEq, Int.reduceLT, Int.reduceLE, Int.reduceAdd, Int.reduceSub, Int.reduceMul, reduceIte, resVs, resV, packV, initT, addr, t0, t1, t3, t4, t11, t12, t13, t14, t15, htk]; first | done | rfl | (congr 1; omega))
                · omega
                · exact ⟨by omega, hI3, hB3.up (by omega), hD3, hlen2⟩
            · repeat first | simp (implicitDefEqProofs := false) (maxSteps := 1000000) (disch := first | omega | with_reducible assumption | (simp only [lenT, Nat.reduceAdd]; omega)) only [amT, cut, bnd, Nat.reduceBEq, reduceCtorEq, Nat.reduceEqDiff, Nat.reduceAdd, Nat.reduceMul, Nat.reduceSub, Int.reduceToNat, Int.reduceEq, Int.reduceLT, Int.reduceLE, Int.reduceAdd, Int.reduceSub, Int.reduceMul, reduceIte, resVs, resV, packV, initT, addr, t0, t1, t3, t4, t11, t12, t13, t14, t15, hgM2, hbit] | refine OrW.go ?_
              refine RelC.call hsy ?_
              rintro r M3 ⟨rfl, v3, hI3, -⟩
              rcases hsync with ⟨rfl, hD3⟩ | ⟨rfl, hD3⟩
              · repeat first | simp (implicitDefEqProofs := false) (maxSteps := 1000000) (disch := first | omega | with_reducible assumption | (simp only [lenT, Nat.reduceAdd]; omega)) only [amT, cut, bnd, Nat.reduceBEq, reduceCtorEq, Nat.reduceEqDiff, Nat.reduceAdd, Nat.reduceMul, Nat.reduceSub, Int.reduceToNat, Int.reduceEq, Int.reduceLT, Int.reduceLE, Int.reduceAdd, Int.reduceSub, Int.reduceMul, reduceIte, resVs, resV, packV, initT, addr, t0, t1, t3, t4, t11, t12, t13, t14, t15] | refine OrW.go ?_
                rw [LoopK_normal]; refine ⟨_, ?_, i + 1, M3, v3, d3, (ls.take (i + 1)).flatten.length, true, rfl, rfl, ?qm, ?q0, ?q1, ?q3, ?q4, ?q11, ?q12, ?q13, ?q14, ?q15, ?_⟩
                case qm | q0 | q1 | q3 | q4 | q11 | q12 | q13 | q14 | q15 => first | rfl | (simp (implicitDefEqProofs := false) (maxSteps := 1000000) (disch := first | omega | with_reducible assumption | (simp only [lenT, Nat.reduceAdd]; omega)) only [amT, cut, bnd, Nat.reduceBEq, reduceCtorEq, Nat.reduceEqDiff, Nat.reduceAdd, Nat.reduceMul, Nat.reduceSub, Int.reduceToNat, Int.reduceEq, Int.reduceLT, Int.reduceLE, Int.reduceAdd, Int.reduceSub, Int.reduceMul, reduceIte, resVs, resV, packV, initT, addr, t0, t1, t3, t4, t11, t12, t13, t14, t15, htk]; first | done | rfl | (congr 1; omega))
                · omega
                · exact ⟨by omega, hI3, hB3.up (by omega), hD3, hlen2⟩
              · repeat first | simp (implicitDefEqProofs := false) (maxSteps := 1000000) (disch := first | omega | with_reducible assumption | (simp only [lenT, Nat.reduceAdd]; omega)) only [amT, cut, bnd, Nat.reduceBEq, reduceCtorEq, Nat.reduceEqDiff, Nat.reduceAdd, Nat.reduceMul, Nat.reduceSub, Int.reduceToNat, Int.reduceEq, Int.reduceLT, Int.reduceLE, Int.reduceAdd, Int.reduceSub, Int.reduceMul, reduceIte, resVs, resV, packV, initT, addr, t0, t1, t3, t4, t11, t12, t13, t14, t15] | refine OrW.go ?_
                rw [LoopK_normal]; refine ⟨_, ?_, i + 1, M3, v3, d3, dry, born, rfl, rfl, ?qm, ?q0, ?q1, ?q3, ?q4, ?q11, ?q12, ?q13, ?q14, ?q15, ?_⟩
                case qm | q0 | q1 | q3 | q4 | q11 | q12 | q13 | q14 | q15 => first | rfl | (simp (implicitDefEqProofs := false) (maxSteps := 1000000) (disch := first | omega | with_reducible assumption | (simp only [lenT, Nat.reduceAdd]; omega)) only [amT, cut, bnd, Nat.reduceBEq, reduceCtorEq, Nat.reduceEqDiff, Nat.reduceAdd, Nat.reduceMul, Nat.reduceSub, Int.reduceToNat, Int.reduceEq, Int.reduceLT, Int.reduceLE, Int.reduceAdd, Int.reduceSub, Int.reduceMul, reduceIte, resVs, resV, packV, initT, addr, t0, t1, t3, t4, t11, t12, t13, t14, t15, htk]; first | done | rfl | (congr 1; omega))
                · omega
                · exact ⟨by omega, hI3, hB3.up (by omega), hD3, hlen2⟩
          · have hlen2 : (ls.take (i + 1)).flatten.length ≤ 100 * (i + 1) := by rw [htk, List.length_append]; omega
            rcases he with rfl | rfl
            · repeat first | simp (implicitDefEqProofs := false) (maxSteps := 1000000) (disch := first | omega | with_reducible assumption | (simp only [lenT, Nat.reduceAdd]; omega)) only [amT, cut, bnd, Nat.reduceBEq, reduceCtorEq, Nat.reduceEqDiff, Nat.reduceAdd, Nat.reduceMul, Nat.reduceSub, Int.reduceToNat, Int.reduceEq, Int.reduceLT, Int.reduceLE, Int.reduceAdd, Int.reduceSub, Int.reduceMul, reduceIte, resVs, resV, packV, initT, addr, t0, t1, t3, t4, t11, t12, t13, t14, t15, hgM2, hbit] | refine OrW.go ?_
              rw [LoopK_normal]; refine ⟨_, ?_, i + 1, M2, v2, d2, dry, born, rfl, rfl, ?qm, ?q0, ?q1, ?q3, ?q4, ?q11, ?q12, ?q13, ?q14, ?q15, ?_⟩
              case qm | q0 | q1 | q3 | q4 | q11 | q12 | q13 | q14 | q15 => first | rfl | (simp (implicitDefEqProofs := false) (maxSteps := 1000000) (disch := first | omega | with_reducible assumption | (simp only [lenT, Nat.reduceAdd]; omega)) only [amT, cut, bnd, Nat.reduceBEq, reduceCtorEq, Nat.reduceEqDiff, Nat.reduceAdd, Nat.reduceMul, Nat.reduceSub, Int.reduceToNat, Int.reduceEq, Int.reduceLT, Int.reduceLE, Int.reduceAdd, Int.reduceSub, Int.reduceMul, reduceIte, resVs, resV, packV, initT, addr, t0, t1, t3, t4, t11, t12, t13, t14, t15, htk]; first | done | rfl | (congr 1; omega))
              · omega
              · exact ⟨by omega, hI2, hB2.up (by omega), hD2, hlen2⟩
            · repeat first | simp (implicitDefEqProofs := false) (maxSteps := 1000000) (disch := first | omega | with_reducible assumption | (simp only [lenT, Nat.reduceAdd]; omega)) only [amT, cut, bnd, Nat.reduceBEq, reduceCtorEq, Nat.reduceEqDiff, Nat.reduceAdd, Nat.reduceMul, Nat.reduceSub, Int.reduceToNat, Int.reduceEq, Int.reduceLT, Int.reduceLE, Int.reduceAdd, Int.reduceSub, Int.reduceMul, reduceIte, resVs, resV, packV, initT, addr, t0, t1, t3, t4, t11, t12, t13, t14, t15, hgM2, hbit] | refine OrW.go ?_
              rw [LoopK_normal]; refine ⟨_, ?_, i + 1, M2, v2, d2, dry, born, rfl, rfl, ?qm, ?q0, ?q1, ?q3, ?q4, ?q11, ?q12, ?q13, ?q14, ?q15, ?_⟩
              case qm | q0 | q1 | q3 | q4 | q11 | q12 | q13 | q14 | q15 => first | rfl | (simp (implicitDefEqProofs := false) (maxSteps := 1000000) (disch := first | omega | with_reducible assumption | (simp only [lenT, Nat.reduceAdd]; omega)) only [amT, cut, bnd, Nat.reduceBEq, reduceCtorEq, Nat.reduceEqDiff, Nat.reduceAdd, Nat.reduceMul, Nat.reduceSub, Int.reduceToNat, Int.reduceEq, Int.reduceLT, Int.reduceLE, Int.reduceAdd, Int.reduceSub, Int.reduceMul, reduceIte, resVs, resV, packV, initT, addr, t0, t1, t3, t4, t11, t12, t13, t14, t15, htk]; first | done | rfl | (congr 1; omega))
              · omega
              · exact ⟨by omega, hI2, hB2.up (by omega), hD2, hlen2⟩
    · repeat first | simp (implicitDefEqProofs := false) (maxSteps := 1000000) (disch := first | omega | with_reducible assumption | (simp only [lenT, Nat.reduceAdd]; omega)) only [amT, cut, bnd, Nat.reduceBEq, reduceCtorEq, Nat.reduceEqDiff, Nat.reduceAdd, Nat.reduceMul, Nat.reduceSub, Int.reduceToNat, Int.reduceEq, Int.reduceLT, Int.reduceLE, Int.reduceAdd, Int.reduceSub, Int.reduceMul, reduceIte, resVs, resV, packV, initT, addr, F3_l0, t0, t1, t3, t4, t11, t12, t13, t14, t15, hil] | refine OrW.go ?_
      refine fin _ ?_ ?_ ?_ ?_ ?_ ?_
      all_goals (try simp (implicitDefEqProofs := false) (maxSteps := 1000000) (disch := first | omega | with_reducible assumption | (simp only [lenT, Nat.reduceAdd]; omega)) only [amT, cut, bnd, Nat.reduceBEq, reduceCtorEq, Nat.reduceEqDiff, Nat.reduceAdd, Nat.reduceMul, Nat.reduceSub, Int.reduceToNat, Int.reduceEq, Int.reduceLT, Int.reduceLE, Int.reduceAdd, Int.reduceSub, Int.reduceMul, reduceIte, resVs, resV, packV, initT, addr, t0, t1, t3, t4, t11, t12, t13, t14, t15])
omit [Ex] in
theorem lawDry (m : AMem) (a : Option Addr) (cap : Nat) (ls : List (List UInt8)) (hls : RowV m a (ls.map strV)) (hl64 : ls.length ≤ 9223372036854775807) (hs64 : ∀ s ∈ ls, s.length ≤ 9223372036854775807)
    (x : Int) (hx : 0 ≤ x ∧ x ≤ 4294967295) (fail keep again : Int) (hf : -9223372036854775808 ≤ fail ∧ fail ≤ 9223372036854775807) (hk : -9223372036854775808 ≤ keep ∧ keep ≤ 9223372036854775807) (ha : -9223372036854775808 ≤ again ∧ again ≤ 9223372036854775807) :
    PureC Try.prog 0 3 [.slice a ls.length cap, .int .u32 x, .int .i64 fail, .int .i64 keep, .int .i64 again] m (.bool true) := by
  letI : Ex := ⟨0⟩
  exact lawDry' m a cap ls (fun i h => rowV_str hls h) hl64 hs64 x hx fail keep again hf hk ha
end Go.Proofs.Ytbmjhiifinjieaa
namespace Go.Proofs.Ytbmjhiifinjieaa
open Go Go.AM
set_option linter.unusedVariables false
set_option linter.unusedSimpArgs false
set_option linter.unusedSectionVars false
set_option maxHeartbeats 2000000
set_option maxRecDepth 100000

variable [Ex]
structure ActR where
  act : Int
  name : List UInt8
  to : List UInt8
  b : List UInt8
  n : Int
  keep : List Int
instance : Inhabited ActR := ⟨⟨0, [], [], [], 0, []⟩⟩
structure ActR.ok (x : ActR) : Prop where
  act : 0 ≤ x.act ∧ x.act ≤ 255
  name : x.name.length ≤ 9223372036854775807
  to : x.to.length ≤ 9223372036854775807
  b : x.b.length ≤ 9223372036854775807
  n : -9223372036854775808 ≤ x.n ∧ x.n ≤ 9223372036854775807
  keep : x.keep.length ≤ 9223372036854775807
  k64 : ∀ y ∈ x.keep, -9223372036854775808 ≤ y ∧ y ≤ 9223372036854775807
def actRow (x : ActR) (ka : Option Addr) (kc : Nat) : List Value := [.int .u8 x.act, .string ⟨x.name.toArray⟩, .string ⟨x.to.toArray⟩, .string ⟨x.b.toArray⟩, .int .i64 x.n, .slice ka x.keep.length kc]
/-- An act's cells. -/
def ActV (m : AMem) (x : ActR) (ka : Option Addr) (kc : Nat) : Prop := IntV m (.slice ka x.keep.length kc) x.keep ∧ ∀ b o, ka = some ⟨b, o, none⟩ → b < m.size
theorem ActV.old {m m' : AMem} {x : ActR} {ka : Option Addr} {kc : Nat} (h : ActV m x ka kc) (ho : Old m m') : ActV m' x ka kc := ⟨h.1.old ho, fun b o e => Nat.lt_of_lt_of_le (h.2 b o e) ho.1⟩
/-- A slice of acts. -/
def ActsV (m : AMem) (a : Option Addr) (l : List ActR) : Prop :=
  ∀ i (h : i < l.length), ∃ b o ka kc, a = some ⟨b, o, none⟩ ∧ b < m.size ∧ rdO (m.get b) (o + i * 6) 6 = some (actRow l[i] ka kc) ∧ ActV m l[i] ka kc ∧ l[i].ok
theorem ActsV.old {m m' : AMem} {a : Option Addr} {l : List ActR} (h : ActsV m a l) (ho : Old m m') : ActsV m' a l := fun i hi => by
  obtain ⟨b, o, ka, kc, h1, h2, h3, h4, h5⟩ := h i hi
  exact ⟨b, o, ka, kc, h1, Nat.lt_of_lt_of_le h2 ho.1, by rw [ho.2 b h2]; exact h3, h4.old ho, h5⟩
theorem rdO_sub {o : AObj} {k n : Nat} {r : List Value} (h : rdO o k n = some r) {j : Nat} (hj : j < n) : ∃ x, r[j]? = some x ∧ rdO o (k + j) 1 = some [x] := by
  cases o with
  | cells X e w sp =>
    rw [rdO_cells] at h
    have hl := cutL_le h
    unfold cutL at h
    rw [if_pos hl] at h
    cases h
    refine ⟨X[k + j], ?_, ?_⟩
    · rw [List.getElem?_take, if_pos hj, List.getElem?_drop, List.getElem?_eq_getElem (by omega)]
    · rw [rdO_cells]
      unfold cutL
      rw [if_pos (by omega), List.drop_eq_getElem_cons (by omega)]; rfl
  | _ => cases h
theorem act_fields {o : AObj} {k : Nat} {x : ActR} {ka : Option Addr} {kc : Nat} (h : rdO o k 6 = some (actRow x ka kc)) :
    rdO o (k + 1) 1 = some [.string ⟨x.name.toArray⟩] ∧ rdO o (k + 2) 1 = some [.string ⟨x.to.toArray⟩] ∧ rdO o (k + 3) 1 = some [.string ⟨x.b.toArray⟩] ∧ rdO o (k + 5) 1 = some [.slice ka x.keep.length kc] ∧ rdO o k 1 = some [.int .u8 x.act] := by
  have f : ∀ j (hj : j < 6) (y : Value), (actRow x ka kc)[j]? = some y → rdO o (k + j) 1 = some [y] := fun j hj y hy => by
    obtain ⟨z, h1, h2⟩ := rdO_sub h hj
    rw [hy] at h1; cases h1; exact h2
  exact ⟨f 1 (by omega) _ rfl, f 2 (by omega) _ rfl, f 3 (by omega) _ rfl, f 5 (by omega) _ rfl, f 0 (by omega) _ rfl⟩
def smallA (x : ActR) : Bool := !(decide (200 < x.name.length) || decide (200 < x.to.length) || decide (200 < x.b.length) || decide (200 < x.keep.length))
def fewB (l : List ActR) : Bool := (l.take 50).all smallA && decide (l.length ≤ 50)
theorem few_ok (m : AMem) (a : Option Addr) (cap : Nat) (l : List ActR) (hl : ActsV m a l) (h64 : l.length ≤ 9223372036854775807) :
    PureC Try.prog 0 22 [.slice a l.length cap] m (.bool (fewB l)) := by
  refine pure_of_W (fn := Try.f22) rfl rfl F22_ok (by simp [F22]) (.bool _) ?_
  simp (implicitDefEqProofs := false) (maxSteps := 1000000) (disch := first | omega | with_reducible assumption | (simp only [lenT, Nat.reduceAdd]; omega)) only [amT, cut, bnd, Nat.reduceBEq, reduceCtorEq, Nat.reduceEqDiff, Nat.reduceAdd, Nat.reduceMul, Nat.reduceSub, Int.reduceToNat, Int.reduceEq, Int.reduceLT, Int.reduceLE, Int.reduceAdd, Int.reduceSub, Int.reduceMul, reduceIte, resVs, resV, packV, initT, addr, F22]
  refine W_loop (fun N qs => ∃ (i : Nat), N = l.length - i ∧ qs.ds = [] ∧ qs.m = mx m [] ∧ qs.t 0 = .slice a l.length cap ∧ qs.t 3 = .int .i64 i ∧ i ≤ l.length ∧ i ≤ 50 ∧ (l.take i).all smallA = true) (l.length - (0)) ⟨0, rfl, rfl, ?qm, ?q0, ?q3, ?_⟩ ?_
  case qm | q0 | q3 => first | rfl | (simp (implicitDefEqProofs := false) (maxSteps := 1000000) (disch := first | omega | with_reducible assumption | (simp only [lenT, Nat.reduceAdd]; omega)) only [amT, cut, bnd, Nat.reduceBEq, reduceCtorEq, Nat.reduceEqDiff, Nat.reduceAdd, Nat.reduceMul, Nat.reduceSub, Int.reduceToNat, Int.reduceEq, Int.reduceLT, Int.reduceLE, Int.reduceAdd, Int.reduceSub, Int.reduceMul, reduceIte, resVs, resV, packV, initT, addr, List.take_zero]; first | done | rfl | (congr 1; omega))
  · exact ⟨by omega, by omega, rfl⟩
  · rintro N t m1 ds ⟨i, rfl, hds, hm, t0, t3, hp⟩
    simp only at hds hm t0 t3
    subst hds; replace hm := hm.symm; subst hm
    obtain ⟨hi, hi50, hp⟩ := hp
    by_cases h1 : (i : Int) < (l.length : Int)
    · by_cases h2 : (i : Int) < 50
      · have hil : i < l.length := by omega
        obtain ⟨b, o, ka, kc, rfl, hb, hr, hA, hok⟩ := hl i hil
        obtain ⟨f1, f2, f3, f5, f0⟩ := act_fields hr
        have hsucc : (l.take (i + 1)).all smallA = smallA l[i] := by
          rw [List.take_succ_eq_append_getElem hil, List.all_append, hp]; simp
        have hmem : l[i] ∈ l.take 50 := by rw [List.mem_iff_getElem]; exact ⟨i, by rw [List.length_take]; omega, by rw [List.getElem_take]⟩
        have bad : smallA l[i] = false → fewB l = false := fun h => by
          have : (l.take 50).all smallA = false := by rw [List.all_eq_false]; exact ⟨_, hmem, by simp [h]⟩
          simp [fewB, this]
        by_cases g1 : (200 : Int) < (l[i].name.length : Int)
        · have e := bad (by simp [smallA]; omega)
          repeat first | simp (implicitDefEqProofs := false) (maxSteps := 1000000) (disch := first | omega | with_reducible assumption | (simp only [lenT, Nat.reduceAdd]; omega)) only [amT, cut, bnd, Nat.reduceBEq, reduceCtorEq, Nat.reduceEqDiff, Nat.reduceAdd, Nat.reduceMul, Nat.reduceSub, Int.reduceToNat, Int.reduceEq, Int.reduceLT, Int.reduceLE, Int.reduceAdd, Int.reduceSub, Int.reduceMul, reduceIte, resVs, resV, packV, initT, addr, F22_l0, t0, t3, h1, h2, f1, g1] | refine OrW.go ?_
          rw [e]
        by_cases g2 : (200 : Int) < (l[i].to.length : Int)
        · have e := bad (by simp [smallA]; omega)
          repeat first | simp (implicitDefEqProofs := false) (maxSteps := 1000000) (disch := first | omega | with_reducible assumption | (simp only [lenT, Nat.reduceAdd]; omega)) only [amT, cut, bnd, Nat.reduceBEq, reduceCtorEq, Nat.reduceEqDiff, Nat.reduceAdd, Nat.reduceMul, Nat.reduceSub, Int.reduceToNat, Int.reduceEq, Int.reduceLT, Int.reduceLE, Int.reduceAdd, Int.reduceSub, Int.reduceMul, reduceIte, resVs, resV, packV, initT, addr, F22_l0, t0, t3, h1, h2, f1, g1, f2, g2] | refine OrW.go ?_
          rw [e]
        by_cases g3 : (200 : Int) < (l[i].b.length : Int)
        · have e := bad (by simp [smallA]; omega)
          repeat first | simp (implicitDefEqProofs := false) (maxSteps := 1000000) (disch := first | omega | with_reducible assumption | (simp only [lenT, Nat.reduceAdd]; omega)) only [amT, cut, bnd, Nat.reduceBEq, reduceCtorEq, Nat.reduceEqDiff, Nat.reduceAdd, Nat.reduceMul, Nat.reduceSub, Int.reduceToNat, Int.reduceEq, Int.reduceLT, Int.reduceLE, Int.reduceAdd, Int.reduceSub, Int.reduceMul, reduceIte, resVs, resV, packV, initT, addr, F22_l0, t0, t3, h1, h2, f1, g1, f2, g2, f3, g3] | refine OrW.go ?_
          rw [e]
        by_cases g4 : (200 : Int) < (l[i].keep.length : Int)
        · have e := bad (by simp [smallA]; omega)
          repeat first | simp (implicitDefEqProofs := false) (maxSteps := 1000000) (disch := first | omega | with_reducible assumption | (simp only [lenT, Nat.reduceAdd]; omega)) only [amT, cut, bnd, Nat.reduceBEq, reduceCtorEq, Nat.reduceEqDiff, Nat.reduceAdd, Nat.reduceMul, Nat.reduceSub, Int.reduceToNat, Int.reduceEq, Int.reduceLT, Int.reduceLE, Int.reduceAdd, Int.reduceSub, Int.reduceMul, reduceIte, resVs, resV, packV, initT, addr, F22_l0, t0, t3, h1, h2, f1, g1, f2, g2, f3, g3, f5, g4] | refine OrW.go ?_
          rw [e]
        repeat first | simp (implicitDefEqProofs := false) (maxSteps := 1000000) (disch := first | omega | with_reducible assumption | (simp only [lenT, Nat.reduceAdd]; omega)) only [amT, cut, bnd, Nat.reduceBEq, reduceCtorEq, Nat.reduceEqDiff, Nat.reduceAdd, Nat.reduceMul, Nat.reduceSub, Int.reduceToNat, Int.reduceEq, Int.reduceLT, Int.reduceLE, Int.reduceAdd, Int.reduceSub, Int.reduceMul, reduceIte, resVs, resV, packV, initT, addr, F22_l0, t0, t3, h1, h2, f1, g1, f2, g2, f3, g3, f5, g4] | refine OrW.go ?_
        rw [LoopK_normal]; refine ⟨_, ?_, i + 1, rfl, rfl, ?qm, ?q0, ?q3, ?_⟩
        case qm | q0 | q3 => first | rfl | (simp (implicitDefEqProofs := false) (maxSteps := 1000000) (disch := first | omega | with_reducible assumption | (simp only [lenT, Nat.reduceAdd]; omega)) only [amT, cut, bnd, Nat.reduceBEq, reduceCtorEq, Nat.reduceEqDiff, Nat.reduceAdd, Nat.reduceMul, Nat.reduceSub, Int.reduceToNat, Int.reduceEq, Int.reduceLT, Int.reduceLE, Int.reduceAdd, Int.reduceSub, Int.reduceMul, reduceIte, resVs, resV, packV, initT, addr, t0, t3]; first | done | rfl | (congr 1; omega))
        · omega
        · exact ⟨by omega, by omega, by rw [hsucc]; simp [smallA]; omega⟩
      · obtain rfl : i = 50 := by omega
        have h1' : (50 : Int) < (l.length : Int) := by omega
        have h3 : ¬ (l.length : Int) ≤ 50 := by omega
        have h4 : ¬ l.length ≤ 50 := by omega
        repeat first | simp (implicitDefEqProofs := false) (maxSteps := 1000000) (disch := first | omega | with_reducible assumption | (simp only [lenT, Nat.reduceAdd]; omega)) only [amT, cut, bnd, Nat.reduceBEq, reduceCtorEq, Nat.reduceEqDiff, Nat.reduceAdd, Nat.reduceMul, Nat.reduceSub, Int.reduceToNat, Int.reduceEq, Int.reduceLT, Int.reduceLE, Int.reduceAdd, Int.reduceSub, Int.reduceMul, reduceIte, resVs, resV, packV, initT, addr, F22_l0, t0, t3, h1', h3] | refine OrW.go ?_
        simp [fewB, h4]
    · have e : l.take i = l := List.take_of_length_le (by omega)
      have h3 : (l.length : Int) ≤ 50 := by omega
      have h5 : l.take 50 = l := List.take_of_length_le (by omega)
      rw [e] at hp
      repeat first | simp (implicitDefEqProofs := false) (maxSteps := 1000000) (disch := first | omega | with_reducible assumption | (simp only [lenT, Nat.reduceAdd]; omega)) only [amT, cut, bnd, Nat.reduceBEq, reduceCtorEq, Nat.reduceEqDiff, Nat.reduceAdd, Nat.reduceMul, Nat.reduceSub, Int.reduceToNat, Int.reduceEq, Int.reduceLT, Int.reduceLE, Int.reduceAdd, Int.reduceSub, Int.reduceMul, reduceIte, resVs, resV, packV, initT, addr, F22_l0, t0, t3, h1, h3] | refine OrW.go ?_
      simp [fewB, h5, hp]; omega

/-- What is done, its answer and what is read. -/
def doesR (d : DiskR) (x : ActR) : (Int × List UInt8) × DiskR :=
  if x.act.tmod 10 = 0 ∨ x.act.tmod 10 = 1 then (((appendR d x.name x.b).1, []), (appendR d x.name x.b).2)
  else if x.act.tmod 10 = 2 then (((driesR d x.name x.name some).1, []), (driesR d x.name x.name some).2)
  else if x.act.tmod 10 = 3 then (((driesR d x.name x.name (cutN x.n)).1, []), (driesR d x.name x.name (cutN x.n)).2)
  else if x.act.tmod 10 = 4 then (((driesR d x.name x.to some).1, []), (driesR d x.name x.to some).2)
  else if x.act.tmod 10 = 5 then (((removeR d x.name).1, []), (removeR d x.name).2)
  else if x.act.tmod 10 = 6 then (readR d x.name, d)
  else if x.act.tmod 10 = 7 then ((0, []), failR d x.n)
  else if x.act.tmod 10 = 8 then ((0, []), crashR d)
  else ((0, []), onR d x.keep)
theorem cellsOf6 (u : Int) (s t w : ByteArray) (n : Int) (ka : Option Addr) (l c : Nat) : cellsOf (.agg [.int .u8 u, .string s, .string t, .string w, .int .i64 n, .slice ka l c].toArray) = some [.int .u8 u, .string s, .string t, .string w, .int .i64 n, .slice ka l c] := rfl
theorem cutN_le (n : Int) (c c' : List UInt8) (h : cutN n c = some c') : c'.length ≤ c.length := by
  unfold cutN at h; split at h
  · cases h
  · cases h; rw [List.length_take]; omega
theorem Bud.does {d : DiskR} {k : Nat} (h : Bud d k) (x : ActR) (hx : x.ok) (hb : x.b.length ≤ 1000) : Bud (doesR d x).2 (k + 1) := by
  unfold doesR
  split; · exact h.append _ _ hb
  split; · exact h.dries _ _ _ (fun c c' h => by cases h; exact Nat.le_refl _)
  split; · exact h.dries _ _ _ (cutN_le x.n)
  split; · exact h.dries _ _ _ (fun c c' h => by cases h; exact Nat.le_refl _)
  split; · exact h.remove _
  split; · exact h.up (by omega)
  split; · exact (h.fail hx.n.2).up (by omega)
  split; · exact h.crash.up (by omega)
  · exact (h.on _).up (by omega)
theorem ByV.offx {m m' : AMem} {v : Value} {c : List UInt8} (h : ByV 5 m v c) (hs : m.size ≤ m'.size) (hg : ∀ y, y ≠ Ex.x → m'.get y = m.get y) : ByV 5 m' v c := by
  rcases h with h | ⟨b, o, cap, X, w, sp, h0, h1, h2, h3, h4, h5⟩
  · exact .inl h
  · exact .inr ⟨b, o, cap, X, w, sp, h0, Nat.lt_of_lt_of_le h1 hs, by rw [hg b h5]; exact h2, h3, h4, h5⟩
theorem FilesV.offx {m m' : AMem} {v : Value} {fs : List FileR} (h : FilesV m v fs) {X : List Value} {w : Bool} {sp : Spare} (hx : m.get Ex.x = .cells X 5 w sp) (hs : m.size ≤ m'.size) (hg : ∀ y, y ≠ Ex.x → m'.get y = m.get y) : FilesV m' v fs := by
  rcases h with ⟨h, h' | ⟨b, rfl, h1, h2⟩⟩ | ⟨b, Y, sp', rfl, h1, h2, h3, h4, h5, h6⟩
  · exact .inl ⟨h, .inl h'⟩
  · exact .inl ⟨h, .inr ⟨b, rfl, Nat.lt_of_lt_of_le h1 hs, by rw [hg b (fun e => by rw [← e, h2] at hx; cases hx)]; exact h2⟩⟩
  · refine .inr ⟨b, Y, sp', rfl, Nat.lt_of_lt_of_le h1 hs, by rw [hg b (fun e => by rw [← e, h2] at hx; cases hx)]; exact h2, h3, h4, h5, fun k hk => ?_⟩
    obtain ⟨a1, c1, a2, c2, e1, e2, e3⟩ := h6 k hk
    exact ⟨a1, c1, a2, c2, e1, ByV.offx e2 hs hg, ByV.offx e3 hs hg⟩
theorem DIn.offx {m0 M M' : AMem} {p : Nat} {v : Value} {d : DiskR} (h : DIn m0 M p v d) {X : List Value} {w : Bool} {sp : Spare} (hx : M.get Ex.x = .cells X 5 w sp) (hs : M.size ≤ M'.size) (hg : ∀ y, y ≠ Ex.x → M'.get y = M.get y) (h0 : m0.size ≤ Ex.x) : DIn m0 M' p v d :=
  ⟨⟨Nat.lt_of_lt_of_le h.here.lt hs, by rw [hg p (fun e => by have := h.here.get; rw [e, hx] at this; cases this)]; exact h.here.get, h.here.files.offx hx hs hg, Nat.lt_of_lt_of_le h.here.ex hs⟩,
   ⟨Nat.le_trans h.old.1 hs, fun y hy => by rw [hg y (by omega)]; exact h.old.2 y hy⟩, h.ap, h.own⟩
theorem DIn.keep {m0 M M' : AMem} {p : Nat} {v : Value} {d : DiskR} (h : DIn m0 M p v d) (ho : Old M M') : DIn m0 M' p v d := ⟨h.here.old ho, h.old.trans ho, h.ap, h.own⟩
theorem read_len (d : DiskR) (s : List UInt8) : (readR d s).2.length ≤ usedR d.files := by
  unfold readR
  split
  · split
    · rename_i h
      obtain ⟨hl, _⟩ := isAt_lt h
      rw [fileAt_eq hl]
      have := size_le hl
      simp only [FileR.all, FileR.size, List.length_append] at this ⊢
      omega
    · simp
  · simp
theorem u8s_set {X : List Value} (h : ∀ y ∈ X, ∃ z, y = Value.int .u8 z) (i : Nat) (n : Int) : ∀ y ∈ X.set i (.int .u8 n), ∃ z, y = Value.int .u8 z := fun y hy => by
  rcases List.mem_or_eq_of_mem_set hy with h1 | rfl
  · exact h y h1
  · exact ⟨_, rfl⟩
theorem rdO_one {X : List Value} {e : TypeId} {w : Bool} {sp : Spare} {i : Nat} (hi : i < X.length) : rdO (.cells X e w sp) i 1 = some [X[i]] := by
  rw [rdO_cells]
  unfold cutL
  rw [if_pos (by omega), List.drop_eq_getElem_cons (by omega)]; rfl
theorem dstep_off {M M1 M2 : AMem} {p : Nat} {v v1 : Value} (hs : DStep p v M v1 M1) (e1 : M2.size = M1.size) (e2 : ∀ y, y ≠ M.size + 1 → M2.get y = M1.get y) : DStep p v M v1 (mx M2 []) :=
  have h : Keep (fun x => x = p ∨ ownV v x) M M2 := ⟨by rw [e1]; exact hs.1.1, fun y hy ho => by rw [e2 y (by omega)]; exact hs.1.2 y hy ho⟩
  ⟨h.mx _, hs.2⟩
omit [Ex] in
theorem does_ok (m0 M : AMem) (p : Nat) (v : Value) (d : DiskR) (h : @DIn ⟨p⟩ m0 M p v d) (k : Nat) (hb : Bud d k) (hk : k ≤ 5000) (x : ActR) (hx : x.ok) (ka : Option Addr) (kc : Nat) (hA : ActV m0 x ka kc) (hs : x.b.length ≤ 1000) :
    RelC Try.prog 0 23 [.pointer (some ⟨p, 0, none⟩), .agg (actRow x ka kc).toArray] M fun r m' => r = .tuple #[.int .i64 (doesR d x).1.1, .string ⟨(doesR d x).1.2.toArray⟩] ∧ ∃ v', @DIn ⟨p⟩ m0 m' p v' (doesR d x).2 ∧ DStep p v M v' m' := by
  refine rel_of_W (fn := Try.f23) rfl rfl F23_ok (by simp [F23]) ?_
  letI : Ex := ⟨p⟩
  have hn0 := Int.tmod_nonneg 10 hx.act.1
  have hn9 := Int.tmod_lt_of_pos x.act (show (0 : Int) < 10 by omega)
  have hI := h.mx [.cells (actRow x ka kc) 44 true .exact]
  have hO1 := Old.here M [.cells (actRow x ka kc) 44 true .exact]
  simp only [actRow] at hI hO1
  generalize hq : x.act.tmod 10 = q at hn0 hn9
  have fin : ∀ (r : Int) (s : List UInt8) (d' : DiskR) (m' : AMem) (v' : Value), doesR d x = ((r, s), d') → DIn m0 m' p v' d' → DStep p v M v' m' →
      (.tuple #[.int .i64 r, .string ⟨s.toArray⟩] : Value) = .tuple #[.int .i64 (doesR d x).1.1, .string ⟨(doesR d x).1.2.toArray⟩] ∧ ∃ v', DIn m0 m' p v' (doesR d x).2 ∧ DStep p v M v' m' := by
    rintro r s d' m' v' e h1 h2
    rw [e]; exact ⟨rfl, v', h1, h2⟩
  have stp : ∀ {v' : Value} {m' : AMem}, DStep p v (mx M [.cells (actRow x ka kc) 44 true .exact]) v' m' → DStep p v M v' (mx m' []) := fun hs => ⟨(hs.old (Old.here _ _)).1.mx _, (hs.old (Old.here _ _)).2⟩
  simp only [actRow] at stp
  by_cases q2 : q = 2
  · subst q2
    have hc := sync_in hI hb (by omega) x.name hx.name
    repeat first | simp (implicitDefEqProofs := false) (maxSteps := 1000000) (disch := first | omega | with_reducible assumption | (simp only [lenT, Nat.reduceAdd]; omega)) only [amT, cut, bnd, Nat.reduceBEq, reduceCtorEq, Nat.reduceEqDiff, Nat.reduceAdd, Nat.reduceMul, Nat.reduceSub, Int.reduceToNat, Int.reduceEq, Int.reduceLT, Int.reduceLE, Int.reduceAdd, Int.reduceSub, Int.reduceMul, reduceIte, resVs, resV, packV, initT, addr, F23, actRow, cellsOf6, hq] | refine OrW.go ?_
    refine RelC.call hc ?_
    rintro r M1 ⟨rfl, v1, h1, hst⟩
    repeat first | simp (implicitDefEqProofs := false) (maxSteps := 1000000) (disch := first | omega | with_reducible assumption | (simp only [lenT, Nat.reduceAdd]; omega)) only [amT, cut, bnd, Nat.reduceBEq, reduceCtorEq, Nat.reduceEqDiff, Nat.reduceAdd, Nat.reduceMul, Nat.reduceSub, Int.reduceToNat, Int.reduceEq, Int.reduceLT, Int.reduceLE, Int.reduceAdd, Int.reduceSub, Int.reduceMul, reduceIte, resVs, resV, packV, initT, addr] | refine OrW.go ?_
    exact ⟨_, rfl, fun _ => fin _ _ _ _ _ (by simp [doesR, hq]) (h1.mx []) (stp hst)⟩
  by_cases q3 : q = 3
  · subst q3
    have hc := cut_in hI hb (by omega) x.name x.n hx.name
    repeat first | simp (implicitDefEqProofs := false) (maxSteps := 1000000) (disch := first | omega | with_reducible assumption | (simp only [lenT, Nat.reduceAdd]; omega)) only [amT, cut, bnd, Nat.reduceBEq, reduceCtorEq, Nat.reduceEqDiff, Nat.reduceAdd, Nat.reduceMul, Nat.reduceSub, Int.reduceToNat, Int.reduceEq, Int.reduceLT, Int.reduceLE, Int.reduceAdd, Int.reduceSub, Int.reduceMul, reduceIte, resVs, resV, packV, initT, addr, F23, actRow, cellsOf6, hq] | refine OrW.go ?_
    refine RelC.call hc ?_
    rintro r M1 ⟨rfl, v1, h1, hst⟩
    repeat first | simp (implicitDefEqProofs := false) (maxSteps := 1000000) (disch := first | omega | with_reducible assumption | (simp only [lenT, Nat.reduceAdd]; omega)) only [amT, cut, bnd, Nat.reduceBEq, reduceCtorEq, Nat.reduceEqDiff, Nat.reduceAdd, Nat.reduceMul, Nat.reduceSub, Int.reduceToNat, Int.reduceEq, Int.reduceLT, Int.reduceLE, Int.reduceAdd, Int.reduceSub, Int.reduceMul, reduceIte, resVs, resV, packV, initT, addr] | refine OrW.go ?_
    exact ⟨_, rfl, fun _ => fin _ _ _ _ _ (by simp [doesR, hq]) (h1.mx []) (stp hst)⟩
  by_cases q4 : q = 4
  · subst q4
    have hc := rename_in hI hb (by omega) x.name x.to hx.name hx.to
    repeat first | simp (implicitDefEqProofs := false) (maxSteps := 1000000) (disch := first | omega | with_reducible assumption | (simp only [lenT, Nat.reduceAdd]; omega)) only [amT, cut, bnd, Nat.reduceBEq, reduceCtorEq, Nat.reduceEqDiff, Nat.reduceAdd, Nat.reduceMul, Nat.reduceSub, Int.reduceToNat, Int.reduceEq, Int.reduceLT, Int.reduceLE, Int.reduceAdd, Int.reduceSub, Int.reduceMul, reduceIte, resVs, resV, packV, initT, addr, F23, actRow, cellsOf6, hq] | refine OrW.go ?_
    refine RelC.call hc ?_
    rintro r M1 ⟨rfl, v1, h1, hst⟩
    repeat first | simp (implicitDefEqProofs := false) (maxSteps := 1000000) (disch := first | omega | with_reducible assumption | (simp only [lenT, Nat.reduceAdd]; omega)) only [amT, cut, bnd, Nat.reduceBEq, reduceCtorEq, Nat.reduceEqDiff, Nat.reduceAdd, Nat.reduceMul, Nat.reduceSub, Int.reduceToNat, Int.reduceEq, Int.reduceLT, Int.reduceLE, Int.reduceAdd, Int.reduceSub, Int.reduceMul, reduceIte, resVs, resV, packV, initT, addr] | refine OrW.go ?_
    exact ⟨_, rfl, fun _ => fin _ _ _ _ _ (by simp [doesR, hq]) (h1.mx []) (stp hst)⟩
  by_cases q5 : q = 5
  · subst q5
    have hc := remove_in hI hb (by omega) x.name hx.name
    repeat first | simp (implicitDefEqProofs := false) (maxSteps := 1000000) (disch := first | omega | with_reducible assumption | (simp only [lenT, Nat.reduceAdd]; omega)) only [amT, cut, bnd, Nat.reduceBEq, reduceCtorEq, Nat.reduceEqDiff, Nat.reduceAdd, Nat.reduceMul, Nat.reduceSub, Int.reduceToNat, Int.reduceEq, Int.reduceLT, Int.reduceLE, Int.reduceAdd, Int.reduceSub, Int.reduceMul, reduceIte, resVs, resV, packV, initT, addr, F23, actRow, cellsOf6, hq] | refine OrW.go ?_
    refine RelC.call hc ?_
    rintro r M1 ⟨rfl, v1, h1, hst⟩
    repeat first | simp (implicitDefEqProofs := false) (maxSteps := 1000000) (disch := first | omega | with_reducible assumption | (simp only [lenT, Nat.reduceAdd]; omega)) only [amT, cut, bnd, Nat.reduceBEq, reduceCtorEq, Nat.reduceEqDiff, Nat.reduceAdd, Nat.reduceMul, Nat.reduceSub, Int.reduceToNat, Int.reduceEq, Int.reduceLT, Int.reduceLE, Int.reduceAdd, Int.reduceSub, Int.reduceMul, reduceIte, resVs, resV, packV, initT, addr] | refine OrW.go ?_
    exact ⟨_, rfl, fun _ => fin _ _ _ _ _ (by simp [doesR, hq]) (h1.mx []) (stp hst)⟩
  by_cases q7 : q = 7
  · subst q7
    have hc := fail_in hI x.n
    repeat first | simp (implicitDefEqProofs := false) (maxSteps := 1000000) (disch := first | omega | with_reducible assumption | (simp only [lenT, Nat.reduceAdd]; omega)) only [amT, cut, bnd, Nat.reduceBEq, reduceCtorEq, Nat.reduceEqDiff, Nat.reduceAdd, Nat.reduceMul, Nat.reduceSub, Int.reduceToNat, Int.reduceEq, Int.reduceLT, Int.reduceLE, Int.reduceAdd, Int.reduceSub, Int.reduceMul, reduceIte, resVs, resV, packV, initT, addr, F23, actRow, cellsOf6, hq] | refine OrW.go ?_
    refine RelC.call hc ?_
    rintro r M1 ⟨rfl, v1, h1, hst⟩
    repeat first | simp (implicitDefEqProofs := false) (maxSteps := 1000000) (disch := first | omega | with_reducible assumption | (simp only [lenT, Nat.reduceAdd]; omega)) only [amT, cut, bnd, Nat.reduceBEq, reduceCtorEq, Nat.reduceEqDiff, Nat.reduceAdd, Nat.reduceMul, Nat.reduceSub, Int.reduceToNat, Int.reduceEq, Int.reduceLT, Int.reduceLE, Int.reduceAdd, Int.reduceSub, Int.reduceMul, reduceIte, resVs, resV, packV, initT, addr] | refine OrW.go ?_
    exact ⟨_, rfl, fun _ => fin _ _ _ _ _ (by simp [doesR, hq]) (h1.mx []) (stp hst)⟩
  by_cases q8 : q = 8
  · subst q8
    have hc := crash_in hI
    repeat first | simp (implicitDefEqProofs := false) (maxSteps := 1000000) (disch := first | omega | with_reducible assumption | (simp only [lenT, Nat.reduceAdd]; omega)) only [amT, cut, bnd, Nat.reduceBEq, reduceCtorEq, Nat.reduceEqDiff, Nat.reduceAdd, Nat.reduceMul, Nat.reduceSub, Int.reduceToNat, Int.reduceEq, Int.reduceLT, Int.reduceLE, Int.reduceAdd, Int.reduceSub, Int.reduceMul, reduceIte, resVs, resV, packV, initT, addr, F23, actRow, cellsOf6, hq] | refine OrW.go ?_
    refine RelC.call hc ?_
    rintro r M1 ⟨rfl, v1, h1, hst⟩
    repeat first | simp (implicitDefEqProofs := false) (maxSteps := 1000000) (disch := first | omega | with_reducible assumption | (simp only [lenT, Nat.reduceAdd]; omega)) only [amT, cut, bnd, Nat.reduceBEq, reduceCtorEq, Nat.reduceEqDiff, Nat.reduceAdd, Nat.reduceMul, Nat.reduceSub, Int.reduceToNat, Int.reduceEq, Int.reduceLT, Int.reduceLE, Int.reduceAdd, Int.reduceSub, Int.reduceMul, reduceIte, resVs, resV, packV, initT, addr] | refine OrW.go ?_
    exact ⟨_, rfl, fun _ => fin _ _ _ _ _ (by simp [doesR, hq]) (h1.mx []) (stp hst)⟩
  by_cases q9 : q = 9
  · subst q9
    have hc := on_in hI hb (by omega) (.slice ka x.keep.length kc) x.keep (hA.1.old hI.old) hx.keep hx.k64 (fun b o n c e => by cases e; have := hA.2 b o rfl; have := hI.ap; omega)
    repeat first | simp (implicitDefEqProofs := false) (maxSteps := 1000000) (disch := first | omega | with_reducible assumption | (simp only [lenT, Nat.reduceAdd]; omega)) only [amT, cut, bnd, Nat.reduceBEq, reduceCtorEq, Nat.reduceEqDiff, Nat.reduceAdd, Nat.reduceMul, Nat.reduceSub, Int.reduceToNat, Int.reduceEq, Int.reduceLT, Int.reduceLE, Int.reduceAdd, Int.reduceSub, Int.reduceMul, reduceIte, resVs, resV, packV, initT, addr, F23, actRow, cellsOf6, hq] | refine OrW.go ?_
    refine RelC.call hc ?_
    rintro r M1 ⟨rfl, v1, h1, hst⟩
    repeat first | simp (implicitDefEqProofs := false) (maxSteps := 1000000) (disch := first | omega | with_reducible assumption | (simp only [lenT, Nat.reduceAdd]; omega)) only [amT, cut, bnd, Nat.reduceBEq, reduceCtorEq, Nat.reduceEqDiff, Nat.reduceAdd, Nat.reduceMul, Nat.reduceSub, Int.reduceToNat, Int.reduceEq, Int.reduceLT, Int.reduceLE, Int.reduceAdd, Int.reduceSub, Int.reduceMul, reduceIte, resVs, resV, packV, initT, addr] | refine OrW.go ?_
    exact ⟨_, rfl, fun _ => fin _ _ _ _ _ (by simp [doesR, hq]) (h1.mx []) (stp hst)⟩
  by_cases q6 : q = 6
  · subst q6
    have hc := read_in hI hb (by omega) x.name hx.name
    repeat first | simp (implicitDefEqProofs := false) (maxSteps := 1000000) (disch := first | omega | with_reducible assumption | (simp only [lenT, Nat.reduceAdd]; omega)) only [amT, cut, bnd, Nat.reduceBEq, reduceCtorEq, Nat.reduceEqDiff, Nat.reduceAdd, Nat.reduceMul, Nat.reduceSub, Int.reduceToNat, Int.reduceEq, Int.reduceLT, Int.reduceLE, Int.reduceAdd, Int.reduceSub, Int.reduceMul, reduceIte, resVs, resV, packV, initT, addr, F23, actRow, cellsOf6, hq] | refine OrW.go ?_
    refine RelC.call hc ?_
    rintro r M1 ⟨b, rfl, h1, hO, hB⟩
    have hOM : Old M M1 := hO1.trans hO
    have hB0 := hB
    obtain ⟨ab, cb, rfl, hbs⟩ := hB0.bsl'
    have hstr := (hbs.old (Old.here M1 [])).str
    have hrl := read_len d x.name
    have hus := hb.used
    generalize hread : readR d x.name = rd at *
    obtain ⟨re, rs⟩ := rd
    simp only [] at hB hbs hstr hrl
    repeat first | simp (implicitDefEqProofs := false) (maxSteps := 1000000) (disch := first | omega | with_reducible assumption | (simp only [lenT, Nat.reduceAdd]; omega)) only [amT, cut, bnd, Nat.reduceBEq, reduceCtorEq, Nat.reduceEqDiff, Nat.reduceAdd, Nat.reduceMul, Nat.reduceSub, Int.reduceToNat, Int.reduceEq, Int.reduceLT, Int.reduceLE, Int.reduceAdd, Int.reduceSub, Int.reduceMul, reduceIte, resVs, resV, packV, initT, addr, stepOp_b2s_v, hstr] | refine OrW.go ?_
    refine W_loop (fun N qs => ∃ (i : Nat) (M2 : AMem), N = rs.length - i ∧ qs.ds = [] ∧ qs.m = mx M2 [] ∧ qs.t 9 = .slice ab rs.length cb ∧ qs.t 10 = .int .i64 re ∧ qs.t 11 = .string ⟨rs.toArray⟩ ∧ qs.t 12 = .int .i64 i ∧ i ≤ rs.length ∧ Old (mx M [.cells (actRow x ka kc) 44 true .exact]) M2 ∧ (rs = [] ∨ ∃ bb X, ab = some ⟨bb, 0, none⟩ ∧ (mx M [.cells (actRow x ka kc) 44 true .exact]).size ≤ bb ∧ bb < M2.size ∧ M2.get bb = .cells X 5 true (.room [.int .u8 0]) ∧ X.length = rs.length ∧ ∀ y ∈ X, ∃ z, y = Value.int .u8 z)) (rs.length - (0)) ⟨0, M1, rfl, rfl, ?qm, ?q9, ?q10, ?q11, ?q12, ?_⟩ ?_
    case qm | q9 | q10 | q11 | q12 => first | rfl | (simp (implicitDefEqProofs := false) (maxSteps := 1000000) (disch := first | omega | with_reducible assumption | (simp only [lenT, Nat.reduceAdd]; omega)) only [amT, cut, bnd, Nat.reduceBEq, reduceCtorEq, Nat.reduceEqDiff, Nat.reduceAdd, Nat.reduceMul, Nat.reduceSub, Int.reduceToNat, Int.reduceEq, Int.reduceLT, Int.reduceLE, Int.reduceAdd, Int.reduceSub, Int.reduceMul, reduceIte, resVs, resV, packV, initT, addr]; first | done | rfl | (congr 1; omega))
    · refine ⟨by omega, hO, ?_⟩
      rcases hB with ⟨h, _⟩ | ⟨bb, g1, g2, g3, g4⟩
      · exact .inl (by simpa using h)
      · rw [List.length_map] at g3
        cases g3
        exact .inr ⟨bb, _, rfl, g1, g2, g4, by simp, fun y hy => by simp only [List.mem_map] at hy; obtain ⟨z, _, rfl⟩ := hy; exact ⟨_, rfl⟩⟩
    · rintro N t m1 ds ⟨i, M2, rfl, hds, hm, t9, t10, t11, t12, hp⟩
      simp only at hds hm t9 t10 t11 t12
      subst hds; replace hm := hm.symm; subst hm
      obtain ⟨hi, hO2, hX⟩ := hp
      by_cases hil : (i : Int) < (rs.length : Int)
      · rcases hX with rfl | ⟨bb, X, rfl, g1, g2, g3, g4, g5⟩
        · simp at hil; omega
        · have hiX : i < X.length := by omega
          obtain ⟨z, hz⟩ := g5 _ (List.getElem_mem hiX)
          have hXi : X[i]? = some (.int .u8 z) := by rw [List.getElem?_eq_getElem hiX, hz]
          repeat first | simp (implicitDefEqProofs := false) (maxSteps := 1000000) (disch := first | omega | with_reducible assumption | (simp only [lenT, Nat.reduceAdd]; omega)) only [amT, cut, bnd, Nat.reduceBEq, reduceCtorEq, Nat.reduceEqDiff, Nat.reduceAdd, Nat.reduceMul, Nat.reduceSub, Int.reduceToNat, Int.reduceEq, Int.reduceLT, Int.reduceLE, Int.reduceAdd, Int.reduceSub, Int.reduceMul, reduceIte, resVs, resV, packV, initT, addr, F23_l1, t9, t10, t11, t12, hil, hXi, g3] | refine OrW.go ?_
          rw [LoopK_normal]; refine ⟨_, ?_, i + 1, M2.set bb (.cells (X.set i (.int .u8 (ibits .xor .u8 z 255))) 5 true (.room [.int .u8 0])), rfl, rfl, ?qm, ?q9, ?q10, ?q11, ?q12, ?_⟩
          case qm | q9 | q10 | q11 | q12 => first | rfl | (simp (implicitDefEqProofs := false) (maxSteps := 1000000) (disch := first | omega | with_reducible assumption | (simp only [lenT, Nat.reduceAdd]; omega)) only [amT, cut, bnd, Nat.reduceBEq, reduceCtorEq, Nat.reduceEqDiff, Nat.reduceAdd, Nat.reduceMul, Nat.reduceSub, Int.reduceToNat, Int.reduceEq, Int.reduceLT, Int.reduceLE, Int.reduceAdd, Int.reduceSub, Int.reduceMul, reduceIte, resVs, resV, packV, initT, addr, t9, t10, t11, t12]; first | done | rfl | (congr 1; omega))
          · omega
          · refine ⟨by omega, hO2.set g1 _, .inr ⟨bb, _, rfl, g1, by rw [AMem.size_set]; exact g2, AMem.get_set_self _ _ _, by rw [List.length_set]; exact g4, u8s_set g5 _ _⟩⟩
      · repeat first | simp (implicitDefEqProofs := false) (maxSteps := 1000000) (disch := first | omega | with_reducible assumption | (simp only [lenT, Nat.reduceAdd]; omega)) only [amT, cut, bnd, Nat.reduceBEq, reduceCtorEq, Nat.reduceEqDiff, Nat.reduceAdd, Nat.reduceMul, Nat.reduceSub, Int.reduceToNat, Int.reduceEq, Int.reduceLT, Int.reduceLE, Int.reduceAdd, Int.reduceSub, Int.reduceMul, reduceIte, resVs, resV, packV, initT, addr, F23_l1, t9, t10, t11, t12, hil] | refine OrW.go ?_
        exact ⟨_, rfl, fun _ => fin _ _ _ _ _ (by simp [doesR, hq, hread]) ((hI.keep hO2).mx []) ⟨((hO1.trans hO2).mx []).keep _, fun _ h => .inl h⟩⟩
  have q01 : q = 0 ∨ q = 1 := by omega
  have hbb : (mx M [.cells (actRow x ka kc) 44 true .exact, .cells (x.b.map byteV) 5 true (.room [.int .u8 0])]).size = M.size + 2 := by rw [mx_size]; rfl
  have hDb : @DIn ⟨M.size + 1⟩ m0 (mx M [.cells (actRow x ka kc) 44 true .exact, .cells (x.b.map byteV) 5 true (.room [.int .u8 0])]) p v d :=
    @DIn.mk ⟨M.size + 1⟩ _ _ _ _ _ (DAt.swap (x := p) h.here (Old.here _ _) (fun X w sp hy => by omega) (by rw [hbb]; omega)) (h.old.mx _) h.ap h.own
  have hown : ¬ ownV v (M.size + 1) := fun e => by have := own_lt h.here.files e; omega
  have hlt := h.here.lt
  have hms := h.old.1
  have hc := @append_in ⟨M.size + 1⟩ m0 _ p v d k hDb hb (by omega) x.name _ openCap x.b hx.name (bsl_room M _ 1 rfl rfl) hx.b
  have fin2 : ∀ (M1 M2 : AMem) (v1 : Value) (X : List Value), @DIn ⟨M.size + 1⟩ m0 M1 p v1 (appendR d x.name x.b).2 → DStep p v (mx M [.cells (actRow x ka kc) 44 true .exact, .cells (x.b.map byteV) 5 true (.room [.int .u8 0])]) v1 M1 →
      M2.size = M1.size → (∀ y, y ≠ M.size + 1 → M2.get y = M1.get y) → M1.get (M.size + 1) = .cells X 5 true (.room [.int .u8 0]) →
      DIn m0 (mx M2 []) p v1 (appendR d x.name x.b).2 ∧ DStep p v M v1 (mx M2 []) := by
    intro M1 M2 v1 X h1 hs e1 e2 e3
    have h2 : @DIn ⟨M.size + 1⟩ m0 M2 p v1 (appendR d x.name x.b).2 := @DIn.offx ⟨M.size + 1⟩ _ _ _ _ _ _ h1 _ _ _ e3 (Nat.le_of_eq e1.symm) e2 (by show m0.size ≤ M.size + 1; omega)
    have hA2 := @DIn.here ⟨M.size + 1⟩ _ _ _ _ _ h2
    have hg2 := @DAt.get ⟨M.size + 1⟩ _ _ _ _ hA2
    have hl2 := @DAt.lt ⟨M.size + 1⟩ _ _ _ _ hA2
    have h3 : DIn m0 M2 p v1 (appendR d x.name x.b).2 := @DIn.mk ⟨p⟩ _ _ _ _ _ (DAt.swap (x := M.size + 1) (y := p) hA2 (Old.refl M2) (fun X w sp hy e => by rw [hg2] at e; cases e) hl2) (@DIn.old ⟨M.size + 1⟩ _ _ _ _ _ h2) (@DIn.ap ⟨M.size + 1⟩ _ _ _ _ _ h2) (@DIn.own ⟨M.size + 1⟩ _ _ _ _ _ h2)
    have hs1 := hs.old (Old.here M _)
    refine ⟨h3.mx _, dstep_off hs1 e1 e2⟩
  rcases q01 with rfl | rfl
  · repeat first | simp (implicitDefEqProofs := false) (maxSteps := 1000000) (disch := first | omega | with_reducible assumption | (simp only [lenT, Nat.reduceAdd]; omega)) only [amT, cut, bnd, Nat.reduceBEq, reduceCtorEq, Nat.reduceEqDiff, Nat.reduceAdd, Nat.reduceMul, Nat.reduceSub, Int.reduceToNat, Int.reduceEq, Int.reduceLT, Int.reduceLE, Int.reduceAdd, Int.reduceSub, Int.reduceMul, reduceIte, resVs, resV, packV, initT, addr, F23, actRow, cellsOf6, hq] | refine OrW.go ?_
    refine RelC.call hc ?_
    rintro r M1 ⟨rfl, v1, h1, hst⟩
    have hbM1 : M1.get (M.size + 1) = .cells (x.b.map byteV) 5 true (.room [.int .u8 0]) := by
      rw [hst.1.2 _ (by rw [hbb]; omega) (fun e => by rcases e with e | e; omega; exact hown e)]
      exact mx_new _ _ 1
    have hM1s : M.size + 2 ≤ M1.size := by have := hst.1.1; rw [hbb] at this; exact this
    repeat first | simp (implicitDefEqProofs := false) (maxSteps := 1000000) (disch := first | omega | with_reducible assumption | (simp only [lenT, Nat.reduceAdd]; omega)) only [amT, cut, bnd, Nat.reduceBEq, reduceCtorEq, Nat.reduceEqDiff, Nat.reduceAdd, Nat.reduceMul, Nat.reduceSub, Int.reduceToNat, Int.reduceEq, Int.reduceLT, Int.reduceLE, Int.reduceAdd, Int.reduceSub, Int.reduceMul, reduceIte, resVs, resV, packV, initT, addr] | refine OrW.go ?_
    refine W_loop (fun N qs => ∃ (i : Nat) (M2 : AMem) (X : List Value), N = x.b.length - i ∧ qs.ds = [] ∧ qs.m = mx M2 [] ∧ qs.t 6 = .slice (some ⟨M.size + 1, 0, none⟩) x.b.length openCap ∧ qs.t 7 = .int .i64 (appendR d x.name x.b).1 ∧ qs.t 8 = .int .i64 i ∧ i ≤ x.b.length ∧ M2.size = M1.size ∧ (∀ y, y ≠ M.size + 1 → M2.get y = M1.get y) ∧ M2.get (M.size + 1) = .cells X 5 true (.room [.int .u8 0]) ∧ X.length = x.b.length ∧ ∀ y ∈ X, ∃ z, y = Value.int .u8 z) (x.b.length - (0)) ⟨0, M1, x.b.map byteV, rfl, rfl, ?qm, ?q6, ?q7, ?q8, ?_⟩ ?_
    case qm | q6 | q7 | q8 => first | rfl | (simp (implicitDefEqProofs := false) (maxSteps := 1000000) (disch := first | omega | with_reducible assumption | (simp only [lenT, Nat.reduceAdd]; omega)) only [amT, cut, bnd, Nat.reduceBEq, reduceCtorEq, Nat.reduceEqDiff, Nat.reduceAdd, Nat.reduceMul, Nat.reduceSub, Int.reduceToNat, Int.reduceEq, Int.reduceLT, Int.reduceLE, Int.reduceAdd, Int.reduceSub, Int.reduceMul, reduceIte, resVs, resV, packV, initT, addr]; first | done | rfl | (congr 1; omega))
    · refine ⟨by omega, rfl, fun _ _ => rfl, hbM1, by simp, fun y hy => ?_⟩
      simp only [List.mem_map] at hy; obtain ⟨z, _, rfl⟩ := hy; exact ⟨_, rfl⟩
    · rintro N t m1 ds ⟨i, M2, X, rfl, hds, hm, t6, t7, t8, hp⟩
      simp only at hds hm t6 t7 t8
      subst hds; replace hm := hm.symm; subst hm
      obtain ⟨hi, e1, e2, g3, g4, g5⟩ := hp
      by_cases hil : (i : Int) < (x.b.length : Int)
      · have hiX : i < X.length := by omega
        obtain ⟨z, hz⟩ := g5 _ (List.getElem_mem hiX)
        have hXi : X[i]? = some (.int .u8 z) := by rw [List.getElem?_eq_getElem hiX, hz]
        have hbM2 : M.size + 1 < M2.size := by omega
        repeat first | simp (implicitDefEqProofs := false) (maxSteps := 1000000) (disch := first | omega | with_reducible assumption | (simp only [lenT, Nat.reduceAdd]; omega)) only [amT, cut, bnd, Nat.reduceBEq, reduceCtorEq, Nat.reduceEqDiff, Nat.reduceAdd, Nat.reduceMul, Nat.reduceSub, Int.reduceToNat, Int.reduceEq, Int.reduceLT, Int.reduceLE, Int.reduceAdd, Int.reduceSub, Int.reduceMul, reduceIte, resVs, resV, packV, initT, addr, F23_l0, t6, t7, t8, hil, hXi, g3] | refine OrW.go ?_
        rw [LoopK_normal]; refine ⟨_, ?_, i + 1, M2.set (M.size + 1) (.cells (X.set i (.int .u8 (ibits .xor .u8 z 255))) 5 true (.room [.int .u8 0])), X.set i (.int .u8 (ibits .xor .u8 z 255)), rfl, rfl, ?qm, ?q6, ?q7, ?q8, ?_⟩
        case qm | q6 | q7 | q8 => first | rfl | (simp (implicitDefEqProofs := false) (maxSteps := 1000000) (disch := first | omega | with_reducible assumption | (simp only [lenT, Nat.reduceAdd]; omega)) only [amT, cut, bnd, Nat.reduceBEq, reduceCtorEq, Nat.reduceEqDiff, Nat.reduceAdd, Nat.reduceMul, Nat.reduceSub, Int.reduceToNat, Int.reduceEq, Int.reduceLT, Int.reduceLE, Int.reduceAdd, Int.reduceSub, Int.reduceMul, reduceIte, resVs, resV, packV, initT, addr, t6, t7, t8]; first | done | rfl | (congr 1; omega))
        · omega
        · refine ⟨by omega, by rw [AMem.size_set]; exact e1, fun y hy => by rw [AMem.get_set_ne _ _ hy]; exact e2 y hy, AMem.get_set_self _ _ _, by rw [List.length_set]; exact g4, u8s_set g5 _ _⟩
      · repeat first | simp (implicitDefEqProofs := false) (maxSteps := 1000000) (disch := first | omega | with_reducible assumption | (simp only [lenT, Nat.reduceAdd]; omega)) only [amT, cut, bnd, Nat.reduceBEq, reduceCtorEq, Nat.reduceEqDiff, Nat.reduceAdd, Nat.reduceMul, Nat.reduceSub, Int.reduceToNat, Int.reduceEq, Int.reduceLT, Int.reduceLE, Int.reduceAdd, Int.reduceSub, Int.reduceMul, reduceIte, resVs, resV, packV, initT, addr, F23_l0, t6, t7, t8, hil] | refine OrW.go ?_
        obtain ⟨k1, k2⟩ := fin2 M1 M2 v1 _ h1 hst e1 e2 hbM1
        exact ⟨_, rfl, fun _ => fin _ _ _ _ _ (by simp [doesR, hq]) k1 k2⟩
  · repeat first | simp (implicitDefEqProofs := false) (maxSteps := 1000000) (disch := first | omega | with_reducible assumption | (simp only [lenT, Nat.reduceAdd]; omega)) only [amT, cut, bnd, Nat.reduceBEq, reduceCtorEq, Nat.reduceEqDiff, Nat.reduceAdd, Nat.reduceMul, Nat.reduceSub, Int.reduceToNat, Int.reduceEq, Int.reduceLT, Int.reduceLE, Int.reduceAdd, Int.reduceSub, Int.reduceMul, reduceIte, resVs, resV, packV, initT, addr, F23, actRow, cellsOf6, hq] | refine OrW.go ?_
    refine RelC.call hc ?_
    rintro r M1 ⟨rfl, v1, h1, hst⟩
    have hbM1 : M1.get (M.size + 1) = .cells (x.b.map byteV) 5 true (.room [.int .u8 0]) := by
      rw [hst.1.2 _ (by rw [hbb]; omega) (fun e => by rcases e with e | e; omega; exact hown e)]
      exact mx_new _ _ 1
    have hM1s : M.size + 2 ≤ M1.size := by have := hst.1.1; rw [hbb] at this; exact this
    repeat first | simp (implicitDefEqProofs := false) (maxSteps := 1000000) (disch := first | omega | with_reducible assumption | (simp only [lenT, Nat.reduceAdd]; omega)) only [amT, cut, bnd, Nat.reduceBEq, reduceCtorEq, Nat.reduceEqDiff, Nat.reduceAdd, Nat.reduceMul, Nat.reduceSub, Int.reduceToNat, Int.reduceEq, Int.reduceLT, Int.reduceLE, Int.reduceAdd, Int.reduceSub, Int.reduceMul, reduceIte, resVs, resV, packV, initT, addr] | refine OrW.go ?_
    refine W_loop (fun N qs => ∃ (i : Nat) (M2 : AMem) (X : List Value), N = x.b.length - i ∧ qs.ds = [] ∧ qs.m = mx M2 [] ∧ qs.t 6 = .slice (some ⟨M.size + 1, 0, none⟩) x.b.length openCap ∧ qs.t 7 = .int .i64 (appendR d x.name x.b).1 ∧ qs.t 8 = .int .i64 i ∧ i ≤ x.b.length ∧ M2.size = M1.size ∧ (∀ y, y ≠ M.size + 1 → M2.get y = M1.get y) ∧ M2.get (M.size + 1) = .cells X 5 true (.room [.int .u8 0]) ∧ X.length = x.b.length ∧ ∀ y ∈ X, ∃ z, y = Value.int .u8 z) (x.b.length - (0)) ⟨0, M1, x.b.map byteV, rfl, rfl, ?qm, ?q6, ?q7, ?q8, ?_⟩ ?_
    case qm | q6 | q7 | q8 => first | rfl | (simp (implicitDefEqProofs := false) (maxSteps := 1000000) (disch := first | omega | with_reducible assumption | (simp only [lenT, Nat.reduceAdd]; omega)) only [amT, cut, bnd, Nat.reduceBEq, reduceCtorEq, Nat.reduceEqDiff, Nat.reduceAdd, Nat.reduceMul, Nat.reduceSub, Int.reduceToNat, Int.reduceEq, Int.reduceLT, Int.reduceLE, Int.reduceAdd, Int.reduceSub, Int.reduceMul, reduceIte, resVs, resV, packV, initT, addr]; first | done | rfl | (congr 1; omega))
    · refine ⟨by omega, rfl, fun _ _ => rfl, hbM1, by simp, fun y hy => ?_⟩
      simp only [List.mem_map] at hy; obtain ⟨z, _, rfl⟩ := hy; exact ⟨_, rfl⟩
    · rintro N t m1 ds ⟨i, M2, X, rfl, hds, hm, t6, t7, t8, hp⟩
      simp only at hds hm t6 t7 t8
      subst hds; replace hm := hm.symm; subst hm
      obtain ⟨hi, e1, e2, g3, g4, g5⟩ := hp
      by_cases hil : (i : Int) < (x.b.length : Int)
      · have hiX : i < X.length := by omega
        obtain ⟨z, hz⟩ := g5 _ (List.getElem_mem hiX)
        have hXi : X[i]? = some (.int .u8 z) := by rw [List.getElem?_eq_getElem hiX, hz]
        have hbM2 : M.size + 1 < M2.size := by omega
        repeat first | simp (implicitDefEqProofs := false) (maxSteps := 1000000) (disch := first | omega | with_reducible assumption | (simp only [lenT, Nat.reduceAdd]; omega)) only [amT, cut, bnd, Nat.reduceBEq, reduceCtorEq, Nat.reduceEqDiff, Nat.reduceAdd, Nat.reduceMul, Nat.reduceSub, Int.reduceToNat, Int.reduceEq, Int.reduceLT, Int.reduceLE, Int.reduceAdd, Int.reduceSub, Int.reduceMul, reduceIte, resVs, resV, packV, initT, addr, F23_l0, t6, t7, t8, hil, hXi, g3] | refine OrW.go ?_
        rw [LoopK_normal]; refine ⟨_, ?_, i + 1, M2.set (M.size + 1) (.cells (X.set i (.int .u8 (ibits .xor .u8 z 255))) 5 true (.room [.int .u8 0])), X.set i (.int .u8 (ibits .xor .u8 z 255)), rfl, rfl, ?qm, ?q6, ?q7, ?q8, ?_⟩
        case qm | q6 | q7 | q8 => first | rfl | (simp (implicitDefEqProofs := false) (maxSteps := 1000000) (disch := first | omega | with_reducible assumption | (simp only [lenT, Nat.reduceAdd]; omega)) only [amT, cut, bnd, Nat.reduceBEq, reduceCtorEq, Nat.reduceEqDiff, Nat.reduceAdd, Nat.reduceMul, Nat.reduceSub, Int.reduceToNat, Int.reduceEq, Int.reduceLT, Int.reduceLE, Int.reduceAdd, Int.reduceSub, Int.reduceMul, reduceIte, resVs, resV, packV, initT, addr, t6, t7, t8]; first | done | rfl | (congr 1; omega))
        · omega
        · refine ⟨by omega, by rw [AMem.size_set]; exact e1, fun y hy => by rw [AMem.get_set_ne _ _ hy]; exact e2 y hy, AMem.get_set_self _ _ _, by rw [List.length_set]; exact g4, u8s_set g5 _ _⟩
      · repeat first | simp (implicitDefEqProofs := false) (maxSteps := 1000000) (disch := first | omega | with_reducible assumption | (simp only [lenT, Nat.reduceAdd]; omega)) only [amT, cut, bnd, Nat.reduceBEq, reduceCtorEq, Nat.reduceEqDiff, Nat.reduceAdd, Nat.reduceMul, Nat.reduceSub, Int.reduceToNat, Int.reduceEq, Int.reduceLT, Int.reduceLE, Int.reduceAdd, Int.reduceSub, Int.reduceMul, reduceIte, resVs, resV, packV, initT, addr, F23_l0, t6, t7, t8, hil] | refine OrW.go ?_
        obtain ⟨k1, k2⟩ := fin2 M1 M2 v1 _ h1 hst e1 e2 hbM1
        exact ⟨_, rfl, fun _ => fin _ _ _ _ _ (by simp [doesR, hq]) k1 k2⟩
end Go.Proofs.Ytbmjhiifinjieaa
namespace Go.Proofs.Ytbmjhiifinjieaa
open Go Go.AM
set_option linter.unusedVariables false
set_option linter.unusedSimpArgs false
set_option linter.unusedSectionVars false
set_option maxHeartbeats 2000000
set_option maxRecDepth 100000

variable [Ex]
theorem step_steps (d : DiskR) : (DiskR.step d).steps = d.steps + 1 := by unfold DiskR.step; split <;> rfl
theorem step_quota' (d : DiskR) : (DiskR.step d).quota = d.quota := by unfold DiskR.step; split <;> rfl
/-- What all that is done keeps to. -/
structure Keeps (d : DiskR) (act : Int) (e : Int) (d' : DiskR) : Prop where
  quota : d'.quota = d.quota
  used : usedR d'.files ≤ d.quota
  s0 : d.steps ≤ d'.steps
  s1 : d'.steps ≤ d.steps + 1
  same : act < 7 → e ≠ 0 → e ≠ 40 → d' = d
theorem Keeps.refl {d : DiskR} (hu : usedR d.files ≤ d.quota) (a e : Int) : Keeps d a e d := ⟨rfl, hu, Int.le_refl _, by omega, fun _ _ _ => rfl⟩
theorem Keeps.dries {d : DiskR} (hS : Sorted d.files) (hu : usedR d.files ≤ d.quota) (act : Int) (a b : List UInt8) (L : List UInt8 → Option (List UInt8)) (hL : ∀ c c', L c = some c' → c'.length ≤ c.length) : Keeps d act (driesR d a b L).1 (driesR d a b L).2 := by
  unfold driesR
  split
  · split
    · rename_i hat
      split
      · exact .refl hu _ _
      · rename_i c hc
        split
        · exact ⟨step_quota' d, by rw [step_files]; exact hu, by rw [step_steps]; omega, by rw [step_steps]; omega, fun _ _ h => absurd rfl h⟩
        · have hs : Sorted (delR d.files a) := hS.erase _
          have h1 := used_del hS hat
          have h2 := used_lay hs ⟨b, c, [], true⟩
          have h3 := hL _ _ hc
          have e1 : (FileR.mk b c [] true).size = c.length := by simp [FileR.size]
          have e2 : (fileAt d.files a).all.length = (fileAt d.files a).size := by simp [FileR.all, FileR.size]
          refine ⟨step_quota' d, ?_, by simp only []; rw [step_steps]; omega, by simp only []; rw [step_steps]; omega, fun _ h => absurd rfl h⟩
          show ((usedR (layR (delR d.files a) ⟨b, c, [], true⟩) : Nat) : Int) ≤ d.quota
          omega
    · exact .refl hu _ _
  · exact .refl hu _ _
theorem Keeps.does {d : DiskR} (hS : Sorted d.files) (hu : usedR d.files ≤ d.quota) (x : ActR) : Keeps d (x.act.tmod 10) (doesR d x).1.1 (doesR d x).2 := by
  unfold doesR
  split
  · show Keeps d _ (appendR d x.name x.b).1 (appendR d x.name x.b).2
    unfold appendR
    split
    · split
      · exact .refl hu _ _
      · split
        · exact .refl hu _ _
        · rename_i hful
          have h1 := used_lay hS { fileOr d.files x.name with wet := (fileOr d.files x.name).wet ++ x.b }
          have hsz : sizeOf' (getF d.files x.name) = (fileOr d.files x.name).size := by rw [(isAt_get hS x.name).2]; cases getF d.files x.name <;> rfl
          simp only [fileOr_name] at h1
          rw [hsz] at h1
          have hs2 : (FileR.mk x.name (fileOr d.files x.name).dry ((fileOr d.files x.name).wet ++ x.b) (fileOr d.files x.name).born).size = (fileOr d.files x.name).size + x.b.length := by simp only [FileR.size, List.length_append]; omega
          rw [hs2] at h1
          have hn := fileOr_name d.files x.name
          refine ⟨by simp only []; rw [step_quota'], ?_, by simp only []; rw [step_steps]; simp only []; omega, by simp only []; rw [step_steps]; simp only []; omega, fun _ h1 h2 => by split at h1 <;> simp_all⟩
          simp only [step_files, hn]
          omega
    · exact .refl hu _ _
  split; · exact .dries hS hu _ _ _ _ (fun c c' h => by cases h; exact Nat.le_refl _)
  split; · exact .dries hS hu _ _ _ _ (cutN_le x.n)
  split; · exact .dries hS hu _ _ _ _ (fun c c' h => by cases h; exact Nat.le_refl _)
  split
  · show Keeps d _ (removeR d x.name).1 (removeR d x.name).2
    unfold removeR
    split
    · split
      · rename_i hat
        split
        · exact ⟨step_quota' d, by rw [step_files]; exact hu, by rw [step_steps]; omega, by rw [step_steps]; omega, fun _ _ h => absurd rfl h⟩
        · have h1 := used_del hS hat
          refine ⟨step_quota' d, ?_, by simp only []; rw [step_steps]; omega, by simp only []; rw [step_steps]; omega, fun _ h => absurd rfl h⟩
          show ((usedR (delR d.files x.name) : Nat) : Int) ≤ d.quota
          omega
      · exact .refl hu _ _
    · exact .refl hu _ _
  split; · exact .refl hu _ _
  split
  · exact ⟨rfl, hu, Int.le_refl _, by simp only [failR]; omega, fun h => by omega⟩
  split
  · exact ⟨rfl, hu, Int.le_refl _, by simp only [crashR]; omega, fun h => by omega⟩
  · have h2 := used_onS (keep := x.keep) d.files 0
    unfold onR
    split
    · refine ⟨rfl, ?_, Int.le_refl _, by simp only []; omega, fun _ h => absurd rfl h⟩
      rw [onS_eq]; simp only []; omega
    · exact ⟨rfl, hu, Int.le_refl _, by simp only []; omega, fun _ h => absurd rfl h⟩
theorem small_b {x : ActR} (h : smallA x = true) : x.b.length ≤ 200 := by simp [smallA] at h; omega
theorem few_all {l : List ActR} (h : fewB l = true) : l.length ≤ 50 ∧ ∀ x ∈ l, smallA x = true := by
  simp only [fewB, Bool.and_eq_true, decide_eq_true_eq] at h
  rw [List.take_of_length_le h.2] at h
  exact ⟨h.2, List.all_eq_true.1 h.1⟩
end Go.Proofs.Ytbmjhiifinjieaa
namespace Go.Proofs.Ytbmjhiifinjieaa
open Go Go.AM
set_option linter.unusedVariables false
set_option linter.unusedSimpArgs false
set_option linter.unusedSectionVars false
set_option maxHeartbeats 2000000
set_option maxRecDepth 100000

theorem lawQuota (m : AMem) (q : Int) (hq : -9223372036854775808 ≤ q ∧ q ≤ 9223372036854775807) (a : Option Addr) (cap : Nat) (l : List ActR) (hl : ActsV m a l) (h64 : l.length ≤ 9223372036854775807) :
    PureC Try.prog 0 6 [.int .i64 q, .slice a l.length cap] m (.bool true) := by
  refine pure_of_W (fn := Try.f6) rfl rfl F6_ok (by simp [F6]) (.bool _) ?_
  letI : Ex := ⟨m.size⟩
  have kW := DetC.known (works_ok (mx m []))
  have kF := DetC.known (few_ok (mx m []) a cap l (hl.old (Old.here _ _)) h64)
  cases hfew : fewB l with
  | false =>
    rw [hfew] at kF
    repeat first | simp (implicitDefEqProofs := false) (maxSteps := 1000000) (disch := first | omega | with_reducible assumption | (simp only [lenT, Nat.reduceAdd]; omega)) only [amT, cut, bnd, Nat.reduceBEq, reduceCtorEq, Nat.reduceEqDiff, Nat.reduceAdd, Nat.reduceMul, Nat.reduceSub, Int.reduceToNat, Int.reduceEq, Int.reduceLT, Int.reduceLE, Int.reduceAdd, Int.reduceSub, Int.reduceMul, reduceIte, resVs, resV, packV, initT, addr, F6, kF, kW] | refine OrW.go ?_
  | true =>
    rw [hfew] at kF
    obtain ⟨hl50, hsm⟩ := few_all hfew
    have k11 := DetC.known (new_ok (mx m []) q)
    rw [mx_nil_size, mx_mx, List.nil_append] at k11
    have h0 := DIn.new (Old.refl m) (Nat.le_refl _) q
    have b0 : Bud (newR q) 0 := Bud.new hq.2
    have u0 : (usedR (newR q).files : Int) ≤ (newR q).quota := by simp only [newR, usedR, List.map_nil, List.sum_nil]; omega
    have e0 : (newR q).quota = max 0 q := rfl
    have hmx : -9223372036854775808 ≤ max 0 q ∧ max 0 q ≤ 9223372036854775807 := by omega
    repeat first | simp (implicitDefEqProofs := false) (maxSteps := 1000000) (disch := first | omega | with_reducible assumption | (simp only [lenT, Nat.reduceAdd]; omega)) only [amT, cut, bnd, Nat.reduceBEq, reduceCtorEq, Nat.reduceEqDiff, Nat.reduceAdd, Nat.reduceMul, Nat.reduceSub, Int.reduceToNat, Int.reduceEq, Int.reduceLT, Int.reduceLE, Int.reduceAdd, Int.reduceSub, Int.reduceMul, reduceIte, resVs, resV, packV, initT, addr, F6, kF, k11] | refine OrW.go ?_
    refine W_loop (fun N qs => ∃ (i : Nat) (M : AMem) (v : Value) (d : DiskR), N = l.length - i ∧ qs.ds = [] ∧ qs.m = mx M [] ∧ qs.t 0 = .int .i64 q ∧ qs.t 1 = .slice a l.length cap ∧ qs.t 5 = .pointer (some ⟨m.size, 0, none⟩) ∧ qs.t 6 = .int .i64 i ∧ i ≤ l.length ∧ DIn m M m.size v d ∧ Bud d i ∧ (usedR d.files : Int) ≤ d.quota ∧ d.quota = max 0 q) (l.length - (0)) ⟨0, mx m [.cells ((newR q).cells (.slice none 0 0)) 60 true .exact], .slice none 0 0, newR q, rfl, rfl, ?qm, ?q0, ?q1, ?q5, ?q6, ?_⟩ ?_
    case qm | q0 | q1 | q5 | q6 => first | rfl | (simp (implicitDefEqProofs := false) (maxSteps := 1000000) (disch := first | omega | with_reducible assumption | (simp only [lenT, Nat.reduceAdd]; omega)) only [amT, cut, bnd, Nat.reduceBEq, reduceCtorEq, Nat.reduceEqDiff, Nat.reduceAdd, Nat.reduceMul, Nat.reduceSub, Int.reduceToNat, Int.reduceEq, Int.reduceLT, Int.reduceLE, Int.reduceAdd, Int.reduceSub, Int.reduceMul, reduceIte, resVs, resV, packV, initT, addr, mx_mx, List.append_nil]; first | done | rfl | (congr 1; omega))
    · exact ⟨by omega, h0, b0, u0, rfl⟩
    · rintro N t m1 ds ⟨i, M, v, d, rfl, hds, hm, t0, t1, t5, t6, hp⟩
      simp only at hds hm t0 t1 t5 t6
      subst hds; replace hm := hm.symm; subst hm
      obtain ⟨hi, hI, hB, hu, hQ⟩ := hp
      by_cases hil : (i : Int) < (l.length : Int)
      · have hil' : i < l.length := by omega
        obtain ⟨b, o, ka, kc, rfl, hb, hr, hA, hok⟩ := hl i hil'
        have hxs := small_b (hsm _ (List.getElem_mem hil'))
        have k24 := DetC.known (used_in (hI.mx []) hB (by omega))
        have hN := names_in (hI.mx []) hB (by omega)
        repeat first | simp (implicitDefEqProofs := false) (maxSteps := 1000000) (disch := first | omega | with_reducible assumption | (simp only [lenT, Nat.reduceAdd]; omega)) only [amT, cut, bnd, Nat.reduceBEq, reduceCtorEq, Nat.reduceEqDiff, Nat.reduceAdd, Nat.reduceMul, Nat.reduceSub, Int.reduceToNat, Int.reduceEq, Int.reduceLT, Int.reduceLE, Int.reduceAdd, Int.reduceSub, Int.reduceMul, reduceIte, resVs, resV, packV, initT, addr, F6_l0, t0, t1, t5, t6, hil, k24] | refine OrW.go ?_
        refine RelC.call hN ?_
        rintro r M1 ⟨hO1, hS1⟩
        obtain ⟨an, cn, rfl⟩ := hS1.len
        have hI1 := hI.keep ((Old.here M []).trans hO1)
        have k25 := DetC.known (steps_ok (mx M1 []) m.size (hI1.mx []).here.lt (hI1.mx []).here.get)
        have hb1 : b < M1.size := Nat.lt_of_lt_of_le hb hI1.old.1
        have hr1 : rdO (M1.get b) (o + i * 6) 6 = some (actRow l[i] ka kc) := by rw [hI1.old.2 b hb]; exact hr
        have hdo := does_ok m (mx M1 []) m.size v d (hI1.mx []) i hB (by omega) l[i] hok ka kc hA (by omega)
        have hK := Keeps.does hB.sorted hu l[i]
        have hB2 := hB.does l[i] hok (by omega)
        generalize doesR d l[i] = R at hK hB2 hdo
        obtain ⟨⟨e, s⟩, d'⟩ := R
        simp only [] at hK hB2 hdo
        repeat first | simp (implicitDefEqProofs := false) (maxSteps := 1000000) (disch := first | omega | with_reducible assumption | (simp only [lenT, Nat.reduceAdd]; omega)) only [amT, cut, bnd, Nat.reduceBEq, reduceCtorEq, Nat.reduceEqDiff, Nat.reduceAdd, Nat.reduceMul, Nat.reduceSub, Int.reduceToNat, Int.reduceEq, Int.reduceLT, Int.reduceLE, Int.reduceAdd, Int.reduceSub, Int.reduceMul, reduceIte, resVs, resV, packV, initT, addr, t0, t1, t5, t6, k25, hr1] | refine OrW.go ?_
        refine RelC.call hdo ?_
        rintro r M2 ⟨rfl, v2, hI2, -⟩
        have hb2 : b < M2.size := Nat.lt_of_lt_of_le hb hI2.old.1
        have hr2 : rdO (M2.get b) (o + i * 6) 6 = some (actRow l[i] ka kc) := by rw [hI2.old.2 b hb]; exact hr
        obtain ⟨-, -, -, -, f0⟩ := act_fields hr2
        have ku := DetC.known (used_in (hI2.mx []) hB2 (by omega))
        have ks := DetC.known (steps_ok (mx M2 []) m.size (hI2.mx []).here.lt (hI2.mx []).here.get)
        have hN2 := names_in (hI2.mx []) hB2 (by omega)
        have j1 : ¬ max 0 q < (usedR d'.files : Int) := by have := hK.used; omega
        have j2 : ¬ d'.steps < d.steps := by have := hK.s0; omega
        have j3 : ¬ d.steps + 1 < d'.steps := by have := hK.s1; omega
        have hst1 := hB2.s1
        have hst0 := hB2.s0
        have hs1 := hB.s1
        have hs0 := hB.s0
        have hfin : i + 1 ≤ l.length ∧ DIn m M2 m.size v2 d' ∧ Bud d' (i + 1) ∧ (usedR d'.files : Int) ≤ d'.quota ∧ d'.quota = max 0 q := ⟨by omega, hI2, hB2, by rw [hK.quota]; exact hK.used, by rw [hK.quota]; exact hQ⟩
        by_cases c1 : l[i].act.tmod 10 < 7
        · by_cases c2 : e = 0
          · repeat first | simp (implicitDefEqProofs := false) (maxSteps := 1000000) (disch := first | omega | with_reducible assumption | (simp only [lenT, Nat.reduceAdd]; omega)) only [amT, cut, bnd, Nat.reduceBEq, reduceCtorEq, Nat.reduceEqDiff, Nat.reduceAdd, Nat.reduceMul, Nat.reduceSub, Int.reduceToNat, Int.reduceEq, Int.reduceLT, Int.reduceLE, Int.reduceAdd, Int.reduceSub, Int.reduceMul, reduceIte, resVs, resV, packV, initT, addr, t0, t1, t5, t6, f0, c1, c2, ku, ks, stepOp_mnx, mnx_max, j1, j2, j3, undef] | refine OrW.go ?_
            rw [LoopK_normal]; refine ⟨_, ?_, i + 1, M2, v2, d', rfl, rfl, ?qm, ?q0, ?q1, ?q5, ?q6, ?_⟩
            case qm | q0 | q1 | q5 | q6 => first | rfl | (simp (implicitDefEqProofs := false) (maxSteps := 1000000) (disch := first | omega | with_reducible assumption | (simp only [lenT, Nat.reduceAdd]; omega)) only [amT, cut, bnd, Nat.reduceBEq, reduceCtorEq, Nat.reduceEqDiff, Nat.reduceAdd, Nat.reduceMul, Nat.reduceSub, Int.reduceToNat, Int.reduceEq, Int.reduceLT, Int.reduceLE, Int.reduceAdd, Int.reduceSub, Int.reduceMul, reduceIte, resVs, resV, packV, initT, addr, t0, t1, t5, t6]; first | done | rfl | (congr 1; omega))
            · omega
            · exact hfin
          · by_cases c3 : e = 40
            · repeat first | simp (implicitDefEqProofs := false) (maxSteps := 1000000) (disch := first | omega | with_reducible assumption | (simp only [lenT, Nat.reduceAdd]; omega)) only [amT, cut, bnd, Nat.reduceBEq, reduceCtorEq, Nat.reduceEqDiff, Nat.reduceAdd, Nat.reduceMul, Nat.reduceSub, Int.reduceToNat, Int.reduceEq, Int.reduceLT, Int.reduceLE, Int.reduceAdd, Int.reduceSub, Int.reduceMul, reduceIte, resVs, resV, packV, initT, addr, t0, t1, t5, t6, f0, c1, c2, c3, ku, ks, stepOp_mnx, mnx_max, j1, j2, j3, undef] | refine OrW.go ?_
              rw [LoopK_normal]; refine ⟨_, ?_, i + 1, M2, v2, d', rfl, rfl, ?qm, ?q0, ?q1, ?q5, ?q6, ?_⟩
              case qm | q0 | q1 | q5 | q6 => first | rfl | (simp (implicitDefEqProofs := false) (maxSteps := 1000000) (disch := first | omega | with_reducible assumption | (simp only [lenT, Nat.reduceAdd]; omega)) only [amT, cut, bnd, Nat.reduceBEq, reduceCtorEq, Nat.reduceEqDiff, Nat.reduceAdd, Nat.reduceMul, Nat.reduceSub, Int.reduceToNat, Int.reduceEq, Int.reduceLT, Int.reduceLE, Int.reduceAdd, Int.reduceSub, Int.reduceMul, reduceIte, resVs, resV, packV, initT, addr, t0, t1, t5, t6]; first | done | rfl | (congr 1; omega))
              · omega
              · exact hfin
            · have hsame := hK.same c1 c2 c3
              subst hsame
              repeat first | simp (implicitDefEqProofs := false) (maxSteps := 1000000) (disch := first | omega | with_reducible assumption | (simp only [lenT, Nat.reduceAdd]; omega)) only [amT, cut, bnd, Nat.reduceBEq, reduceCtorEq, Nat.reduceEqDiff, Nat.reduceAdd, Nat.reduceMul, Nat.reduceSub, Int.reduceToNat, Int.reduceEq, Int.reduceLT, Int.reduceLE, Int.reduceAdd, Int.reduceSub, Int.reduceMul, reduceIte, resVs, resV, packV, initT, addr, t0, t1, t5, t6, f0, c1, c2, c3, ku, ks] | refine OrW.go ?_
              refine RelC.call hN2 ?_
              rintro r M3 ⟨hO3, hS3⟩
              obtain ⟨an3, cn3, rfl⟩ := hS3.len
              have hI3 := hI2.keep ((Old.here M2 []).trans hO3)
              have ku3 := DetC.known (used_in (hI3.mx []) hB2 (by omega))
              have ks3 := DetC.known (steps_ok (mx M3 []) m.size (hI3.mx []).here.lt (hI3.mx []).here.get)
              repeat first | simp (implicitDefEqProofs := false) (maxSteps := 1000000) (disch := first | omega | with_reducible assumption | (simp only [lenT, Nat.reduceAdd]; omega)) only [amT, cut, bnd, Nat.reduceBEq, reduceCtorEq, Nat.reduceEqDiff, Nat.reduceAdd, Nat.reduceMul, Nat.reduceSub, Int.reduceToNat, Int.reduceEq, Int.reduceLT, Int.reduceLE, Int.reduceAdd, Int.reduceSub, Int.reduceMul, reduceIte, resVs, resV, packV, initT, addr, t0, t1, t5, t6, ku3, ks3, stepOp_mnx, mnx_max, j1, j2, j3] | refine OrW.go ?_
              rw [LoopK_normal]; refine ⟨_, ?_, i + 1, M3, v2, d', rfl, rfl, ?qm, ?q0, ?q1, ?q5, ?q6, ?_⟩
              case qm | q0 | q1 | q5 | q6 => first | rfl | (simp (implicitDefEqProofs := false) (maxSteps := 1000000) (disch := first | omega | with_reducible assumption | (simp only [lenT, Nat.reduceAdd]; omega)) only [amT, cut, bnd, Nat.reduceBEq, reduceCtorEq, Nat.reduceEqDiff, Nat.reduceAdd, Nat.reduceMul, Nat.reduceSub, Int.reduceToNat, Int.reduceEq, Int.reduceLT, Int.reduceLE, Int.reduceAdd, Int.reduceSub, Int.reduceMul, reduceIte, resVs, resV, packV, initT, addr, t0, t1, t5, t6]; first | done | rfl | (congr 1; omega))
              · omega
              · exact ⟨by omega, hI3, hB2, hu, hQ⟩
        · repeat first | simp (implicitDefEqProofs := false) (maxSteps := 1000000) (disch := first | omega | with_reducible assumption | (simp only [lenT, Nat.reduceAdd]; omega)) only [amT, cut, bnd, Nat.reduceBEq, reduceCtorEq, Nat.reduceEqDiff, Nat.reduceAdd, Nat.reduceMul, Nat.reduceSub, Int.reduceToNat, Int.reduceEq, Int.reduceLT, Int.reduceLE, Int.reduceAdd, Int.reduceSub, Int.reduceMul, reduceIte, resVs, resV, packV, initT, addr, t0, t1, t5, t6, f0, c1, ku, ks, stepOp_mnx, mnx_max, j1, j2, j3, undef] | refine OrW.go ?_
          rw [LoopK_normal]; refine ⟨_, ?_, i + 1, M2, v2, d', rfl, rfl, ?qm, ?q0, ?q1, ?q5, ?q6, ?_⟩
          case qm | q0 | q1 | q5 | q6 => first | rfl | (simp (implicitDefEqProofs := false) (maxSteps := 1000000) (disch := first | omega | with_reducible assumption | (simp only [lenT, Nat.reduceAdd]; omega)) only [amT, cut, bnd, Nat.reduceBEq, reduceCtorEq, Nat.reduceEqDiff, Nat.reduceAdd, Nat.reduceMul, Nat.reduceSub, Int.reduceToNat, Int.reduceEq, Int.reduceLT, Int.reduceLE, Int.reduceAdd, Int.reduceSub, Int.reduceMul, reduceIte, resVs, resV, packV, initT, addr, t0, t1, t5, t6]; first | done | rfl | (congr 1; omega))
          · omega
          · exact hfin
      · have kWM := DetC.known (works_ok (mx M []))
        repeat first | simp (implicitDefEqProofs := false) (maxSteps := 1000000) (disch := first | omega | with_reducible assumption | (simp only [lenT, Nat.reduceAdd]; omega)) only [amT, cut, bnd, Nat.reduceBEq, reduceCtorEq, Nat.reduceEqDiff, Nat.reduceAdd, Nat.reduceMul, Nat.reduceSub, Int.reduceToNat, Int.reduceEq, Int.reduceLT, Int.reduceLE, Int.reduceAdd, Int.reduceSub, Int.reduceMul, reduceIte, resVs, resV, packV, initT, addr, F6_l0, t0, t1, t5, t6, hil, kWM] | refine OrW.go ?_
        exact (hI.mx []).old
end Go.Proofs.Ytbmjhiifinjieaa
namespace Go.Proofs.Ytbmjhiifinjieaa
open Go Go.AM
set_option linter.unusedVariables false
set_option linter.unusedSimpArgs false
set_option linter.unusedSectionVars false
set_option maxHeartbeats 2000000
set_option maxRecDepth 100000

/-- Two disks that share nothing that changes. -/
structure Two (m0 M : AMem) (p1 : Nat) (v1 : Value) (d1 : DiskR) (p2 : Nat) (v2 : Value) (d2 : DiskR) : Prop where
  a : @DIn ⟨p1⟩ m0 M p1 v1 d1
  b : @DIn ⟨p2⟩ m0 M p2 v2 d2
  ne : p1 ≠ p2
  sep : ∀ x, ownV v1 x → ¬ ownV v2 x
theorem Two.symm {m0 M : AMem} {p1 p2 : Nat} {v1 v2 : Value} {d1 d2 : DiskR} (h : Two m0 M p1 v1 d1 p2 v2 d2) : Two m0 M p2 v2 d2 p1 v1 d1 := ⟨h.b, h.a, h.ne.symm, fun x h1 h2 => h.sep x h2 h1⟩
theorem Two.old {m0 M M' : AMem} {p1 p2 : Nat} {v1 v2 : Value} {d1 d2 : DiskR} (h : Two m0 M p1 v1 d1 p2 v2 d2) (ho : Old M M') : Two m0 M' p1 v1 d1 p2 v2 d2 :=
  ⟨@DIn.keep ⟨p1⟩ _ _ _ _ _ _ h.a ho, @DIn.keep ⟨p2⟩ _ _ _ _ _ _ h.b ho, h.ne, h.sep⟩
theorem Two.left {m0 M M' : AMem} {p1 p2 : Nat} {v1 v1' v2 : Value} {d1 d1' d2 : DiskR} (h : Two m0 M p1 v1 d1 p2 v2 d2) (ha : @DIn ⟨p1⟩ m0 M' p1 v1' d1') (hs : DStep p1 v1 M v1' M') : Two m0 M' p1 v1' d1' p2 v2 d2 := by
  have hA := @DIn.here ⟨p1⟩ _ _ _ _ _ h.a
  have hB := @DIn.here ⟨p2⟩ _ _ _ _ _ h.b
  have gA := @DAt.get ⟨p1⟩ _ _ _ _ hA
  have gB := @DAt.get ⟨p2⟩ _ _ _ _ hB
  have lB := @DAt.lt ⟨p2⟩ _ _ _ _ hB
  have fA := @DAt.files ⟨p1⟩ _ _ _ _ hA
  have fB := @DAt.files ⟨p2⟩ _ _ _ _ hB
  have n1 : ¬ (p2 = p1 ∨ ownV v1 p2) := fun e => e.elim (fun e => h.ne e.symm) (@not_own ⟨p1⟩ _ _ _ fA _ _ _ _ _ gB (by decide))
  have h5 : ∀ x X w sp, M.get x = .cells X 5 w sp → ¬ (x = p1 ∨ ownV v1 x) := fun x X w sp hx e => e.elim (fun e => by subst e; rw [gA] at hx; cases hx) (@no5 ⟨p1⟩ _ _ _ fA x X w sp hx)
  have hv : ∀ x, ownV v2 x → ¬ (x = p1 ∨ ownV v1 x) := fun x hx e => e.elim (fun e => by subst e; exact @not_own ⟨p2⟩ _ _ _ fB _ _ _ _ _ gA (by decide) hx) (fun e => h.sep x e hx)
  have hB' : @DAt ⟨p2⟩ M' p2 v2 d2 := @DAt.mk ⟨p2⟩ _ _ _ _ (Nat.lt_of_lt_of_le lB hs.1.1) (by rw [hs.1.2 p2 lB n1]; exact gB) (@FilesV.keep ⟨p2⟩ _ _ _ _ fB _ hs.1 h5 hv) (Nat.lt_of_lt_of_le lB hs.1.1)
  refine ⟨ha, @DIn.mk ⟨p2⟩ _ _ _ _ _ hB' (@DIn.old ⟨p1⟩ _ _ _ _ _ ha) (@DIn.ap ⟨p2⟩ _ _ _ _ _ h.b) (@DIn.own ⟨p2⟩ _ _ _ _ _ h.b), h.ne, fun x h1 h2 => ?_⟩
  rcases hs.2 x h1 with h3 | h3
  · exact h.sep x h3 h2
  · have := @own_lt ⟨p2⟩ _ _ _ fB x h2; omega
/-- A copy, apart from all that was. -/
theorem copy_in {m0 M : AMem} {p : Nat} {v : Value} {d : DiskR} {k : Nat} (h : @DIn ⟨p⟩ m0 M p v d) (hb : Bud d k) (hk : k ≤ 10000) :
    RelC Try.prog 0 29 [.pointer (some ⟨p, 0, none⟩)] M fun r m' => ∃ p' v', r = .pointer (some ⟨p', 0, none⟩) ∧ @DIn ⟨p'⟩ M m' p' v' d := by
  have hf := hb.few
  refine RelC.mono (@copy_ok ⟨p⟩ M p v d (@DIn.here ⟨p⟩ _ _ _ _ _ h) (by omega)) ?_
  rintro r m' ⟨p', v', h1, h2, h3, h4, h5⟩
  have g := @DAt.get ⟨p⟩ _ _ _ _ h3
  have l := @DAt.lt ⟨p⟩ _ _ _ _ h3
  exact ⟨p', v', h1, @DIn.mk ⟨p'⟩ _ _ _ _ _ (DAt.swap (x := p) (y := p') h3 (Old.refl m') (fun X w sp hy e => by rw [g] at e; cases e) l) h5 h2 h4⟩
theorem Two.make {m0 M M' : AMem} {p p' : Nat} {v v' : Value} {d d' : DiskR} (h : @DIn ⟨p⟩ m0 M p v d) (h' : @DIn ⟨p'⟩ M M' p' v' d') : Two m0 M' p v d p' v' d' := by
  have ho := @DIn.old ⟨p'⟩ _ _ _ _ _ h'
  have hm := (@DIn.old ⟨p⟩ _ _ _ _ _ h).1
  have hap := @DIn.ap ⟨p'⟩ _ _ _ _ _ h'
  have hown := @DIn.own ⟨p'⟩ _ _ _ _ _ h'
  have hl := @DAt.lt ⟨p⟩ _ _ _ _ (@DIn.here ⟨p⟩ _ _ _ _ _ h)
  have hf := @DAt.files ⟨p⟩ _ _ _ _ (@DIn.here ⟨p⟩ _ _ _ _ _ h)
  refine ⟨@DIn.keep ⟨p⟩ _ _ _ _ _ _ h ho, @DIn.mk ⟨p'⟩ _ _ _ _ _ (@DIn.here ⟨p'⟩ _ _ _ _ _ h') ((@DIn.old ⟨p⟩ _ _ _ _ _ h).trans ho) (Nat.le_trans hm hap) (fun x hx => Nat.le_trans hm (hown x hx)), by omega, fun x h1 h2 => ?_⟩
  have := @own_lt ⟨p⟩ _ _ _ hf x h1
  have := hown x h2
  omega

theorem lawTwins (m : AMem) (q : Int) (hq : -9223372036854775808 ≤ q ∧ q ≤ 9223372036854775807) (a1 : Option Addr) (cap1 : Nat) (l1 : List ActR) (hl1 : ActsV m a1 l1) (h1_64 : l1.length ≤ 9223372036854775807)
    (a2 : Option Addr) (cap2 : Nat) (l2 : List ActR) (hl2 : ActsV m a2 l2) (h2_64 : l2.length ≤ 9223372036854775807) (a3 : Option Addr) (cap3 : Nat) (l3 : List ActR) (hl3 : ActsV m a3 l3) (h3_64 : l3.length ≤ 9223372036854775807) :
    PureC Try.prog 0 8 [.int .i64 q, .slice a1 l1.length cap1, .slice a2 l2.length cap2, .slice a3 l3.length cap3] m (.bool true) := by
  refine pure_of_W (fn := Try.f8) rfl rfl F8_ok (by simp [F8]) (.bool _) ?_
  letI : Ex := ⟨m.size⟩
  have kW := DetC.known (works_ok (mx m []))
  have kF1 := DetC.known (few_ok (mx m []) a1 cap1 l1 (hl1.old (Old.here _ _)) h1_64)
  have kF2 := DetC.known (few_ok (mx m []) a2 cap2 l2 (hl2.old (Old.here _ _)) h2_64)
  have kF3 := DetC.known (few_ok (mx m []) a3 cap3 l3 (hl3.old (Old.here _ _)) h3_64)
  cases hfew1 : fewB l1 with
  | false =>
    rw [hfew1] at kF1
    repeat first | simp (implicitDefEqProofs := false) (maxSteps := 1000000) (disch := first | omega | with_reducible assumption | (simp only [lenT, Nat.reduceAdd]; omega)) only [amT, cut, bnd, Nat.reduceBEq, reduceCtorEq, Nat.reduceEqDiff, Nat.reduceAdd, Nat.reduceMul, Nat.reduceSub, Int.reduceToNat, Int.reduceEq, Int.reduceLT, Int.reduceLE, Int.reduceAdd, Int.reduceSub, Int.reduceMul, reduceIte, resVs, resV, packV, initT, addr, F8, kF1, kW] | refine OrW.go ?_
  | true =>
  cases hfew2 : fewB l2 with
  | false =>
    rw [hfew1] at kF1; rw [hfew2] at kF2
    repeat first | simp (implicitDefEqProofs := false) (maxSteps := 1000000) (disch := first | omega | with_reducible assumption | (simp only [lenT, Nat.reduceAdd]; omega)) only [amT, cut, bnd, Nat.reduceBEq, reduceCtorEq, Nat.reduceEqDiff, Nat.reduceAdd, Nat.reduceMul, Nat.reduceSub, Int.reduceToNat, Int.reduceEq, Int.reduceLT, Int.reduceLE, Int.reduceAdd, Int.reduceSub, Int.reduceMul, reduceIte, resVs, resV, packV, initT, addr, F8, kF1, kF2, kW] | refine OrW.go ?_
  | true =>
  cases hfew3 : fewB l3 with
  | false =>
    rw [hfew1] at kF1; rw [hfew2] at kF2; rw [hfew3] at kF3
    repeat first | simp (implicitDefEqProofs := false) (maxSteps := 1000000) (disch := first | omega | with_reducible assumption | (simp only [lenT, Nat.reduceAdd]; omega)) only [amT, cut, bnd, Nat.reduceBEq, reduceCtorEq, Nat.reduceEqDiff, Nat.reduceAdd, Nat.reduceMul, Nat.reduceSub, Int.reduceToNat, Int.reduceEq, Int.reduceLT, Int.reduceLE, Int.reduceAdd, Int.reduceSub, Int.reduceMul, reduceIte, resVs, resV, packV, initT, addr, F8, kF1, kF2, kF3, kW] | refine OrW.go ?_
  | true =>
    rw [hfew1] at kF1; rw [hfew2] at kF2; rw [hfew3] at kF3
    obtain ⟨hl1_50, hsm1⟩ := few_all hfew1
    obtain ⟨hl2_50, hsm2⟩ := few_all hfew2
    obtain ⟨hl3_50, hsm3⟩ := few_all hfew3
    have k11 := DetC.known (new_ok (mx m []) q)
    rw [mx_nil_size, mx_mx, List.nil_append] at k11
    have h0 := DIn.new (Old.refl m) (Nat.le_refl _) q
    have b0 : Bud (newR q) 0 := Bud.new hq.2
    repeat first | simp (implicitDefEqProofs := false) (maxSteps := 1000000) (disch := first | omega | with_reducible assumption | (simp only [lenT, Nat.reduceAdd]; omega)) only [amT, cut, bnd, Nat.reduceBEq, reduceCtorEq, Nat.reduceEqDiff, Nat.reduceAdd, Nat.reduceMul, Nat.reduceSub, Int.reduceToNat, Int.reduceEq, Int.reduceLT, Int.reduceLE, Int.reduceAdd, Int.reduceSub, Int.reduceMul, reduceIte, resVs, resV, packV, initT, addr, F8, kF1, kF2, kF3, k11] | refine OrW.go ?_
    refine W_loop (fun N qs => ∃ (i : Nat) (M : AMem) (v : Value) (d : DiskR), N = l1.length - i ∧ qs.ds = [] ∧ qs.m = mx M [] ∧ qs.t 1 = .slice a1 l1.length cap1 ∧ qs.t 2 = .slice a2 l2.length cap2 ∧ qs.t 3 = .slice a3 l3.length cap3 ∧ qs.t 9 = .pointer (some ⟨m.size, 0, none⟩) ∧ qs.t 10 = .int .i64 i ∧ i ≤ l1.length ∧ DIn m M m.size v d ∧ Bud d i) (l1.length - (0)) ⟨0, mx m [.cells ((newR q).cells (.slice none 0 0)) 60 true .exact], .slice none 0 0, newR q, rfl, rfl, ?qm, ?q1, ?q2, ?q3, ?q9, ?q10, ?_⟩ ?_
    case qm | q1 | q2 | q3 | q9 | q10 => first | rfl | (simp (implicitDefEqProofs := false) (maxSteps := 1000000) (disch := first | omega | with_reducible assumption | (simp only [lenT, Nat.reduceAdd]; omega)) only [amT, cut, bnd, Nat.reduceBEq, reduceCtorEq, Nat.reduceEqDiff, Nat.reduceAdd, Nat.reduceMul, Nat.reduceSub, Int.reduceToNat, Int.reduceEq, Int.reduceLT, Int.reduceLE, Int.reduceAdd, Int.reduceSub, Int.reduceMul, reduceIte, resVs, resV, packV, initT, addr, mx_mx, List.append_nil]; first | done | rfl | (congr 1; omega))
    · exact ⟨by omega, h0, b0⟩
    · rintro N t m1 ds ⟨i, M, v, d, rfl, hds, hm, t1, t2, t3, t9, t10, hp⟩
      simp only at hds hm t1 t2 t3 t9 t10
      subst hds; replace hm := hm.symm; subst hm
      obtain ⟨hi, hI, hB⟩ := hp
      by_cases hil : (i : Int) < (l1.length : Int)
      · have hil' : i < l1.length := by omega
        obtain ⟨b, o, ka, kc, rfl, hb, hr, hA, hok⟩ := hl1 i hil'
        have hxs := small_b (hsm1 _ (List.getElem_mem hil'))
        have hb1 : b < M.size := Nat.lt_of_lt_of_le hb hI.old.1
        have hr1 : rdO (M.get b) (o + i * 6) 6 = some (actRow l1[i] ka kc) := by rw [hI.old.2 b hb]; exact hr
        have hdo := does_ok m (mx M []) m.size v d (hI.mx []) i hB (by omega) l1[i] hok ka kc hA (by omega)
        have hB2 := hB.does l1[i] hok (by omega)
        generalize doesR d l1[i] = R at hB2 hdo
        repeat first | simp (implicitDefEqProofs := false) (maxSteps := 1000000) (disch := first | omega | with_reducible assumption | (simp only [lenT, Nat.reduceAdd]; omega)) only [amT, cut, bnd, Nat.reduceBEq, reduceCtorEq, Nat.reduceEqDiff, Nat.reduceAdd, Nat.reduceMul, Nat.reduceSub, Int.reduceToNat, Int.reduceEq, Int.reduceLT, Int.reduceLE, Int.reduceAdd, Int.reduceSub, Int.reduceMul, reduceIte, resVs, resV, packV, initT, addr, F8_l0, t1, t2, t3, t9, t10, hil, hr1] | refine OrW.go ?_
        refine RelC.call hdo ?_
        rintro r M2 ⟨rfl, v2, hI2, -⟩
        repeat first | simp (implicitDefEqProofs := false) (maxSteps := 1000000) (disch := first | omega | with_reducible assumption | (simp only [lenT, Nat.reduceAdd]; omega)) only [amT, cut, bnd, Nat.reduceBEq, reduceCtorEq, Nat.reduceEqDiff, Nat.reduceAdd, Nat.reduceMul, Nat.reduceSub, Int.reduceToNat, Int.reduceEq, Int.reduceLT, Int.reduceLE, Int.reduceAdd, Int.reduceSub, Int.reduceMul, reduceIte, resVs, resV, packV, initT, addr, t1, t2, t3, t9, t10] | refine OrW.go ?_
        rw [LoopK_normal]; refine ⟨_, ?_, i + 1, M2, v2, R.2, rfl, rfl, ?qm, ?q1, ?q2, ?q3, ?q9, ?q10, ?_⟩
        case qm | q1 | q2 | q3 | q9 | q10 => first | rfl | (simp (implicitDefEqProofs := false) (maxSteps := 1000000) (disch := first | omega | with_reducible assumption | (simp only [lenT, Nat.reduceAdd]; omega)) only [amT, cut, bnd, Nat.reduceBEq, reduceCtorEq, Nat.reduceEqDiff, Nat.reduceAdd, Nat.reduceMul, Nat.reduceSub, Int.reduceToNat, Int.reduceEq, Int.reduceLT, Int.reduceLE, Int.reduceAdd, Int.reduceSub, Int.reduceMul, reduceIte, resVs, resV, packV, initT, addr, t1, t2, t3, t9, t10]; first | done | rfl | (congr 1; omega))
        · omega
        · exact ⟨by omega, hI2, hB2⟩
      · have hc1 := copy_in (hI.mx []) hB (by omega)
        repeat first | simp (implicitDefEqProofs := false) (maxSteps := 1000000) (disch := first | omega | with_reducible assumption | (simp only [lenT, Nat.reduceAdd]; omega)) only [amT, cut, bnd, Nat.reduceBEq, reduceCtorEq, Nat.reduceEqDiff, Nat.reduceAdd, Nat.reduceMul, Nat.reduceSub, Int.reduceToNat, Int.reduceEq, Int.reduceLT, Int.reduceLE, Int.reduceAdd, Int.reduceSub, Int.reduceMul, reduceIte, resVs, resV, packV, initT, addr, F8_l0, t1, t2, t3, t9, t10, hil] | refine OrW.go ?_
        refine RelC.call hc1 ?_
        rintro r Mx ⟨px, vx, rfl, hx⟩
        have hT := Two.make (hI.mx []) hx
        have hc2 := copy_in (@DIn.mx ⟨m.size⟩ _ _ _ _ _ hT.a []) hB (by omega)
        repeat first | simp (implicitDefEqProofs := false) (maxSteps := 1000000) (disch := first | omega | with_reducible assumption | (simp only [lenT, Nat.reduceAdd]; omega)) only [amT, cut, bnd, Nat.reduceBEq, reduceCtorEq, Nat.reduceEqDiff, Nat.reduceAdd, Nat.reduceMul, Nat.reduceSub, Int.reduceToNat, Int.reduceEq, Int.reduceLT, Int.reduceLE, Int.reduceAdd, Int.reduceSub, Int.reduceMul, reduceIte, resVs, resV, packV, initT, addr, t1, t2, t3, t9, t10] | refine OrW.go ?_
        refine RelC.call hc2 ?_
        rintro r My ⟨py, vy, rfl, hy⟩
        have hTy := (hT.old (Old.here Mx [])).old (@DIn.old ⟨py⟩ _ _ _ _ _ hy)
        have hdB : Bud d 50 := hB.up (by omega)
        have hOx : Old m (mx Mx []) := (@DIn.old ⟨m.size⟩ _ _ _ _ _ hT.a).mx []
        repeat first | simp (implicitDefEqProofs := false) (maxSteps := 1000000) (disch := first | omega | with_reducible assumption | (simp only [lenT, Nat.reduceAdd]; omega)) only [amT, cut, bnd, Nat.reduceBEq, reduceCtorEq, Nat.reduceEqDiff, Nat.reduceAdd, Nat.reduceMul, Nat.reduceSub, Int.reduceToNat, Int.reduceEq, Int.reduceLT, Int.reduceLE, Int.reduceAdd, Int.reduceSub, Int.reduceMul, reduceIte, resVs, resV, packV, initT, addr, t1, t2, t3, t9, t10, eqV_pn] | refine OrW.go ?_
        refine W_loop (fun N qs => ∃ (j : Nat) (M3 : AMem) (v3 : Value) (d3 : DiskR), N = l3.length - j ∧ qs.ds = [] ∧ qs.m = mx M3 [] ∧ qs.t 2 = .slice a2 l2.length cap2 ∧ qs.t 3 = .slice a3 l3.length cap3 ∧ qs.t 9 = .pointer (some ⟨m.size, 0, none⟩) ∧ qs.t 11 = .pointer (some ⟨px, 0, none⟩) ∧ qs.t 12 = .pointer (some ⟨py, 0, none⟩) ∧ qs.t 13 = .int .i64 j ∧ j ≤ l3.length ∧ @DIn ⟨py⟩ (mx Mx []) M3 py v3 d3 ∧ Bud d3 (50 + j)) (l3.length - (0)) ⟨0, My, vy, d, rfl, rfl, ?qm, ?q2, ?q3, ?q9, ?q11, ?q12, ?q13, ?_⟩ ?_
        case qm | q2 | q3 | q9 | q11 | q12 | q13 => first | rfl | (simp (implicitDefEqProofs := false) (maxSteps := 1000000) (disch := first | omega | with_reducible assumption | (simp only [lenT, Nat.reduceAdd]; omega)) only [amT, cut, bnd, Nat.reduceBEq, reduceCtorEq, Nat.reduceEqDiff, Nat.reduceAdd, Nat.reduceMul, Nat.reduceSub, Int.reduceToNat, Int.reduceEq, Int.reduceLT, Int.reduceLE, Int.reduceAdd, Int.reduceSub, Int.reduceMul, reduceIte, resVs, resV, packV, initT, addr, t1, t2, t3, t9, t10]; first | done | rfl | (congr 1; omega))
        · exact ⟨by omega, hy, hdB⟩
        · rintro N t m1 ds ⟨j, M3, v3, d3, rfl, hds, hm, t2, t3, t9, t11, t12, t13, hp⟩
          simp only at hds hm t2 t3 t9 t11 t12 t13
          subst hds; replace hm := hm.symm; subst hm
          obtain ⟨hj, hJ, hBj⟩ := hp
          by_cases hjl : (j : Int) < (l3.length : Int)
          · have hjl' : j < l3.length := by omega
            obtain ⟨b, o, ka, kc, rfl, hb, hr, hA, hok⟩ := hl3 j hjl'
            have hxs := small_b (hsm3 _ (List.getElem_mem hjl'))
            have hOj := hOx.trans (@DIn.old ⟨py⟩ _ _ _ _ _ hJ)
            have hb1 : b < M3.size := Nat.lt_of_lt_of_le hb hOj.1
            have hr1 : rdO (M3.get b) (o + j * 6) 6 = some (actRow l3[j] ka kc) := by rw [hOj.2 b hb]; exact hr
            have hdo := does_ok (mx Mx []) (mx M3 []) py v3 d3 (@DIn.mx ⟨py⟩ _ _ _ _ _ hJ []) (50 + j) hBj (by omega) l3[j] hok ka kc (hA.old hOx) (by omega)
            have hB2 := hBj.does l3[j] hok (by omega)
            generalize doesR d3 l3[j] = R at hB2 hdo
            repeat first | simp (implicitDefEqProofs := false) (maxSteps := 1000000) (disch := first | omega | with_reducible assumption | (simp only [lenT, Nat.reduceAdd]; omega)) only [amT, cut, bnd, Nat.reduceBEq, reduceCtorEq, Nat.reduceEqDiff, Nat.reduceAdd, Nat.reduceMul, Nat.reduceSub, Int.reduceToNat, Int.reduceEq, Int.reduceLT, Int.reduceLE, Int.reduceAdd, Int.reduceSub, Int.reduceMul, reduceIte, resVs, resV, packV, initT, addr, F8_l1, t2, t3, t9, t11, t12, t13, hjl, hr1] | refine OrW.go ?_
            refine RelC.call hdo ?_
            rintro r M4 ⟨rfl, v4, hI4, -⟩
            repeat first | simp (implicitDefEqProofs := false) (maxSteps := 1000000) (disch := first | omega | with_reducible assumption | (simp only [lenT, Nat.reduceAdd]; omega)) only [amT, cut, bnd, Nat.reduceBEq, reduceCtorEq, Nat.reduceEqDiff, Nat.reduceAdd, Nat.reduceMul, Nat.reduceSub, Int.reduceToNat, Int.reduceEq, Int.reduceLT, Int.reduceLE, Int.reduceAdd, Int.reduceSub, Int.reduceMul, reduceIte, resVs, resV, packV, initT, addr, t2, t3, t9, t11, t12, t13] | refine OrW.go ?_
            rw [LoopK_normal]; refine ⟨_, ?_, j + 1, M4, v4, R.2, rfl, rfl, ?qm, ?q2, ?q3, ?q9, ?q11, ?q12, ?q13, ?_⟩
            case qm | q2 | q3 | q9 | q11 | q12 | q13 => first | rfl | (simp (implicitDefEqProofs := false) (maxSteps := 1000000) (disch := first | omega | with_reducible assumption | (simp only [lenT, Nat.reduceAdd]; omega)) only [amT, cut, bnd, Nat.reduceBEq, reduceCtorEq, Nat.reduceEqDiff, Nat.reduceAdd, Nat.reduceMul, Nat.reduceSub, Int.reduceToNat, Int.reduceEq, Int.reduceLT, Int.reduceLE, Int.reduceAdd, Int.reduceSub, Int.reduceMul, reduceIte, resVs, resV, packV, initT, addr, t2, t3, t9, t11, t12, t13]; first | done | rfl | (congr 1; omega))
            · omega
            · exact ⟨by omega, hI4, hB2⟩
          · have hT2 := (hT.old (Old.here Mx [])).old (@DIn.old ⟨py⟩ _ _ _ _ _ hJ)
            repeat first | simp (implicitDefEqProofs := false) (maxSteps := 1000000) (disch := first | omega | with_reducible assumption | (simp only [lenT, Nat.reduceAdd]; omega)) only [amT, cut, bnd, Nat.reduceBEq, reduceCtorEq, Nat.reduceEqDiff, Nat.reduceAdd, Nat.reduceMul, Nat.reduceSub, Int.reduceToNat, Int.reduceEq, Int.reduceLT, Int.reduceLE, Int.reduceAdd, Int.reduceSub, Int.reduceMul, reduceIte, resVs, resV, packV, initT, addr, F8_l1, t2, t3, t9, t11, t12, t13, hjl] | refine OrW.go ?_
            refine W_loop (fun N qs => ∃ (n : Nat) (M5 : AMem) (v5 : Value) (v6 : Value) (d5 : DiskR), N = l2.length - n ∧ qs.ds = [] ∧ qs.m = mx M5 [] ∧ qs.t 2 = .slice a2 l2.length cap2 ∧ qs.t 9 = .pointer (some ⟨m.size, 0, none⟩) ∧ qs.t 11 = .pointer (some ⟨px, 0, none⟩) ∧ qs.t 14 = .int .i64 n ∧ n ≤ l2.length ∧ Two m M5 m.size v5 d5 px v6 d5 ∧ Bud d5 (50 + n)) (l2.length - (0)) ⟨0, M3, v, vx, d, rfl, rfl, ?qm, ?q2, ?q9, ?q11, ?q14, ?_⟩ ?_
            case qm | q2 | q9 | q11 | q14 => first | rfl | (simp (implicitDefEqProofs := false) (maxSteps := 1000000) (disch := first | omega | with_reducible assumption | (simp only [lenT, Nat.reduceAdd]; omega)) only [amT, cut, bnd, Nat.reduceBEq, reduceCtorEq, Nat.reduceEqDiff, Nat.reduceAdd, Nat.reduceMul, Nat.reduceSub, Int.reduceToNat, Int.reduceEq, Int.reduceLT, Int.reduceLE, Int.reduceAdd, Int.reduceSub, Int.reduceMul, reduceIte, resVs, resV, packV, initT, addr, t2, t3, t9, t11, t12, t13]; first | done | rfl | (congr 1; omega))
            · exact ⟨by omega, hT2, hdB⟩
            · rintro N t m1 ds ⟨n, M5, v5, v6, d5, rfl, hds, hm, t2, t9, t11, t14, hp⟩
              simp only at hds hm t2 t9 t11 t14
              subst hds; replace hm := hm.symm; subst hm
              obtain ⟨hn, hW, hBn⟩ := hp
              by_cases hnl : (n : Int) < (l2.length : Int)
              · have hnl' : n < l2.length := by omega
                obtain ⟨b, o, ka, kc, rfl, hb, hr, hA, hok⟩ := hl2 n hnl'
                have hxs := small_b (hsm2 _ (List.getElem_mem hnl'))
                have hOn := @DIn.old ⟨m.size⟩ _ _ _ _ _ hW.a
                have hb1 : b < M5.size := Nat.lt_of_lt_of_le hb hOn.1
                have hr1 : rdO (M5.get b) (o + n * 6) 6 = some (actRow l2[n] ka kc) := by rw [hOn.2 b hb]; exact hr
                have hW0 := hW.old (Old.here M5 [])
                have hdo := does_ok m (mx M5 []) m.size v5 d5 hW0.a (50 + n) hBn (by omega) l2[n] hok ka kc hA (by omega)
                have hdo2 := fun (M : AMem) (v : Value) (h : @DIn ⟨px⟩ m M px v d5) => does_ok m M px v d5 h (50 + n) hBn (by omega) l2[n] hok ka kc hA (by omega)
                have hB2 := hBn.does l2[n] hok (by omega)
                generalize doesR d5 l2[n] = R at hB2 hdo hdo2
                repeat first | simp (implicitDefEqProofs := false) (maxSteps := 1000000) (disch := first | omega | with_reducible assumption | (simp only [lenT, Nat.reduceAdd]; omega)) only [amT, cut, bnd, Nat.reduceBEq, reduceCtorEq, Nat.reduceEqDiff, Nat.reduceAdd, Nat.reduceMul, Nat.reduceSub, Int.reduceToNat, Int.reduceEq, Int.reduceLT, Int.reduceLE, Int.reduceAdd, Int.reduceSub, Int.reduceMul, reduceIte, resVs, resV, packV, initT, addr, F8_l2, t2, t9, t11, t14, hnl, hr1] | refine OrW.go ?_
                refine RelC.call hdo ?_
                rintro r M6 ⟨rfl, v7, hI6, hst6⟩
                have hW1 := (hW0.left hI6 hst6).old (Old.here M6 [])
                have hO6 := @DIn.old ⟨m.size⟩ _ _ _ _ _ hI6
                have hb2 : b < M6.size := Nat.lt_of_lt_of_le hb hO6.1
                have hr2 : rdO (M6.get b) (o + n * 6) 6 = some (actRow l2[n] ka kc) := by rw [hO6.2 b hb]; exact hr
                repeat first | simp (implicitDefEqProofs := false) (maxSteps := 1000000) (disch := first | omega | with_reducible assumption | (simp only [lenT, Nat.reduceAdd]; omega)) only [amT, cut, bnd, Nat.reduceBEq, reduceCtorEq, Nat.reduceEqDiff, Nat.reduceAdd, Nat.reduceMul, Nat.reduceSub, Int.reduceToNat, Int.reduceEq, Int.reduceLT, Int.reduceLE, Int.reduceAdd, Int.reduceSub, Int.reduceMul, reduceIte, resVs, resV, packV, initT, addr, t2, t9, t11, t14, hr2] | refine OrW.go ?_
                refine RelC.call (hdo2 _ _ hW1.b) ?_
                rintro r M7 ⟨rfl, v8, hI7, hst7⟩
                have hW2 := ((hW1.symm.left hI7 hst7).symm).old (Old.here M7 [])
                have hA7 := @DIn.here ⟨m.size⟩ _ _ _ _ _ hW2.a
                have hB7 := @DIn.here ⟨px⟩ _ _ _ _ _ hW2.b
                have kua := DetC.known (@used_in ⟨m.size⟩ _ _ _ _ _ _ hW2.a hB2 (by omega))
                have kub := DetC.known (@used_in ⟨px⟩ _ _ _ _ _ _ hW2.b hB2 (by omega))
                have ksa := DetC.known (steps_ok (mx M7 []) m.size (@DAt.lt ⟨m.size⟩ _ _ _ _ hA7) (@DAt.get ⟨m.size⟩ _ _ _ _ hA7))
                have ksb := DetC.known (steps_ok (mx M7 []) px (@DAt.lt ⟨px⟩ _ _ _ _ hB7) (@DAt.get ⟨px⟩ _ _ _ _ hB7))
                have koa := DetC.known (off_ok (mx M7 []) m.size (@DAt.lt ⟨m.size⟩ _ _ _ _ hA7) (@DAt.get ⟨m.size⟩ _ _ _ _ hA7))
                have kob := DetC.known (off_ok (mx M7 []) px (@DAt.lt ⟨px⟩ _ _ _ _ hB7) (@DAt.get ⟨px⟩ _ _ _ _ hB7))
                have hNa := @names_in ⟨m.size⟩ _ _ _ _ _ _ hW2.a hB2 (by omega)
                repeat first | simp (implicitDefEqProofs := false) (maxSteps := 1000000) (disch := first | omega | with_reducible assumption | (simp only [lenT, Nat.reduceAdd]; omega)) only [amT, cut, bnd, Nat.reduceBEq, reduceCtorEq, Nat.reduceEqDiff, Nat.reduceAdd, Nat.reduceMul, Nat.reduceSub, Int.reduceToNat, Int.reduceEq, Int.reduceLT, Int.reduceLE, Int.reduceAdd, Int.reduceSub, Int.reduceMul, reduceIte, resVs, resV, packV, initT, addr, t2, t9, t11, t14, kua, kub, ksa, ksb, koa, kob] | refine OrW.go ?_
                refine RelC.call hNa ?_
                rintro r M8 ⟨hO8, hS8⟩
                obtain ⟨an, cn, rfl⟩ := hS8.len
                have hW3 := (hW2.old hO8).old (Old.here M8 [])
                have hNb := @names_in ⟨px⟩ _ _ _ _ _ _ hW3.b hB2 (by omega)
                repeat first | simp (implicitDefEqProofs := false) (maxSteps := 1000000) (disch := first | omega | with_reducible assumption | (simp only [lenT, Nat.reduceAdd]; omega)) only [amT, cut, bnd, Nat.reduceBEq, reduceCtorEq, Nat.reduceEqDiff, Nat.reduceAdd, Nat.reduceMul, Nat.reduceSub, Int.reduceToNat, Int.reduceEq, Int.reduceLT, Int.reduceLE, Int.reduceAdd, Int.reduceSub, Int.reduceMul, reduceIte, resVs, resV, packV, initT, addr, t2, t9, t11, t14] | refine OrW.go ?_
                refine RelC.call hNb ?_
                rintro r M9 ⟨hO9, hS9⟩
                obtain ⟨an9, cn9, rfl⟩ := hS9.len
                have hW4 := hW3.old hO9
                repeat first | simp (implicitDefEqProofs := false) (maxSteps := 1000000) (disch := first | omega | with_reducible assumption | (simp only [lenT, Nat.reduceAdd]; omega)) only [amT, cut, bnd, Nat.reduceBEq, reduceCtorEq, Nat.reduceEqDiff, Nat.reduceAdd, Nat.reduceMul, Nat.reduceSub, Int.reduceToNat, Int.reduceEq, Int.reduceLT, Int.reduceLE, Int.reduceAdd, Int.reduceSub, Int.reduceMul, reduceIte, resVs, resV, packV, initT, addr, t2, t9, t11, t14] | refine OrW.go ?_
                rw [LoopK_normal]; refine ⟨_, ?_, n + 1, M9, v7, v8, R.2, rfl, rfl, ?qm, ?q2, ?q9, ?q11, ?q14, ?_⟩
                case qm | q2 | q9 | q11 | q14 => first | rfl | (simp (implicitDefEqProofs := false) (maxSteps := 1000000) (disch := first | omega | with_reducible assumption | (simp only [lenT, Nat.reduceAdd]; omega)) only [amT, cut, bnd, Nat.reduceBEq, reduceCtorEq, Nat.reduceEqDiff, Nat.reduceAdd, Nat.reduceMul, Nat.reduceSub, Int.reduceToNat, Int.reduceEq, Int.reduceLT, Int.reduceLE, Int.reduceAdd, Int.reduceSub, Int.reduceMul, reduceIte, resVs, resV, packV, initT, addr, t2, t9, t11, t14]; first | done | rfl | (congr 1; omega))
                · omega
                · exact ⟨by omega, hW4, hB2⟩
              · have hOn := @DIn.old ⟨m.size⟩ _ _ _ _ _ hW.a
                have kWn := DetC.known (works_ok (mx M5 []))
                repeat first | simp (implicitDefEqProofs := false) (maxSteps := 1000000) (disch := first | omega | with_reducible assumption | (simp only [lenT, Nat.reduceAdd]; omega)) only [amT, cut, bnd, Nat.reduceBEq, reduceCtorEq, Nat.reduceEqDiff, Nat.reduceAdd, Nat.reduceMul, Nat.reduceSub, Int.reduceToNat, Int.reduceEq, Int.reduceLT, Int.reduceLE, Int.reduceAdd, Int.reduceSub, Int.reduceMul, reduceIte, resVs, resV, packV, initT, addr, F8_l2, t2, t9, t11, t14, hnl, kWn] | refine OrW.go ?_
                exact hOn.mx []
end Go.Proofs.Ytbmjhiifinjieaa
namespace Go.Proofs.Ytbmjhiifinjieaa
open Go Go.AM
set_option linter.unusedVariables false
set_option linter.unusedSimpArgs false
set_option linter.unusedSectionVars false
set_option maxHeartbeats 2000000
set_option maxRecDepth 100000

variable [Ex]
def own : List UInt8 := [111, 119, 110]
def ownF (dry wet : List UInt8) : FileR := ⟨own, dry, wet, true⟩
/-- The file is as it was; the power does not go. -/
structure Apart (d : DiskR) (dry wet : List UInt8) : Prop where
  file : getF d.files own = some (ownF dry wet)
  off : d.off = false
  set : d.set = -1
theorem step_on {d : DiskR} (h1 : d.off = false) (h2 : d.set = -1) : (DiskR.step d).off = false ∧ (DiskR.step d).set = -1 := by
  unfold DiskR.step; rw [if_neg (by omega)]; exact ⟨h1, by simp only [h2]; rfl⟩
theorem Apart.does {d : DiskR} {dry wet : List UInt8} (h : Apart d dry wet) (hS : Sorted d.files) (x : ActR) (h1 : x.name ≠ own) (h2 : x.to ≠ own) (h3 : x.act.tmod 10 ≤ 6) (h0 : 0 ≤ x.act) : Apart (doesR d x).2 dry wet := by
  obtain ⟨so, ss⟩ := step_on h.off h.set
  have hset : ¬ d.set = 0 := by rw [h.set]; omega
  have dr : ∀ (to : List UInt8) (L : List UInt8 → Option (List UInt8)), to ≠ own → Apart (driesR d x.name to L).2 dry wet := by
    intro to L hto
    unfold driesR
    split
    · split
      · rename_i hat
        split
        · exact h
        · refine ⟨?_, so, ss⟩
          show getF (layR (delR d.files x.name) _) own = _
          rw [get_lay, if_neg hto, get_del hS hat, if_neg h1]; exact h.file
      · exact h
    · exact h
  have hn0 := Int.tmod_nonneg 10 h0
  unfold doesR
  split
  · show Apart (appendR d x.name x.b).2 dry wet
    unfold appendR
    split
    · split
      · exact h
      · split
        · exact h
        · have st : ∀ fs : List FileR, DiskR.step { d with files := fs } = { d.step with files := fs } := fun fs => by unfold DiskR.step; split <;> rfl
          rw [st]
          refine ⟨?_, so, ss⟩
          show getF (layR d.files _) own = _
          rw [get_lay]
          simp only [fileOr_name]
          rw [if_neg h1]; exact h.file
    · exact h
  split; · exact dr _ _ h1
  split; · exact dr _ _ h1
  split; · exact dr _ _ h2
  split
  · show Apart (removeR d x.name).2 dry wet
    unfold removeR
    split
    · split
      · rename_i hat
        refine ⟨?_, so, ss⟩
        show getF (delR d.files x.name) own = _
        rw [get_del hS hat, if_neg h1]; exact h.file
      · exact h
    · exact h
  split; · exact h
  omega
theorem Apart.read {d : DiskR} {dry wet : List UInt8} (h : Apart d dry wet) (hS : Sorted d.files) : readR d own = (0, dry ++ wet) := by
  unfold readR
  rw [h.off, if_pos (by rfl)]
  have := (isAt_get hS own).1
  rw [h.file] at this
  rw [if_pos (by rw [this]; rfl), fileAt_get hS h.file]; rfl
/-- When the power has gone: a beginning, with all that is dry. -/
theorem Apart.on {d : DiskR} {dry wet : List UInt8} (h : Apart d dry wet) (hS : Sorted d.files) (keep : List Int) : ∃ n, n ≤ wet.length ∧ readR (onR (crashR d) keep) own = (0, (dry ++ wet).take (dry.length + n)) := by
  have e0 : (onR (crashR d) keep).files = onS keep 0 d.files := by simp only [onR, crashR, if_true, onS_eq]
  have eo : (onR (crashR d) keep).off = false := by simp [onR, crashR]
  obtain ⟨i, _, _, hi⟩ := get_onS (keep := keep) hS 0 own
  have hst := stays_le keep i wet.length
  refine ⟨staysR keep i wet.length, hst, ?_⟩
  rw [h.file] at hi
  have e1 : onFile keep i (ownF dry wet) = some ⟨own, dry ++ wet.take (staysR keep i wet.length), [], true⟩ := by simp [onFile, ownF]
  rw [Option.bind_some, e1] at hi
  have hS2 := hS.onS (keep := keep) 0
  unfold readR
  rw [eo, e0, if_pos (by rfl)]
  have := (isAt_get hS2 own).1
  rw [hi] at this
  rw [if_pos (by rw [this]; rfl), fileAt_get hS2 hi]
  simp only [FileR.all, List.append_nil]
  rw [List.take_length_add_append]
def ownD (dry wet : List UInt8) (s : Int) : DiskR := ⟨[ownF dry wet], 1048576, s, -1, false⟩
theorem v1 {o : List UInt8} (h : o.length ≤ 200) : appendR (newR 1048576) own o = (0, ⟨[⟨own, [], o, false⟩], 1048576, 1, -1, false⟩) := by
  have h1 : (fileOr (newR 1048576).files own).size = 0 := rfl
  have h2 : (newR 1048576).quota - usedR (newR 1048576).files = 1048576 := rfl
  unfold appendR
  rw [if_pos (by rfl), if_neg (by rw [h1]; omega), if_neg (by rw [h2]; omega)]; rfl
theorem v2 (o : List UInt8) : driesR ⟨[⟨own, [], o, false⟩], 1048576, 1, -1, false⟩ own own some = (0, ⟨[ownF o []], 1048576, 2, -1, false⟩) := by rfl
theorem v3 {o w : List UInt8} (ho : o.length ≤ 200) (hw : w.length ≤ 200) : appendR ⟨[ownF o []], 1048576, 2, -1, false⟩ own w = (0, ⟨[ownF o w], 1048576, 3, -1, false⟩) := by
  have h1 : (fileOr [ownF o []] own).size = o.length := by show o.length + 0 = _; rfl
  have h2 : usedR [ownF o []] = o.length := by simp [usedR, FileR.size, ownF]
  unfold appendR
  rw [if_pos (by rfl), if_neg (by simp only [h1]; omega), if_neg (by simp only [h2]; omega)]; rfl
end Go.Proofs.Ytbmjhiifinjieaa
namespace Go.Proofs.Ytbmjhiifinjieaa
open Go Go.AM
set_option linter.unusedVariables false
set_option linter.unusedSimpArgs false
set_option linter.unusedSectionVars false
set_option maxHeartbeats 2000000
set_option maxRecDepth 100000

theorem fill_act6 (z0 z1 z2 z3 z4 z5 : Value) (u : Int) (s t w : ByteArray) (n : Int) (ka : Option Addr) (l c : Nat) : splice [z0, z1, z2, z3, z4, z5] 0 [.int .u8 u, .string s, .string t, .string w, .int .i64 n, .slice ka l c] = [.int .u8 u, .string s, .string t, .string w, .int .i64 n, .slice ka l c] := rfl
theorem cutL6 (z0 z1 z2 z3 z4 z5 : Value) : cutL [z0, z1, z2, z3, z4, z5] 0 6 = some [z0, z1, z2, z3, z4, z5] := rfl
theorem own_eq (s : List UInt8) : strEq ⟨s.toArray⟩ ⟨#[111, 119, 110]⟩ = decide (s = own) := strEq_mk s own
theorem lawApart (m : AMem) (o w : List UInt8) (hol : o.length ≤ 9223372036854775807) (hwl : w.length ≤ 9223372036854775807) (a : Option Addr) (cap : Nat) (l : List ActR) (hl : ActsV m a l) (h64 : l.length ≤ 9223372036854775807)
    (kv : Value) (keep : List Int) (hk : IntV m kv keep) (hkl : keep.length ≤ 9223372036854775807) (hk64 : ∀ x ∈ keep, -9223372036854775808 ≤ x ∧ x ≤ 9223372036854775807) (hkb : ∀ b o n c, kv = .slice (some ⟨b, o, none⟩) n c → b < m.size) :
    PureC Try.prog 0 5 [.string ⟨o.toArray⟩, .string ⟨w.toArray⟩, .slice a l.length cap, kv] m (.bool true) := by
  refine pure_of_W (fn := Try.f5) rfl rfl F5_ok (by simp [F5]) (.bool _) ?_
  letI : Ex := ⟨m.size⟩
  have kW := DetC.known (works_ok (mx m []))
  have kF := DetC.known (few_ok (mx m []) a cap l (hl.old (Old.here _ _)) h64)
  cases hfew : fewB l with
  | false =>
    rw [hfew] at kF
    repeat first | simp (implicitDefEqProofs := false) (maxSteps := 1000000) (disch := first | omega | with_reducible assumption | (simp only [lenT, Nat.reduceAdd]; omega)) only [amT, cut, bnd, Nat.reduceBEq, reduceCtorEq, Nat.reduceEqDiff, Nat.reduceAdd, Nat.reduceMul, Nat.reduceSub, Int.reduceToNat, Int.reduceEq, Int.reduceLT, Int.reduceLE, Int.reduceAdd, Int.reduceSub, Int.reduceMul, reduceIte, resVs, resV, packV, initT, addr, F5, kF, kW] | refine OrW.go ?_
  | true =>
    rw [hfew] at kF
    obtain ⟨hl50, hsm⟩ := few_all hfew
    by_cases g1 : (200 : Int) < (o.length : Int)
    · repeat first | simp (implicitDefEqProofs := false) (maxSteps := 1000000) (disch := first | omega | with_reducible assumption | (simp only [lenT, Nat.reduceAdd]; omega)) only [amT, cut, bnd, Nat.reduceBEq, reduceCtorEq, Nat.reduceEqDiff, Nat.reduceAdd, Nat.reduceMul, Nat.reduceSub, Int.reduceToNat, Int.reduceEq, Int.reduceLT, Int.reduceLE, Int.reduceAdd, Int.reduceSub, Int.reduceMul, reduceIte, resVs, resV, packV, initT, addr, F5, kF, g1, kW] | refine OrW.go ?_
    by_cases g2 : (200 : Int) < (w.length : Int)
    · repeat first | simp (implicitDefEqProofs := false) (maxSteps := 1000000) (disch := first | omega | with_reducible assumption | (simp only [lenT, Nat.reduceAdd]; omega)) only [amT, cut, bnd, Nat.reduceBEq, reduceCtorEq, Nat.reduceEqDiff, Nat.reduceAdd, Nat.reduceMul, Nat.reduceSub, Int.reduceToNat, Int.reduceEq, Int.reduceLT, Int.reduceLE, Int.reduceAdd, Int.reduceSub, Int.reduceMul, reduceIte, resVs, resV, packV, initT, addr, F5, kF, g1, g2, kW] | refine OrW.go ?_
    have k11 := DetC.known (new_ok (mx m []) 1048576)
    rw [mx_nil_size, mx_mx, List.nil_append] at k11
    have b0 : Bud (newR 1048576) 0 := Bud.new (by omega)
    have h0 : DIn m (mx m ([.cells ((newR 1048576).cells (.slice none 0 0)) 60 true .exact] ++ [.cells (o.map byteV) 5 true (.room [.int .u8 0])])) m.size (.slice none 0 0) (newR 1048576) := by
      rw [← mx_mx]; exact (DIn.new (Old.refl m) (Nat.le_refl _) 1048576).mx _
    have b1 := b0.append own o (by omega)
    have h1 := append_in h0 b0 (by omega) own _ openCap o (by simp [own]) (bsl_room m _ 1 rfl rfl) (by omega)
    rw [v1 (by omega)] at h1 b1
    repeat first | simp (implicitDefEqProofs := false) (maxSteps := 1000000) (disch := first | omega | with_reducible assumption | (simp only [lenT, Nat.reduceAdd]; omega)) only [amT, cut, bnd, Nat.reduceBEq, reduceCtorEq, Nat.reduceEqDiff, Nat.reduceAdd, Nat.reduceMul, Nat.reduceSub, Int.reduceToNat, Int.reduceEq, Int.reduceLT, Int.reduceLE, Int.reduceAdd, Int.reduceSub, Int.reduceMul, reduceIte, resVs, resV, packV, initT, addr, F5, kF, g1, g2, k11] | refine OrW.go ?_
    refine RelC.call h1 ?_
    rintro r M1 ⟨rfl, v1', h1, -⟩
    have b2 := b1.dries own own some (fun c c' h => by cases h; exact Nat.le_refl _)
    have h2 := sync_in (h1.mx []) b1 (by omega) own (by simp [own])
    rw [v2] at h2 b2
    repeat first | simp (implicitDefEqProofs := false) (maxSteps := 1000000) (disch := first | omega | with_reducible assumption | (simp only [lenT, Nat.reduceAdd]; omega)) only [amT, cut, bnd, Nat.reduceBEq, reduceCtorEq, Nat.reduceEqDiff, Nat.reduceAdd, Nat.reduceMul, Nat.reduceSub, Int.reduceToNat, Int.reduceEq, Int.reduceLT, Int.reduceLE, Int.reduceAdd, Int.reduceSub, Int.reduceMul, reduceIte, resVs, resV, packV, initT, addr] | refine OrW.go ?_
    refine RelC.call h2 ?_
    rintro r M2 ⟨rfl, v2', h2, -⟩
    have b3 := b2.append own w (by omega)
    have h3 := append_in (h2.mx [.cells (w.map byteV) 5 true (.room [.int .u8 0])]) b2 (by omega) own _ openCap w (by simp [own]) (bsl_room M2 _ 0 rfl rfl) (by omega)
    rw [v3 (by omega) (by omega)] at h3 b3
    repeat first | simp (implicitDefEqProofs := false) (maxSteps := 1000000) (disch := first | omega | with_reducible assumption | (simp only [lenT, Nat.reduceAdd]; omega)) only [amT, cut, bnd, Nat.reduceBEq, reduceCtorEq, Nat.reduceEqDiff, Nat.reduceAdd, Nat.reduceMul, Nat.reduceSub, Int.reduceToNat, Int.reduceEq, Int.reduceLT, Int.reduceLE, Int.reduceAdd, Int.reduceSub, Int.reduceMul, reduceIte, resVs, resV, packV, initT, addr] | refine OrW.go ?_
    refine RelC.call h3 ?_
    rintro r M3 ⟨rfl, v3', h3, -⟩
    have ap : Apart ⟨[ownF o w], 1048576, 3, -1, false⟩ o w := ⟨rfl, rfl, rfl⟩
    repeat first | simp (implicitDefEqProofs := false) (maxSteps := 1000000) (disch := first | omega | with_reducible assumption | (simp only [lenT, Nat.reduceAdd]; omega)) only [amT, cut, bnd, Nat.reduceBEq, reduceCtorEq, Nat.reduceEqDiff, Nat.reduceAdd, Nat.reduceMul, Nat.reduceSub, Int.reduceToNat, Int.reduceEq, Int.reduceLT, Int.reduceLE, Int.reduceAdd, Int.reduceSub, Int.reduceMul, reduceIte, resVs, resV, packV, initT, addr] | refine OrW.go ?_
    refine W_loop (fun N qs => ∃ (i : Nat) (M : AMem) (v : Value) (d : DiskR), N = l.length - i ∧ qs.ds = [] ∧ qs.m = mx M [] ∧ qs.t 0 = .string ⟨o.toArray⟩ ∧ qs.t 1 = .string ⟨w.toArray⟩ ∧ qs.t 2 = .slice a l.length cap ∧ qs.t 3 = kv ∧ qs.t 9 = .pointer (some ⟨m.size, 0, none⟩) ∧ qs.t 10 = .int .i64 i ∧ i ≤ l.length ∧ DIn m M m.size v d ∧ Bud d (3 + i) ∧ Apart d o w) (l.length - (0)) ⟨0, M3, v3', (⟨[ownF o w], 1048576, 3, -1, false⟩ : DiskR), rfl, rfl, ?qm, ?q0, ?q1, ?q2, ?q3, ?q9, ?q10, ?_⟩ ?_
    case qm | q0 | q1 | q2 | q3 | q9 | q10 => first | rfl | (simp (implicitDefEqProofs := false) (maxSteps := 1000000) (disch := first | omega | with_reducible assumption | (simp only [lenT, Nat.reduceAdd]; omega)) only [amT, cut, bnd, Nat.reduceBEq, reduceCtorEq, Nat.reduceEqDiff, Nat.reduceAdd, Nat.reduceMul, Nat.reduceSub, Int.reduceToNat, Int.reduceEq, Int.reduceLT, Int.reduceLE, Int.reduceAdd, Int.reduceSub, Int.reduceMul, reduceIte, resVs, resV, packV, initT, addr]; first | done | rfl | (congr 1; omega))
    · exact ⟨by omega, h3, b3, ap⟩
    · rintro N t m1 ds ⟨i, M, v, d, rfl, hds, hm, t0, t1, t2, t3, t9, t10, hp⟩
      simp only at hds hm t0 t1 t2 t3 t9 t10
      subst hds; replace hm := hm.symm; subst hm
      obtain ⟨hi, hI, hB, hAp⟩ := hp
      by_cases hil : (i : Int) < (l.length : Int)
      · have hil' : i < l.length := by omega
        obtain ⟨b, of, ka, kc, rfl, hb, hr, hA, hok⟩ := hl i hil'
        have hxs := small_b (hsm _ (List.getElem_mem hil'))
        have hb1 : b < M.size := Nat.lt_of_lt_of_le hb hI.old.1
        have hr1 : rdO (M.get b) (of + i * 6) 6 = some (actRow l[i] ka kc) := by rw [hI.old.2 b hb]; exact hr
        simp only [actRow] at hr1
        have hn0 := Int.tmod_nonneg 10 hok.act.1
        by_cases c1 : l[i].name = own
        · have e1 : strEq ⟨l[i].name.toArray⟩ ⟨#[111, 119, 110]⟩ = true := by rw [own_eq, c1]; simp
          repeat first | simp (implicitDefEqProofs := false) (maxSteps := 1000000) (disch := first | omega | with_reducible assumption | (simp only [lenT, Nat.reduceAdd]; omega)) only [amT, cut, bnd, Nat.reduceBEq, reduceCtorEq, Nat.reduceEqDiff, Nat.reduceAdd, Nat.reduceMul, Nat.reduceSub, Int.reduceToNat, Int.reduceEq, Int.reduceLT, Int.reduceLE, Int.reduceAdd, Int.reduceSub, Int.reduceMul, reduceIte, resVs, resV, packV, initT, addr, F5_l0, t0, t1, t2, t3, t9, t10, hil, hr1, cellsOf6, fill_act6, cutL6, e1] | refine OrW.go ?_
          rw [LoopK_normal]; refine ⟨_, ?_, i + 1, mx M [.cells [.int .u8 l[i].act, .string ⟨l[i].name.toArray⟩, .string ⟨l[i].to.toArray⟩, .string ⟨l[i].b.toArray⟩, .int .i64 l[i].n, .slice ka l[i].keep.length kc] 44 true .exact], v, d, rfl, rfl, ?qm, ?q0, ?q1, ?q2, ?q3, ?q9, ?q10, ?_⟩
          case qm | q0 | q1 | q2 | q3 | q9 | q10 => first | rfl | (simp (implicitDefEqProofs := false) (maxSteps := 1000000) (disch := first | omega | with_reducible assumption | (simp only [lenT, Nat.reduceAdd]; omega)) only [amT, cut, bnd, Nat.reduceBEq, reduceCtorEq, Nat.reduceEqDiff, Nat.reduceAdd, Nat.reduceMul, Nat.reduceSub, Int.reduceToNat, Int.reduceEq, Int.reduceLT, Int.reduceLE, Int.reduceAdd, Int.reduceSub, Int.reduceMul, reduceIte, resVs, resV, packV, initT, addr, t0, t1, t2, t3, t9, t10, mx_mx, List.append_nil]; first | done | rfl | (congr 1; omega))
          · omega
          · exact ⟨by omega, hI.mx _, hB.up (by omega), hAp⟩
        have e1 : strEq ⟨l[i].name.toArray⟩ ⟨#[111, 119, 110]⟩ = false := by rw [own_eq]; simp [c1]
        by_cases c2 : l[i].to = own
        · have e2 : strEq ⟨l[i].to.toArray⟩ ⟨#[111, 119, 110]⟩ = true := by rw [own_eq, c2]; simp
          repeat first | simp (implicitDefEqProofs := false) (maxSteps := 1000000) (disch := first | omega | with_reducible assumption | (simp only [lenT, Nat.reduceAdd]; omega)) only [amT, cut, bnd, Nat.reduceBEq, reduceCtorEq, Nat.reduceEqDiff, Nat.reduceAdd, Nat.reduceMul, Nat.reduceSub, Int.reduceToNat, Int.reduceEq, Int.reduceLT, Int.reduceLE, Int.reduceAdd, Int.reduceSub, Int.reduceMul, reduceIte, resVs, resV, packV, initT, addr, F5_l0, t0, t1, t2, t3, t9, t10, hil, hr1, cellsOf6, fill_act6, cutL6, e1, e2] | refine OrW.go ?_
          rw [LoopK_normal]; refine ⟨_, ?_, i + 1, mx M [.cells [.int .u8 l[i].act, .string ⟨l[i].name.toArray⟩, .string ⟨l[i].to.toArray⟩, .string ⟨l[i].b.toArray⟩, .int .i64 l[i].n, .slice ka l[i].keep.length kc] 44 true .exact], v, d, rfl, rfl, ?qm, ?q0, ?q1, ?q2, ?q3, ?q9, ?q10, ?_⟩
          case qm | q0 | q1 | q2 | q3 | q9 | q10 => first | rfl | (simp (implicitDefEqProofs := false) (maxSteps := 1000000) (disch := first | omega | with_reducible assumption | (simp only [lenT, Nat.reduceAdd]; omega)) only [amT, cut, bnd, Nat.reduceBEq, reduceCtorEq, Nat.reduceEqDiff, Nat.reduceAdd, Nat.reduceMul, Nat.reduceSub, Int.reduceToNat, Int.reduceEq, Int.reduceLT, Int.reduceLE, Int.reduceAdd, Int.reduceSub, Int.reduceMul, reduceIte, resVs, resV, packV, initT, addr, t0, t1, t2, t3, t9, t10, mx_mx, List.append_nil]; first | done | rfl | (congr 1; omega))
          · omega
          · exact ⟨by omega, hI.mx _, hB.up (by omega), hAp⟩
        have e2 : strEq ⟨l[i].to.toArray⟩ ⟨#[111, 119, 110]⟩ = false := by rw [own_eq]; simp [c2]
        by_cases c3 : 6 < l[i].act.tmod 10
        · skip
          repeat first | simp (implicitDefEqProofs := false) (maxSteps := 1000000) (disch := first | omega | with_reducible assumption | (simp only [lenT, Nat.reduceAdd]; omega)) only [amT, cut, bnd, Nat.reduceBEq, reduceCtorEq, Nat.reduceEqDiff, Nat.reduceAdd, Nat.reduceMul, Nat.reduceSub, Int.reduceToNat, Int.reduceEq, Int.reduceLT, Int.reduceLE, Int.reduceAdd, Int.reduceSub, Int.reduceMul, reduceIte, resVs, resV, packV, initT, addr, F5_l0, t0, t1, t2, t3, t9, t10, hil, hr1, cellsOf6, fill_act6, cutL6, e1, e2, c3] | refine OrW.go ?_
          rw [LoopK_normal]; refine ⟨_, ?_, i + 1, mx M [.cells [.int .u8 l[i].act, .string ⟨l[i].name.toArray⟩, .string ⟨l[i].to.toArray⟩, .string ⟨l[i].b.toArray⟩, .int .i64 l[i].n, .slice ka l[i].keep.length kc] 44 true .exact], v, d, rfl, rfl, ?qm, ?q0, ?q1, ?q2, ?q3, ?q9, ?q10, ?_⟩
          case qm | q0 | q1 | q2 | q3 | q9 | q10 => first | rfl | (simp (implicitDefEqProofs := false) (maxSteps := 1000000) (disch := first | omega | with_reducible assumption | (simp only [lenT, Nat.reduceAdd]; omega)) only [amT, cut, bnd, Nat.reduceBEq, reduceCtorEq, Nat.reduceEqDiff, Nat.reduceAdd, Nat.reduceMul, Nat.reduceSub, Int.reduceToNat, Int.reduceEq, Int.reduceLT, Int.reduceLE, Int.reduceAdd, Int.reduceSub, Int.reduceMul, reduceIte, resVs, resV, packV, initT, addr, t0, t1, t2, t3, t9, t10, mx_mx, List.append_nil]; first | done | rfl | (congr 1; omega))
          · omega
          · exact ⟨by omega, hI.mx _, hB.up (by omega), hAp⟩
        have hdo := does_ok m (mx M [.cells [.int .u8 l[i].act, .string ⟨l[i].name.toArray⟩, .string ⟨l[i].to.toArray⟩, .string ⟨l[i].b.toArray⟩, .int .i64 l[i].n, .slice ka l[i].keep.length kc] 44 true .exact]) m.size v d (hI.mx _) (3 + i) hB (by omega) l[i] hok ka kc hA (by omega)
        have hB2 := hB.does l[i] hok (by omega)
        have hAp2 := hAp.does hB.sorted l[i] c1 c2 (by omega) hok.act.1
        generalize doesR d l[i] = R at hB2 hdo hAp2
        simp only [actRow] at hdo
        repeat first | simp (implicitDefEqProofs := false) (maxSteps := 1000000) (disch := first | omega | with_reducible assumption | (simp only [lenT, Nat.reduceAdd]; omega)) only [amT, cut, bnd, Nat.reduceBEq, reduceCtorEq, Nat.reduceEqDiff, Nat.reduceAdd, Nat.reduceMul, Nat.reduceSub, Int.reduceToNat, Int.reduceEq, Int.reduceLT, Int.reduceLE, Int.reduceAdd, Int.reduceSub, Int.reduceMul, reduceIte, resVs, resV, packV, initT, addr, F5_l0, t0, t1, t2, t3, t9, t10, hil, hr1, cellsOf6, fill_act6, cutL6, e1, e2, c3] | refine OrW.go ?_
        refine RelC.call hdo ?_
        rintro r M4 ⟨rfl, v4, h4, -⟩
        have hrd := read_in (h4.mx []) hB2 (by omega) own (by simp [own])
        rw [hAp2.read hB2.sorted] at hrd
        repeat first | simp (implicitDefEqProofs := false) (maxSteps := 1000000) (disch := first | omega | with_reducible assumption | (simp only [lenT, Nat.reduceAdd]; omega)) only [amT, cut, bnd, Nat.reduceBEq, reduceCtorEq, Nat.reduceEqDiff, Nat.reduceAdd, Nat.reduceMul, Nat.reduceSub, Int.reduceToNat, Int.reduceEq, Int.reduceLT, Int.reduceLE, Int.reduceAdd, Int.reduceSub, Int.reduceMul, reduceIte, resVs, resV, packV, initT, addr, t0, t1, t2, t3, t9, t10] | refine OrW.go ?_
        refine RelC.call hrd ?_
        rintro r M5 ⟨bb, rfl, h5, -, hBf⟩
        obtain ⟨ab, cb, rfl, hbs⟩ := hBf.bsl'
        have hstr := (hbs.old (Old.here M5 [])).str
        rw [List.length_append] at hstr
        repeat first | simp (implicitDefEqProofs := false) (maxSteps := 1000000) (disch := first | omega | with_reducible assumption | (simp only [lenT, Nat.reduceAdd]; omega)) only [amT, cut, bnd, Nat.reduceBEq, reduceCtorEq, Nat.reduceEqDiff, Nat.reduceAdd, Nat.reduceMul, Nat.reduceSub, Int.reduceToNat, Int.reduceEq, Int.reduceLT, Int.reduceLE, Int.reduceAdd, Int.reduceSub, Int.reduceMul, reduceIte, resVs, resV, packV, initT, addr, t0, t1, t2, t3, t9, t10, stepOp_b2s_v, hstr] | refine OrW.go ?_
        rw [LoopK_normal]; refine ⟨_, ?_, i + 1, M5, v4, R.2, rfl, rfl, ?qm, ?q0, ?q1, ?q2, ?q3, ?q9, ?q10, ?_⟩
        case qm | q0 | q1 | q2 | q3 | q9 | q10 => first | rfl | (simp (implicitDefEqProofs := false) (maxSteps := 1000000) (disch := first | omega | with_reducible assumption | (simp only [lenT, Nat.reduceAdd]; omega)) only [amT, cut, bnd, Nat.reduceBEq, reduceCtorEq, Nat.reduceEqDiff, Nat.reduceAdd, Nat.reduceMul, Nat.reduceSub, Int.reduceToNat, Int.reduceEq, Int.reduceLT, Int.reduceLE, Int.reduceAdd, Int.reduceSub, Int.reduceMul, reduceIte, resVs, resV, packV, initT, addr, t0, t1, t2, t3, t9, t10]; first | done | rfl | (congr 1; omega))
        · omega
        · exact ⟨by omega, h5, hB2.up (by omega), hAp2⟩
      · have hc := crash_in (hI.mx [])
        repeat first | simp (implicitDefEqProofs := false) (maxSteps := 1000000) (disch := first | omega | with_reducible assumption | (simp only [lenT, Nat.reduceAdd]; omega)) only [amT, cut, bnd, Nat.reduceBEq, reduceCtorEq, Nat.reduceEqDiff, Nat.reduceAdd, Nat.reduceMul, Nat.reduceSub, Int.reduceToNat, Int.reduceEq, Int.reduceLT, Int.reduceLE, Int.reduceAdd, Int.reduceSub, Int.reduceMul, reduceIte, resVs, resV, packV, initT, addr, F5_l0, t0, t1, t2, t3, t9, t10, hil] | refine OrW.go ?_
        refine RelC.call hc ?_
        rintro r M4 ⟨rfl, v4, h4, -⟩
        have ho := on_in (h4.mx []) hB.crash (by omega) kv keep (hk.old (h4.mx []).old) hkl hk64 (fun b o n c e => by have := hkb b o n c e; omega)
        repeat first | simp (implicitDefEqProofs := false) (maxSteps := 1000000) (disch := first | omega | with_reducible assumption | (simp only [lenT, Nat.reduceAdd]; omega)) only [amT, cut, bnd, Nat.reduceBEq, reduceCtorEq, Nat.reduceEqDiff, Nat.reduceAdd, Nat.reduceMul, Nat.reduceSub, Int.reduceToNat, Int.reduceEq, Int.reduceLT, Int.reduceLE, Int.reduceAdd, Int.reduceSub, Int.reduceMul, reduceIte, resVs, resV, packV, initT, addr, t0, t1, t2, t3, t9, t10] | refine OrW.go ?_
        refine RelC.call ho ?_
        rintro r M5 ⟨rfl, v5, h5, -⟩
        have b5 := hB.crash.on keep
        obtain ⟨n, hn, hread⟩ := hAp.on hB.sorted keep
        have hrd := read_in (h5.mx []) b5 (by omega) own (by simp [own])
        rw [hread] at hrd
        have q0 : o.length ≤ o.length + n := by omega
        have q00 : o.length + n ≤ o.length + w.length := by omega
        generalize o.length + n = N at *
        have q1 : (o.length : Int) ≤ (N : Int) := by omega
        have q2 : (N : Int) ≤ (o.length : Int) + (w.length : Int) := by omega
        repeat first | simp (implicitDefEqProofs := false) (maxSteps := 1000000) (disch := first | omega | with_reducible assumption | (simp only [lenT, Nat.reduceAdd]; omega)) only [amT, cut, bnd, Nat.reduceBEq, reduceCtorEq, Nat.reduceEqDiff, Nat.reduceAdd, Nat.reduceMul, Nat.reduceSub, Int.reduceToNat, Int.reduceEq, Int.reduceLT, Int.reduceLE, Int.reduceAdd, Int.reduceSub, Int.reduceMul, reduceIte, resVs, resV, packV, initT, addr, t0, t1, t2, t3, t9, t10] | refine OrW.go ?_
        refine RelC.call hrd ?_
        rintro r M6 ⟨bb, rfl, h6, -, hBf⟩
        obtain ⟨ab, cb, rfl, hbs⟩ := hBf.bsl'
        have hlenT : ((o ++ w).take N).length = N := by rw [List.length_take, List.length_append]; omega
        have hstr := (hbs.old (Old.here M6 [])).str
        simp only [hlenT] at hstr
        have kWn := DetC.known (works_ok (mx M6 []))
        repeat first | simp (implicitDefEqProofs := false) (maxSteps := 1000000) (disch := first | omega | with_reducible assumption | (simp only [lenT, Nat.reduceAdd]; omega)) only [amT, cut, bnd, Nat.reduceBEq, reduceCtorEq, Nat.reduceEqDiff, Nat.reduceAdd, Nat.reduceMul, Nat.reduceSub, Int.reduceToNat, Int.reduceEq, Int.reduceLT, Int.reduceLE, Int.reduceAdd, Int.reduceSub, Int.reduceMul, reduceIte, resVs, resV, packV, initT, addr, t0, t1, t2, t3, t9, t10, hlenT, q1, q2, stepOp_b2s_v, hstr, kWn] | refine OrW.go ?_
        exact (h6.mx []).old
end Go.Proofs.Ytbmjhiifinjieaa
