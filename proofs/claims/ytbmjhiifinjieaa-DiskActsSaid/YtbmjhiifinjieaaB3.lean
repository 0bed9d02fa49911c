/- The reference: Sync, Rename, Cut, Remove, Read. -/
import Derived.Test.YtbmjhiifinjieaaB2
set_option linter.unusedVariables false
set_option linter.unusedSimpArgs false
set_option linter.unnecessarySimpa false
namespace Go.Proofs.Ytbmjhiifinjieaa
open Go Go.AM
set_option linter.unusedVariables false
set_option linter.unusedSimpArgs false
set_option linter.unusedSectionVars false
set_option maxHeartbeats 2000000
set_option maxRecDepth 100000

variable [Ex]
structure ROk (d : DiskR) : Prop where
  few : d.files.length ≤ 10000
  used : usedR d.files ≤ 50000000
  q0 : 0 ≤ d.quota
  q1 : d.quota ≤ 9223372036854775807
  s0 : 0 ≤ d.steps
  s1 : d.steps ≤ 1000000000
  t0 : -1 ≤ d.set
  t1 : d.set ≤ 9223372036854775807
theorem look_size (fs : List FileR) (s : List UInt8) : (lookOr fs s).size ≤ usedR fs := by
  unfold lookOr
  cases h : lookR fs s with
  | none => simp [FileR.size]
  | some f =>
    have hm : f ∈ fs := by have := List.mem_of_find?_eq_some h; simpa using this
    obtain ⟨k, hk, rfl⟩ := List.mem_iff_getElem.1 hm
    exact size_le hk
theorem kAll_len (fs : List FileR) (s : List UInt8) : (kAll fs s).length = (lookOr fs s).size := by simp [kAll, FileR.size]
/-- A drying call of the reference. -/
def rdoR (d : DiskR) (s t : List UInt8) (n : Nat) : Int × DiskR := if rbarsE d s t true = 0 then rdriesR d s t n else (rbarsE d s t true, d)
theorem rsync_ok (m : AMem) (p : Nat) (v : Value) (d : DiskR) (s : List UInt8) (hs : s.length ≤ 9223372036854775807) (hD : RAt m p v d) (hO : ROk d) :
    RelC Try.prog 0 42 [.pointer (some ⟨p, 0, none⟩), .string ⟨s.toArray⟩] m fun r m' => r = .int .i64 (rdoR d s s (lookOr d.files s).size).1 ∧ ∃ v', RAt m' p v' (rdoR d s s (lookOr d.files s).size).2 ∧ RStep p m m' := by
  refine rel_of_W (fn := Try.f42) rfl rfl F42_ok (by simp [F42]) ?_
  have hf := hO.few; have hu := hO.used; have hz := look_size d.files s
  have kb := DetC.known (rbars_ok (mx m []) p v d s s true hs hs (hD.old (Old.here _ _)) (by omega))
  have ks := DetC.known (rsize_ok (mx m []) p v d s (hD.old (Old.here _ _)) (by omega) (by omega))
  by_cases h0 : rbarsE d s s true = 0
  · have e : rdoR d s s (lookOr d.files s).size = rdriesR d s s (lookOr d.files s).size := by simp [rdoR, h0]
    have hdr := rdries_ok m p v d s s (lookOr d.files s).size hD (by omega) (by rw [kAll_len]; exact Nat.le_refl _) (by rw [kAll_len]; omega) hO.s0 hO.s1 hO.t0 hO.t1
    rw [h0] at kb
    repeat first | simp (implicitDefEqProofs := false) (maxSteps := 1000000) (disch := first | omega | with_reducible assumption | (simp only [lenT, Nat.reduceAdd]; omega)) only [amT, cut, bnd, Nat.reduceBEq, reduceCtorEq, Nat.reduceEqDiff, Nat.reduceAdd, Nat.reduceMul, Nat.reduceSub, Int.reduceToNat, Int.reduceEq, Int.reduceLT, Int.reduceLE, Int.reduceAdd, Int.reduceSub, Int.reduceMul, reduceIte, resVs, resV, packV, initT, addr, F42, kb, ks] | refine OrW.go ?_
    refine RelC.call hdr.at ?_
    rintro r M ⟨rfl, v', h1, h2⟩
    repeat first | simp (implicitDefEqProofs := false) (maxSteps := 1000000) (disch := first | omega | with_reducible assumption | (simp only [lenT, Nat.reduceAdd]; omega)) only [amT, cut, bnd, Nat.reduceBEq, reduceCtorEq, Nat.reduceEqDiff, Nat.reduceAdd, Nat.reduceMul, Nat.reduceSub, Int.reduceToNat, Int.reduceEq, Int.reduceLT, Int.reduceLE, Int.reduceAdd, Int.reduceSub, Int.reduceMul, reduceIte, resVs, resV, packV, initT, addr] | refine OrW.go ?_
    exact ⟨_, rfl, fun _ => ⟨by rw [e], by rw [e]; exact ⟨_, h1.old (Old.here _ _), h2.mx _⟩⟩⟩
  · have e : rdoR d s s (lookOr d.files s).size = (rbarsE d s s true, d) := by simp [rdoR, h0]
    repeat first | simp (implicitDefEqProofs := false) (maxSteps := 1000000) (disch := first | omega | with_reducible assumption | (simp only [lenT, Nat.reduceAdd]; omega)) only [amT, cut, bnd, Nat.reduceBEq, reduceCtorEq, Nat.reduceEqDiff, Nat.reduceAdd, Nat.reduceMul, Nat.reduceSub, Int.reduceToNat, Int.reduceEq, Int.reduceLT, Int.reduceLE, Int.reduceAdd, Int.reduceSub, Int.reduceMul, reduceIte, resVs, resV, packV, initT, addr, F42, kb, h0] | refine OrW.go ?_
    exact ⟨_, rfl, fun _ => ⟨by rw [e], by rw [e]; exact ⟨_, hD.old (Old.here _ _), (Old.here m _).keep _⟩⟩⟩
theorem rrename_ok (m : AMem) (p : Nat) (v : Value) (d : DiskR) (s t : List UInt8) (hs : s.length ≤ 9223372036854775807) (ht : t.length ≤ 9223372036854775807) (hD : RAt m p v d) (hO : ROk d) :
    RelC Try.prog 0 44 [.pointer (some ⟨p, 0, none⟩), .string ⟨s.toArray⟩, .string ⟨t.toArray⟩] m fun r m' => r = .int .i64 (rdoR d s t (lookOr d.files s).size).1 ∧ ∃ v', RAt m' p v' (rdoR d s t (lookOr d.files s).size).2 ∧ RStep p m m' := by
  refine rel_of_W (fn := Try.f44) rfl rfl F44_ok (by simp [F44]) ?_
  have hf := hO.few; have hu := hO.used; have hz := look_size d.files s
  have kb := DetC.known (rbars_ok (mx m []) p v d s t true hs ht (hD.old (Old.here _ _)) (by omega))
  have ks := DetC.known (rsize_ok (mx m []) p v d s (hD.old (Old.here _ _)) (by omega) (by omega))
  by_cases h0 : rbarsE d s t true = 0
  · have e : rdoR d s t (lookOr d.files s).size = rdriesR d s t (lookOr d.files s).size := by simp [rdoR, h0]
    have hdr := rdries_ok m p v d s t (lookOr d.files s).size hD (by omega) (by rw [kAll_len]; exact Nat.le_refl _) (by rw [kAll_len]; omega) hO.s0 hO.s1 hO.t0 hO.t1
    rw [h0] at kb
    repeat first | simp (implicitDefEqProofs := false) (maxSteps := 1000000) (disch := first | omega | with_reducible assumption | (simp only [lenT, Nat.reduceAdd]; omega)) only [amT, cut, bnd, Nat.reduceBEq, reduceCtorEq, Nat.reduceEqDiff, Nat.reduceAdd, Nat.reduceMul, Nat.reduceSub, Int.reduceToNat, Int.reduceEq, Int.reduceLT, Int.reduceLE, Int.reduceAdd, Int.reduceSub, Int.reduceMul, reduceIte, resVs, resV, packV, initT, addr, F44, kb, ks] | refine OrW.go ?_
    refine RelC.call hdr.at ?_
    rintro r M ⟨rfl, v', h1, h2⟩
    repeat first | simp (implicitDefEqProofs := false) (maxSteps := 1000000) (disch := first | omega | with_reducible assumption | (simp only [lenT, Nat.reduceAdd]; omega)) only [amT, cut, bnd, Nat.reduceBEq, reduceCtorEq, Nat.reduceEqDiff, Nat.reduceAdd, Nat.reduceMul, Nat.reduceSub, Int.reduceToNat, Int.reduceEq, Int.reduceLT, Int.reduceLE, Int.reduceAdd, Int.reduceSub, Int.reduceMul, reduceIte, resVs, resV, packV, initT, addr] | refine OrW.go ?_
    exact ⟨_, rfl, fun _ => ⟨by rw [e], by rw [e]; exact ⟨_, h1.old (Old.here _ _), h2.mx _⟩⟩⟩
  · have e : rdoR d s t (lookOr d.files s).size = (rbarsE d s t true, d) := by simp [rdoR, h0]
    repeat first | simp (implicitDefEqProofs := false) (maxSteps := 1000000) (disch := first | omega | with_reducible assumption | (simp only [lenT, Nat.reduceAdd]; omega)) only [amT, cut, bnd, Nat.reduceBEq, reduceCtorEq, Nat.reduceEqDiff, Nat.reduceAdd, Nat.reduceMul, Nat.reduceSub, Int.reduceToNat, Int.reduceEq, Int.reduceLT, Int.reduceLE, Int.reduceAdd, Int.reduceSub, Int.reduceMul, reduceIte, resVs, resV, packV, initT, addr, F44, kb, h0] | refine OrW.go ?_
    exact ⟨_, rfl, fun _ => ⟨by rw [e], by rw [e]; exact ⟨_, hD.old (Old.here _ _), (Old.here m _).keep _⟩⟩⟩
def rcutR (d : DiskR) (s : List UInt8) (n : Int) : Int × DiskR :=
  if rbarsE d s s true = 0 then (if n < 0 ∨ ((lookOr d.files s).size : Int) < n then (2, d) else rdriesR d s s n.toNat) else (rbarsE d s s true, d)
theorem rcut_ok (m : AMem) (p : Nat) (v : Value) (d : DiskR) (s : List UInt8) (n : Int) (hs : s.length ≤ 9223372036854775807) (hD : RAt m p v d) (hO : ROk d) :
    RelC Try.prog 0 43 [.pointer (some ⟨p, 0, none⟩), .string ⟨s.toArray⟩, .int .i64 n] m fun r m' => r = .int .i64 (rcutR d s n).1 ∧ ∃ v', RAt m' p v' (rcutR d s n).2 ∧ RStep p m m' := by
  refine rel_of_W (fn := Try.f43) rfl rfl F43_ok (by simp [F43]) ?_
  have hf := hO.few; have hu := hO.used; have hz := look_size d.files s
  have kb := DetC.known (rbars_ok (mx m []) p v d s s true hs hs (hD.old (Old.here _ _)) (by omega))
  have ks := DetC.known (rsize_ok (mx m []) p v d s (hD.old (Old.here _ _)) (by omega) (by omega))
  have same : ∀ e, rcutR d s n = (e, d) → ∃ v', RAt (mx m []) p v' (rcutR d s n).2 ∧ RStep p m (mx m []) := fun e h => by rw [h]; exact ⟨_, hD.old (Old.here _ _), (Old.here m _).keep _⟩
  by_cases h0 : rbarsE d s s true = 0
  · rw [h0] at kb
    by_cases h1 : n < 0
    · have e : rcutR d s n = (2, d) := by simp [rcutR, h0, h1]
      repeat first | simp (implicitDefEqProofs := false) (maxSteps := 1000000) (disch := first | omega | with_reducible assumption | (simp only [lenT, Nat.reduceAdd]; omega)) only [amT, cut, bnd, Nat.reduceBEq, reduceCtorEq, Nat.reduceEqDiff, Nat.reduceAdd, Nat.reduceMul, Nat.reduceSub, Int.reduceToNat, Int.reduceEq, Int.reduceLT, Int.reduceLE, Int.reduceAdd, Int.reduceSub, Int.reduceMul, reduceIte, resVs, resV, packV, initT, addr, F43, kb, ks, h1] | refine OrW.go ?_
      exact ⟨_, rfl, fun _ => ⟨by rw [e], same _ e⟩⟩
    · by_cases h2 : ((lookOr d.files s).size : Int) < n
      · have e : rcutR d s n = (2, d) := by simp [rcutR, h0, h2]
        repeat first | simp (implicitDefEqProofs := false) (maxSteps := 1000000) (disch := first | omega | with_reducible assumption | (simp only [lenT, Nat.reduceAdd]; omega)) only [amT, cut, bnd, Nat.reduceBEq, reduceCtorEq, Nat.reduceEqDiff, Nat.reduceAdd, Nat.reduceMul, Nat.reduceSub, Int.reduceToNat, Int.reduceEq, Int.reduceLT, Int.reduceLE, Int.reduceAdd, Int.reduceSub, Int.reduceMul, reduceIte, resVs, resV, packV, initT, addr, F43, kb, ks, h1, h2] | refine OrW.go ?_
        exact ⟨_, rfl, fun _ => ⟨by rw [e], same _ e⟩⟩
      · have e : rcutR d s n = rdriesR d s s n.toNat := by simp [rcutR, h0, h1, h2]
        have hdr := rdries_ok m p v d s s n.toNat hD (by omega) (by rw [kAll_len]; omega) (by rw [kAll_len]; omega) hO.s0 hO.s1 hO.t0 hO.t1
        rw [show ((n.toNat : Nat) : Int) = n by omega] at hdr
        repeat first | simp (implicitDefEqProofs := false) (maxSteps := 1000000) (disch := first | omega | with_reducible assumption | (simp only [lenT, Nat.reduceAdd]; omega)) only [amT, cut, bnd, Nat.reduceBEq, reduceCtorEq, Nat.reduceEqDiff, Nat.reduceAdd, Nat.reduceMul, Nat.reduceSub, Int.reduceToNat, Int.reduceEq, Int.reduceLT, Int.reduceLE, Int.reduceAdd, Int.reduceSub, Int.reduceMul, reduceIte, resVs, resV, packV, initT, addr, F43, kb, ks, h1, h2] | refine OrW.go ?_
        refine RelC.call hdr.at ?_
        rintro r M ⟨rfl, v', h3, h4⟩
        repeat first | simp (implicitDefEqProofs := false) (maxSteps := 1000000) (disch := first | omega | with_reducible assumption | (simp only [lenT, Nat.reduceAdd]; omega)) only [amT, cut, bnd, Nat.reduceBEq, reduceCtorEq, Nat.reduceEqDiff, Nat.reduceAdd, Nat.reduceMul, Nat.reduceSub, Int.reduceToNat, Int.reduceEq, Int.reduceLT, Int.reduceLE, Int.reduceAdd, Int.reduceSub, Int.reduceMul, reduceIte, resVs, resV, packV, initT, addr] | refine OrW.go ?_
        exact ⟨_, rfl, fun _ => ⟨by rw [e], by rw [e]; exact ⟨_, h3.old (Old.here _ _), h4.mx _⟩⟩⟩
  · have e : rcutR d s n = (rbarsE d s s true, d) := by simp [rcutR, h0]
    repeat first | simp (implicitDefEqProofs := false) (maxSteps := 1000000) (disch := first | omega | with_reducible assumption | (simp only [lenT, Nat.reduceAdd]; omega)) only [amT, cut, bnd, Nat.reduceBEq, reduceCtorEq, Nat.reduceEqDiff, Nat.reduceAdd, Nat.reduceMul, Nat.reduceSub, Int.reduceToNat, Int.reduceEq, Int.reduceLT, Int.reduceLE, Int.reduceAdd, Int.reduceSub, Int.reduceMul, reduceIte, resVs, resV, packV, initT, addr, F43, kb, h0] | refine OrW.go ?_
    exact ⟨_, rfl, fun _ => ⟨by rw [e], same _ e⟩⟩
def rreadR (d : DiskR) (s : List UInt8) : Int × List UInt8 := if rbarsE d s s true = 0 then (0, kAll d.files s) else (rbarsE d s s true, [])
theorem rread_ok (m : AMem) (p : Nat) (v : Value) (d : DiskR) (s : List UInt8) (hs : s.length ≤ 9223372036854775807) (hD : RAt m p v d) (hO : ROk d) :
    RelC Try.prog 0 46 [.pointer (some ⟨p, 0, none⟩), .string ⟨s.toArray⟩] m fun r m' => ∃ a cap, r = .tuple #[.slice a (rreadR d s).2.length cap, .int .i64 (rreadR d s).1] ∧ Old m m' ∧ BSl m' a cap (rreadR d s).2 := by
  refine rel_of_W (fn := Try.f46) rfl rfl F46_ok (by simp [F46]) ?_
  have hf := hO.few; have hu := hO.used; have hz := look_size d.files s
  have kb := DetC.known (rbars_ok (mx m []) p v d s s true hs hs (hD.old (Old.here _ _)) (by omega))
  have kl := DetC.known (look_ok (mx m []) p v d s (hD.old (Old.here _ _)) (by omega))
  simp only [kRow] at kl
  by_cases h0 : rbarsE d s s true = 0
  · have e : rreadR d s = (0, kAll d.files s) := by simp [rreadR, h0]
    rw [h0] at kb
    simp only [FileR.size] at hz
    repeat first | simp (implicitDefEqProofs := false) (maxSteps := 1000000) (disch := first | omega | with_reducible assumption | (simp only [lenT, Nat.reduceAdd]; omega)) only [amT, cut, bnd, Nat.reduceBEq, reduceCtorEq, Nat.reduceEqDiff, Nat.reduceAdd, Nat.reduceMul, Nat.reduceSub, Int.reduceToNat, Int.reduceEq, Int.reduceLT, Int.reduceLE, Int.reduceAdd, Int.reduceSub, Int.reduceMul, reduceIte, resVs, resV, packV, initT, addr, F46, kb, kl, cellsOf_kRow, splice4, cutL4] | refine OrW.go ?_
    refine ⟨_, rfl, fun _ => ⟨some ⟨m.size + 1, 0, none⟩, openCap, ?_, ?_⟩⟩
    · rw [e]; simp [kAll]
    · rw [e]; exact bsl_room m _ 1 (e := 5) (w := true) (sp := .room [.int .u8 0]) (by simp [kAll]) rfl
  · have e : rreadR d s = (rbarsE d s s true, []) := by simp [rreadR, h0]
    repeat first | simp (implicitDefEqProofs := false) (maxSteps := 1000000) (disch := first | omega | with_reducible assumption | (simp only [lenT, Nat.reduceAdd]; omega)) only [amT, cut, bnd, Nat.reduceBEq, reduceCtorEq, Nat.reduceEqDiff, Nat.reduceAdd, Nat.reduceMul, Nat.reduceSub, Int.reduceToNat, Int.reduceEq, Int.reduceLT, Int.reduceLE, Int.reduceAdd, Int.reduceSub, Int.reduceMul, reduceIte, resVs, resV, packV, initT, addr, F46, kb, h0] | refine OrW.go ?_
    refine ⟨_, rfl, fun _ => ⟨none, 0, ?_, ?_⟩⟩
    · rw [e]; rfl
    · rw [e]; exact .inl ⟨rfl, rfl, rfl⟩

def rremoveR (d : DiskR) (s : List UInt8) : Int × DiskR :=
  if rbarsE d s s true = 0 then (if d.set = 0 then (40, d.step) else (0, { d.step with files := othersR d.files s })) else (rbarsE d s s true, d)
theorem rremove_ok (m : AMem) (p : Nat) (v : Value) (d : DiskR) (s : List UInt8) (hs : s.length ≤ 9223372036854775807) (hD : RAt m p v d) (hO : ROk d) :
    RelC Try.prog 0 45 [.pointer (some ⟨p, 0, none⟩), .string ⟨s.toArray⟩] m fun r m' => r = .int .i64 (rremoveR d s).1 ∧ ∃ v', RAt m' p v' (rremoveR d s).2 ∧ RStep p m m' := by
  refine rel_of_W (fn := Try.f45) rfl rfl F45_ok (by simp [F45]) ?_
  have hp := hD.lt
  have hf := hO.few
  have kb := DetC.known (rbars_ok (mx m []) p v d s s true hs hs (hD.old (Old.here _ _)) (by omega))
  by_cases h0 : rbarsE d s s true = 0
  · rw [h0] at kb
    have k66 := DetC.known (rstep_d m p v d hD hO.s0 hO.s1 hO.t0 hO.t1).start
    have hD1 : RAt (m.set p (.cells (d.step.cells v) 73 true .exact)) p v d.step := hD.put (step_files d)
    have hst1 : RStep p m (m.set p (.cells (d.step.cells v) 73 true .exact)) := (Keep.refl (fun x => x = p) m).set (fun _ => rfl) _
    generalize m.set p (.cells (d.step.cells v) 73 true .exact) = m1 at *
    by_cases hset : d.set = 0
    · have e : rremoveR d s = (40, d.step) := by simp [rremoveR, h0, hset]
      repeat first | simp (implicitDefEqProofs := false) (maxSteps := 1000000) (disch := first | omega | with_reducible assumption | (simp only [lenT, Nat.reduceAdd]; omega)) only [amT, cut, bnd, Nat.reduceBEq, reduceCtorEq, Nat.reduceEqDiff, Nat.reduceAdd, Nat.reduceMul, Nat.reduceSub, Int.reduceToNat, Int.reduceEq, Int.reduceLT, Int.reduceLE, Int.reduceAdd, Int.reduceSub, Int.reduceMul, reduceIte, resVs, resV, packV, initT, addr, F45, kb, k66, hset] | refine OrW.go ?_
      exact ⟨_, rfl, fun _ => ⟨by rw [e], by rw [e]; exact ⟨_, hD1.old (Old.here _ _), hst1.mx _⟩⟩⟩
    · have hd0 : decide (d.set = 0) = false := by simp [hset]
      have hoth := others_ok m1 p v d.step s hD1 (by rw [step_files]; omega)
      rw [step_files] at hoth
      repeat first | simp (implicitDefEqProofs := false) (maxSteps := 1000000) (disch := first | omega | with_reducible assumption | (simp only [lenT, Nat.reduceAdd]; omega)) only [amT, cut, bnd, Nat.reduceBEq, reduceCtorEq, Nat.reduceEqDiff, Nat.reduceAdd, Nat.reduceMul, Nat.reduceSub, Int.reduceToNat, Int.reduceEq, Int.reduceLT, Int.reduceLE, Int.reduceAdd, Int.reduceSub, Int.reduceMul, reduceIte, resVs, resV, packV, initT, addr, F45, kb, k66, hd0] | refine OrW.go ?_
      refine RelC.call hoth.at ?_
      rintro r M ⟨hO4, hK, hown⟩
      have hp1 := hD1.lt
      have hpM : p < M.size := Nat.lt_of_lt_of_le hp1 hO4.1
      have hg1 := hD1.get
      have hgM : M.get p = .cells (d.step.cells v) 73 true .exact := by rw [hO4.2 p hp1]; exact hg1
      obtain ⟨av, cv, rfl⟩ := hK.len
      have hD2 : RAt (M.set p (.cells (({ d.step with files := othersR d.files s } : DiskR).cells (.slice av (othersR d.files s).length cv)) 73 true .exact)) p (.slice av (othersR d.files s).length cv) { d.step with files := othersR d.files s } :=
        ⟨by rw [AMem.size_set]; exact hpM, AMem.get_set_self _ _ _, hK.keep ((Keep.refl (fun x => x = p) M).set (fun _ => rfl) _) fun x X w sp hx e => by subst e; rw [hgM] at hx; cases hx⟩
      have hst2 : RStep p m (M.set p (.cells (({ d.step with files := othersR d.files s } : DiskR).cells (.slice av (othersR d.files s).length cv)) 73 true .exact)) := (hst1.trans (hO4.keep (fun x => x = p)) (fun _ _ h => h)).set (fun _ => rfl) _
      have e : rremoveR d s = (0, { d.step with files := othersR d.files s }) := by simp [rremoveR, h0, hset]
      simp only [DiskR.cells] at hgM hst2 hD2
      repeat first | simp (implicitDefEqProofs := false) (maxSteps := 1000000) (disch := first | omega | with_reducible assumption | (simp only [lenT, Nat.reduceAdd]; omega)) only [amT, cut, bnd, Nat.reduceBEq, reduceCtorEq, Nat.reduceEqDiff, Nat.reduceAdd, Nat.reduceMul, Nat.reduceSub, Int.reduceToNat, Int.reduceEq, Int.reduceLT, Int.reduceLE, Int.reduceAdd, Int.reduceSub, Int.reduceMul, reduceIte, resVs, resV, packV, initT, addr, hgM] | refine OrW.go ?_
      exact ⟨_, rfl, fun _ => ⟨by rw [e], by rw [e]; exact ⟨_, hD2.old (Old.here _ _), hst2.mx _⟩⟩⟩
  · have e : rremoveR d s = (rbarsE d s s true, d) := by simp [rremoveR, h0]
    repeat first | simp (implicitDefEqProofs := false) (maxSteps := 1000000) (disch := first | omega | with_reducible assumption | (simp only [lenT, Nat.reduceAdd]; omega)) only [amT, cut, bnd, Nat.reduceBEq, reduceCtorEq, Nat.reduceEqDiff, Nat.reduceAdd, Nat.reduceMul, Nat.reduceSub, Int.reduceToNat, Int.reduceEq, Int.reduceLT, Int.reduceLE, Int.reduceAdd, Int.reduceSub, Int.reduceMul, reduceIte, resVs, resV, packV, initT, addr, F45, kb, h0] | refine OrW.go ?_
    exact ⟨_, rfl, fun _ => ⟨by rw [e], by rw [e]; exact ⟨_, hD.old (Old.here _ _), (Old.here m _).keep _⟩⟩⟩
end Go.Proofs.Ytbmjhiifinjieaa
namespace Go.Proofs.Ytbmjhiifinjieaa
open Go Go.AM
set_option linter.unusedVariables false
set_option linter.unusedSimpArgs false
set_option linter.unusedSectionVars false
set_option maxHeartbeats 2000000
set_option maxRecDepth 100000

variable [Ex]
theorem cutL_sub {X : List Value} {k n : Nat} {r : List Value} (h : cutL X k n = some r) {j : Nat} (hj : j < n) : cutL X (k + j) 1 = (r[j]?).map fun x => [x] := by
  have hl := cutL_le h
  unfold cutL at h
  rw [if_pos hl] at h
  cases h
  unfold cutL
  rw [if_pos (by omega), List.getElem?_take, if_pos hj, List.getElem?_drop, List.getElem?_eq_getElem (by omega), List.drop_eq_getElem_cons (by omega)]; rfl
theorem rused_ok (m : AMem) (p : Nat) (v : Value) (d : DiskR) (hD : RAt m p v d) (hO : ROk d) : PureC Try.prog 0 51 [.pointer (some ⟨p, 0, none⟩)] m (.int .i64 (usedR d.files)) := by
  refine pure_of_W (fn := Try.f51) rfl rfl F51_ok (by simp [F51]) (.int _ _) ?_
  have hp := hD.lt
  have hd := hD.get
  have hu := hO.used
  have hf := hO.few
  obtain ⟨a, cap, rfl⟩ := hD.files.len
  simp only [DiskR.cells] at hd
  simp (implicitDefEqProofs := false) (maxSteps := 1000000) (disch := first | omega | with_reducible assumption | (simp only [lenT, Nat.reduceAdd]; omega)) only [amT, cut, bnd, Nat.reduceBEq, reduceCtorEq, Nat.reduceEqDiff, Nat.reduceAdd, Nat.reduceMul, Nat.reduceSub, Int.reduceToNat, Int.reduceEq, Int.reduceLT, Int.reduceLE, Int.reduceAdd, Int.reduceSub, Int.reduceMul, reduceIte, resVs, resV, packV, initT, addr, F51]
  refine W_loop (fun N qs => ∃ (i : Nat), N = d.files.length - i ∧ qs.ds = [] ∧ qs.m = mx m [] ∧ qs.t 0 = .pointer (some ⟨p, 0, none⟩) ∧ qs.t 3 = .int .i64 (usedR (d.files.take i)) ∧ qs.t 4 = .int .i64 i ∧ i ≤ d.files.length) (d.files.length - (0)) ⟨0, rfl, rfl, ?qm, ?q0, ?q3, ?q4, ?_⟩ ?_
  case qm | q0 | q3 | q4 => first | rfl | (simp (implicitDefEqProofs := false) (maxSteps := 1000000) (disch := first | omega | with_reducible assumption | (simp only [lenT, Nat.reduceAdd]; omega)) only [amT, cut, bnd, Nat.reduceBEq, reduceCtorEq, Nat.reduceEqDiff, Nat.reduceAdd, Nat.reduceMul, Nat.reduceSub, Int.reduceToNat, Int.reduceEq, Int.reduceLT, Int.reduceLE, Int.reduceAdd, Int.reduceSub, Int.reduceMul, reduceIte, resVs, resV, packV, initT, addr, usedR, List.take_zero]; first | done | rfl | (congr 1; omega))
  · omega
  · rintro N t m1 ds ⟨i, rfl, hds, hm, t0, t3, t4, hp⟩
    simp only at hds hm t0 t3 t4
    subst hds; replace hm := hm.symm; subst hm
    by_cases h1 : (i : Int) < (d.files.length : Int)
    · have hi : i < d.files.length := by omega
      obtain ⟨b, rfl, hb, hg, h4, h1'⟩ := hD.files.get hi
      simp only [kRow] at h4
      have hs : usedR (d.files.take (i + 1)) = usedR (d.files.take i) + d.files[i].size := by
        unfold usedR; rw [List.take_succ_eq_append_getElem hi, List.map_append, List.sum_append]; simp
      have hle : usedR (d.files.take (i + 1)) ≤ usedR d.files := by
        unfold usedR
        conv => rhs; rw [← List.take_append_drop (i + 1) d.files, List.map_append, List.sum_append]
        omega
      rw [hs] at hle
      simp only [FileR.size] at hs hle
      have f1 : rdO (m.get b) (i * 4 + 1) 1 = some [.string ⟨d.files[i].dry.toArray⟩] := by
        rw [hg, rdO_cells]
        have := cutL_sub h4 (j := 1) (by omega)
        exact this
      have f2 : rdO (m.get b) (i * 4 + 2) 1 = some [.string ⟨d.files[i].wet.toArray⟩] := by
        rw [hg, rdO_cells]
        have := cutL_sub h4 (j := 2) (by omega)
        exact this
      repeat first | simp (implicitDefEqProofs := false) (maxSteps := 1000000) (disch := first | omega | with_reducible assumption | (simp only [lenT, Nat.reduceAdd]; omega)) only [amT, cut, bnd, Nat.reduceBEq, reduceCtorEq, Nat.reduceEqDiff, Nat.reduceAdd, Nat.reduceMul, Nat.reduceSub, Int.reduceToNat, Int.reduceEq, Int.reduceLT, Int.reduceLE, Int.reduceAdd, Int.reduceSub, Int.reduceMul, reduceIte, resVs, resV, packV, initT, addr, F51_l0, t0, t3, t4, h1, hd, f1, f2] | refine OrW.go ?_
      rw [LoopK_normal]; refine ⟨_, ?_, i + 1, rfl, rfl, ?qm, ?q0, ?q3, ?q4, ?_⟩
      case qm | q0 | q3 | q4 => first | rfl | (simp (implicitDefEqProofs := false) (maxSteps := 1000000) (disch := first | omega | with_reducible assumption | (simp only [lenT, Nat.reduceAdd]; omega)) only [amT, cut, bnd, Nat.reduceBEq, reduceCtorEq, Nat.reduceEqDiff, Nat.reduceAdd, Nat.reduceMul, Nat.reduceSub, Int.reduceToNat, Int.reduceEq, Int.reduceLT, Int.reduceLE, Int.reduceAdd, Int.reduceSub, Int.reduceMul, reduceIte, resVs, resV, packV, initT, addr, t0, t3, t4, hs, Int.natCast_add]; first | done | rfl | (congr 1; omega))
      · omega
      · omega
    · obtain rfl : i = d.files.length := by omega
      rw [List.take_length] at t3
      simp (implicitDefEqProofs := false) (maxSteps := 1000000) (disch := first | omega | with_reducible assumption | (simp only [lenT, Nat.reduceAdd]; omega)) only [amT, cut, bnd, Nat.reduceBEq, reduceCtorEq, Nat.reduceEqDiff, Nat.reduceAdd, Nat.reduceMul, Nat.reduceSub, Int.reduceToNat, Int.reduceEq, Int.reduceLT, Int.reduceLE, Int.reduceAdd, Int.reduceSub, Int.reduceMul, reduceIte, resVs, resV, packV, initT, addr, F51_l0, t0, t3, t4, h1, hd]
end Go.Proofs.Ytbmjhiifinjieaa
namespace Go.Proofs.Ytbmjhiifinjieaa
open Go Go.AM
set_option linter.unusedVariables false
set_option linter.unusedSimpArgs false
set_option linter.unusedSectionVars false
set_option maxHeartbeats 2000000
set_option maxRecDepth 100000

variable [Ex]
theorem lookOr_name (fs : List FileR) (s : List UInt8) : (lookOr fs s).name = s := by
  unfold lookOr
  cases h : lookR fs s with
  | none => rfl
  | some f => have := List.find?_some h; simpa using this
def rappendR (d : DiskR) (s c : List UInt8) : Int × DiskR :=
  if rbarsE d s s false = 0 then
    if (8388608 : Int) < ((lookOr d.files s).size : Int) + c.length then (3, d)
    else if d.quota < (usedR d.files : Int) + c.length then (41, d)
    else (if d.set = 0 then 40 else 0, DiskR.step { d with files := othersR d.files s ++ [⟨s, (lookOr d.files s).dry, (lookOr d.files s).wet ++ c, (lookOr d.files s).born⟩] })
  else (rbarsE d s s false, d)
theorem rappend_ok (m : AMem) (p : Nat) (v : Value) (d : DiskR) (s : List UInt8) (a3 : Option Addr) (cap3 : Nat) (c : List UInt8) (hs : s.length ≤ 9223372036854775807) (hc : BSl m a3 cap3 c) (hcl : c.length ≤ 1000000) (hD : RAt m p v d) (hO : ROk d) :
    RelC Try.prog 0 41 [.pointer (some ⟨p, 0, none⟩), .string ⟨s.toArray⟩, .slice a3 c.length cap3] m fun r m' => r = .int .i64 (rappendR d s c).1 ∧ ∃ v', RAt m' p v' (rappendR d s c).2 ∧ RStep p m m' := by
  refine rel_of_W (fn := Try.f41) rfl rfl F41_ok (by simp [F41]) ?_
  have hf := hO.few; have hu := hO.used; have hz := look_size d.files s
  have hp := hD.lt
  have hd := hD.get
  have hq1 := hO.q1
  have hq0 := hO.q0
  have kb := DetC.known (rbars_ok (mx m []) p v d s s false hs hs (hD.old (Old.here _ _)) (by omega))
  have ks := DetC.known (rsize_ok (mx m []) p v d s (hD.old (Old.here _ _)) (by omega) (by omega))
  have ku := DetC.known (rused_ok (mx m []) p v d (hD.old (Old.here _ _)) hO)
  have kl := DetC.known (look_ok (mx m []) p v d s (hD.old (Old.here _ _)) (by omega))
  have same : ∀ e, rappendR d s c = (e, d) → ∃ v', RAt (mx m []) p v' (rappendR d s c).2 ∧ RStep p m (mx m []) := fun e h => by rw [h]; exact ⟨_, hD.old (Old.here _ _), (Old.here m _).keep _⟩
  simp only [DiskR.cells] at hd
  by_cases h0 : rbarsE d s s false = 0
  · rw [h0] at kb
    by_cases h1 : (8388608 : Int) < ((lookOr d.files s).size : Int) + c.length
    · have e : rappendR d s c = (3, d) := by simp [rappendR, h0, h1]
      repeat first | simp (implicitDefEqProofs := false) (maxSteps := 1000000) (disch := first | omega | with_reducible assumption | (simp only [lenT, Nat.reduceAdd]; omega)) only [amT, cut, bnd, Nat.reduceBEq, reduceCtorEq, Nat.reduceEqDiff, Nat.reduceAdd, Nat.reduceMul, Nat.reduceSub, Int.reduceToNat, Int.reduceEq, Int.reduceLT, Int.reduceLE, Int.reduceAdd, Int.reduceSub, Int.reduceMul, reduceIte, resVs, resV, packV, initT, addr, F41, kb, ks, h1] | refine OrW.go ?_
      exact ⟨_, rfl, fun _ => ⟨by rw [e], same _ e⟩⟩
    · by_cases h2 : d.quota < (usedR d.files : Int) + c.length
      · have e : rappendR d s c = (41, d) := by simp [rappendR, h0, h1, h2]
        repeat first | simp (implicitDefEqProofs := false) (maxSteps := 1000000) (disch := first | omega | with_reducible assumption | (simp only [lenT, Nat.reduceAdd]; omega)) only [amT, cut, bnd, Nat.reduceBEq, reduceCtorEq, Nat.reduceEqDiff, Nat.reduceAdd, Nat.reduceMul, Nat.reduceSub, Int.reduceToNat, Int.reduceEq, Int.reduceLT, Int.reduceLE, Int.reduceAdd, Int.reduceSub, Int.reduceMul, reduceIte, resVs, resV, packV, initT, addr, F41, kb, ks, h1, hd, ku, h2] | refine OrW.go ?_
        exact ⟨_, rfl, fun _ => ⟨by rw [e], same _ e⟩⟩
      · have e : rappendR d s c = (if d.set = 0 then 40 else 0, DiskR.step { d with files := othersR d.files s ++ [⟨s, (lookOr d.files s).dry, (lookOr d.files s).wet ++ c, (lookOr d.files s).born⟩] }) := by simp [rappendR, h0, h1, h2]
        have hln := lookOr_name d.files s
        simp only [kRow, hln] at kl
        have hstr := (hc.old (Old.here m [.cells [.string ⟨s.toArray⟩, .string ⟨(lookOr d.files s).dry.toArray⟩, .string ⟨(lookOr d.files s).wet.toArray⟩, .bool (lookOr d.files s).born] 91 true .exact])).str
        simp only [FileR.size] at hz
        have hch := changes_ok (mx m [.cells [.string ⟨s.toArray⟩, .string ⟨(lookOr d.files s).dry.toArray⟩, .string ⟨((lookOr d.files s).wet ++ c).toArray⟩, .bool (lookOr d.files s).born] 91 true .exact]) p v d ⟨s, (lookOr d.files s).dry, (lookOr d.files s).wet ++ c, (lookOr d.files s).born⟩ (hD.old (Old.here _ _)) (by omega)
        simp only [kRow] at hch
        repeat first | simp (implicitDefEqProofs := false) (maxSteps := 1000000) (disch := first | omega | with_reducible assumption | (simp only [lenT, Nat.reduceAdd]; omega)) only [amT, cut, bnd, Nat.reduceBEq, reduceCtorEq, Nat.reduceEqDiff, Nat.reduceAdd, Nat.reduceMul, Nat.reduceSub, Int.reduceToNat, Int.reduceEq, Int.reduceLT, Int.reduceLE, Int.reduceAdd, Int.reduceSub, Int.reduceMul, reduceIte, resVs, resV, packV, initT, addr, F41, kb, ks, h1, hd, ku, h2, kl, cellsOf_kRow, splice4, cutL4, stepOp_b2s_v, hstr] | refine OrW.go ?_
        refine RelC.call hch ?_
        rintro r M ⟨rfl, v', hR, hS⟩
        have k66 := DetC.known (rstep_d M p v' _ hR hO.s0 hO.s1 hO.t0 hO.t1).start
        have hR2 := hR.put (step_files _)
        have hst : RStep p m (M.set p (.cells ((DiskR.step { d with files := othersR d.files s ++ [⟨s, (lookOr d.files s).dry, (lookOr d.files s).wet ++ c, (lookOr d.files s).born⟩] }).cells v') 73 true .exact)) := (((Old.here m _).keep (fun x => x = p)).trans hS (fun _ _ h => h)).set (fun _ => rfl) _
        by_cases hset : d.set = 0
        · have hd0 : decide (d.set = 0) = true := by simp [hset]
          repeat first | simp (implicitDefEqProofs := false) (maxSteps := 1000000) (disch := first | omega | with_reducible assumption | (simp only [lenT, Nat.reduceAdd]; omega)) only [amT, cut, bnd, Nat.reduceBEq, reduceCtorEq, Nat.reduceEqDiff, Nat.reduceAdd, Nat.reduceMul, Nat.reduceSub, Int.reduceToNat, Int.reduceEq, Int.reduceLT, Int.reduceLE, Int.reduceAdd, Int.reduceSub, Int.reduceMul, reduceIte, resVs, resV, packV, initT, addr, k66, hd0] | refine OrW.go ?_
          exact ⟨_, rfl, fun _ => ⟨by rw [e]; simp [hset], by rw [e]; exact ⟨_, hR2.old (Old.here _ _), hst.mx _⟩⟩⟩
        · have hd0 : decide (d.set = 0) = false := by simp [hset]
          repeat first | simp (implicitDefEqProofs := false) (maxSteps := 1000000) (disch := first | omega | with_reducible assumption | (simp only [lenT, Nat.reduceAdd]; omega)) only [amT, cut, bnd, Nat.reduceBEq, reduceCtorEq, Nat.reduceEqDiff, Nat.reduceAdd, Nat.reduceMul, Nat.reduceSub, Int.reduceToNat, Int.reduceEq, Int.reduceLT, Int.reduceLE, Int.reduceAdd, Int.reduceSub, Int.reduceMul, reduceIte, resVs, resV, packV, initT, addr, k66, hd0] | refine OrW.go ?_
          exact ⟨_, rfl, fun _ => ⟨by rw [e]; simp [hset], by rw [e]; exact ⟨_, hR2.old (Old.here _ _), hst.mx _⟩⟩⟩
  · have e : rappendR d s c = (rbarsE d s s false, d) := by simp [rappendR, h0]
    repeat first | simp (implicitDefEqProofs := false) (maxSteps := 1000000) (disch := first | omega | with_reducible assumption | (simp only [lenT, Nat.reduceAdd]; omega)) only [amT, cut, bnd, Nat.reduceBEq, reduceCtorEq, Nat.reduceEqDiff, Nat.reduceAdd, Nat.reduceMul, Nat.reduceSub, Int.reduceToNat, Int.reduceEq, Int.reduceLT, Int.reduceLE, Int.reduceAdd, Int.reduceSub, Int.reduceMul, reduceIte, resVs, resV, packV, initT, addr, F41, kb, h0] | refine OrW.go ?_
    exact ⟨_, rfl, fun _ => ⟨by rw [e], same _ e⟩⟩
end Go.Proofs.Ytbmjhiifinjieaa
namespace Go.Proofs.Ytbmjhiifinjieaa
open Go Go.AM
set_option linter.unusedVariables false
set_option linter.unusedSimpArgs false
set_option linter.unusedSectionVars false

variable [Ex]
theorem look_app (fs : List FileR) (f : FileR) (s : List UInt8) : lookR (fs ++ [f]) s = if f.name = s then some f else lookR fs s := by
  unfold lookR
  rw [List.reverse_append]
  by_cases h : f.name = s <;> simp [h]
theorem look_others (fs : List FileR) (t s : List UInt8) : lookR (othersR fs t) s = if t = s then none else lookR fs s := by
  unfold lookR othersR
  rw [← List.filter_reverse, List.find?_filter]
  by_cases h : t = s
  · rw [if_pos h, List.find?_eq_none]
    intro x _
    subst h
    simp
  · rw [if_neg h]
    congr 1
    funext x
    by_cases hx : x.name = s
    · have : x.name ≠ t := fun e => h (e.symm.trans hx)
      simp [hx, this]
      intro e; exact h e.symm
    · simp [hx]
theorem oth_all {fs : List FileR} {t : List UInt8} (h : ∀ f ∈ fs, f.name ≠ t) : othersR fs t = fs := by
  unfold othersR; rw [List.filter_eq_self]; intro f hf; simpa using h f hf
theorem oth_cons (f : FileR) (fs : List FileR) (t : List UInt8) : othersR (f :: fs) t = if f.name = t then othersR fs t else f :: othersR fs t := by
  unfold othersR; rw [List.filter_cons]; by_cases h : f.name = t <;> simp [h]
theorem oth_perm {a b : List FileR} (h : a.Perm b) (t : List UInt8) : (othersR a t).Perm (othersR b t) := h.filter _
theorem del_oth : ∀ {fs : List FileR} (h : Sorted fs) {t : List UInt8} (ht : isAt fs t = true), delR fs t = othersR fs t
  | [], _, t, ht => by cases ht
  | f :: fs, h, t, ht => by
    rw [isAt_cons] at ht
    rw [del_cons, oth_cons]
    split
    · rename_i h1
      rw [if_pos h1] at ht
      rw [if_neg (ltB_ne h1), del_oth h.tl ht]
    · rename_i h1
      rw [if_neg h1] at ht
      have hf : f.name = t := by simpa using ht
      rw [if_pos hf, oth_all]
      intro x hx e
      have := h.hd x hx
      rw [e, hf, ltB_irrefl] at this; cases this
theorem lay_perm : ∀ {fs : List FileR} (h : Sorted fs) (g : FileR), (layR fs g).Perm (othersR fs g.name ++ [g])
  | [], _, g => by rw [lay_nil]; exact List.Perm.refl _
  | f :: fs, h, g => by
    rw [lay_cons, oth_cons]
    split
    · rename_i h1
      rw [if_neg (ltB_ne h1)]
      exact (lay_perm h.tl g).cons f
    · rename_i h1
      have hgt : ∀ x ∈ fs, x.name ≠ g.name := fun x hx e => by
        have := h.hd x hx
        rw [e] at this; exact h1 this
      split
      · rw [oth_all hgt]
        exact List.perm_append_comm (l₁ := [g]) (l₂ := fs)
      · rw [oth_all hgt]
        exact List.perm_append_comm (l₁ := [g]) (l₂ := f :: fs)
theorem used_perm {a b : List FileR} (h : a.Perm b) : usedR a = usedR b := by unfold usedR; exact (h.map _).sum_nat
/-- Both have the same files. -/
structure Same (d r : DiskR) : Prop where
  sorted : Sorted d.files
  perm : d.files.Perm r.files
  file : ∀ s, getF d.files s = lookR r.files s
  quota : d.quota = r.quota
  steps : d.steps = r.steps
  set : d.set = r.set
  off : d.off = r.off
theorem Same.there {d r : DiskR} (h : Same d r) (s : List UInt8) : isAt d.files s = (lookR r.files s).isSome := by rw [(isAt_get h.sorted s).1, h.file]
theorem Same.or {d r : DiskR} (h : Same d r) (s : List UInt8) : fileOr d.files s = lookOr r.files s := by rw [(isAt_get h.sorted s).2, h.file]; rfl
theorem Same.new (q : Int) : Same (newR q) (newR q) := ⟨.nil, .refl _, fun _ => rfl, rfl, rfl, rfl, rfl⟩
theorem Same.step {d r : DiskR} (h : Same d r) : Same d.step r.step := by
  unfold DiskR.step
  rw [h.set]
  split
  · exact ⟨h.sorted, h.perm, h.file, h.quota, by simp only [h.steps], rfl, rfl⟩
  · exact ⟨h.sorted, h.perm, h.file, h.quota, by simp only [h.steps], by simp only, h.off⟩
theorem Same.fail {d r : DiskR} (h : Same d r) (n : Int) : Same (failR d n) (failR r n) := ⟨h.sorted, h.perm, h.file, h.quota, h.steps, rfl, h.off⟩
theorem Same.crash {d r : DiskR} (h : Same d r) : Same (crashR d) (crashR r) := ⟨h.sorted, h.perm, h.file, h.quota, h.steps, rfl, rfl⟩
theorem Same.lay {d r : DiskR} (h : Same d r) (f : FileR) : Same { d with files := layR d.files f } { r with files := othersR r.files f.name ++ [f] } :=
  ⟨h.sorted.lay f, (lay_perm h.sorted f).trans ((oth_perm h.perm _).append_right [f]), fun s => by
    simp only []
    rw [get_lay, look_app, look_others, h.file]
    by_cases e : f.name = s <;> simp [e], h.quota, h.steps, h.set, h.off⟩
theorem Same.del {d r : DiskR} (h : Same d r) {t : List UInt8} (ht : isAt d.files t = true) : Same { d with files := delR d.files t } { r with files := othersR r.files t } :=
  ⟨h.sorted.erase _, by simp only []; rw [del_oth h.sorted ht]; exact oth_perm h.perm t, fun s => by
    simp only []
    rw [get_del h.sorted ht, look_others, h.file], h.quota, h.steps, h.set, h.off⟩
theorem bars_alike {d r : DiskR} (h : Same d r) (s : List UInt8) : barsE d.off [s] = rbarsE r s s false := by
  unfold barsE rbarsE; rw [h.off]; cases r.off <;> cases hb : badN s <;> simp [hb]
theorem Same.append {d r : DiskR} (h : Same d r) (s c : List UInt8) : (appendR d s c).1 = (rappendR r s c).1 ∧ Same (appendR d s c).2 (rappendR r s c).2 := by
  have hb := bars_alike h s
  have ho := h.or s
  have hu := used_perm h.perm
  have hn := lookOr_name r.files s
  have hs := h.set
  unfold appendR rappendR
  rw [hb, ho, hu, h.quota]
  split
  · have i1 : ((8388608 : Int) - ((lookOr r.files s).size : Int) < c.length) = ((8388608 : Int) < ((lookOr r.files s).size : Int) + c.length) := propext ⟨fun _ => by omega, fun _ => by omega⟩
    have i2 : (r.quota - (usedR r.files : Int) < c.length) = (r.quota < (usedR r.files : Int) + c.length) := propext ⟨fun _ => by omega, fun _ => by omega⟩
    simp only [i1, i2]
    by_cases g1 : (8388608 : Int) < ((lookOr r.files s).size : Int) + c.length
    · simp only [if_pos g1]; exact ⟨trivial, h⟩
    · simp only [if_neg g1]
      by_cases g2 : r.quota < (usedR r.files : Int) + c.length
      · simp only [if_pos g2]; exact ⟨trivial, h⟩
      · simp only [if_neg g2]
        refine ⟨by simp only [hs], ?_⟩
        have hl := (h.lay { lookOr r.files s with wet := (lookOr r.files s).wet ++ c }).step
        simp only [hn, h.quota] at hl ⊢
        exact hl
  · exact ⟨rfl, h⟩
end Go.Proofs.Ytbmjhiifinjieaa
namespace Go.Proofs.Ytbmjhiifinjieaa
open Go Go.AM
set_option linter.unusedVariables false
set_option linter.unusedSimpArgs false
set_option linter.unusedSectionVars false

variable [Ex]
theorem Same.all {d r : DiskR} (h : Same d r) {a : List UInt8} (ht : isAt d.files a = true) : (fileAt d.files a).all = kAll r.files a := by
  have := h.or a
  unfold fileOr at this
  rw [ht] at this
  simp only [if_true] at this
  rw [this]; rfl
theorem Same.dry {d r : DiskR} (h : Same d r) (a b : List UInt8) : (driesR d a b some).1 = (rdoR r a b (lookOr r.files a).size).1 ∧ Same (driesR d a b some).2 (rdoR r a b (lookOr r.files a).size).2 := by
  have ht := h.there a
  cases hoff : r.off with
  | true => simp [driesR, rdoR, barsE, rbarsE, h.off, hoff, h]
  | false =>
    cases ba : badN a with
    | true => simp [driesR, rdoR, barsE, rbarsE, h.off, hoff, ba, h]
    | false =>
      cases bb : badN b with
      | true => simp [driesR, rdoR, barsE, rbarsE, h.off, hoff, ba, bb, h]
      | false =>
        cases hl : (lookR r.files a).isSome with
        | false =>
          rw [hl] at ht
          simp [driesR, rdoR, barsE, rbarsE, h.off, hoff, ba, bb, hl, ht, h]
        | true =>
          rw [hl] at ht
          have hall := h.all ht
          have htk : (kAll r.files a).take (lookOr r.files a).size = kAll r.files a := List.take_of_length_le (by rw [kAll_len]; exact Nat.le_refl _)
          have e1 : barsE d.off [a, b] = 0 := by simp [barsE, h.off, hoff, ba, bb]
          have e2 : rbarsE r a b true = 0 := by simp [rbarsE, hoff, ba, bb, hl]
          unfold driesR rdoR rdriesR
          rw [if_pos e1, if_pos e2, if_pos ht, hall, htk, h.set]
          simp only []
          by_cases hset : r.set = 0
          · simp only [if_pos hset]; exact ⟨trivial, h.step⟩
          · simp only [if_neg hset]
            have ht2 : isAt d.step.files a = true := by rw [step_files]; exact ht
            have := ((h.step).del ht2).lay ⟨b, kAll r.files a, [], true⟩
            simp only [step_files] at this
            exact ⟨trivial, this⟩

theorem Same.cut {d r : DiskR} (h : Same d r) (a : List UInt8) (n : Int) : (driesR d a a (cutN n)).1 = (rcutR r a n).1 ∧ Same (driesR d a a (cutN n)).2 (rcutR r a n).2 := by
  have ht := h.there a
  cases hoff : r.off with
  | true => simp [driesR, rcutR, barsE, rbarsE, h.off, hoff, h]
  | false =>
    cases ba : badN a with
    | true => simp [driesR, rcutR, barsE, rbarsE, h.off, hoff, ba, h]
    | false =>
      cases hl : (lookR r.files a).isSome with
      | false =>
        rw [hl] at ht
        simp [driesR, rcutR, barsE, rbarsE, h.off, hoff, ba, hl, ht, h]
      | true =>
        rw [hl] at ht
        have hall := h.all ht
        have e1 : barsE d.off [a, a] = 0 := by simp [barsE, h.off, hoff, ba]
        have e2 : rbarsE r a a true = 0 := by simp [rbarsE, hoff, ba, hl]
        have hk := kAll_len r.files a
        unfold driesR rcutR rdriesR
        rw [if_pos e1, if_pos e2, if_pos ht, hall, h.set]
        unfold cutN
        rw [hk]
        by_cases hn : n < 0 ∨ ((lookOr r.files a).size : Int) < n
        · simp only [if_pos hn]; exact ⟨trivial, h⟩
        · simp only [if_neg hn]
          by_cases hset : r.set = 0
          · simp only [if_pos hset]; exact ⟨trivial, h.step⟩
          · simp only [if_neg hset]
            have ht2 : isAt d.step.files a = true := by rw [step_files]; exact ht
            have := ((h.step).del ht2).lay ⟨a, (kAll r.files a).take n.toNat, [], true⟩
            simp only [step_files] at this
            exact ⟨trivial, this⟩
theorem bars_true {d r : DiskR} (h : Same d r) (s : List UInt8) : (barsE d.off [s] = 0 ∧ rbarsE r s s true = (if (lookR r.files s).isSome then 0 else 5)) ∨ (barsE d.off [s] ≠ 0 ∧ rbarsE r s s true = barsE d.off [s]) := by
  cases hoff : r.off <;> cases ba : badN s <;> cases hl : (lookR r.files s).isSome <;> simp [barsE, rbarsE, h.off, hoff, ba, hl]
theorem Same.rem {d r : DiskR} (h : Same d r) (s : List UInt8) : (removeR d s).1 = (rremoveR r s).1 ∧ Same (removeR d s).2 (rremoveR r s).2 := by
  have ht := h.there s
  unfold removeR rremoveR
  rcases bars_true h s with ⟨e1, e2⟩ | ⟨e1, e2⟩
  · rw [if_pos e1, e2]
    cases hl : (lookR r.files s).isSome with
    | false => rw [hl] at ht; simp [ht, h]
    | true =>
      rw [hl] at ht
      rw [if_pos ht, h.set]
      simp only [if_true]
      by_cases hset : r.set = 0
      · simp only [if_pos hset]; exact ⟨trivial, h.step⟩
      · simp only [if_neg hset]
        have ht2 : isAt d.step.files s = true := by rw [step_files]; exact ht
        have := (h.step).del ht2
        simp only [step_files] at this
        exact ⟨trivial, this⟩
  · rw [if_neg e1, e2, if_neg e1]; exact ⟨rfl, h⟩
theorem Same.read {d r : DiskR} (h : Same d r) (s : List UInt8) : readR d s = rreadR r s := by
  have ht := h.there s
  unfold readR rreadR
  rcases bars_true h s with ⟨e1, e2⟩ | ⟨e1, e2⟩
  · rw [if_pos e1, e2]
    cases hl : (lookR r.files s).isSome with
    | false => rw [hl] at ht; simp [ht]
    | true => rw [hl] at ht; rw [if_pos ht, h.all ht]; simp
  · rw [if_neg e1, e2, if_neg e1]
end Go.Proofs.Ytbmjhiifinjieaa
namespace Go.Proofs.Ytbmjhiifinjieaa
open Go Go.AM
set_option linter.unusedVariables false
set_option linter.unusedSimpArgs false
set_option linter.unusedSectionVars false

variable [Ex]
/-- By their names, one after the other put in its place. -/
def sortR (fs : List FileR) : List FileR := fs.foldl (fun o f => insR o (place o f.name) f) []
theorem ins_lay {o : List FileR} (hS : Sorted o) {f : FileR} (h : ∀ g ∈ o, g.name ≠ f.name) : insR o (place o f.name) f = layR o f := by
  have hn : isAt o f.name = false := by
    rw [(isAt_get hS f.name).1, getF_none h]; rfl
  unfold layR; rw [hn]; simp
theorem sort_ok : ∀ (fs o : List FileR), Sorted o → (o ++ fs).Pairwise (fun a b => a.name ≠ b.name) → Sorted (fs.foldl (fun o f => insR o (place o f.name) f) o) ∧ (fs.foldl (fun o f => insR o (place o f.name) f) o).Perm (o ++ fs)
  | [], o, hS, _ => ⟨hS, by simp⟩
  | f :: fs, o, hS, hd => by
    have hne : ∀ g ∈ o, g.name ≠ f.name := fun g hg => (List.pairwise_append.1 hd).2.2 g hg f (by simp)
    have e := ins_lay hS hne
    have hp : (layR o f).Perm (o ++ [f]) := by have := lay_perm hS f; rwa [oth_all hne] at this
    have hd2 : (layR o f ++ fs).Pairwise (fun a b => a.name ≠ b.name) := by
      refine List.Perm.pairwise (l := o ++ f :: fs) ?_ hd (fun h => fun e => h e.symm)
      have := (hp.append_right fs).symm
      simpa using this
    obtain ⟨h1, h2⟩ := sort_ok fs (layR o f) (hS.lay f) hd2
    simp only [List.foldl_cons, e]
    exact ⟨h1, h2.trans (by simpa using hp.append_right fs)⟩

theorem sorted_eq : ∀ {a b : List FileR}, Sorted a → Sorted b → a.Perm b → a = b
  | [], b, _, _, h => (List.nil_perm.1 h).symm
  | x :: a, [], _, _, h => by have := h.length_eq; simp at this
  | x :: a, y :: b, ha, hb, h => by
    have hxy : x = y := by
      have h1 : x ∈ y :: b := h.subset (by simp)
      have h2 : y ∈ x :: a := h.symm.subset (by simp)
      rcases List.mem_cons.1 h1 with h1 | h1
      · exact h1
      · rcases List.mem_cons.1 h2 with h2 | h2
        · exact h2.symm
        · have := ltB_trans (ha.hd y h2) (hb.hd x h1)
          rw [ltB_irrefl] at this; cases this
    subst hxy
    rw [sorted_eq ha.tl hb.tl ((List.perm_cons x).1 h)]
theorem Same.sort {d r : DiskR} (h : Same d r) : sortR r.files = d.files := by
  have hd : (d.files).Pairwise (fun a b => a.name ≠ b.name) := List.Pairwise.imp (fun h => ltB_ne h) h.sorted
  have hr : (r.files).Pairwise (fun a b => a.name ≠ b.name) := List.Perm.pairwise h.perm hd (fun h e => h e.symm)
  obtain ⟨h1, h2⟩ := sort_ok r.files [] .nil (by simpa using hr)
  exact sorted_eq h1 h.sorted (h2.trans (by simpa using h.perm.symm))

theorem get_look : ∀ {fs : List FileR}, Sorted fs → ∀ s, getF fs s = lookR fs s
  | [], _, s => rfl
  | f :: fs, h, s => by
    have ih := get_look h.tl s
    have e : lookR (f :: fs) s = (lookR fs s).or (if f.name = s then some f else none) := by
      unfold lookR
      rw [List.reverse_cons, List.find?_append]
      by_cases hs : f.name = s <;> simp [hs]
    rw [getF_cons, e, ← ih]
    by_cases hs : f.name = s
    · have : getF fs s = none := getF_none fun x hx ex => by
        have := h.hd x hx
        rw [ex, hs, ltB_irrefl] at this; cases this
      simp [hs, this]
    · cases getF fs s <;> simp [hs]
/-- The reference comes on. -/
def rOnR (r : DiskR) (keep : List Int) : DiskR := if r.off then { r with files := onFiles keep (sortR r.files) (sortR r.files).length, set := -1, off := false } else { r with set := -1 }
theorem Same.on {d r : DiskR} (h : Same d r) (keep : List Int) : Same (onR d keep) (rOnR r keep) := by
  unfold onR rOnR
  rw [h.off, h.sort]
  split
  · have hs : Sorted (onFiles keep d.files d.files.length) := by rw [onS_eq]; exact h.sorted.onS 0
    exact ⟨hs, .refl _, get_look hs, h.quota, h.steps, rfl, rfl⟩
  · exact ⟨h.sorted, h.perm, h.file, h.quota, h.steps, rfl, by simp only []⟩
end Go.Proofs.Ytbmjhiifinjieaa
namespace Go.Proofs.Ytbmjhiifinjieaa
open Go Go.AM
set_option linter.unusedVariables false
set_option linter.unusedSimpArgs false
set_option linter.unusedSectionVars false
set_option maxHeartbeats 2000000
set_option maxRecDepth 100000

variable [Ex]
/-- Rows of files as Files tells them. -/
inductive Rows (m : AMem) : List FileR → List Value → Prop
  | nil : Rows m [] []
  | cons {f : FileR} {b : Nat} {fs : List FileR} {X : List Value} : b < m.size → m.get b = .cells (f.all.map byteV) 5 true (.room [.int .u8 0]) → Rows m fs X → Rows m (f :: fs) (.string ⟨f.name.toArray⟩ :: .slice (some ⟨b, 0, none⟩) f.all.length openCap :: X)
theorem Rows.len {m : AMem} {fs : List FileR} {X : List Value} (h : Rows m fs X) : X.length = 2 * fs.length := by
  induction h with
  | nil => rfl
  | cons _ _ _ ih => simp only [List.length_cons, ih]; omega
theorem Rows.one {m : AMem} {fs : List FileR} {X : List Value} (h : Rows m fs X) : X.all oneCell = true := by
  induction h with
  | nil => rfl
  | cons _ _ _ ih => simp only [List.all_cons, ih]; rfl
theorem Rows.app {m : AMem} {fs gs : List FileR} {X Y : List Value} (h : Rows m fs X) (h' : Rows m gs Y) : Rows m (fs ++ gs) (X ++ Y) := by
  induction h with
  | nil => exact h'
  | cons h1 h2 _ ih => exact .cons h1 h2 ih
theorem Rows.take {m : AMem} {fs : List FileR} {X : List Value} (h : Rows m fs X) : ∀ n, Rows m (fs.take n) (X.take (2 * n)) := by
  induction h with
  | nil => intro n; simp; exact .nil
  | cons h1 h2 _ ih =>
    intro n
    cases n with
    | zero => exact .nil
    | succ n => rw [show 2 * (n + 1) = 2 * n + 1 + 1 by omega]; simp only [List.take_succ_cons]; exact .cons h1 h2 (ih n)
theorem Rows.drop {m : AMem} {fs : List FileR} {X : List Value} (h : Rows m fs X) : ∀ n, Rows m (fs.drop n) (X.drop (2 * n)) := by
  induction h with
  | nil => intro n; simp; exact .nil
  | cons h1 h2 h3 ih =>
    intro n
    cases n with
    | zero => exact .cons h1 h2 h3
    | succ n => rw [show 2 * (n + 1) = 2 * n + 1 + 1 by omega]; simp only [List.drop_succ_cons]; exact ih n
theorem Rows.keep {m m' : AMem} {fs : List FileR} {X : List Value} (h : Rows m fs X) {O : Nat → Prop} (hk : Keep O m m') (ho : ∀ x Y w sp, m.get x = .cells Y 5 w sp → ¬ O x) : Rows m' fs X := by
  induction h with
  | nil => exact .nil
  | cons h1 h2 _ ih => exact .cons (Nat.lt_of_lt_of_le h1 hk.1) (by rw [hk.2 _ h1 (ho _ _ _ _ h2)]; exact h2) ih
theorem Rows.get {m : AMem} {fs : List FileR} {X : List Value} (h : Rows m fs X) {k : Nat} (hk : k < fs.length) : ∃ b, cutL X (k * 2) 2 = some [.string ⟨fs[k].name.toArray⟩, .slice (some ⟨b, 0, none⟩) fs[k].all.length openCap] ∧ b < m.size ∧ m.get b = .cells (fs[k].all.map byteV) 5 true (.room [.int .u8 0]) := by
  have hd := h.drop k
  have hl := h.len
  rw [List.drop_eq_getElem_cons hk] at hd
  generalize hY : X.drop (2 * k) = Y at hd
  cases hd with
  | cons h1 h2 h3 =>
    refine ⟨_, ?_, h1, h2⟩
    unfold cutL
    rw [if_pos (by omega), Nat.mul_comm k 2, hY]; rfl
def zO : List Value := [.string ⟨#[]⟩, .slice none 0 0]
/-- A slice of such rows. -/
def FilV (m : AMem) (v : Value) (fs : List FileR) : Prop :=
  (fs = [] ∧ v = .slice none 0 0) ∨ ∃ b X, v = .slice (some ⟨b, 0, none⟩) fs.length openCap ∧ b < m.size ∧ m.get b = .cells X 77 true (.room zO) ∧ Rows m fs X
theorem FilV.len {m : AMem} {v : Value} {fs : List FileR} (h : FilV m v fs) : ∃ a cap, v = .slice a fs.length cap := by
  rcases h with ⟨rfl, rfl⟩ | ⟨b, X, rfl, _⟩
  · exact ⟨_, _, rfl⟩
  · exact ⟨_, _, rfl⟩
theorem FilV.keep {m m' : AMem} {v : Value} {fs : List FileR} (h : FilV m v fs) {O : Nat → Prop} (hk : Keep O m m') (ho : ∀ x Y w sp, m.get x = .cells Y 5 w sp → ¬ O x) (hv : ∀ x, ownV v x → ¬ O x) : FilV m' v fs := by
  rcases h with h | ⟨b, X, rfl, h1, h2, h3⟩
  · exact .inl h
  · exact .inr ⟨b, X, rfl, Nat.lt_of_lt_of_le h1 hk.1, by rw [hk.2 b h1 (hv b ⟨_, _, _, rfl⟩)]; exact h2, h3.keep hk ho⟩
theorem FilV.old {m m' : AMem} {v : Value} {fs : List FileR} (h : FilV m v fs) (hk : Old m m') : FilV m' v fs := h.keep (hk.keep fun _ => False) (fun _ _ _ _ _ h => h) (fun _ _ h => h)
theorem FilV.no5 {m : AMem} {v : Value} {fs : List FileR} (h : FilV m v fs) : ∀ x X w sp, m.get x = .cells X 5 w sp → ¬ ownV v x := by
  rintro x X w sp hx ⟨o, l, c, rfl⟩
  rcases h with ⟨_, h⟩ | ⟨b, Y, h, _, h2, _⟩
  · cases h
  · cases h; rw [h2] at hx; cases hx
theorem FilV.get {m : AMem} {a : Option Addr} {n cap : Nat} {fs : List FileR} (h : FilV m (.slice a n cap) fs) {k : Nat} (hk : k < fs.length) :
    ∃ b X bb, a = some ⟨b, 0, none⟩ ∧ b < m.size ∧ m.get b = .cells X 77 true (.room zO) ∧ cutL X (k * 2) 1 = some [.string ⟨fs[k].name.toArray⟩] ∧ cutL X (k * 2 + 1) 1 = some [.slice (some ⟨bb, 0, none⟩) fs[k].all.length openCap] ∧ bb < m.size ∧ m.get bb = .cells (fs[k].all.map byteV) 5 true (.room [.int .u8 0]) := by
  rcases h with ⟨rfl, _⟩ | ⟨b, X, h0, h1, h2, h3⟩
  · simp at hk
  · cases h0
    obtain ⟨bb, e, h4, h5⟩ := h3.get hk
    exact ⟨b, X, bb, rfl, h1, h2, by rw [cutL_take e (by omega)]; rfl, by have := cutL_sub e (j := 1) (by omega); exact this, h4, h5⟩
theorem eqPL_zO : eqPL zO zO = true := by decide

/-- Rows behind rows. -/
theorem app_fil {m : AMem} {v w : Value} {fs gs : List FileR} {Y : List Value} (hF : FilV m v fs) (hn : fs.length + gs.length ≤ 1000000) (hw : srcLen w = some gs.length) (hs : srcCells 2 gs.length w (mx m []) = some Y) (hY : Rows m gs Y) :
    ∃ v' M', appV 77 2 40 zO v w (mx m []) = some (v', mx M' []) ∧ FilV M' v' (fs ++ gs) ∧ Keep (ownV v) m M' ∧ ∀ x, ownV v' x → ownV v x ∨ m.size ≤ x := by
  have hl := hY.len
  have happ : appV 77 2 40 zO v w (mx m []) = appendTo 77 2 40 zO v gs.length Y (mx m []) := by
    simp only [appV, hw, hs]
    rw [if_pos ⟨rfl, by omega, hY.one, by omega⟩]
  rw [happ]
  by_cases h0 : gs = []
  · subst h0
    simp only [List.length_nil, Nat.mul_zero] at hl
    refine ⟨v, m, ?_, by rw [List.append_nil]; exact hF, .refl _ _, fun x h => .inl h⟩
    rcases hF with ⟨rfl, rfl⟩ | ⟨b, X, rfl, hb, hm, hX⟩
    · rfl
    · have hXl := hX.len
      simp only [appendTo, if_true, mx_old hb, hm, List.length_nil]
      rw [if_pos (show (Spare.room zO).size = 2 from rfl), if_pos (by omega)]
  · have hg : 0 < gs.length := List.length_pos_iff.2 h0
    rcases hF with ⟨rfl, rfl⟩ | ⟨b, X, rfl, hb, hm, hX⟩
    · refine ⟨.slice (some ⟨m.size, 0, none⟩) gs.length openCap, mx m [.cells Y 77 true (.room zO)], ?_, .inr ⟨m.size, Y, rfl, by rw [mx_size]; simp, mx_new0 _ _, hY.keep ((Old.here m _).keep fun _ => False) fun _ _ _ _ _ h => h⟩, (Keep.refl _ _).mx _, fun x ⟨o, l, c, h⟩ => by cases h; exact .inr (Nat.le_refl _)⟩
      rw [appendTo_nil hg (by simp only [List.length_nil] at hn; omega) (by simp only [List.length_nil] at hn; omega), mx_push, mx_nil_size, mx_mx]; rfl
    · have hk : Keep (ownV (.slice (some ⟨b, 0, none⟩) fs.length openCap)) m (m.set b .dead) := (Keep.refl _ m).set (fun _ => ⟨_, _, _, rfl⟩) _
      have hk2 := hk.mx [.cells (X ++ Y) 77 true (.room zO)]
      have hno := FilV.no5 (.inr ⟨b, X, rfl, hb, hm, hX⟩ : FilV m (.slice (some ⟨b, 0, none⟩) fs.length openCap) fs)
      refine ⟨.slice (some ⟨m.size, 0, none⟩) (fs.length + gs.length) openCap, mx (m.set b .dead) [.cells (X ++ Y) 77 true (.room zO)], ?_, .inr ⟨m.size, X ++ Y, by simp, by rw [mx_size, AMem.size_set]; simp, ?_, (hX.app hY).keep hk2 hno⟩, hk2, fun x ⟨o, l, c, h⟩ => by cases h; exact .inr (Nat.le_refl _)⟩
      · rw [appendTo_open (sz := 2) (z' := zO) ((mx_old hb).trans hm) eqPL_zO rfl (by omega) (by rw [hX.len]; omega) hg (by omega) (by omega), mx_set_old hb, mx_push, mx_nil_size, mx_mx]; rfl
      · have := mx_new0 (m.set b .dead) [.cells (X ++ Y) 77 true (.room zO)]
        rw [AMem.size_set] at this; exact this
theorem fil_head {m : AMem} {a : Option Addr} {cap : Nat} {fs : List FileR} (hF : FilV m (.slice a fs.length cap) fs) {n : Nat} (hn : n ≤ fs.length) (M : AMem) (hM : Old m M) :
    ∃ w Y, slVv 2 (.slice a fs.length cap) none (some (.int .i64 (n : Int))) none M = some (w, M) ∧ srcLen w = some (fs.take n).length ∧ srcCells 2 (fs.take n).length w M = some Y ∧ Rows m (fs.take n) Y := by
  rcases hF with ⟨rfl, h⟩ | ⟨b, X, h, hb, hm, hX⟩
  · cases h
    obtain rfl : n = 0 := by simpa using hn
    exact ⟨.slice none 0 0, [], by simp [slVv, cutV, openCap], rfl, rfl, .nil⟩
  · cases h
    have hl := hX.len
    have hg : M.get b = .cells X 77 true (.room zO) := by rw [hM.2 b hb]; exact hm
    refine ⟨.slice (some ⟨b, 0, none⟩) n openCap, X.take (2 * n), ?_, by rw [srcLen_slice, List.length_take]; congr 1; omega, ?_, hX.take n⟩
    · simp only [slVv, if_true, hg]
      rw [if_pos ⟨rfl, by omega⟩, cut4hi (by omega)]
      simp
    · rw [List.length_take, srcCells_slice (by omega), rd_def, hg, rdO_cells]
      unfold cutL
      rw [if_pos (by omega), List.drop_zero]; congr 2; omega
theorem fil_tail {m : AMem} {a : Option Addr} {cap : Nat} {fs : List FileR} (hF : FilV m (.slice a fs.length cap) fs) {n : Nat} (hn : n ≤ fs.length) (M : AMem) (hM : Old m M) :
    ∃ w Y, slVv 2 (.slice a fs.length cap) (some (.int .i64 (n : Int))) none none M = some (w, M) ∧ srcLen w = some (fs.drop n).length ∧ srcCells 2 (fs.drop n).length w M = some Y ∧ Rows m (fs.drop n) Y := by
  rcases hF with ⟨rfl, h⟩ | ⟨b, X, h, hb, hm, hX⟩
  · cases h
    obtain rfl : n = 0 := by simpa using hn
    exact ⟨.slice none 0 0, [], by simp [slVv, cutV, openCap], rfl, rfl, .nil⟩
  · cases h
    have hl := hX.len
    have hg : M.get b = .cells X 77 true (.room zO) := by rw [hM.2 b hb]; exact hm
    refine ⟨.slice (some ⟨b, n * 2, none⟩) (fs.length - n) openCap, X.drop (2 * n), ?_, by rw [srcLen_slice, List.length_drop], ?_, hX.drop n⟩
    · simp only [slVv, if_true, hg]
      rw [if_pos ⟨rfl, by omega⟩, cut4lo hn (by omega)]
      simp
    · rw [List.length_drop, srcCells_slice (by omega), rd_def, hg, rdO_cells]
      unfold cutL
      rw [if_pos (by omega), List.take_of_length_le (by rw [List.length_drop]; omega), Nat.mul_comm]

theorem fill_oRow (z1 z2 : Value) (s : ByteArray) (a : Option Addr) (l c : Nat) : fill [z1, z2] [(0, 2, .agg [.string s, .slice a l c].toArray)] = some [.string s, .slice a l c] := rfl
theorem sortR_len' : ∀ (fs o : List FileR), (fs.foldl (fun o f => insR o (place o f.name) f) o).length = o.length + fs.length
  | [], o => rfl
  | f :: fs, o => by
    have : place o f.name ≤ o.length := List.findIdx_le_length
    rw [List.foldl_cons, sortR_len' fs, insR_len this, List.length_cons]; omega
theorem sortR_len (fs : List FileR) : (sortR fs).length = fs.length := by unfold sortR; rw [sortR_len']; simp
/-- The place of a name, found by going on. -/
theorem files_ok (m : AMem) (p : Nat) (v : Value) (d : DiskR) (hD : RAt m p v d) (hO : ROk d) :
    RelC Try.prog 0 50 [.pointer (some ⟨p, 0, none⟩)] m fun v' m' => Old m m' ∧ FilV m' v' (sortR d.files) := by
  refine rel_of_W (fn := Try.f50) rfl rfl F50_ok (by simp [F50]) ?_
  have hp0 := hD.lt
  have hd := hD.get
  have hf := hO.few
  have hu := hO.used
  obtain ⟨a, cap, rfl⟩ := hD.files.len
  simp only [DiskR.cells] at hd
  repeat first | simp (implicitDefEqProofs := false) (maxSteps := 1000000) (disch := first | omega | with_reducible assumption | (simp only [lenT, Nat.reduceAdd]; omega)) only [amT, cut, bnd, Nat.reduceBEq, reduceCtorEq, Nat.reduceEqDiff, Nat.reduceAdd, Nat.reduceMul, Nat.reduceSub, Int.reduceToNat, Int.reduceEq, Int.reduceLT, Int.reduceLE, Int.reduceAdd, Int.reduceSub, Int.reduceMul, reduceIte, resVs, resV, packV, initT, addr, F50] | refine OrW.go ?_
  refine W_loop (fun N qs => ∃ (i : Nat) (M : AMem) (av : Option Addr) (cv : Nat), N = d.files.length - i ∧ qs.ds = [] ∧ qs.m = mx M [] ∧ qs.t 0 = .pointer (some ⟨p, 0, none⟩) ∧ qs.t 3 = .slice av (sortR (d.files.take i)).length cv ∧ qs.t 4 = .int .i64 i ∧ i ≤ d.files.length ∧ Old m M ∧ FilV M (.slice av (sortR (d.files.take i)).length cv) (sortR (d.files.take i))) (d.files.length - (0)) ⟨0, mx m [], none, 0, rfl, rfl, ?qm, ?q0, ?q3, ?q4, ?_⟩ ?_
  case qm | q0 | q3 | q4 => first | rfl | (simp (implicitDefEqProofs := false) (maxSteps := 1000000) (disch := first | omega | with_reducible assumption | (simp only [lenT, Nat.reduceAdd]; omega)) only [amT, cut, bnd, Nat.reduceBEq, reduceCtorEq, Nat.reduceEqDiff, Nat.reduceAdd, Nat.reduceMul, Nat.reduceSub, Int.reduceToNat, Int.reduceEq, Int.reduceLT, Int.reduceLE, Int.reduceAdd, Int.reduceSub, Int.reduceMul, reduceIte, resVs, resV, packV, initT, addr, mx_mx, List.append_nil, sortR, List.take_zero, List.foldl_nil]; first | done | rfl | (congr 1; omega))
  · exact ⟨by omega, Old.here _ _, .inl ⟨rfl, rfl⟩⟩
  · rintro N t m1 ds ⟨i, M, av, cv, rfl, hds, hm, t0, t3, t4, hp⟩
    simp only at hds hm t0 t3 t4
    subst hds; replace hm := hm.symm; subst hm
    obtain ⟨hi, hM, hV⟩ := hp
    have hdM : M.get p = .cells [.slice a d.files.length cap, .int .i64 d.quota, .int .i64 d.steps, .int .i64 d.set, .bool d.off] 73 true .exact := by rw [hM.2 p hD.lt]; exact hd
    have hpM : p < M.size := Nat.lt_of_lt_of_le hD.lt hM.1
    by_cases h1 : (i : Int) < (d.files.length : Int)
    · have hi : i < d.files.length := by omega
      obtain ⟨b, rfl, hb, hg, h4, h1'⟩ := (hD.files.old hM).get hi
      have hsucc : sortR (d.files.take (i + 1)) = insR (sortR (d.files.take i)) (place (sortR (d.files.take i)) d.files[i].name) d.files[i] := by
        unfold sortR; rw [List.take_succ_eq_append_getElem hi, List.foldl_append]; rfl
      have hlen : (sortR (d.files.take i)).length = i := by rw [sortR_len, List.length_take]; omega
      generalize sortR (d.files.take i) = o at hV hsucc t3 hlen
      repeat first | simp (implicitDefEqProofs := false) (maxSteps := 1000000) (disch := first | omega | with_reducible assumption | (simp only [lenT, Nat.reduceAdd]; omega)) only [amT, cut, bnd, Nat.reduceBEq, reduceCtorEq, Nat.reduceEqDiff, Nat.reduceAdd, Nat.reduceMul, Nat.reduceSub, Int.reduceToNat, Int.reduceEq, Int.reduceLT, Int.reduceLE, Int.reduceAdd, Int.reduceSub, Int.reduceMul, reduceIte, resVs, resV, packV, initT, addr, F50_l0, t0, t3, t4, h1, hdM] | refine OrW.go ?_
      refine W_loop (fun N qs => ∃ (j : Nat), N = o.length - j ∧ qs.ds = [] ∧ qs.m = mx M [] ∧ qs.t 0 = .pointer (some ⟨p, 0, none⟩) ∧ qs.t 3 = .slice av o.length cv ∧ qs.t 4 = .int .i64 i ∧ qs.t 5 = .int .i64 j ∧ j ≤ o.length ∧ ∀ k (hk : k < o.length), k < j → ltB o[k].name d.files[i].name = true) (o.length - (0)) ⟨0, rfl, rfl, ?qm, ?q0, ?q3, ?q4, ?q5, ?_⟩ ?_
      case qm | q0 | q3 | q4 | q5 => first | rfl | (simp (implicitDefEqProofs := false) (maxSteps := 1000000) (disch := first | omega | with_reducible assumption | (simp only [lenT, Nat.reduceAdd]; omega)) only [amT, cut, bnd, Nat.reduceBEq, reduceCtorEq, Nat.reduceEqDiff, Nat.reduceAdd, Nat.reduceMul, Nat.reduceSub, Int.reduceToNat, Int.reduceEq, Int.reduceLT, Int.reduceLE, Int.reduceAdd, Int.reduceSub, Int.reduceMul, reduceIte, resVs, resV, packV, initT, addr, t0, t3, t4]; first | done | rfl | (congr 1; omega))
      · exact ⟨by omega, fun k hk h => by omega⟩
      · rintro N t m1 ds ⟨j, rfl, hds, hm, t0, t3, t4, t5, hp⟩
        simp only at hds hm t0 t3 t4 t5
        subst hds; replace hm := hm.symm; subst hm
        obtain ⟨hj, hlt⟩ := hp
        by_cases h2 : (j : Int) < (o.length : Int)
        · have hj' : j < o.length := by omega
          obtain ⟨b2, X2, bb2, rfl, hb2, hg2, e1, e2, hbb, hgb⟩ := hV.get hj'
          simp only [kRow] at h4
          cases hl : ltB o[j].name d.files[i].name with
          | true =>
            repeat first | simp (implicitDefEqProofs := false) (maxSteps := 1000000) (disch := first | omega | with_reducible assumption | (simp only [lenT, Nat.reduceAdd]; omega)) only [amT, cut, bnd, Nat.reduceBEq, reduceCtorEq, Nat.reduceEqDiff, Nat.reduceAdd, Nat.reduceMul, Nat.reduceSub, Int.reduceToNat, Int.reduceEq, Int.reduceLT, Int.reduceLE, Int.reduceAdd, Int.reduceSub, Int.reduceMul, reduceIte, resVs, resV, packV, initT, addr, F50_l1, t0, t3, t4, t5, h2, hg2, hdM, hg, e1, h1', binV_slss, strLt_mk, hl] | refine OrW.go ?_
            rw [LoopK_normal]; refine ⟨_, ?_, j + 1, rfl, rfl, ?qm, ?q0, ?q3, ?q4, ?q5, ?_⟩
            case qm | q0 | q3 | q4 | q5 => first | rfl | (simp (implicitDefEqProofs := false) (maxSteps := 1000000) (disch := first | omega | with_reducible assumption | (simp only [lenT, Nat.reduceAdd]; omega)) only [amT, cut, bnd, Nat.reduceBEq, reduceCtorEq, Nat.reduceEqDiff, Nat.reduceAdd, Nat.reduceMul, Nat.reduceSub, Int.reduceToNat, Int.reduceEq, Int.reduceLT, Int.reduceLE, Int.reduceAdd, Int.reduceSub, Int.reduceMul, reduceIte, resVs, resV, packV, initT, addr, t0, t3, t4, t5]; first | done | rfl | (congr 1; omega))
            · omega
            · refine ⟨by omega, fun k hk hkj => ?_⟩
              rcases Nat.lt_or_ge k j with h | h
              · exact hlt k hk h
              · obtain rfl : k = j := by omega
                exact hl
          | false =>
            have hpl : place o d.files[i].name = j := by
              unfold place
              rw [List.findIdx_eq hj']
              exact ⟨by simp [hl], fun k hk => by simp [hlt k (by omega) hk]⟩
            obtain ⟨w1, Y1, q1, q2, q3, q4⟩ := fil_head hV (n := j) hj (mx M []) (Old.here M [])
            obtain ⟨v1, M1, q5, q6, q7, q8⟩ := app_fil (m := M) (v := .slice none 0 0) (fs := []) (.inl ⟨rfl, rfl⟩) (by rw [List.length_take, List.length_nil]; omega) q2 q3 q4
            rw [List.nil_append] at q6
            have hO1 : Old M M1 := q7.keep_old (Old.refl M) (fun x ⟨o, l, c, h⟩ => by cases h)
            have ho1 : ∀ x, ownV v1 x → M.size ≤ x := fun x h => (q8 x h).elim (fun ⟨o, l, c, h⟩ => by cases h) id
            have hd1 : M1.get p = .cells [.slice (some ⟨b, 0, none⟩) d.files.length cap, .int .i64 d.quota, .int .i64 d.steps, .int .i64 d.set, .bool d.off] 73 true .exact := by rw [hO1.2 p hpM]; exact hdM
            have hp1 : p < M1.size := Nat.lt_of_lt_of_le hpM hO1.1
            have hb1 : b < M1.size := Nat.lt_of_lt_of_le hb hO1.1
            have hg1 : M1.get b = .cells (kRows d.files) 91 true (.room zK) := by rw [hO1.2 b hb]; exact hg
            have f0 : rdO (M1.get b) (i * 4) 1 = some [.string ⟨d.files[i].name.toArray⟩] := by rw [hg1, rdO_cells]; exact h1'
            have f1 : rdO (M1.get b) (i * 4 + 1) 1 = some [.string ⟨d.files[i].dry.toArray⟩] := by rw [hg1, rdO_cells]; exact cutL_sub h4 (j := 1) (by omega)
            have f2 : rdO (M1.get b) (i * 4 + 2) 1 = some [.string ⟨d.files[i].wet.toArray⟩] := by rw [hg1, rdO_cells]; exact cutL_sub h4 (j := 2) (by omega)
            have hz : d.files[i].dry.length + d.files[i].wet.length ≤ 50000000 := Nat.le_trans (size_le hi) hu
            have hO2 := Old.here M1 [.cells (d.files[i].all.map byteV) 5 true (.room [.int .u8 0]), .cells [.string ⟨d.files[i].name.toArray⟩, .slice (some ⟨M1.size, 0, none⟩) d.files[i].all.length openCap] 77 true .exact]
            obtain ⟨v2, M2, q9, q10, q11, q12⟩ := app_fil (gs := [d.files[i]]) (w := .slice (some ⟨M1.size + 1, 0, none⟩) 1 1) (Y := [.string ⟨d.files[i].name.toArray⟩, .slice (some ⟨M1.size, 0, none⟩) d.files[i].all.length openCap]) (q6.old hO2) (by rw [List.length_take]; simp; omega) rfl
              (by rw [List.length_singleton, srcCells_slice (by omega), rd_def, mx_mx, List.append_nil, mx_new, List.getD_cons_succ, List.getD_cons_zero, rdO_cells]; rfl)
              (.cons (by rw [mx_size]; simp) (mx_new0 _ _) .nil)
            have hO3 : Old M M2 := q11.keep_old (hO1.trans hO2) ho1
            have ho3 : ∀ x, ownV v2 x → M.size ≤ x := fun x h => (q12 x h).elim (ho1 x) (fun h => Nat.le_trans (hO1.trans hO2).1 h)
            obtain ⟨w3, Y3, q13, q14, q15, q16⟩ := fil_tail hV (n := j) hj (mx M2 []) (hO3.mx [])
            obtain ⟨v3, M3, q17, q18, q19, q20⟩ := app_fil (m := M2) q10 (by simp; omega) q14 q15 (q16.keep (hO3.keep fun _ => False) fun _ _ _ _ _ h => h)
            have hO4 : Old M M3 := q19.keep_old hO3 ho3
            have hR : sortR (d.files.take (i + 1)) = List.take j o ++ [d.files[i]] ++ List.drop j o := by rw [hsucc, hpl]; simp [insR]
            rw [← hR] at q18
            obtain ⟨a3, c3, rfl⟩ := q18.len
            rw [mx_mx, List.append_nil] at q9
            simp only [zO, FileR.all, List.length_append] at q5 q9 q17
            repeat first | simp (implicitDefEqProofs := false) (maxSteps := 1000000) (disch := first | omega | with_reducible assumption | (simp only [lenT, Nat.reduceAdd]; omega)) only [amT, cut, bnd, Nat.reduceBEq, reduceCtorEq, Nat.reduceEqDiff, Nat.reduceAdd, Nat.reduceMul, Nat.reduceSub, Int.reduceToNat, Int.reduceEq, Int.reduceLT, Int.reduceLE, Int.reduceAdd, Int.reduceSub, Int.reduceMul, reduceIte, resVs, resV, packV, initT, addr, F50_l1, t0, t3, t4, t5, h2, hg2, hdM, hg, e1, h1', binV_slss, strLt_mk, hl, stepOp_slV_v, q1, stepOp_app_v, fill_oRow, q5, hd1, f0, f1, f2, q9, q13, q17] | refine OrW.go ?_
            rw [LoopK_normal]; refine ⟨_, ?_, i + 1, M3, a3, c3, rfl, rfl, ?qm, ?q0, ?q3, ?q4, ?_⟩
            case qm | q0 | q3 | q4 => first | rfl | (simp (implicitDefEqProofs := false) (maxSteps := 1000000) (disch := first | omega | with_reducible assumption | (simp only [lenT, Nat.reduceAdd]; omega)) only [amT, cut, bnd, Nat.reduceBEq, reduceCtorEq, Nat.reduceEqDiff, Nat.reduceAdd, Nat.reduceMul, Nat.reduceSub, Int.reduceToNat, Int.reduceEq, Int.reduceLT, Int.reduceLE, Int.reduceAdd, Int.reduceSub, Int.reduceMul, reduceIte, resVs, resV, packV, initT, addr, t0, t3, t4, t5]; first | done | rfl | (congr 1; omega))
            · omega
            · exact ⟨by omega, hM.trans hO4, q18⟩
        · have hjl : j = o.length := by omega
          have hpl : place o d.files[i].name = j := by
            unfold place
            rw [hjl, List.findIdx_eq_length]
            intro x hx
            obtain ⟨k, hk, rfl⟩ := List.mem_iff_getElem.1 hx
            simp [hlt k hk (by omega)]
          simp only [kRow] at h4
          obtain ⟨w1, Y1, q1, q2, q3, q4⟩ := fil_head hV (n := j) hj (mx M []) (Old.here M [])
          obtain ⟨v1, M1, q5, q6, q7, q8⟩ := app_fil (m := M) (v := .slice none 0 0) (fs := []) (.inl ⟨rfl, rfl⟩) (by rw [List.length_take, List.length_nil]; omega) q2 q3 q4
          rw [List.nil_append] at q6
          have hO1 : Old M M1 := q7.keep_old (Old.refl M) (fun x ⟨o, l, c, h⟩ => by cases h)
          have ho1 : ∀ x, ownV v1 x → M.size ≤ x := fun x h => (q8 x h).elim (fun ⟨o, l, c, h⟩ => by cases h) id
          have hd1 : M1.get p = .cells [.slice (some ⟨b, 0, none⟩) d.files.length cap, .int .i64 d.quota, .int .i64 d.steps, .int .i64 d.set, .bool d.off] 73 true .exact := by rw [hO1.2 p hpM]; exact hdM
          have hp1 : p < M1.size := Nat.lt_of_lt_of_le hpM hO1.1
          have hb1 : b < M1.size := Nat.lt_of_lt_of_le hb hO1.1
          have hg1 : M1.get b = .cells (kRows d.files) 91 true (.room zK) := by rw [hO1.2 b hb]; exact hg
          have f0 : rdO (M1.get b) (i * 4) 1 = some [.string ⟨d.files[i].name.toArray⟩] := by rw [hg1, rdO_cells]; exact h1'
          have f1 : rdO (M1.get b) (i * 4 + 1) 1 = some [.string ⟨d.files[i].dry.toArray⟩] := by rw [hg1, rdO_cells]; exact cutL_sub h4 (j := 1) (by omega)
          have f2 : rdO (M1.get b) (i * 4 + 2) 1 = some [.string ⟨d.files[i].wet.toArray⟩] := by rw [hg1, rdO_cells]; exact cutL_sub h4 (j := 2) (by omega)
          have hz : d.files[i].dry.length + d.files[i].wet.length ≤ 50000000 := Nat.le_trans (size_le hi) hu
          have hO2 := Old.here M1 [.cells (d.files[i].all.map byteV) 5 true (.room [.int .u8 0]), .cells [.string ⟨d.files[i].name.toArray⟩, .slice (some ⟨M1.size, 0, none⟩) d.files[i].all.length openCap] 77 true .exact]
          obtain ⟨v2, M2, q9, q10, q11, q12⟩ := app_fil (gs := [d.files[i]]) (w := .slice (some ⟨M1.size + 1, 0, none⟩) 1 1) (Y := [.string ⟨d.files[i].name.toArray⟩, .slice (some ⟨M1.size, 0, none⟩) d.files[i].all.length openCap]) (q6.old hO2) (by rw [List.length_take]; simp; omega) rfl
            (by rw [List.length_singleton, srcCells_slice (by omega), rd_def, mx_mx, List.append_nil, mx_new, List.getD_cons_succ, List.getD_cons_zero, rdO_cells]; rfl)
            (.cons (by rw [mx_size]; simp) (mx_new0 _ _) .nil)
          have hO3 : Old M M2 := q11.keep_old (hO1.trans hO2) ho1
          have ho3 : ∀ x, ownV v2 x → M.size ≤ x := fun x h => (q12 x h).elim (ho1 x) (fun h => Nat.le_trans (hO1.trans hO2).1 h)
          obtain ⟨w3, Y3, q13, q14, q15, q16⟩ := fil_tail hV (n := j) hj (mx M2 []) (hO3.mx [])
          obtain ⟨v3, M3, q17, q18, q19, q20⟩ := app_fil (m := M2) q10 (by simp; omega) q14 q15 (q16.keep (hO3.keep fun _ => False) fun _ _ _ _ _ h => h)
          have hO4 : Old M M3 := q19.keep_old hO3 ho3
          have hR : sortR (d.files.take (i + 1)) = List.take j o ++ [d.files[i]] ++ List.drop j o := by rw [hsucc, hpl]; simp [insR]
          rw [← hR] at q18
          obtain ⟨a3, c3, rfl⟩ := q18.len
          rw [mx_mx, List.append_nil] at q9
          simp only [zO, FileR.all, List.length_append] at q5 q9 q17
          repeat first | simp (implicitDefEqProofs := false) (maxSteps := 1000000) (disch := first | omega | with_reducible assumption | (simp only [lenT, Nat.reduceAdd]; omega)) only [amT, cut, bnd, Nat.reduceBEq, reduceCtorEq, Nat.reduceEqDiff, Nat.reduceAdd, Nat.reduceMul, Nat.reduceSub, Int.reduceToNat, Int.reduceEq, Int.reduceLT, Int.reduceLE, Int.reduceAdd, Int.reduceSub, Int.reduceMul, reduceIte, resVs, resV, packV, initT, addr, F50_l1, t0, t3, t4, t5, h2, hg, hdM, h1', stepOp_slV_v, q1, stepOp_app_v, fill_oRow, q5, hd1, f0, f1, f2, q9, q13, q17] | refine OrW.go ?_
          rw [LoopK_normal]; refine ⟨_, ?_, i + 1, M3, a3, c3, rfl, rfl, ?qm, ?q0, ?q3, ?q4, ?_⟩
          case qm | q0 | q3 | q4 => first | rfl | (simp (implicitDefEqProofs := false) (maxSteps := 1000000) (disch := first | omega | with_reducible assumption | (simp only [lenT, Nat.reduceAdd]; omega)) only [amT, cut, bnd, Nat.reduceBEq, reduceCtorEq, Nat.reduceEqDiff, Nat.reduceAdd, Nat.reduceMul, Nat.reduceSub, Int.reduceToNat, Int.reduceEq, Int.reduceLT, Int.reduceLE, Int.reduceAdd, Int.reduceSub, Int.reduceMul, reduceIte, resVs, resV, packV, initT, addr, t0, t3, t4, t5]; first | done | rfl | (congr 1; omega))
          · omega
          · exact ⟨by omega, hM.trans hO4, q18⟩
    · obtain rfl : i = d.files.length := by omega
      rw [List.take_length] at hV t3
      repeat first | simp (implicitDefEqProofs := false) (maxSteps := 1000000) (disch := first | omega | with_reducible assumption | (simp only [lenT, Nat.reduceAdd]; omega)) only [amT, cut, bnd, Nat.reduceBEq, reduceCtorEq, Nat.reduceEqDiff, Nat.reduceAdd, Nat.reduceMul, Nat.reduceSub, Int.reduceToNat, Int.reduceEq, Int.reduceLT, Int.reduceLE, Int.reduceAdd, Int.reduceSub, Int.reduceMul, reduceIte, resVs, resV, packV, initT, addr, F50_l0, t0, t3, t4, h1, hdM] | refine OrW.go ?_
      exact ⟨_, rfl, fun _ => ⟨hM.mx _, hV.old (Old.here _ _)⟩⟩
end Go.Proofs.Ytbmjhiifinjieaa
namespace Go.Proofs.Ytbmjhiifinjieaa
open Go Go.AM
set_option linter.unusedVariables false
set_option linter.unusedSimpArgs false
set_option linter.unusedSectionVars false
set_option maxHeartbeats 2000000
set_option maxRecDepth 100000
variable [Ex]

theorem stays_ok (m : AMem) (kv : Value) (keep : List Int) (hk : IntV m kv keep) (hkl : keep.length ≤ 9223372036854775807) (hk64 : ∀ x ∈ keep, -9223372036854775808 ≤ x ∧ x ≤ 9223372036854775807) (i w : Nat) (hi : i ≤ 1000000) (hw : w ≤ 1000000000) :
    PureC Try.prog 0 19 [kv, .int .i64 i, .int .i64 w] m (.int .i64 (staysR keep i w)) := by
  refine pure_of_W (fn := Try.f19) rfl rfl F19_ok (by simp [F19]) (.int _ _) ?_
  obtain ⟨ak, ck, rfl, hki⟩ := hk
  have hs := stays_int keep i w
  by_cases h1 : (keep.length : Int) ≤ (i : Int)
  · have e := stays_none (keep := keep) (i := i) (by omega) w
    repeat first | simp (implicitDefEqProofs := false) (maxSteps := 1000000) (disch := first | omega | with_reducible assumption | (simp only [lenT, Nat.reduceAdd]; omega)) only [amT, cut, bnd, Nat.reduceBEq, reduceCtorEq, Nat.reduceEqDiff, Nat.reduceAdd, Nat.reduceMul, Nat.reduceSub, Int.reduceToNat, Int.reduceEq, Int.reduceLT, Int.reduceLE, Int.reduceAdd, Int.reduceSub, Int.reduceMul, reduceIte, resVs, resV, packV, initT, addr, F19, h1] | refine OrW.go ?_
    rw [e]; rfl
  · obtain ⟨b, o, rfl, hb, hr⟩ := hki i (by omega)
    rw [rd_def] at hr
    have hil : i < keep.length := by omega
    have hx := hk64 keep[i] (List.getElem_mem hil)
    have hg : keep.getD i 0 = keep[i] := by simp [List.getD, hil]
    rw [hg] at hs
    have t1 := Int.lt_tmod_of_pos keep[i] (show 0 < (w : Int) + 1 by omega)
    have t2 := Int.tmod_lt_of_pos keep[i] (show 0 < (w : Int) + 1 by omega)
    by_cases h2 : keep[i].tmod ((w : Int) + 1) < 0
    · have e : (staysR keep i w : Int) = keep[i].tmod ((w : Int) + 1) + w + 1 := by
        rw [← hs, Int.tmod_eq_of_lt (by omega) (by omega)]; omega
      repeat first | simp (implicitDefEqProofs := false) (maxSteps := 1000000) (disch := first | omega | with_reducible assumption | (simp only [lenT, Nat.reduceAdd]; omega)) only [amT, cut, bnd, Nat.reduceBEq, reduceCtorEq, Nat.reduceEqDiff, Nat.reduceAdd, Nat.reduceMul, Nat.reduceSub, Int.reduceToNat, Int.reduceEq, Int.reduceLT, Int.reduceLE, Int.reduceAdd, Int.reduceSub, Int.reduceMul, reduceIte, resVs, resV, packV, initT, addr, F19, h1, hr, h2, binV_rem] | refine OrW.go ?_
      rw [e]
    · have e : (staysR keep i w : Int) = keep[i].tmod ((w : Int) + 1) := by
        rw [← hs]
        rw [Int.tmod_eq_emod_of_nonneg (a := keep[i].tmod ((w : Int) + 1) + ((w : Int) + 1)) (by omega), Int.add_emod_right]
        exact Int.emod_eq_of_lt (by omega) (by omega)
      repeat first | simp (implicitDefEqProofs := false) (maxSteps := 1000000) (disch := first | omega | with_reducible assumption | (simp only [lenT, Nat.reduceAdd]; omega)) only [amT, cut, bnd, Nat.reduceBEq, reduceCtorEq, Nat.reduceEqDiff, Nat.reduceAdd, Nat.reduceMul, Nat.reduceSub, Int.reduceToNat, Int.reduceEq, Int.reduceLT, Int.reduceLE, Int.reduceAdd, Int.reduceSub, Int.reduceMul, reduceIte, resVs, resV, packV, initT, addr, F19, h1, hr, h2, binV_rem] | refine OrW.go ?_
      rw [e]

end Go.Proofs.Ytbmjhiifinjieaa
namespace Go.Proofs.Ytbmjhiifinjieaa
open Go Go.AM
set_option linter.unusedVariables false
set_option linter.unusedSimpArgs false
set_option linter.unusedSectionVars false
set_option maxHeartbeats 2000000
set_option maxRecDepth 100000
variable [Ex]

theorem getF_at : ∀ {fs : List FileR}, Sorted fs → ∀ {i : Nat} (hi : i < fs.length), getF fs fs[i].name = some fs[i]
  | f :: fs, h, 0, _ => by rw [getF_cons]; simp
  | f :: fs, h, i + 1, hi => by
    have hi' : i < fs.length := by simpa using hi
    have := h.hd fs[i] (List.getElem_mem hi')
    rw [getF_cons, List.getElem_cons_succ, if_neg (ltB_ne this)]
    exact getF_at h.tl hi'
theorem look_sorted {d r : DiskR} (h : Same d r) {i : Nat} (hi : i < (sortR r.files).length) : lookOr r.files (sortR r.files)[i].name = (sortR r.files)[i] := by
  have e := h.sort
  have hi2 : i < d.files.length := by rw [← e]; exact hi
  have e2 : (sortR r.files)[i] = d.files[i] := by simp [e]
  have := getF_at h.sorted hi2
  rw [h.file] at this
  rw [e2]; simp [lookOr, this]
theorem kRow_new (s t : List UInt8) : fill [.string ⟨#[]⟩, .string ⟨#[]⟩, .string ⟨#[]⟩, .bool false] [(0, 1, .string ⟨s.toArray⟩), (1, 1, .string ⟨t.toArray⟩), (3, 1, .bool true)] = some (kRow ⟨s, t, [], true⟩) := rfl
theorem ron_ok (m : AMem) (p : Nat) (v : Value) (d : DiskR) (hD : RAt m p v d) (hO : ROk d) (hL : ∀ i (hi : i < (sortR d.files).length), lookOr d.files (sortR d.files)[i].name = (sortR d.files)[i]) (kv : Value) (keep : List Int) (hk : IntV m kv keep) (hkl : keep.length ≤ 9223372036854775807) (hk64 : ∀ x ∈ keep, -9223372036854775808 ≤ x ∧ x ≤ 9223372036854775807) (hkp : ∀ b o n c, kv = .slice (some ⟨b, o, none⟩) n c → b ≠ p) :
    RelC Try.prog 0 49 [.pointer (some ⟨p, 0, none⟩), kv] m fun r m' => r = .tuple #[] ∧ ∃ v', RAt m' p v' (rOnR d keep) ∧ RStep p m m' := by
  refine rel_of_W (fn := Try.f49) rfl rfl F49_ok (by simp [F49]) ?_
  obtain ⟨fs, q, st, se, off⟩ := d
  have hp := hD.lt
  have hd := hD.get
  have hf := hO.few
  have hu := hO.used
  have hD1 : RAt (m.set p (.cells (({ files := fs, quota := q, steps := st, set := -1, off := off } : DiskR).cells v) 73 true .exact)) p v { files := fs, quota := q, steps := st, set := -1, off := off } := hD.put rfl
  have hst1 : RStep p m (m.set p (.cells (({ files := fs, quota := q, steps := st, set := -1, off := off } : DiskR).cells v) 73 true .exact)) := (Keep.refl (fun x => x = p) m).set (fun _ => rfl) _
  have hO1 : ROk { files := fs, quota := q, steps := st, set := -1, off := off } := ⟨hf, hu, hO.q0, hO.q1, hO.s0, hO.s1, by show (-1 : Int) ≤ -1; omega, by show (-1 : Int) ≤ _; omega⟩
  have hk1 : IntV (m.set p (.cells (({ files := fs, quota := q, steps := st, set := -1, off := off } : DiskR).cells v) 73 true .exact)) kv keep := hk.keep (O := fun x => x = p) ((Keep.refl (fun x => x = p) m).set (fun _ => rfl) _) fun b o n c h => hkp b o n c h
  have hms : (m.set p (.cells (({ files := fs, quota := q, steps := st, set := -1, off := off } : DiskR).cells v) 73 true .exact)).size = m.size := rfl
  have hfil := files_ok _ p v _ hD1 hO1
  have hd1 := hD1.get
  simp only [DiskR.cells] at hd hf hu hD1 hst1 hk1 hms hfil hd1 hL
  generalize hm1 : m.set p (.cells [v, .int .i64 q, .int .i64 st, .int .i64 (-1), .bool off] 73 true .exact) = m1 at hD1 hst1 hk1 hms hfil hd1
  cases off with
  | false =>
    have e : rOnR { files := fs, quota := q, steps := st, set := se, off := false } keep = { files := fs, quota := q, steps := st, set := -1, off := false } := by simp [rOnR]
    rw [e]
    repeat first | simp (implicitDefEqProofs := false) (maxSteps := 1000000) (disch := first | omega | with_reducible assumption | (simp only [lenT, Nat.reduceAdd]; omega)) only [amT, cut, bnd, Nat.reduceBEq, reduceCtorEq, Nat.reduceEqDiff, Nat.reduceAdd, Nat.reduceMul, Nat.reduceSub, Int.reduceToNat, Int.reduceEq, Int.reduceLT, Int.reduceLE, Int.reduceAdd, Int.reduceSub, Int.reduceMul, reduceIte, resVs, resV, packV, initT, addr, F49, hd, hm1, hd1] | refine OrW.go ?_
    exact ⟨_, rfl, fun _ => ⟨rfl, _, hD1.old (Old.here _ []), hst1.mx []⟩⟩
  | true =>
    have e : rOnR { files := fs, quota := q, steps := st, set := se, off := true } keep = { files := onFiles keep (sortR fs) (sortR fs).length, quota := q, steps := st, set := -1, off := false } := by simp [rOnR]
    rw [e]
    have hSl : (sortR fs).length = fs.length := sortR_len _
    have hSs : ∀ {i : Nat} (hi : i < (sortR fs).length), (sortR fs)[i].size ≤ usedR fs := fun hi => by rw [← hL _ hi]; exact look_size _ _
    generalize sortR fs = S at hfil e hSl hSs hL
    obtain ⟨ak, ck, rfl, hki⟩ := hk1
    repeat first | simp (implicitDefEqProofs := false) (maxSteps := 1000000) (disch := first | omega | with_reducible assumption | (simp only [lenT, Nat.reduceAdd]; omega)) only [amT, cut, bnd, Nat.reduceBEq, reduceCtorEq, Nat.reduceEqDiff, Nat.reduceAdd, Nat.reduceMul, Nat.reduceSub, Int.reduceToNat, Int.reduceEq, Int.reduceLT, Int.reduceLE, Int.reduceAdd, Int.reduceSub, Int.reduceMul, reduceIte, resVs, resV, packV, initT, addr, F49, hd, hm1, hd1] | refine OrW.go ?_
    refine RelC.call hfil.at ?_
    rintro r Mf ⟨hOf, hFil⟩
    obtain ⟨af, cf, rfl⟩ := hFil.len
    repeat first | simp (implicitDefEqProofs := false) (maxSteps := 1000000) (disch := first | omega | with_reducible assumption | (simp only [lenT, Nat.reduceAdd]; omega)) only [amT, cut, bnd, Nat.reduceBEq, reduceCtorEq, Nat.reduceEqDiff, Nat.reduceAdd, Nat.reduceMul, Nat.reduceSub, Int.reduceToNat, Int.reduceEq, Int.reduceLT, Int.reduceLE, Int.reduceAdd, Int.reduceSub, Int.reduceMul, reduceIte, resVs, resV, packV, initT, addr] | refine OrW.go ?_
    refine W_loop (fun N qs => ∃ (i : Nat) (M : AMem) (av : Option Addr) (cv : Nat), N = S.length - i ∧ qs.ds = [] ∧ qs.m = mx M [] ∧ qs.t 0 = .pointer (some ⟨p, 0, none⟩) ∧ qs.t 1 = .slice ak keep.length ck ∧ qs.t 4 = .slice av (onFiles keep S i).length cv ∧ qs.t 5 = .slice af S.length cf ∧ qs.t 6 = .int .i64 i ∧ i ≤ S.length ∧ Old m1 M ∧ Old Mf M ∧ KeptV M (.slice av (onFiles keep S i).length cv) (onFiles keep S i) ∧ ∀ x, ownV (.slice av (onFiles keep S i).length cv) x → Mf.size ≤ x) (S.length - (0)) ⟨0, Mf, none, 0, rfl, rfl, ?qm, ?q0, ?q1, ?q4, ?q5, ?q6, ?_⟩ ?_
    case qm | q0 | q1 | q4 | q5 | q6 => first | rfl | (simp (implicitDefEqProofs := false) (maxSteps := 1000000) (disch := first | omega | with_reducible assumption | (simp only [lenT, Nat.reduceAdd]; omega)) only [amT, cut, bnd, Nat.reduceBEq, reduceCtorEq, Nat.reduceEqDiff, Nat.reduceAdd, Nat.reduceMul, Nat.reduceSub, Int.reduceToNat, Int.reduceEq, Int.reduceLT, Int.reduceLE, Int.reduceAdd, Int.reduceSub, Int.reduceMul, reduceIte, resVs, resV, packV, initT, addr, onFiles]; first | done | rfl | (congr 1; omega))
    · exact ⟨by omega, hOf, .refl _, .inl ⟨rfl, rfl⟩, fun x ⟨o, l, c, h⟩ => by cases h⟩
    · rintro N t m1 ds ⟨i, M, av, cv, rfl, hds, hm, t0, t1, t4, t5, t6, hp⟩
      simp only at hds hm t0 t1 t4 t5 t6
      subst hds; replace hm := hm.symm; subst hm
      obtain ⟨hi, hM, hMf, hK, hown⟩ := hp
      have hpM : p < M.size := Nat.lt_of_lt_of_le hD1.lt hM.1
      have hdM : M.get p = .cells [v, .int .i64 q, .int .i64 st, .int .i64 (-1), .bool true] 73 true .exact := by rw [hM.2 p hD1.lt]; exact hd1
      by_cases h1 : (i : Int) < (S.length : Int)
      · have hi : i < S.length := by omega
        obtain ⟨b, X, bb, rfl, hb, hX, e1, -, -, -⟩ := (hFil.old hMf).get hi
        have k64 := DetC.known (look_ok (mx M []) p v _ S[i].name (hD1.old (hM.mx [])) (by show fs.length ≤ _; omega))
        simp only [kRow, hL i hi] at k64
        have hsz : S[i].size ≤ 50000000 := Nat.le_trans (hSs hi) hu
        simp only [FileR.size] at hsz
        have hsl := stays_le keep i S[i].wet.length
        have kst := DetC.known (stays_ok (mx M [.cells [.string ⟨S[i].name.toArray⟩, .string ⟨S[i].dry.toArray⟩, .string ⟨S[i].wet.toArray⟩, .bool S[i].born] 91 true .exact]) _ keep (IntV.old ⟨ak, ck, rfl, hki⟩ (hM.mx _)) hkl hk64 i S[i].wet.length (by omega) (by omega))
        have hsucc := onFiles_succ keep S hi
        have hoL := onFiles_len keep S i
        have hone : onFile keep i S[i] = if S[i].born || decide (0 < (S[i].dry ++ S[i].wet.take (staysR keep i S[i].wet.length)).length) then some ⟨S[i].name, S[i].dry ++ S[i].wet.take (staysR keep i S[i].wet.length), [], true⟩ else none := rfl
        generalize hns : staysR keep i S[i].wet.length = ns at hsl kst hone
        have hek : strEq ⟨(S[i].dry ++ S[i].wet.take ns).toArray⟩ ⟨#[]⟩ = decide (S[i].dry ++ S[i].wet.take ns = []) := strEq_mk _ []
        by_cases hin : S[i].born = true ∨ S[i].dry ++ S[i].wet.take ns ≠ []
        · have hon : onFile keep i S[i] = some ⟨S[i].name, S[i].dry ++ S[i].wet.take ns, [], true⟩ := by
            rw [hone]
            rw [if_pos]
            rcases hin with h | h
            · simp [h]
            · have := List.length_pos_iff.2 h
              rw [Bool.or_eq_true]; exact .inr (decide_eq_true this)
          rw [hon, Option.toList_some] at hsucc
          have hK2 := hK.old (Old.here M [.cells (kRow S[i]) 91 true .exact, .cells (kRow ⟨S[i].name, S[i].dry ++ S[i].wet.take ns, [], true⟩) 91 true .exact])
          obtain ⟨v', M', happ, hK3, hk3, ho3⟩ := app_kept (nb := M.size + 1) (f := ⟨S[i].name, S[i].dry ++ S[i].wet.take ns, [], true⟩) hK2 (by omega) (by rw [mx_size]; simp) (mx_new _ _ 1)
          have hO2 : Old Mf (mx M [.cells (kRow S[i]) 91 true .exact, .cells (kRow ⟨S[i].name, S[i].dry ++ S[i].wet.take ns, [], true⟩) 91 true .exact]) := hMf.mx _
          have hO3 := hk3.keep_old hO2 hown
          have ho4 : ∀ x, ownV v' x → Mf.size ≤ x := fun x hx => Nat.le_trans hO2.1 (ho3 x hx)
          obtain ⟨av', cv', rfl⟩ := hK3.len
          rw [← hsucc] at hK3 happ ho4
          rw [mx_mx, List.append_nil] at happ
          simp only [kRow, zK] at happ
          cases hb0 : S[i].born with
          | true =>
            rw [hb0] at happ k64 kst
            repeat first | simp (implicitDefEqProofs := false) (maxSteps := 1000000) (disch := first | omega | with_reducible assumption | (simp only [lenT, Nat.reduceAdd]; omega)) only [amT, cut, bnd, Nat.reduceBEq, reduceCtorEq, Nat.reduceEqDiff, Nat.reduceAdd, Nat.reduceMul, Nat.reduceSub, Int.reduceToNat, Int.reduceEq, Int.reduceLT, Int.reduceLE, Int.reduceAdd, Int.reduceSub, Int.reduceMul, reduceIte, resVs, resV, packV, initT, addr, F49_l0, t0, t1, t4, t5, t6, h1, hX, e1, k64, cellsOf_kRow, splice4, cutL4, kst, kRow_new, kRow, fill_kRow, stepOp_app_v, happ] | refine OrW.go ?_
            rw [LoopK_normal]; refine ⟨_, ?_, i + 1, M', av', cv', rfl, rfl, ?qm, ?q0, ?q1, ?q4, ?q5, ?q6, ?_⟩
            case qm | q0 | q1 | q4 | q5 | q6 => first | rfl | (simp (implicitDefEqProofs := false) (maxSteps := 1000000) (disch := first | omega | with_reducible assumption | (simp only [lenT, Nat.reduceAdd]; omega)) only [amT, cut, bnd, Nat.reduceBEq, reduceCtorEq, Nat.reduceEqDiff, Nat.reduceAdd, Nat.reduceMul, Nat.reduceSub, Int.reduceToNat, Int.reduceEq, Int.reduceLT, Int.reduceLE, Int.reduceAdd, Int.reduceSub, Int.reduceMul, reduceIte, resVs, resV, packV, initT, addr, t0, t1, t4, t5, t6]; first | done | rfl | (congr 1; omega))
            · omega
            · exact ⟨by omega, hOf.trans hO3, hO3, hK3, ho4⟩
          | false =>
            have hne : S[i].dry ++ S[i].wet.take ns ≠ [] := hin.resolve_left (by simp [hb0])
            have hek2 : strEq ⟨(S[i].dry ++ S[i].wet.take ns).toArray⟩ ⟨#[]⟩ = false := by rw [hek]; simp [hne]
            rw [hb0] at happ k64 kst
            repeat first | simp (implicitDefEqProofs := false) (maxSteps := 1000000) (disch := first | omega | with_reducible assumption | (simp only [lenT, Nat.reduceAdd]; omega)) only [amT, cut, bnd, Nat.reduceBEq, reduceCtorEq, Nat.reduceEqDiff, Nat.reduceAdd, Nat.reduceMul, Nat.reduceSub, Int.reduceToNat, Int.reduceEq, Int.reduceLT, Int.reduceLE, Int.reduceAdd, Int.reduceSub, Int.reduceMul, reduceIte, resVs, resV, packV, initT, addr, F49_l0, t0, t1, t4, t5, t6, h1, hX, e1, k64, cellsOf_kRow, splice4, cutL4, kst, hek2, kRow_new, kRow, fill_kRow, stepOp_app_v, happ] | refine OrW.go ?_
            rw [LoopK_normal]; refine ⟨_, ?_, i + 1, M', av', cv', rfl, rfl, ?qm, ?q0, ?q1, ?q4, ?q5, ?q6, ?_⟩
            case qm | q0 | q1 | q4 | q5 | q6 => first | rfl | (simp (implicitDefEqProofs := false) (maxSteps := 1000000) (disch := first | omega | with_reducible assumption | (simp only [lenT, Nat.reduceAdd]; omega)) only [amT, cut, bnd, Nat.reduceBEq, reduceCtorEq, Nat.reduceEqDiff, Nat.reduceAdd, Nat.reduceMul, Nat.reduceSub, Int.reduceToNat, Int.reduceEq, Int.reduceLT, Int.reduceLE, Int.reduceAdd, Int.reduceSub, Int.reduceMul, reduceIte, resVs, resV, packV, initT, addr, t0, t1, t4, t5, t6]; first | done | rfl | (congr 1; omega))
            · omega
            · exact ⟨by omega, hOf.trans hO3, hO3, hK3, ho4⟩
        · have hb0 : S[i].born = false := by cases h : S[i].born with | false => rfl | true => exact absurd (.inl h) hin
          have hnil : S[i].dry ++ S[i].wet.take ns = [] := Classical.byContradiction fun h => hin (.inr h)
          have hon : onFile keep i S[i] = none := by rw [hone]; simp [hb0, hnil]
          rw [hon, Option.toList_none, List.append_nil] at hsucc
          have hek2 : strEq ⟨(S[i].dry ++ S[i].wet.take ns).toArray⟩ ⟨#[]⟩ = true := by rw [hek]; simp [hnil]
          rw [hb0] at k64 kst
          repeat first | simp (implicitDefEqProofs := false) (maxSteps := 1000000) (disch := first | omega | with_reducible assumption | (simp only [lenT, Nat.reduceAdd]; omega)) only [amT, cut, bnd, Nat.reduceBEq, reduceCtorEq, Nat.reduceEqDiff, Nat.reduceAdd, Nat.reduceMul, Nat.reduceSub, Int.reduceToNat, Int.reduceEq, Int.reduceLT, Int.reduceLE, Int.reduceAdd, Int.reduceSub, Int.reduceMul, reduceIte, resVs, resV, packV, initT, addr, F49_l0, t0, t1, t4, t5, t6, h1, hX, e1, k64, cellsOf_kRow, splice4, cutL4, kst, hek2] | refine OrW.go ?_
          rw [LoopK_normal]; refine ⟨_, ?_, i + 1, mx M [.cells [.string ⟨S[i].name.toArray⟩, .string ⟨S[i].dry.toArray⟩, .string ⟨S[i].wet.toArray⟩, .bool false] 91 true .exact], av, cv, rfl, rfl, ?qm, ?q0, ?q1, ?q4, ?q5, ?q6, ?_⟩
          case qm | q0 | q1 | q4 | q5 | q6 => first | rfl | (simp (implicitDefEqProofs := false) (maxSteps := 1000000) (disch := first | omega | with_reducible assumption | (simp only [lenT, Nat.reduceAdd]; omega)) only [amT, cut, bnd, Nat.reduceBEq, reduceCtorEq, Nat.reduceEqDiff, Nat.reduceAdd, Nat.reduceMul, Nat.reduceSub, Int.reduceToNat, Int.reduceEq, Int.reduceLT, Int.reduceLE, Int.reduceAdd, Int.reduceSub, Int.reduceMul, reduceIte, resVs, resV, packV, initT, addr, t0, t1, t4, t5, t6, hsucc]; first | done | rfl | (congr 1; omega))
          · omega
          · rw [hsucc]
            exact ⟨by omega, hM.mx _, hMf.mx _, hK.old (Old.here _ _), hown⟩
      · obtain rfl : i = S.length := by omega
        have fin : RAt (M.set p (.cells (({ files := onFiles keep S S.length, quota := q, steps := st, set := -1, off := false } : DiskR).cells (.slice av (onFiles keep S S.length).length cv)) 73 true .exact)) p (.slice av (onFiles keep S S.length).length cv) { files := onFiles keep S S.length, quota := q, steps := st, set := -1, off := false } :=
          ⟨by rw [AMem.size_set]; exact hpM, AMem.get_set_self _ _ _, hK.keep ((Keep.refl (fun x => x = p) M).set (fun _ => rfl) _) fun x X w sp hx e => by subst e; rw [hdM] at hx; cases hx⟩
        have hst2 : RStep p m (M.set p (.cells (({ files := onFiles keep S S.length, quota := q, steps := st, set := -1, off := false } : DiskR).cells (.slice av (onFiles keep S S.length).length cv)) 73 true .exact)) := (hst1.trans (hM.keep (fun x => x = p)) (fun _ _ h => h)).set (fun _ => rfl) _
        simp only [DiskR.cells] at fin hst2
        repeat first | simp (implicitDefEqProofs := false) (maxSteps := 1000000) (disch := first | omega | with_reducible assumption | (simp only [lenT, Nat.reduceAdd]; omega)) only [amT, cut, bnd, Nat.reduceBEq, reduceCtorEq, Nat.reduceEqDiff, Nat.reduceAdd, Nat.reduceMul, Nat.reduceSub, Int.reduceToNat, Int.reduceEq, Int.reduceLT, Int.reduceLE, Int.reduceAdd, Int.reduceSub, Int.reduceMul, reduceIte, resVs, resV, packV, initT, addr, F49_l0, t0, t1, t4, t5, t6, h1, hdM] | refine OrW.go ?_
        exact ⟨_, rfl, fun _ => ⟨rfl, _, fin.old (Old.here _ []), hst2.mx []⟩⟩
end Go.Proofs.Ytbmjhiifinjieaa
namespace Go.Proofs.Ytbmjhiifinjieaa
open Go Go.AM
set_option linter.unusedVariables false
set_option linter.unusedSimpArgs false
set_option linter.unusedSectionVars false
set_option maxHeartbeats 2000000
set_option maxRecDepth 100000

variable [Ex]
structure ActR where
  act : Int
  name : List UInt8
  to : List UInt8
  b : List UInt8
  n : Int
  keep : List Int
instance : Inhabited ActR := ⟨⟨0, [], [], [], 0, []⟩⟩
structure ActR.ok (x : ActR) : Prop where
  act : 0 ≤ x.act ∧ x.act ≤ 255
  name : x.name.length ≤ 9223372036854775807
  to : x.to.length ≤ 9223372036854775807
  b : x.b.length ≤ 9223372036854775807
  n : -9223372036854775808 ≤ x.n ∧ x.n ≤ 9223372036854775807
  keep : x.keep.length ≤ 9223372036854775807
  k64 : ∀ y ∈ x.keep, -9223372036854775808 ≤ y ∧ y ≤ 9223372036854775807
def actRow (x : ActR) (ka : Option Addr) (kc : Nat) : List Value := [.int .u8 x.act, .string ⟨x.name.toArray⟩, .string ⟨x.to.toArray⟩, .string ⟨x.b.toArray⟩, .int .i64 x.n, .slice ka x.keep.length kc]
/-- An act's cells. -/
def ActV (m : AMem) (x : ActR) (ka : Option Addr) (kc : Nat) : Prop := IntV m (.slice ka x.keep.length kc) x.keep ∧ ∀ b o, ka = some ⟨b, o, none⟩ → b < m.size
theorem ActV.old {m m' : AMem} {x : ActR} {ka : Option Addr} {kc : Nat} (h : ActV m x ka kc) (ho : Old m m') : ActV m' x ka kc := ⟨h.1.old ho, fun b o e => Nat.lt_of_lt_of_le (h.2 b o e) ho.1⟩
/-- A slice of acts. -/
def ActsV (m : AMem) (a : Option Addr) (l : List ActR) : Prop :=
  ∀ i (h : i < l.length), ∃ b o ka kc, a = some ⟨b, o, none⟩ ∧ b < m.size ∧ rdO (m.get b) (o + i * 6) 6 = some (actRow l[i] ka kc) ∧ ActV m l[i] ka kc ∧ l[i].ok
theorem ActsV.old {m m' : AMem} {a : Option Addr} {l : List ActR} (h : ActsV m a l) (ho : Old m m') : ActsV m' a l := fun i hi => by
  obtain ⟨b, o, ka, kc, h1, h2, h3, h4, h5⟩ := h i hi
  exact ⟨b, o, ka, kc, h1, Nat.lt_of_lt_of_le h2 ho.1, by rw [ho.2 b h2]; exact h3, h4.old ho, h5⟩
theorem rdO_sub {o : AObj} {k n : Nat} {r : List Value} (h : rdO o k n = some r) {j : Nat} (hj : j < n) : ∃ x, r[j]? = some x ∧ rdO o (k + j) 1 = some [x] := by
  cases o with
  | cells X e w sp =>
    rw [rdO_cells] at h
    have hl := cutL_le h
    unfold cutL at h
    rw [if_pos hl] at h
    cases h
    refine ⟨X[k + j], ?_, ?_⟩
    · rw [List.getElem?_take, if_pos hj, List.getElem?_drop, List.getElem?_eq_getElem (by omega)]
    · rw [rdO_cells]
      unfold cutL
      rw [if_pos (by omega), List.drop_eq_getElem_cons (by omega)]; rfl
  | _ => cases h
theorem act_fields {o : AObj} {k : Nat} {x : ActR} {ka : Option Addr} {kc : Nat} (h : rdO o k 6 = some (actRow x ka kc)) :
    rdO o (k + 1) 1 = some [.string ⟨x.name.toArray⟩] ∧ rdO o (k + 2) 1 = some [.string ⟨x.to.toArray⟩] ∧ rdO o (k + 3) 1 = some [.string ⟨x.b.toArray⟩] ∧ rdO o (k + 5) 1 = some [.slice ka x.keep.length kc] ∧ rdO o k 1 = some [.int .u8 x.act] := by
  have f : ∀ j (hj : j < 6) (y : Value), (actRow x ka kc)[j]? = some y → rdO o (k + j) 1 = some [y] := fun j hj y hy => by
    obtain ⟨z, h1, h2⟩ := rdO_sub h hj
    rw [hy] at h1; cases h1; exact h2
  exact ⟨f 1 (by omega) _ rfl, f 2 (by omega) _ rfl, f 3 (by omega) _ rfl, f 5 (by omega) _ rfl, f 0 (by omega) _ rfl⟩
def smallA (x : ActR) : Bool := !(decide (200 < x.name.length) || decide (200 < x.to.length) || decide (200 < x.b.length) || decide (200 < x.keep.length))
def fewB (l : List ActR) : Bool := (l.take 50).all smallA && decide (l.length ≤ 50)
theorem few_ok (m : AMem) (a : Option Addr) (cap : Nat) (l : List ActR) (hl : ActsV m a l) (h64 : l.length ≤ 9223372036854775807) :
    PureC Try.prog 0 22 [.slice a l.length cap] m (.bool (fewB l)) := by
  refine pure_of_W (fn := Try.f22) rfl rfl F22_ok (by simp [F22]) (.bool _) ?_
  simp (implicitDefEqProofs := false) (maxSteps := 1000000) (disch := first | omega | with_reducible assumption | (simp only [lenT, Nat.reduceAdd]; omega)) only [amT, cut, bnd, Nat.reduceBEq, reduceCtorEq, Nat.reduceEqDiff, Nat.reduceAdd, Nat.reduceMul, Nat.reduceSub, Int.reduceToNat, Int.reduceEq, Int.reduceLT, Int.reduceLE, Int.reduceAdd, Int.reduceSub, Int.reduceMul, reduceIte, resVs, resV, packV, initT, addr, F22]
  refine W_loop (fun N qs => ∃ (i : Nat), N = l.length - i ∧ qs.ds = [] ∧ qs.m = mx m [] ∧ qs.t 0 = .slice a l.length cap ∧ qs.t 3 = .int .i64 i ∧ i ≤ l.length ∧ i ≤ 50 ∧ (l.take i).all smallA = true) (l.length - (0)) ⟨0, rfl, rfl, ?qm, ?q0, ?q3, ?_⟩ ?_
  case qm | q0 | q3 => first | rfl | (simp (implicitDefEqProofs := false) (maxSteps := 1000000) (disch := first | omega | with_reducible assumption | (simp only [lenT, Nat.reduceAdd]; omega)) only [amT, cut, bnd, Nat.reduceBEq, reduceCtorEq, Nat.reduceEqDiff, Nat.reduceAdd, Nat.reduceMul, Nat.reduceSub, Int.reduceToNat, Int.reduceEq, Int.reduceLT, Int.reduceLE, Int.reduceAdd, Int.reduceSub, Int.reduceMul, reduceIte, resVs, resV, packV, initT, addr, List.take_zero]; first | done | rfl | (congr 1; omega))
  · exact ⟨by omega, by omega, rfl⟩
  · rintro N t m1 ds ⟨i, rfl, hds, hm, t0, t3, hp⟩
    simp only at hds hm t0 t3
    subst hds; replace hm := hm.symm; subst hm
    obtain ⟨hi, hi50, hp⟩ := hp
    by_cases h1 : (i : Int) < (l.length : Int)
    · by_cases h2 : (i : Int) < 50
      · have hil : i < l.length := by omega
        obtain ⟨b, o, ka, kc, rfl, hb, hr, hA, hok⟩ := hl i hil
        obtain ⟨f1, f2, f3, f5, f0⟩ := act_fields hr
        have hsucc : (l.take (i + 1)).all smallA = smallA l[i] := by
          rw [List.take_succ_eq_append_getElem hil, List.all_append, hp]; simp
        have hmem : l[i] ∈ l.take 50 := by rw [List.mem_iff_getElem]; exact ⟨i, by rw [List.length_take]; omega, by rw [List.getElem_take]⟩
        have bad : smallA l[i] = false → fewB l = false := fun h => by
          have : (l.take 50).all smallA = false := by rw [List.all_eq_false]; exact ⟨_, hmem, by simp [h]⟩
          simp [fewB, this]
        by_cases g1 : (200 : Int) < (l[i].name.length : Int)
        · have e := bad (by simp [smallA]; omega)
          repeat first | simp (implicitDefEqProofs := false) (maxSteps := 1000000) (disch := first | omega | with_reducible assumption | (simp only [lenT, Nat.reduceAdd]; omega)) only [amT, cut, bnd, Nat.reduceBEq, reduceCtorEq, Nat.reduceEqDiff, Nat.reduceAdd, Nat.reduceMul, Nat.reduceSub, Int.reduceToNat, Int.reduceEq, Int.reduceLT, Int.reduceLE, Int.reduceAdd, Int.reduceSub, Int.reduceMul, reduceIte, resVs, resV, packV, initT, addr, F22_l0, t0, t3, h1, h2, f1, g1] | refine OrW.go ?_
          rw [e]
        by_cases g2 : (200 : Int) < (l[i].to.length : Int)
        · have e := bad (by simp [smallA]; omega)
          repeat first | simp (implicitDefEqProofs := false) (maxSteps := 1000000) (disch := first | omega | with_reducible assumption | (simp only [lenT, Nat.reduceAdd]; omega)) only [amT, cut, bnd, Nat.reduceBEq, reduceCtorEq, Nat.reduceEqDiff, Nat.reduceAdd, Nat.reduceMul, Nat.reduceSub, Int.reduceToNat, Int.reduceEq, Int.reduceLT, Int.reduceLE, Int.reduceAdd, Int.reduceSub, Int.reduceMul, reduceIte, resVs, resV, packV, initT, addr, F22_l0, t0, t3, h1, h2, f1, g1, f2, g2] | refine OrW.go ?_
          rw [e]
        by_cases g3 : (200 : Int) < (l[i].b.length : Int)
        · have e := bad (by simp [smallA]; omega)
          repeat first | simp (implicitDefEqProofs := false) (maxSteps := 1000000) (disch := first | omega | with_reducible assumption | (simp only [lenT, Nat.reduceAdd]; omega)) only [amT, cut, bnd, Nat.reduceBEq, reduceCtorEq, Nat.reduceEqDiff, Nat.reduceAdd, Nat.reduceMul, Nat.reduceSub, Int.reduceToNat, Int.reduceEq, Int.reduceLT, Int.reduceLE, Int.reduceAdd, Int.reduceSub, Int.reduceMul, reduceIte, resVs, resV, packV, initT, addr, F22_l0, t0, t3, h1, h2, f1, g1, f2, g2, f3, g3] | refine OrW.go ?_
          rw [e]
        by_cases g4 : (200 : Int) < (l[i].keep.length : Int)
        · have e := bad (by simp [smallA]; omega)
          repeat first | simp (implicitDefEqProofs := false) (maxSteps := 1000000) (disch := first | omega | with_reducible assumption | (simp only [lenT, Nat.reduceAdd]; omega)) only [amT, cut, bnd, Nat.reduceBEq, reduceCtorEq, Nat.reduceEqDiff, Nat.reduceAdd, Nat.reduceMul, Nat.reduceSub, Int.reduceToNat, Int.reduceEq, Int.reduceLT, Int.reduceLE, Int.reduceAdd, Int.reduceSub, Int.reduceMul, reduceIte, resVs, resV, packV, initT, addr, F22_l0, t0, t3, h1, h2, f1, g1, f2, g2, f3, g3, f5, g4] | refine OrW.go ?_
          rw [e]
        repeat first | simp (implicitDefEqProofs := false) (maxSteps := 1000000) (disch := first | omega | with_reducible assumption | (simp only [lenT, Nat.reduceAdd]; omega)) only [amT, cut, bnd, Nat.reduceBEq, reduceCtorEq, Nat.reduceEqDiff, Nat.reduceAdd, Nat.reduceMul, Nat.reduceSub, Int.reduceToNat, Int.reduceEq, Int.reduceLT, Int.reduceLE, Int.reduceAdd, Int.reduceSub, Int.reduceMul, reduceIte, resVs, resV, packV, initT, addr, F22_l0, t0, t3, h1, h2, f1, g1, f2, g2, f3, g3, f5, g4] | refine OrW.go ?_
        rw [LoopK_normal]; refine ⟨_, ?_, i + 1, rfl, rfl, ?qm, ?q0, ?q3, ?_⟩
        case qm | q0 | q3 => first | rfl | (simp (implicitDefEqProofs := false) (maxSteps := 1000000) (disch := first | omega | with_reducible assumption | (simp only [lenT, Nat.reduceAdd]; omega)) only [amT, cut, bnd, Nat.reduceBEq, reduceCtorEq, Nat.reduceEqDiff, Nat.reduceAdd, Nat.reduceMul, Nat.reduceSub, Int.reduceToNat, Int.reduceEq, Int.reduceLT, Int.reduceLE, Int.reduceAdd, Int.reduceSub, Int.reduceMul, reduceIte, resVs, resV, packV, initT, addr, t0, t3]; first | done | rfl | (congr 1; omega))
        · omega
        · exact ⟨by omega, by omega, by rw [hsucc]; simp [smallA]; omega⟩
      · obtain rfl : i = 50 := by omega
        have h1' : (50 : Int) < (l.length : Int) := by omega
        have h3 : ¬ (l.length : Int) ≤ 50 := by omega
        have h4 : ¬ l.length ≤ 50 := by omega
        repeat first | simp (implicitDefEqProofs := false) (maxSteps := 1000000) (disch := first | omega | with_reducible assumption | (simp only [lenT, Nat.reduceAdd]; omega)) only [amT, cut, bnd, Nat.reduceBEq, reduceCtorEq, Nat.reduceEqDiff, Nat.reduceAdd, Nat.reduceMul, Nat.reduceSub, Int.reduceToNat, Int.reduceEq, Int.reduceLT, Int.reduceLE, Int.reduceAdd, Int.reduceSub, Int.reduceMul, reduceIte, resVs, resV, packV, initT, addr, F22_l0, t0, t3, h1', h3] | refine OrW.go ?_
        simp [fewB, h4]
    · have e : l.take i = l := List.take_of_length_le (by omega)
      have h3 : (l.length : Int) ≤ 50 := by omega
      have h5 : l.take 50 = l := List.take_of_length_le (by omega)
      rw [e] at hp
      repeat first | simp (implicitDefEqProofs := false) (maxSteps := 1000000) (disch := first | omega | with_reducible assumption | (simp only [lenT, Nat.reduceAdd]; omega)) only [amT, cut, bnd, Nat.reduceBEq, reduceCtorEq, Nat.reduceEqDiff, Nat.reduceAdd, Nat.reduceMul, Nat.reduceSub, Int.reduceToNat, Int.reduceEq, Int.reduceLT, Int.reduceLE, Int.reduceAdd, Int.reduceSub, Int.reduceMul, reduceIte, resVs, resV, packV, initT, addr, F22_l0, t0, t3, h1, h3] | refine OrW.go ?_
      simp [fewB, h5, hp]; omega

/-- What is done, its answer and what is read. -/
def doesR (d : DiskR) (x : ActR) : (Int × List UInt8) × DiskR :=
  if x.act.tmod 10 = 0 ∨ x.act.tmod 10 = 1 then (((appendR d x.name x.b).1, []), (appendR d x.name x.b).2)
  else if x.act.tmod 10 = 2 then (((driesR d x.name x.name some).1, []), (driesR d x.name x.name some).2)
  else if x.act.tmod 10 = 3 then (((driesR d x.name x.name (cutN x.n)).1, []), (driesR d x.name x.name (cutN x.n)).2)
  else if x.act.tmod 10 = 4 then (((driesR d x.name x.to some).1, []), (driesR d x.name x.to some).2)
  else if x.act.tmod 10 = 5 then (((removeR d x.name).1, []), (removeR d x.name).2)
  else if x.act.tmod 10 = 6 then (readR d x.name, d)
  else if x.act.tmod 10 = 7 then ((0, []), failR d x.n)
  else if x.act.tmod 10 = 8 then ((0, []), crashR d)
  else ((0, []), onR d x.keep)
theorem cellsOf6 (u : Int) (s t w : ByteArray) (n : Int) (ka : Option Addr) (l c : Nat) : cellsOf (.agg [.int .u8 u, .string s, .string t, .string w, .int .i64 n, .slice ka l c].toArray) = some [.int .u8 u, .string s, .string t, .string w, .int .i64 n, .slice ka l c] := rfl
theorem cutN_le (n : Int) (c c' : List UInt8) (h : cutN n c = some c') : c'.length ≤ c.length := by
  unfold cutN at h; split at h
  · cases h
  · cases h; rw [List.length_take]; omega
theorem Bud.does {d : DiskR} {k : Nat} (h : Bud d k) (x : ActR) (hx : x.ok) (hb : x.b.length ≤ 1000) : Bud (doesR d x).2 (k + 1) := by
  unfold doesR
  split; · exact h.append _ _ hb
  split; · exact h.dries _ _ _ (fun c c' h => by cases h; exact Nat.le_refl _)
  split; · exact h.dries _ _ _ (cutN_le x.n)
  split; · exact h.dries _ _ _ (fun c c' h => by cases h; exact Nat.le_refl _)
  split; · exact h.remove _
  split; · exact h.up (by omega)
  split; · exact (h.fail hx.n.2).up (by omega)
  split; · exact h.crash.up (by omega)
  · exact (h.on _).up (by omega)
theorem ByV.offx {m m' : AMem} {v : Value} {c : List UInt8} (h : ByV 5 m v c) (hs : m.size ≤ m'.size) (hg : ∀ y, y ≠ Ex.x → m'.get y = m.get y) : ByV 5 m' v c := by
  rcases h with h | ⟨b, o, cap, X, w, sp, h0, h1, h2, h3, h4, h5⟩
  · exact .inl h
  · exact .inr ⟨b, o, cap, X, w, sp, h0, Nat.lt_of_lt_of_le h1 hs, by rw [hg b h5]; exact h2, h3, h4, h5⟩
theorem FilesV.offx {m m' : AMem} {v : Value} {fs : List FileR} (h : FilesV m v fs) {X : List Value} {w : Bool} {sp : Spare} (hx : m.get Ex.x = .cells X 5 w sp) (hs : m.size ≤ m'.size) (hg : ∀ y, y ≠ Ex.x → m'.get y = m.get y) : FilesV m' v fs := by
  rcases h with ⟨h, h' | ⟨b, rfl, h1, h2⟩⟩ | ⟨b, Y, sp', rfl, h1, h2, h3, h4, h5, h6⟩
  · exact .inl ⟨h, .inl h'⟩
  · exact .inl ⟨h, .inr ⟨b, rfl, Nat.lt_of_lt_of_le h1 hs, by rw [hg b (fun e => by rw [← e, h2] at hx; cases hx)]; exact h2⟩⟩
  · refine .inr ⟨b, Y, sp', rfl, Nat.lt_of_lt_of_le h1 hs, by rw [hg b (fun e => by rw [← e, h2] at hx; cases hx)]; exact h2, h3, h4, h5, fun k hk => ?_⟩
    obtain ⟨a1, c1, a2, c2, e1, e2, e3⟩ := h6 k hk
    exact ⟨a1, c1, a2, c2, e1, ByV.offx e2 hs hg, ByV.offx e3 hs hg⟩
theorem DIn.offx {m0 M M' : AMem} {p : Nat} {v : Value} {d : DiskR} (h : DIn m0 M p v d) {X : List Value} {w : Bool} {sp : Spare} (hx : M.get Ex.x = .cells X 5 w sp) (hs : M.size ≤ M'.size) (hg : ∀ y, y ≠ Ex.x → M'.get y = M.get y) (h0 : m0.size ≤ Ex.x) : DIn m0 M' p v d :=
  ⟨⟨Nat.lt_of_lt_of_le h.here.lt hs, by rw [hg p (fun e => by have := h.here.get; rw [e, hx] at this; cases this)]; exact h.here.get, h.here.files.offx hx hs hg, Nat.lt_of_lt_of_le h.here.ex hs⟩,
   ⟨Nat.le_trans h.old.1 hs, fun y hy => by rw [hg y (by omega)]; exact h.old.2 y hy⟩, h.ap, h.own⟩
theorem DIn.keep {m0 M M' : AMem} {p : Nat} {v : Value} {d : DiskR} (h : DIn m0 M p v d) (ho : Old M M') : DIn m0 M' p v d := ⟨h.here.old ho, h.old.trans ho, h.ap, h.own⟩
theorem read_len (d : DiskR) (s : List UInt8) : (readR d s).2.length ≤ usedR d.files := by
  unfold readR
  split
  · split
    · rename_i h
      obtain ⟨hl, _⟩ := isAt_lt h
      rw [fileAt_eq hl]
      have := size_le hl
      simp only [FileR.all, FileR.size, List.length_append] at this ⊢
      omega
    · simp
  · simp
theorem u8s_set {X : List Value} (h : ∀ y ∈ X, ∃ z, y = Value.int .u8 z) (i : Nat) (n : Int) : ∀ y ∈ X.set i (.int .u8 n), ∃ z, y = Value.int .u8 z := fun y hy => by
  rcases List.mem_or_eq_of_mem_set hy with h1 | rfl
  · exact h y h1
  · exact ⟨_, rfl⟩
theorem rdO_one {X : List Value} {e : TypeId} {w : Bool} {sp : Spare} {i : Nat} (hi : i < X.length) : rdO (.cells X e w sp) i 1 = some [X[i]] := by
  rw [rdO_cells]
  unfold cutL
  rw [if_pos (by omega), List.drop_eq_getElem_cons (by omega)]; rfl
theorem dstep_off {M M1 M2 : AMem} {p : Nat} {v v1 : Value} (hs : DStep p v M v1 M1) (e1 : M2.size = M1.size) (e2 : ∀ y, y ≠ M.size + 1 → M2.get y = M1.get y) : DStep p v M v1 (mx M2 []) :=
  have h : Keep (fun x => x = p ∨ ownV v x) M M2 := ⟨by rw [e1]; exact hs.1.1, fun y hy ho => by rw [e2 y (by omega)]; exact hs.1.2 y hy ho⟩
  ⟨h.mx _, hs.2⟩
omit [Ex] in
theorem does_ok (m0 M : AMem) (p : Nat) (v : Value) (d : DiskR) (h : @DIn ⟨p⟩ m0 M p v d) (k : Nat) (hb : Bud d k) (hk : k ≤ 5000) (x : ActR) (hx : x.ok) (ka : Option Addr) (kc : Nat) (hA : ActV m0 x ka kc) (hs : x.b.length ≤ 1000) :
    RelC Try.prog 0 23 [.pointer (some ⟨p, 0, none⟩), .agg (actRow x ka kc).toArray] M fun r m' => r = .tuple #[.int .i64 (doesR d x).1.1, .string ⟨(doesR d x).1.2.toArray⟩] ∧ ∃ v', @DIn ⟨p⟩ m0 m' p v' (doesR d x).2 ∧ DStep p v M v' m' := by
  refine rel_of_W (fn := Try.f23) rfl rfl F23_ok (by simp [F23]) ?_
  letI : Ex := ⟨p⟩
  have hn0 := Int.tmod_nonneg 10 hx.act.1
  have hn9 := Int.tmod_lt_of_pos x.act (show (0 : Int) < 10 by omega)
  have hI := h.mx [.cells (actRow x ka kc) 44 true .exact]
  have hO1 := Old.here M [.cells (actRow x ka kc) 44 true .exact]
  simp only [actRow] at hI hO1
  generalize hq : x.act.tmod 10 = q at hn0 hn9
  have fin : ∀ (r : Int) (s : List UInt8) (d' : DiskR) (m' : AMem) (v' : Value), doesR d x = ((r, s), d') → DIn m0 m' p v' d' → DStep p v M v' m' →
      (.tuple #[.int .i64 r, .string ⟨s.toArray⟩] : Value) = .tuple #[.int .i64 (doesR d x).1.1, .string ⟨(doesR d x).1.2.toArray⟩] ∧ ∃ v', DIn m0 m' p v' (doesR d x).2 ∧ DStep p v M v' m' := by
    rintro r s d' m' v' e h1 h2
    rw [e]; exact ⟨rfl, v', h1, h2⟩
  have stp : ∀ {v' : Value} {m' : AMem}, DStep p v (mx M [.cells (actRow x ka kc) 44 true .exact]) v' m' → DStep p v M v' (mx m' []) := fun hs => ⟨(hs.old (Old.here _ _)).1.mx _, (hs.old (Old.here _ _)).2⟩
  simp only [actRow] at stp
  by_cases q2 : q = 2
  · subst q2
    have hc := sync_in hI hb (by omega) x.name hx.name
    repeat first | simp (implicitDefEqProofs := false) (maxSteps := 1000000) (disch := first | omega | with_reducible assumption | (simp only [lenT, Nat.reduceAdd]; omega)) only [amT, cut, bnd, Nat.reduceBEq, reduceCtorEq, Nat.reduceEqDiff, Nat.reduceAdd, Nat.reduceMul, Nat.reduceSub, Int.reduceToNat, Int.reduceEq, Int.reduceLT, Int.reduceLE, Int.reduceAdd, Int.reduceSub, Int.reduceMul, reduceIte, resVs, resV, packV, initT, addr, F23, actRow, cellsOf6, hq] | refine OrW.go ?_
    refine RelC.call hc ?_
    rintro r M1 ⟨rfl, v1, h1, hst⟩
    repeat first | simp (implicitDefEqProofs := false) (maxSteps := 1000000) (disch := first | omega | with_reducible assumption | (simp only [lenT, Nat.reduceAdd]; omega)) only [amT, cut, bnd, Nat.reduceBEq, reduceCtorEq, Nat.reduceEqDiff, Nat.reduceAdd, Nat.reduceMul, Nat.reduceSub, Int.reduceToNat, Int.reduceEq, Int.reduceLT, Int.reduceLE, Int.reduceAdd, Int.reduceSub, Int.reduceMul, reduceIte, resVs, resV, packV, initT, addr] | refine OrW.go ?_
    exact ⟨_, rfl, fun _ => fin _ _ _ _ _ (by simp [doesR, hq]) (h1.mx []) (stp hst)⟩
  by_cases q3 : q = 3
  · subst q3
    have hc := cut_in hI hb (by omega) x.name x.n hx.name
    repeat first | simp (implicitDefEqProofs := false) (maxSteps := 1000000) (disch := first | omega | with_reducible assumption | (simp only [lenT, Nat.reduceAdd]; omega)) only [amT, cut, bnd, Nat.reduceBEq, reduceCtorEq, Nat.reduceEqDiff, Nat.reduceAdd, Nat.reduceMul, Nat.reduceSub, Int.reduceToNat, Int.reduceEq, Int.reduceLT, Int.reduceLE, Int.reduceAdd, Int.reduceSub, Int.reduceMul, reduceIte, resVs, resV, packV, initT, addr, F23, actRow, cellsOf6, hq] | refine OrW.go ?_
    refine RelC.call hc ?_
    rintro r M1 ⟨rfl, v1, h1, hst⟩
    repeat first | simp (implicitDefEqProofs := false) (maxSteps := 1000000) (disch := first | omega | with_reducible assumption | (simp only [lenT, Nat.reduceAdd]; omega)) only [amT, cut, bnd, Nat.reduceBEq, reduceCtorEq, Nat.reduceEqDiff, Nat.reduceAdd, Nat.reduceMul, Nat.reduceSub, Int.reduceToNat, Int.reduceEq, Int.reduceLT, Int.reduceLE, Int.reduceAdd, Int.reduceSub, Int.reduceMul, reduceIte, resVs, resV, packV, initT, addr] | refine OrW.go ?_
    exact ⟨_, rfl, fun _ => fin _ _ _ _ _ (by simp [doesR, hq]) (h1.mx []) (stp hst)⟩
  by_cases q4 : q = 4
  · subst q4
    have hc := rename_in hI hb (by omega) x.name x.to hx.name hx.to
    repeat first | simp (implicitDefEqProofs := false) (maxSteps := 1000000) (disch := first | omega | with_reducible assumption | (simp only [lenT, Nat.reduceAdd]; omega)) only [amT, cut, bnd, Nat.reduceBEq, reduceCtorEq, Nat.reduceEqDiff, Nat.reduceAdd, Nat.reduceMul, Nat.reduceSub, Int.reduceToNat, Int.reduceEq, Int.reduceLT, Int.reduceLE, Int.reduceAdd, Int.reduceSub, Int.reduceMul, reduceIte, resVs, resV, packV, initT, addr, F23, actRow, cellsOf6, hq] | refine OrW.go ?_
    refine RelC.call hc ?_
    rintro r M1 ⟨rfl, v1, h1, hst⟩
    repeat first | simp (implicitDefEqProofs := false) (maxSteps := 1000000) (disch := first | omega | with_reducible assumption | (simp only [lenT, Nat.reduceAdd]; omega)) only [amT, cut, bnd, Nat.reduceBEq, reduceCtorEq, Nat.reduceEqDiff, Nat.reduceAdd, Nat.reduceMul, Nat.reduceSub, Int.reduceToNat, Int.reduceEq, Int.reduceLT, Int.reduceLE, Int.reduceAdd, Int.reduceSub, Int.reduceMul, reduceIte, resVs, resV, packV, initT, addr] | refine OrW.go ?_
    exact ⟨_, rfl, fun _ => fin _ _ _ _ _ (by simp [doesR, hq]) (h1.mx []) (stp hst)⟩
  by_cases q5 : q = 5
  · subst q5
    have hc := remove_in hI hb (by omega) x.name hx.name
    repeat first | simp (implicitDefEqProofs := false) (maxSteps := 1000000) (disch := first | omega | with_reducible assumption | (simp only [lenT, Nat.reduceAdd]; omega)) only [amT, cut, bnd, Nat.reduceBEq, reduceCtorEq, Nat.reduceEqDiff, Nat.reduceAdd, Nat.reduceMul, Nat.reduceSub, Int.reduceToNat, Int.reduceEq, Int.reduceLT, Int.reduceLE, Int.reduceAdd, Int.reduceSub, Int.reduceMul, reduceIte, resVs, resV, packV, initT, addr, F23, actRow, cellsOf6, hq] | refine OrW.go ?_
    refine RelC.call hc ?_
    rintro r M1 ⟨rfl, v1, h1, hst⟩
    repeat first | simp (implicitDefEqProofs := false) (maxSteps := 1000000) (disch := first | omega | with_reducible assumption | (simp only [lenT, Nat.reduceAdd]; omega)) only [amT, cut, bnd, Nat.reduceBEq, reduceCtorEq, Nat.reduceEqDiff, Nat.reduceAdd, Nat.reduceMul, Nat.reduceSub, Int.reduceToNat, Int.reduceEq, Int.reduceLT, Int.reduceLE, Int.reduceAdd, Int.reduceSub, Int.reduceMul, reduceIte, resVs, resV, packV, initT, addr] | refine OrW.go ?_
    exact ⟨_, rfl, fun _ => fin _ _ _ _ _ (by simp [doesR, hq]) (h1.mx []) (stp hst)⟩
  by_cases q7 : q = 7
  · subst q7
    have hc := fail_in hI x.n
    repeat first | simp (implicitDefEqProofs := false) (maxSteps := 1000000) (disch := first | omega | with_reducible assumption | (simp only [lenT, Nat.reduceAdd]; omega)) only [amT, cut, bnd, Nat.reduceBEq, reduceCtorEq, Nat.reduceEqDiff, Nat.reduceAdd, Nat.reduceMul, Nat.reduceSub, Int.reduceToNat, Int.reduceEq, Int.reduceLT, Int.reduceLE, Int.reduceAdd, Int.reduceSub, Int.reduceMul, reduceIte, resVs, resV, packV, initT, addr, F23, actRow, cellsOf6, hq] | refine OrW.go ?_
    refine RelC.call hc ?_
    rintro r M1 ⟨rfl, v1, h1, hst⟩
    repeat first | simp (implicitDefEqProofs := false) (maxSteps := 1000000) (disch := first | omega | with_reducible assumption | (simp only [lenT, Nat.reduceAdd]; omega)) only [amT, cut, bnd, Nat.reduceBEq, reduceCtorEq, Nat.reduceEqDiff, Nat.reduceAdd, Nat.reduceMul, Nat.reduceSub, Int.reduceToNat, Int.reduceEq, Int.reduceLT, Int.reduceLE, Int.reduceAdd, Int.reduceSub, Int.reduceMul, reduceIte, resVs, resV, packV, initT, addr] | refine OrW.go ?_
    exact ⟨_, rfl, fun _ => fin _ _ _ _ _ (by simp [doesR, hq]) (h1.mx []) (stp hst)⟩
  by_cases q8 : q = 8
  · subst q8
    have hc := crash_in hI
    repeat first | simp (implicitDefEqProofs := false) (maxSteps := 1000000) (disch := first | omega | with_reducible assumption | (simp only [lenT, Nat.reduceAdd]; omega)) only [amT, cut, bnd, Nat.reduceBEq, reduceCtorEq, Nat.reduceEqDiff, Nat.reduceAdd, Nat.reduceMul, Nat.reduceSub, Int.reduceToNat, Int.reduceEq, Int.reduceLT, Int.reduceLE, Int.reduceAdd, Int.reduceSub, Int.reduceMul, reduceIte, resVs, resV, packV, initT, addr, F23, actRow, cellsOf6, hq] | refine OrW.go ?_
    refine RelC.call hc ?_
    rintro r M1 ⟨rfl, v1, h1, hst⟩
    repeat first | simp (implicitDefEqProofs := false) (maxSteps := 1000000) (disch := first | omega | with_reducible assumption | (simp only [lenT, Nat.reduceAdd]; omega)) only [amT, cut, bnd, Nat.reduceBEq, reduceCtorEq, Nat.reduceEqDiff, Nat.reduceAdd, Nat.reduceMul, Nat.reduceSub, Int.reduceToNat, Int.reduceEq, Int.reduceLT, Int.reduceLE, Int.reduceAdd, Int.reduceSub, Int.reduceMul, reduceIte, resVs, resV, packV, initT, addr] | refine OrW.go ?_
    exact ⟨_, rfl, fun _ => fin _ _ _ _ _ (by simp [doesR, hq]) (h1.mx []) (stp hst)⟩
  by_cases q9 : q = 9
  · subst q9
    have hc := on_in hI hb (by omega) (.slice ka x.keep.length kc) x.keep (hA.1.old hI.old) hx.keep hx.k64 (fun b o n c e => by cases e; have := hA.2 b o rfl; have := hI.ap; omega)
    repeat first | simp (implicitDefEqProofs := false) (maxSteps := 1000000) (disch := first | omega | with_reducible assumption | (simp only [lenT, Nat.reduceAdd]; omega)) only [amT, cut, bnd, Nat.reduceBEq, reduceCtorEq, Nat.reduceEqDiff, Nat.reduceAdd, Nat.reduceMul, Nat.reduceSub, Int.reduceToNat, Int.reduceEq, Int.reduceLT, Int.reduceLE, Int.reduceAdd, Int.reduceSub, Int.reduceMul, reduceIte, resVs, resV, packV, initT, addr, F23, actRow, cellsOf6, hq] | refine OrW.go ?_
    refine RelC.call hc ?_
    rintro r M1 ⟨rfl, v1, h1, hst⟩
    repeat first | simp (implicitDefEqProofs := false) (maxSteps := 1000000) (disch := first | omega | with_reducible assumption | (simp only [lenT, Nat.reduceAdd]; omega)) only [amT, cut, bnd, Nat.reduceBEq, reduceCtorEq, Nat.reduceEqDiff, Nat.reduceAdd, Nat.reduceMul, Nat.reduceSub, Int.reduceToNat, Int.reduceEq, Int.reduceLT, Int.reduceLE, Int.reduceAdd, Int.reduceSub, Int.reduceMul, reduceIte, resVs, resV, packV, initT, addr] | refine OrW.go ?_
    exact ⟨_, rfl, fun _ => fin _ _ _ _ _ (by simp [doesR, hq]) (h1.mx []) (stp hst)⟩
  by_cases q6 : q = 6
  · subst q6
    have hc := read_in hI hb (by omega) x.name hx.name
    repeat first | simp (implicitDefEqProofs := false) (maxSteps := 1000000) (disch := first | omega | with_reducible assumption | (simp only [lenT, Nat.reduceAdd]; omega)) only [amT, cut, bnd, Nat.reduceBEq, reduceCtorEq, Nat.reduceEqDiff, Nat.reduceAdd, Nat.reduceMul, Nat.reduceSub, Int.reduceToNat, Int.reduceEq, Int.reduceLT, Int.reduceLE, Int.reduceAdd, Int.reduceSub, Int.reduceMul, reduceIte, resVs, resV, packV, initT, addr, F23, actRow, cellsOf6, hq] | refine OrW.go ?_
    refine RelC.call hc ?_
    rintro r M1 ⟨b, rfl, h1, hO, hB⟩
    have hOM : Old M M1 := hO1.trans hO
    have hB0 := hB
    obtain ⟨ab, cb, rfl, hbs⟩ := hB0.bsl'
    have hstr := (hbs.old (Old.here M1 [])).str
    have hrl := read_len d x.name
    have hus := hb.used
    generalize hread : readR d x.name = rd at *
    obtain ⟨re, rs⟩ := rd
    simp only [] at hB hbs hstr hrl
    repeat first | simp (implicitDefEqProofs := false) (maxSteps := 1000000) (disch := first | omega | with_reducible assumption | (simp only [lenT, Nat.reduceAdd]; omega)) only [amT, cut, bnd, Nat.reduceBEq, reduceCtorEq, Nat.reduceEqDiff, Nat.reduceAdd, Nat.reduceMul, Nat.reduceSub, Int.reduceToNat, Int.reduceEq, Int.reduceLT, Int.reduceLE, Int.reduceAdd, Int.reduceSub, Int.reduceMul, reduceIte, resVs, resV, packV, initT, addr, stepOp_b2s_v, hstr] | refine OrW.go ?_
    refine W_loop (fun N qs => ∃ (i : Nat) (M2 : AMem), N = rs.length - i ∧ qs.ds = [] ∧ qs.m = mx M2 [] ∧ qs.t 9 = .slice ab rs.length cb ∧ qs.t 10 = .int .i64 re ∧ qs.t 11 = .string ⟨rs.toArray⟩ ∧ qs.t 12 = .int .i64 i ∧ i ≤ rs.length ∧ Old (mx M [.cells (actRow x ka kc) 44 true .exact]) M2 ∧ (rs = [] ∨ ∃ bb X, ab = some ⟨bb, 0, none⟩ ∧ (mx M [.cells (actRow x ka kc) 44 true .exact]).size ≤ bb ∧ bb < M2.size ∧ M2.get bb = .cells X 5 true (.room [.int .u8 0]) ∧ X.length = rs.length ∧ ∀ y ∈ X, ∃ z, y = Value.int .u8 z)) (rs.length - (0)) ⟨0, M1, rfl, rfl, ?qm, ?q9, ?q10, ?q11, ?q12, ?_⟩ ?_
    case qm | q9 | q10 | q11 | q12 => first | rfl | (simp (implicitDefEqProofs := false) (maxSteps := 1000000) (disch := first | omega | with_reducible assumption | (simp only [lenT, Nat.reduceAdd]; omega)) only [amT, cut, bnd, Nat.reduceBEq, reduceCtorEq, Nat.reduceEqDiff, Nat.reduceAdd, Nat.reduceMul, Nat.reduceSub, Int.reduceToNat, Int.reduceEq, Int.reduceLT, Int.reduceLE, Int.reduceAdd, Int.reduceSub, Int.reduceMul, reduceIte, resVs, resV, packV, initT, addr]; first | done | rfl | (congr 1; omega))
    · refine ⟨by omega, hO, ?_⟩
      rcases hB with ⟨h, _⟩ | ⟨bb, g1, g2, g3, g4⟩
      · exact .inl (by simpa using h)
      · rw [List.length_map] at g3
        cases g3
        exact .inr ⟨bb, _, rfl, g1, g2, g4, by simp, fun y hy => by simp only [List.mem_map] at hy; obtain ⟨z, _, rfl⟩ := hy; exact ⟨_, rfl⟩⟩
    · rintro N t m1 ds ⟨i, M2, rfl, hds, hm, t9, t10, t11, t12, hp⟩
      simp only at hds hm t9 t10 t11 t12
      subst hds; replace hm := hm.symm; subst hm
      obtain ⟨hi, hO2, hX⟩ := hp
      by_cases hil : (i : Int) < (rs.length : Int)
      · rcases hX with rfl | ⟨bb, X, rfl, g1, g2, g3, g4, g5⟩
        · simp at hil; omega
        · have hiX : i < X.length := by omega
          obtain ⟨z, hz⟩ := g5 _ (List.getElem_mem hiX)
          have hXi : X[i]? = some (.int .u8 z) := by rw [List.getElem?_eq_getElem hiX, hz]
          repeat first | simp (implicitDefEqProofs := false) (maxSteps := 1000000) (disch := first | omega | with_reducible assumption | (simp only [lenT, Nat.reduceAdd]; omega)) only [amT, cut, bnd, Nat.reduceBEq, reduceCtorEq, Nat.reduceEqDiff, Nat.reduceAdd, Nat.reduceMul, Nat.reduceSub, Int.reduceToNat, Int.reduceEq, Int.reduceLT, Int.reduceLE, Int.reduceAdd, Int.reduceSub, Int.reduceMul, reduceIte, resVs, resV, packV, initT, addr, F23_l1, t9, t10, t11, t12, hil, hXi, g3] | refine OrW.go ?_
          rw [LoopK_normal]; refine ⟨_, ?_, i + 1, M2.set bb (.cells (X.set i (.int .u8 (ibits .xor .u8 z 255))) 5 true (.room [.int .u8 0])), rfl, rfl, ?qm, ?q9, ?q10, ?q11, ?q12, ?_⟩
          case qm | q9 | q10 | q11 | q12 => first | rfl | (simp (implicitDefEqProofs := false) (maxSteps := 1000000) (disch := first | omega | with_reducible assumption | (simp only [lenT, Nat.reduceAdd]; omega)) only [amT, cut, bnd, Nat.reduceBEq, reduceCtorEq, Nat.reduceEqDiff, Nat.reduceAdd, Nat.reduceMul, Nat.reduceSub, Int.reduceToNat, Int.reduceEq, Int.reduceLT, Int.reduceLE, Int.reduceAdd, Int.reduceSub, Int.reduceMul, reduceIte, resVs, resV, packV, initT, addr, t9, t10, t11, t12]; first | done | rfl | (congr 1; omega))
          · omega
          · refine ⟨by omega, hO2.set g1 _, .inr ⟨bb, _, rfl, g1, by rw [AMem.size_set]; exact g2, AMem.get_set_self _ _ _, by rw [List.length_set]; exact g4, u8s_set g5 _ _⟩⟩
      · repeat first | simp (implicitDefEqProofs := false) (maxSteps := 1000000) (disch := first | omega | with_reducible assumption | (simp only [lenT, Nat.reduceAdd]; omega)) only [amT, cut, bnd, Nat.reduceBEq, reduceCtorEq, Nat.reduceEqDiff, Nat.reduceAdd, Nat.reduceMul, Nat.reduceSub, Int.reduceToNat, Int.reduceEq, Int.reduceLT, Int.reduceLE, Int.reduceAdd, Int.reduceSub, Int.reduceMul, reduceIte, resVs, resV, packV, initT, addr, F23_l1, t9, t10, t11, t12, hil] | refine OrW.go ?_
        exact ⟨_, rfl, fun _ => fin _ _ _ _ _ (by simp [doesR, hq, hread]) ((hI.keep hO2).mx []) ⟨((hO1.trans hO2).mx []).keep _, fun _ h => .inl h⟩⟩
  have q01 : q = 0 ∨ q = 1 := by omega
  have hbb : (mx M [.cells (actRow x ka kc) 44 true .exact, .cells (x.b.map byteV) 5 true (.room [.int .u8 0])]).size = M.size + 2 := by rw [mx_size]; rfl
  have hDb : @DIn ⟨M.size + 1⟩ m0 (mx M [.cells (actRow x ka kc) 44 true .exact, .cells (x.b.map byteV) 5 true (.room [.int .u8 0])]) p v d :=
    @DIn.mk ⟨M.size + 1⟩ _ _ _ _ _ (DAt.swap (x := p) h.here (Old.here _ _) (fun X w sp hy => by omega) (by rw [hbb]; omega)) (h.old.mx _) h.ap h.own
  have hown : ¬ ownV v (M.size + 1) := fun e => by have := own_lt h.here.files e; omega
  have hlt := h.here.lt
  have hms := h.old.1
  have hc := @append_in ⟨M.size + 1⟩ m0 _ p v d k hDb hb (by omega) x.name _ openCap x.b hx.name (bsl_room M _ 1 rfl rfl) hx.b
  have fin2 : ∀ (M1 M2 : AMem) (v1 : Value) (X : List Value), @DIn ⟨M.size + 1⟩ m0 M1 p v1 (appendR d x.name x.b).2 → DStep p v (mx M [.cells (actRow x ka kc) 44 true .exact, .cells (x.b.map byteV) 5 true (.room [.int .u8 0])]) v1 M1 →
      M2.size = M1.size → (∀ y, y ≠ M.size + 1 → M2.get y = M1.get y) → M1.get (M.size + 1) = .cells X 5 true (.room [.int .u8 0]) →
      DIn m0 (mx M2 []) p v1 (appendR d x.name x.b).2 ∧ DStep p v M v1 (mx M2 []) := by
    intro M1 M2 v1 X h1 hs e1 e2 e3
    have h2 : @DIn ⟨M.size + 1⟩ m0 M2 p v1 (appendR d x.name x.b).2 := @DIn.offx ⟨M.size + 1⟩ _ _ _ _ _ _ h1 _ _ _ e3 (Nat.le_of_eq e1.symm) e2 (by show m0.size ≤ M.size + 1; omega)
    have hA2 := @DIn.here ⟨M.size + 1⟩ _ _ _ _ _ h2
    have hg2 := @DAt.get ⟨M.size + 1⟩ _ _ _ _ hA2
    have hl2 := @DAt.lt ⟨M.size + 1⟩ _ _ _ _ hA2
    have h3 : DIn m0 M2 p v1 (appendR d x.name x.b).2 := @DIn.mk ⟨p⟩ _ _ _ _ _ (DAt.swap (x := M.size + 1) (y := p) hA2 (Old.refl M2) (fun X w sp hy e => by rw [hg2] at e; cases e) hl2) (@DIn.old ⟨M.size + 1⟩ _ _ _ _ _ h2) (@DIn.ap ⟨M.size + 1⟩ _ _ _ _ _ h2) (@DIn.own ⟨M.size + 1⟩ _ _ _ _ _ h2)
    have hs1 := hs.old (Old.here M _)
    refine ⟨h3.mx _, dstep_off hs1 e1 e2⟩
  rcases q01 with rfl | rfl
  · repeat first | simp (implicitDefEqProofs := false) (maxSteps := 1000000) (disch := first | omega | with_reducible assumption | (simp only [lenT, Nat.reduceAdd]; omega)) only [amT, cut, bnd, Nat.reduceBEq, reduceCtorEq, Nat.reduceEqDiff, Nat.reduceAdd, Nat.reduceMul, Nat.reduceSub, Int.reduceToNat, Int.reduceEq, Int.reduceLT, Int.reduceLE, Int.reduceAdd, Int.reduceSub, Int.reduceMul, reduceIte, resVs, resV, packV, initT, addr, F23, actRow, cellsOf6, hq] | refine OrW.go ?_
    refine RelC.call hc ?_
    rintro r M1 ⟨rfl, v1, h1, hst⟩
    have hbM1 : M1.get (M.size + 1) = .cells (x.b.map byteV) 5 true (.room [.int .u8 0]) := by
      rw [hst.1.2 _ (by rw [hbb]; omega) (fun e => by rcases e with e | e; omega; exact hown e)]
      exact mx_new _ _ 1
    have hM1s : M.size + 2 ≤ M1.size := by have := hst.1.1; rw [hbb] at this; exact this
    repeat first | simp (implicitDefEqProofs := false) (maxSteps := 1000000) (disch := first | omega | with_reducible assumption | (simp only [lenT, Nat.reduceAdd]; omega)) only [amT, cut, bnd, Nat.reduceBEq, reduceCtorEq, Nat.reduceEqDiff, Nat.reduceAdd, Nat.reduceMul, Nat.reduceSub, Int.reduceToNat, Int.reduceEq, Int.reduceLT, Int.reduceLE, Int.reduceAdd, Int.reduceSub, Int.reduceMul, reduceIte, resVs, resV, packV, initT, addr] | refine OrW.go ?_
    refine W_loop (fun N qs => ∃ (i : Nat) (M2 : AMem) (X : List Value), N = x.b.length - i ∧ qs.ds = [] ∧ qs.m = mx M2 [] ∧ qs.t 6 = .slice (some ⟨M.size + 1, 0, none⟩) x.b.length openCap ∧ qs.t 7 = .int .i64 (appendR d x.name x.b).1 ∧ qs.t 8 = .int .i64 i ∧ i ≤ x.b.length ∧ M2.size = M1.size ∧ (∀ y, y ≠ M.size + 1 → M2.get y = M1.get y) ∧ M2.get (M.size + 1) = .cells X 5 true (.room [.int .u8 0]) ∧ X.length = x.b.length ∧ ∀ y ∈ X, ∃ z, y = Value.int .u8 z) (x.b.length - (0)) ⟨0, M1, x.b.map byteV, rfl, rfl, ?qm, ?q6, ?q7, ?q8, ?_⟩ ?_
    case qm | q6 | q7 | q8 => first | rfl | (simp (implicitDefEqProofs := false) (maxSteps := 1000000) (disch := first | omega | with_reducible assumption | (simp only [lenT, Nat.reduceAdd]; omega)) only [amT, cut, bnd, Nat.reduceBEq, reduceCtorEq, Nat.reduceEqDiff, Nat.reduceAdd, Nat.reduceMul, Nat.reduceSub, Int.reduceToNat, Int.reduceEq, Int.reduceLT, Int.reduceLE, Int.reduceAdd, Int.reduceSub, Int.reduceMul, reduceIte, resVs, resV, packV, initT, addr]; first | done | rfl | (congr 1; omega))
    · refine ⟨by omega, rfl, fun _ _ => rfl, hbM1, by simp, fun y hy => ?_⟩
      simp only [List.mem_map] at hy; obtain ⟨z, _, rfl⟩ := hy; exact ⟨_, rfl⟩
    · rintro N t m1 ds ⟨i, M2, X, rfl, hds, hm, t6, t7, t8, hp⟩
      simp only at hds hm t6 t7 t8
      subst hds; replace hm := hm.symm; subst hm
      obtain ⟨hi, e1, e2, g3, g4, g5⟩ := hp
      by_cases hil : (i : Int) < (x.b.length : Int)
      · have hiX : i < X.length := by omega
        obtain ⟨z, hz⟩ := g5 _ (List.getElem_mem hiX)
        have hXi : X[i]? = some (.int .u8 z) := by rw [List.getElem?_eq_getElem hiX, hz]
        have hbM2 : M.size + 1 < M2.size := by omega
        repeat first | simp (implicitDefEqProofs := false) (maxSteps := 1000000) (disch := first | omega | with_reducible assumption | (simp only [lenT, Nat.reduceAdd]; omega)) only [amT, cut, bnd, Nat.reduceBEq, reduceCtorEq, Nat.reduceEqDiff, Nat.reduceAdd, Nat.reduceMul, Nat.reduceSub, Int.reduceToNat, Int.reduceEq, Int.reduceLT, Int.reduceLE, Int.reduceAdd, Int.reduceSub, Int.reduceMul, reduceIte, resVs, resV, packV, initT, addr, F23_l0, t6, t7, t8, hil, hXi, g3] | refine OrW.go ?_
        rw [LoopK_normal]; refine ⟨_, ?_, i + 1, M2.set (M.size + 1) (.cells (X.set i (.int .u8 (ibits .xor .u8 z 255))) 5 true (.room [.int .u8 0])), X.set i (.int .u8 (ibits .xor .u8 z 255)), rfl, rfl, ?qm, ?q6, ?q7, ?q8, ?_⟩
        case qm | q6 | q7 | q8 => first | rfl | (simp (implicitDefEqProofs := false) (maxSteps := 1000000) (disch := first | omega | with_reducible assumption | (simp only [lenT, Nat.reduceAdd]; omega)) only [amT, cut, bnd, Nat.reduceBEq, reduceCtorEq, Nat.reduceEqDiff, Nat.reduceAdd, Nat.reduceMul, Nat.reduceSub, Int.reduceToNat, Int.reduceEq, Int.reduceLT, Int.reduceLE, Int.reduceAdd, Int.reduceSub, Int.reduceMul, reduceIte, resVs, resV, packV, initT, addr, t6, t7, t8]; first | done | rfl | (congr 1; omega))
        · omega
        · refine ⟨by omega, by rw [AMem.size_set]; exact e1, fun y hy => by rw [AMem.get_set_ne _ _ hy]; exact e2 y hy, AMem.get_set_self _ _ _, by rw [List.length_set]; exact g4, u8s_set g5 _ _⟩
      · repeat first | simp (implicitDefEqProofs := false) (maxSteps := 1000000) (disch := first | omega | with_reducible assumption | (simp only [lenT, Nat.reduceAdd]; omega)) only [amT, cut, bnd, Nat.reduceBEq, reduceCtorEq, Nat.reduceEqDiff, Nat.reduceAdd, Nat.reduceMul, Nat.reduceSub, Int.reduceToNat, Int.reduceEq, Int.reduceLT, Int.reduceLE, Int.reduceAdd, Int.reduceSub, Int.reduceMul, reduceIte, resVs, resV, packV, initT, addr, F23_l0, t6, t7, t8, hil] | refine OrW.go ?_
        obtain ⟨k1, k2⟩ := fin2 M1 M2 v1 _ h1 hst e1 e2 hbM1
        exact ⟨_, rfl, fun _ => fin _ _ _ _ _ (by simp [doesR, hq]) k1 k2⟩
  · repeat first | simp (implicitDefEqProofs := false) (maxSteps := 1000000) (disch := first | omega | with_reducible assumption | (simp only [lenT, Nat.reduceAdd]; omega)) only [amT, cut, bnd, Nat.reduceBEq, reduceCtorEq, Nat.reduceEqDiff, Nat.reduceAdd, Nat.reduceMul, Nat.reduceSub, Int.reduceToNat, Int.reduceEq, Int.reduceLT, Int.reduceLE, Int.reduceAdd, Int.reduceSub, Int.reduceMul, reduceIte, resVs, resV, packV, initT, addr, F23, actRow, cellsOf6, hq] | refine OrW.go ?_
    refine RelC.call hc ?_
    rintro r M1 ⟨rfl, v1, h1, hst⟩
    have hbM1 : M1.get (M.size + 1) = .cells (x.b.map byteV) 5 true (.room [.int .u8 0]) := by
      rw [hst.1.2 _ (by rw [hbb]; omega) (fun e => by rcases e with e | e; omega; exact hown e)]
      exact mx_new _ _ 1
    have hM1s : M.size + 2 ≤ M1.size := by have := hst.1.1; rw [hbb] at this; exact this
    repeat first | simp (implicitDefEqProofs := false) (maxSteps := 1000000) (disch := first | omega | with_reducible assumption | (simp only [lenT, Nat.reduceAdd]; omega)) only [amT, cut, bnd, Nat.reduceBEq, reduceCtorEq, Nat.reduceEqDiff, Nat.reduceAdd, Nat.reduceMul, Nat.reduceSub, Int.reduceToNat, Int.reduceEq, Int.reduceLT, Int.reduceLE, Int.reduceAdd, Int.reduceSub, Int.reduceMul, reduceIte, resVs, resV, packV, initT, addr] | refine OrW.go ?_
    refine W_loop (fun N qs => ∃ (i : Nat) (M2 : AMem) (X : List Value), N = x.b.length - i ∧ qs.ds = [] ∧ qs.m = mx M2 [] ∧ qs.t 6 = .slice (some ⟨M.size + 1, 0, none⟩) x.b.length openCap ∧ qs.t 7 = .int .i64 (appendR d x.name x.b).1 ∧ qs.t 8 = .int .i64 i ∧ i ≤ x.b.length ∧ M2.size = M1.size ∧ (∀ y, y ≠ M.size + 1 → M2.get y = M1.get y) ∧ M2.get (M.size + 1) = .cells X 5 true (.room [.int .u8 0]) ∧ X.length = x.b.length ∧ ∀ y ∈ X, ∃ z, y = Value.int .u8 z) (x.b.length - (0)) ⟨0, M1, x.b.map byteV, rfl, rfl, ?qm, ?q6, ?q7, ?q8, ?_⟩ ?_
    case qm | q6 | q7 | q8 => first | rfl | (simp (implicitDefEqProofs := false) (maxSteps := 1000000) (disch := first | omega | with_reducible assumption | (simp only [lenT, Nat.reduceAdd]; omega)) only [amT, cut, bnd, Nat.reduceBEq, reduceCtorEq, Nat.reduceEqDiff, Nat.reduceAdd, Nat.reduceMul, Nat.reduceSub, Int.reduceToNat, Int.reduceEq, Int.reduceLT, Int.reduceLE, Int.reduceAdd, Int.reduceSub, Int.reduceMul, reduceIte, resVs, resV, packV, initT, addr]; first | done | rfl | (congr 1; omega))
    · refine ⟨by omega, rfl, fun _ _ => rfl, hbM1, by simp, fun y hy => ?_⟩
      simp only [List.mem_map] at hy; obtain ⟨z, _, rfl⟩ := hy; exact ⟨_, rfl⟩
    · rintro N t m1 ds ⟨i, M2, X, rfl, hds, hm, t6, t7, t8, hp⟩
      simp only at hds hm t6 t7 t8
      subst hds; replace hm := hm.symm; subst hm
      obtain ⟨hi, e1, e2, g3, g4, g5⟩ := hp
      by_cases hil : (i : Int) < (x.b.length : Int)
      · have hiX : i < X.length := by omega
        obtain ⟨z, hz⟩ := g5 _ (List.getElem_mem hiX)
        have hXi : X[i]? = some (.int .u8 z) := by rw [List.getElem?_eq_getElem hiX, hz]
        have hbM2 : M.size + 1 < M2.size := by omega
        repeat first | simp (implicitDefEqProofs := false) (maxSteps := 1000000) (disch := first | omega | with_reducible assumption | (simp only [lenT, Nat.reduceAdd]; omega)) only [amT, cut, bnd, Nat.reduceBEq, reduceCtorEq, Nat.reduceEqDiff, Nat.reduceAdd, Nat.reduceMul, Nat.reduceSub, Int.reduceToNat, Int.reduceEq, Int.reduceLT, Int.reduceLE, Int.reduceAdd, Int.reduceSub, Int.reduceMul, reduceIte, resVs, resV, packV, initT, addr, F23_l0, t6, t7, t8, hil, hXi, g3] | refine OrW.go ?_
        rw [LoopK_normal]; refine ⟨_, ?_, i + 1, M2.set (M.size + 1) (.cells (X.set i (.int .u8 (ibits .xor .u8 z 255))) 5 true (.room [.int .u8 0])), X.set i (.int .u8 (ibits .xor .u8 z 255)), rfl, rfl, ?qm, ?q6, ?q7, ?q8, ?_⟩
        case qm | q6 | q7 | q8 => first | rfl | (simp (implicitDefEqProofs := false) (maxSteps := 1000000) (disch := first | omega | with_reducible assumption | (simp only [lenT, Nat.reduceAdd]; omega)) only [amT, cut, bnd, Nat.reduceBEq, reduceCtorEq, Nat.reduceEqDiff, Nat.reduceAdd, Nat.reduceMul, Nat.reduceSub, Int.reduceToNat, Int.reduceEq, Int.reduceLT, Int.reduceLE, Int.reduceAdd, Int.reduceSub, Int.reduceMul, reduceIte, resVs, resV, packV, initT, addr, t6, t7, t8]; first | done | rfl | (congr 1; omega))
        · omega
        · refine ⟨by omega, by rw [AMem.size_set]; exact e1, fun y hy => by rw [AMem.get_set_ne _ _ hy]; exact e2 y hy, AMem.get_set_self _ _ _, by rw [List.length_set]; exact g4, u8s_set g5 _ _⟩
      · repeat first | simp (implicitDefEqProofs := false) (maxSteps := 1000000) (disch := first | omega | with_reducible assumption | (simp only [lenT, Nat.reduceAdd]; omega)) only [amT, cut, bnd, Nat.reduceBEq, reduceCtorEq, Nat.reduceEqDiff, Nat.reduceAdd, Nat.reduceMul, Nat.reduceSub, Int.reduceToNat, Int.reduceEq, Int.reduceLT, Int.reduceLE, Int.reduceAdd, Int.reduceSub, Int.reduceMul, reduceIte, resVs, resV, packV, initT, addr, F23_l0, t6, t7, t8, hil] | refine OrW.go ?_
        obtain ⟨k1, k2⟩ := fin2 M1 M2 v1 _ h1 hst e1 e2 hbM1
        exact ⟨_, rfl, fun _ => fin _ _ _ _ _ (by simp [doesR, hq]) k1 k2⟩
end Go.Proofs.Ytbmjhiifinjieaa
namespace Go.Proofs.Ytbmjhiifinjieaa
open Go Go.AM
set_option linter.unusedVariables false
set_option linter.unusedSimpArgs false
set_option linter.unusedSectionVars false
set_option maxHeartbeats 2000000
set_option maxRecDepth 100000

variable [Ex]
/-- What the reference does, its answer and what is read. -/
def hasR (r : DiskR) (x : ActR) : (Int × List UInt8) × DiskR :=
  if x.act.tmod 10 = 0 ∨ x.act.tmod 10 = 1 then (((rappendR r x.name x.b).1, []), (rappendR r x.name x.b).2)
  else if x.act.tmod 10 = 2 then (((rdoR r x.name x.name (lookOr r.files x.name).size).1, []), (rdoR r x.name x.name (lookOr r.files x.name).size).2)
  else if x.act.tmod 10 = 3 then (((rcutR r x.name x.n).1, []), (rcutR r x.name x.n).2)
  else if x.act.tmod 10 = 4 then (((rdoR r x.name x.to (lookOr r.files x.name).size).1, []), (rdoR r x.name x.to (lookOr r.files x.name).size).2)
  else if x.act.tmod 10 = 5 then (((rremoveR r x.name).1, []), (rremoveR r x.name).2)
  else if x.act.tmod 10 = 6 then (rreadR r x.name, r)
  else if x.act.tmod 10 = 7 then ((0, []), failR r x.n)
  else if x.act.tmod 10 = 8 then ((0, []), crashR r)
  else ((0, []), rOnR r x.keep)
theorem Same.does {d r : DiskR} (h : Same d r) (x : ActR) : (doesR d x).1 = (hasR r x).1 ∧ Same (doesR d x).2 (hasR r x).2 := by
  unfold doesR hasR
  split; · obtain ⟨e, s⟩ := h.append x.name x.b; exact ⟨by simp only [e], s⟩
  split; · obtain ⟨e, s⟩ := h.dry x.name x.name; exact ⟨by simp only [e], s⟩
  split; · obtain ⟨e, s⟩ := h.cut x.name x.n; exact ⟨by simp only [e], s⟩
  split; · obtain ⟨e, s⟩ := h.dry x.name x.to; exact ⟨by simp only [e], s⟩
  split; · obtain ⟨e, s⟩ := h.rem x.name; exact ⟨by simp only [e], s⟩
  split; · exact ⟨h.read x.name, h⟩
  split; · exact ⟨rfl, h.fail x.n⟩
  split; · exact ⟨rfl, h.crash⟩
  · exact ⟨rfl, h.on x.keep⟩
theorem has_ok (M : AMem) (p : Nat) (v : Value) (r : DiskR) (hR : RAt M p v r) (hO : ROk r) (hL : ∀ i (hi : i < (sortR r.files).length), lookOr r.files (sortR r.files)[i].name = (sortR r.files)[i])
    (x : ActR) (hx : x.ok) (ka : Option Addr) (kc : Nat) (hA : ActV M x ka kc) (hkp : ∀ b o, ka = some ⟨b, o, none⟩ → b ≠ p) (hs : x.b.length ≤ 1000) :
    RelC Try.prog 0 27 [.pointer (some ⟨p, 0, none⟩), .agg (actRow x ka kc).toArray] M fun w m' => w = .tuple #[.int .i64 (hasR r x).1.1, .string ⟨(hasR r x).1.2.toArray⟩] ∧ ∃ v', RAt m' p v' (hasR r x).2 ∧ RStep p M m' := by
  refine rel_of_W (fn := Try.f27) rfl rfl F27_ok (by simp [F27]) ?_
  have hn0 := Int.tmod_nonneg 10 hx.act.1
  have hn9 := Int.tmod_lt_of_pos x.act (show (0 : Int) < 10 by omega)
  have hI := hR.old (Old.here M [.cells (actRow x ka kc) 44 true .exact])
  have hO1 := Old.here M [.cells (actRow x ka kc) 44 true .exact]
  have hd := hR.get
  have hp := hR.lt
  simp only [actRow] at hI hO1
  simp only [DiskR.cells] at hd
  generalize hq : x.act.tmod 10 = q at hn0 hn9
  have fin : ∀ (e : Int) (s : List UInt8) (r' : DiskR) (m' : AMem) (v' : Value), hasR r x = ((e, s), r') → RAt m' p v' r' → RStep p M m' →
      (.tuple #[.int .i64 e, .string ⟨s.toArray⟩] : Value) = .tuple #[.int .i64 (hasR r x).1.1, .string ⟨(hasR r x).1.2.toArray⟩] ∧ ∃ v', RAt m' p v' (hasR r x).2 ∧ RStep p M m' := by
    rintro e s r' m' v' h h1 h2
    rw [h]; exact ⟨rfl, v', h1, h2⟩
  have stp : ∀ {m' : AMem}, RStep p (mx M [.cells (actRow x ka kc) 44 true .exact]) m' → RStep p M (mx m' []) := fun hs => (((Old.here M _).keep (fun x => x = p)).trans hs (fun _ _ h => h)).mx _
  simp only [actRow] at stp
  by_cases q2 : q = 2
  · subst q2
    have hc := rsync_ok _ p v r x.name hx.name hI hO
    repeat first | simp (implicitDefEqProofs := false) (maxSteps := 1000000) (disch := first | omega | with_reducible assumption | (simp only [lenT, Nat.reduceAdd]; omega)) only [amT, cut, bnd, Nat.reduceBEq, reduceCtorEq, Nat.reduceEqDiff, Nat.reduceAdd, Nat.reduceMul, Nat.reduceSub, Int.reduceToNat, Int.reduceEq, Int.reduceLT, Int.reduceLE, Int.reduceAdd, Int.reduceSub, Int.reduceMul, reduceIte, resVs, resV, packV, initT, addr, F27, actRow, cellsOf6, hq] | refine OrW.go ?_
    refine RelC.call hc ?_
    rintro w M1 ⟨rfl, v1, h1, hst⟩
    repeat first | simp (implicitDefEqProofs := false) (maxSteps := 1000000) (disch := first | omega | with_reducible assumption | (simp only [lenT, Nat.reduceAdd]; omega)) only [amT, cut, bnd, Nat.reduceBEq, reduceCtorEq, Nat.reduceEqDiff, Nat.reduceAdd, Nat.reduceMul, Nat.reduceSub, Int.reduceToNat, Int.reduceEq, Int.reduceLT, Int.reduceLE, Int.reduceAdd, Int.reduceSub, Int.reduceMul, reduceIte, resVs, resV, packV, initT, addr] | refine OrW.go ?_
    exact ⟨_, rfl, fun _ => fin _ _ _ _ _ (by simp [hasR, hq]) (h1.old (Old.here _ [])) (stp hst)⟩
  by_cases q3 : q = 3
  · subst q3
    have hc := rcut_ok _ p v r x.name x.n hx.name hI hO
    repeat first | simp (implicitDefEqProofs := false) (maxSteps := 1000000) (disch := first | omega | with_reducible assumption | (simp only [lenT, Nat.reduceAdd]; omega)) only [amT, cut, bnd, Nat.reduceBEq, reduceCtorEq, Nat.reduceEqDiff, Nat.reduceAdd, Nat.reduceMul, Nat.reduceSub, Int.reduceToNat, Int.reduceEq, Int.reduceLT, Int.reduceLE, Int.reduceAdd, Int.reduceSub, Int.reduceMul, reduceIte, resVs, resV, packV, initT, addr, F27, actRow, cellsOf6, hq] | refine OrW.go ?_
    refine RelC.call hc ?_
    rintro w M1 ⟨rfl, v1, h1, hst⟩
    repeat first | simp (implicitDefEqProofs := false) (maxSteps := 1000000) (disch := first | omega | with_reducible assumption | (simp only [lenT, Nat.reduceAdd]; omega)) only [amT, cut, bnd, Nat.reduceBEq, reduceCtorEq, Nat.reduceEqDiff, Nat.reduceAdd, Nat.reduceMul, Nat.reduceSub, Int.reduceToNat, Int.reduceEq, Int.reduceLT, Int.reduceLE, Int.reduceAdd, Int.reduceSub, Int.reduceMul, reduceIte, resVs, resV, packV, initT, addr] | refine OrW.go ?_
    exact ⟨_, rfl, fun _ => fin _ _ _ _ _ (by simp [hasR, hq]) (h1.old (Old.here _ [])) (stp hst)⟩
  by_cases q4 : q = 4
  · subst q4
    have hc := rrename_ok _ p v r x.name x.to hx.name hx.to hI hO
    repeat first | simp (implicitDefEqProofs := false) (maxSteps := 1000000) (disch := first | omega | with_reducible assumption | (simp only [lenT, Nat.reduceAdd]; omega)) only [amT, cut, bnd, Nat.reduceBEq, reduceCtorEq, Nat.reduceEqDiff, Nat.reduceAdd, Nat.reduceMul, Nat.reduceSub, Int.reduceToNat, Int.reduceEq, Int.reduceLT, Int.reduceLE, Int.reduceAdd, Int.reduceSub, Int.reduceMul, reduceIte, resVs, resV, packV, initT, addr, F27, actRow, cellsOf6, hq] | refine OrW.go ?_
    refine RelC.call hc ?_
    rintro w M1 ⟨rfl, v1, h1, hst⟩
    repeat first | simp (implicitDefEqProofs := false) (maxSteps := 1000000) (disch := first | omega | with_reducible assumption | (simp only [lenT, Nat.reduceAdd]; omega)) only [amT, cut, bnd, Nat.reduceBEq, reduceCtorEq, Nat.reduceEqDiff, Nat.reduceAdd, Nat.reduceMul, Nat.reduceSub, Int.reduceToNat, Int.reduceEq, Int.reduceLT, Int.reduceLE, Int.reduceAdd, Int.reduceSub, Int.reduceMul, reduceIte, resVs, resV, packV, initT, addr] | refine OrW.go ?_
    exact ⟨_, rfl, fun _ => fin _ _ _ _ _ (by simp [hasR, hq]) (h1.old (Old.here _ [])) (stp hst)⟩
  by_cases q5 : q = 5
  · subst q5
    have hc := rremove_ok _ p v r x.name hx.name hI hO
    repeat first | simp (implicitDefEqProofs := false) (maxSteps := 1000000) (disch := first | omega | with_reducible assumption | (simp only [lenT, Nat.reduceAdd]; omega)) only [amT, cut, bnd, Nat.reduceBEq, reduceCtorEq, Nat.reduceEqDiff, Nat.reduceAdd, Nat.reduceMul, Nat.reduceSub, Int.reduceToNat, Int.reduceEq, Int.reduceLT, Int.reduceLE, Int.reduceAdd, Int.reduceSub, Int.reduceMul, reduceIte, resVs, resV, packV, initT, addr, F27, actRow, cellsOf6, hq] | refine OrW.go ?_
    refine RelC.call hc ?_
    rintro w M1 ⟨rfl, v1, h1, hst⟩
    repeat first | simp (implicitDefEqProofs := false) (maxSteps := 1000000) (disch := first | omega | with_reducible assumption | (simp only [lenT, Nat.reduceAdd]; omega)) only [amT, cut, bnd, Nat.reduceBEq, reduceCtorEq, Nat.reduceEqDiff, Nat.reduceAdd, Nat.reduceMul, Nat.reduceSub, Int.reduceToNat, Int.reduceEq, Int.reduceLT, Int.reduceLE, Int.reduceAdd, Int.reduceSub, Int.reduceMul, reduceIte, resVs, resV, packV, initT, addr] | refine OrW.go ?_
    exact ⟨_, rfl, fun _ => fin _ _ _ _ _ (by simp [hasR, hq]) (h1.old (Old.here _ [])) (stp hst)⟩
  by_cases q7 : q = 7
  · subst q7
    have k := DetC.known (rfail_ok _ p x.n hI.lt hI.get)
    repeat first | simp (implicitDefEqProofs := false) (maxSteps := 1000000) (disch := first | omega | with_reducible assumption | (simp only [lenT, Nat.reduceAdd]; omega)) only [amT, cut, bnd, Nat.reduceBEq, reduceCtorEq, Nat.reduceEqDiff, Nat.reduceAdd, Nat.reduceMul, Nat.reduceSub, Int.reduceToNat, Int.reduceEq, Int.reduceLT, Int.reduceLE, Int.reduceAdd, Int.reduceSub, Int.reduceMul, reduceIte, resVs, resV, packV, initT, addr, F27, actRow, cellsOf6, hq, k] | refine OrW.go ?_
    exact ⟨_, rfl, fun _ => fin _ _ _ _ _ (by simp [hasR, hq]) ((hR.put (d' := failR r x.n) rfl).old (Old.here _ _)) (((Keep.refl (fun x => x = p) M).set (fun _ => rfl) (.cells ((failR r x.n).cells v) 73 true .exact)).mx _)⟩
  by_cases q8 : q = 8
  · subst q8
    have k := DetC.known (rcrash_ok _ p hI.lt hI.get)
    repeat first | simp (implicitDefEqProofs := false) (maxSteps := 1000000) (disch := first | omega | with_reducible assumption | (simp only [lenT, Nat.reduceAdd]; omega)) only [amT, cut, bnd, Nat.reduceBEq, reduceCtorEq, Nat.reduceEqDiff, Nat.reduceAdd, Nat.reduceMul, Nat.reduceSub, Int.reduceToNat, Int.reduceEq, Int.reduceLT, Int.reduceLE, Int.reduceAdd, Int.reduceSub, Int.reduceMul, reduceIte, resVs, resV, packV, initT, addr, F27, actRow, cellsOf6, hq, k] | refine OrW.go ?_
    exact ⟨_, rfl, fun _ => fin _ _ _ _ _ (by simp [hasR, hq]) ((hR.put (d' := crashR r) rfl).old (Old.here _ _)) (((Keep.refl (fun x => x = p) M).set (fun _ => rfl) (.cells ((crashR r).cells v) 73 true .exact)).mx _)⟩
  by_cases q9 : q = 9
  · subst q9
    have hc := ron_ok _ p v r hI hO hL (.slice ka x.keep.length kc) x.keep (hA.1.old hO1) hx.keep hx.k64 (fun b o n c e => by cases e; exact hkp b o rfl)
    repeat first | simp (implicitDefEqProofs := false) (maxSteps := 1000000) (disch := first | omega | with_reducible assumption | (simp only [lenT, Nat.reduceAdd]; omega)) only [amT, cut, bnd, Nat.reduceBEq, reduceCtorEq, Nat.reduceEqDiff, Nat.reduceAdd, Nat.reduceMul, Nat.reduceSub, Int.reduceToNat, Int.reduceEq, Int.reduceLT, Int.reduceLE, Int.reduceAdd, Int.reduceSub, Int.reduceMul, reduceIte, resVs, resV, packV, initT, addr, F27, actRow, cellsOf6, hq] | refine OrW.go ?_
    refine RelC.call hc ?_
    rintro w M1 ⟨rfl, v1, h1, hst⟩
    repeat first | simp (implicitDefEqProofs := false) (maxSteps := 1000000) (disch := first | omega | with_reducible assumption | (simp only [lenT, Nat.reduceAdd]; omega)) only [amT, cut, bnd, Nat.reduceBEq, reduceCtorEq, Nat.reduceEqDiff, Nat.reduceAdd, Nat.reduceMul, Nat.reduceSub, Int.reduceToNat, Int.reduceEq, Int.reduceLT, Int.reduceLE, Int.reduceAdd, Int.reduceSub, Int.reduceMul, reduceIte, resVs, resV, packV, initT, addr] | refine OrW.go ?_
    exact ⟨_, rfl, fun _ => fin _ _ _ _ _ (by simp [hasR, hq]) (h1.old (Old.here _ [])) (stp hst)⟩
  by_cases q6 : q = 6
  · subst q6
    have hc := rread_ok _ p v r x.name hx.name hI hO
    repeat first | simp (implicitDefEqProofs := false) (maxSteps := 1000000) (disch := first | omega | with_reducible assumption | (simp only [lenT, Nat.reduceAdd]; omega)) only [amT, cut, bnd, Nat.reduceBEq, reduceCtorEq, Nat.reduceEqDiff, Nat.reduceAdd, Nat.reduceMul, Nat.reduceSub, Int.reduceToNat, Int.reduceEq, Int.reduceLT, Int.reduceLE, Int.reduceAdd, Int.reduceSub, Int.reduceMul, reduceIte, resVs, resV, packV, initT, addr, F27, actRow, cellsOf6, hq] | refine OrW.go ?_
    refine RelC.call hc ?_
    rintro w M1 ⟨a, cap, rfl, hO, hB⟩
    have hstr := (hB.old (Old.here M1 [])).str
    repeat first | simp (implicitDefEqProofs := false) (maxSteps := 1000000) (disch := first | omega | with_reducible assumption | (simp only [lenT, Nat.reduceAdd]; omega)) only [amT, cut, bnd, Nat.reduceBEq, reduceCtorEq, Nat.reduceEqDiff, Nat.reduceAdd, Nat.reduceMul, Nat.reduceSub, Int.reduceToNat, Int.reduceEq, Int.reduceLT, Int.reduceLE, Int.reduceAdd, Int.reduceSub, Int.reduceMul, reduceIte, resVs, resV, packV, initT, addr, stepOp_b2s_v, hstr] | refine OrW.go ?_
    exact ⟨_, rfl, fun _ => fin _ _ _ _ _ (by simp [hasR, hq]) ((hI.old hO).old (Old.here _ [])) (((hO1.trans hO).mx []).keep _)⟩
  have q01 : q = 0 ∨ q = 1 := by omega
  have hI2 := hR.old (Old.here M [.cells (actRow x ka kc) 44 true .exact, .cells (x.b.map byteV) 5 true (.room [.int .u8 0])])
  have hc := rappend_ok _ p v r x.name _ openCap x.b hx.name (bsl_room M _ 1 rfl rfl) (by omega) hI2 hO
  have stp2 : ∀ {m' : AMem}, RStep p (mx M [.cells (actRow x ka kc) 44 true .exact, .cells (x.b.map byteV) 5 true (.room [.int .u8 0])]) m' → RStep p M (mx m' []) := fun hs => (((Old.here M _).keep (fun x => x = p)).trans hs (fun _ _ h => h)).mx _
  simp only [actRow] at hc stp2
  rcases q01 with rfl | rfl
  · repeat first | simp (implicitDefEqProofs := false) (maxSteps := 1000000) (disch := first | omega | with_reducible assumption | (simp only [lenT, Nat.reduceAdd]; omega)) only [amT, cut, bnd, Nat.reduceBEq, reduceCtorEq, Nat.reduceEqDiff, Nat.reduceAdd, Nat.reduceMul, Nat.reduceSub, Int.reduceToNat, Int.reduceEq, Int.reduceLT, Int.reduceLE, Int.reduceAdd, Int.reduceSub, Int.reduceMul, reduceIte, resVs, resV, packV, initT, addr, F27, actRow, cellsOf6, hq] | refine OrW.go ?_
    refine RelC.call hc ?_
    rintro w M1 ⟨rfl, v1, h1, hst⟩
    repeat first | simp (implicitDefEqProofs := false) (maxSteps := 1000000) (disch := first | omega | with_reducible assumption | (simp only [lenT, Nat.reduceAdd]; omega)) only [amT, cut, bnd, Nat.reduceBEq, reduceCtorEq, Nat.reduceEqDiff, Nat.reduceAdd, Nat.reduceMul, Nat.reduceSub, Int.reduceToNat, Int.reduceEq, Int.reduceLT, Int.reduceLE, Int.reduceAdd, Int.reduceSub, Int.reduceMul, reduceIte, resVs, resV, packV, initT, addr] | refine OrW.go ?_
    exact ⟨_, rfl, fun _ => fin _ _ _ _ _ (by simp [hasR, hq]) (h1.old (Old.here _ [])) (stp2 hst)⟩
  · repeat first | simp (implicitDefEqProofs := false) (maxSteps := 1000000) (disch := first | omega | with_reducible assumption | (simp only [lenT, Nat.reduceAdd]; omega)) only [amT, cut, bnd, Nat.reduceBEq, reduceCtorEq, Nat.reduceEqDiff, Nat.reduceAdd, Nat.reduceMul, Nat.reduceSub, Int.reduceToNat, Int.reduceEq, Int.reduceLT, Int.reduceLE, Int.reduceAdd, Int.reduceSub, Int.reduceMul, reduceIte, resVs, resV, packV, initT, addr, F27, actRow, cellsOf6, hq] | refine OrW.go ?_
    refine RelC.call hc ?_
    rintro w M1 ⟨rfl, v1, h1, hst⟩
    repeat first | simp (implicitDefEqProofs := false) (maxSteps := 1000000) (disch := first | omega | with_reducible assumption | (simp only [lenT, Nat.reduceAdd]; omega)) only [amT, cut, bnd, Nat.reduceBEq, reduceCtorEq, Nat.reduceEqDiff, Nat.reduceAdd, Nat.reduceMul, Nat.reduceSub, Int.reduceToNat, Int.reduceEq, Int.reduceLT, Int.reduceLE, Int.reduceAdd, Int.reduceSub, Int.reduceMul, reduceIte, resVs, resV, packV, initT, addr] | refine OrW.go ?_
    exact ⟨_, rfl, fun _ => fin _ _ _ _ _ (by simp [hasR, hq]) (h1.old (Old.here _ [])) (stp2 hst)⟩
end Go.Proofs.Ytbmjhiifinjieaa
namespace Go.Proofs.Ytbmjhiifinjieaa
open Go Go.AM
set_option linter.unusedVariables false
set_option linter.unusedSimpArgs false
set_option linter.unusedSectionVars false
set_option maxHeartbeats 2000000
set_option maxRecDepth 100000

variable [Ex]
/-- All files have names that may be. -/
def GoodN (fs : List FileR) : Prop := ∀ f ∈ fs, badN f.name = false
theorem GoodN.oth {fs : List FileR} (h : GoodN fs) (s : List UInt8) : GoodN (othersR fs s) := fun f hf => h f (List.mem_filter.1 hf).1
theorem GoodN.one {fs : List FileR} (h : GoodN fs) {f : FileR} (hf : badN f.name = false) : GoodN (fs ++ [f]) := fun g hg => by
  rcases List.mem_append.1 hg with h1 | h1
  · exact h g h1
  · rw [List.mem_singleton] at h1; subst h1; exact hf
theorem rbars_zero {r : DiskR} {s t : List UInt8} {b : Bool} (h : rbarsE r s t b = 0) : badN s = false ∧ badN t = false := by
  unfold rbarsE at h
  split at h
  · simp at h
  · split at h
    · simp at h
    · rename_i h2; simpa using h2
theorem GoodN.dry {r : DiskR} (h : GoodN r.files) (a : List UInt8) {b : List UInt8} (n : Nat) (hb : badN b = false) : GoodN (rdriesR r a b n).2.files := by
  unfold rdriesR
  split
  · rw [step_files]; exact h
  · exact ((h.oth a).oth b).one hb
theorem GoodN.rdo {r : DiskR} (h : GoodN r.files) (a b : List UInt8) (n : Nat) : GoodN (rdoR r a b n).2.files := by
  unfold rdoR
  split
  · rename_i h0; exact h.dry a n (rbars_zero h0).2
  · exact h
theorem GoodN.sort {fs : List FileR} (h : GoodN fs) : ∀ f ∈ sortR fs, badN f.name = false := by
  have key : ∀ (l o : List FileR), GoodN l → GoodN o → GoodN (l.foldl (fun o f => insR o (place o f.name) f) o) := by
    intro l
    induction l with
    | nil => intro o _ ho; exact ho
    | cons f l ih =>
      intro o hl ho
      refine ih _ (fun g hg => hl g (by simp [hg])) fun g hg => ?_
      rcases List.mem_append.1 hg with h1 | h1
      · exact ho g (List.mem_of_mem_take h1)
      · rcases List.mem_cons.1 h1 with rfl | h1
        · exact hl g (by simp)
        · exact ho g (List.mem_of_mem_drop h1)
  exact key fs [] h fun _ h => by cases h
theorem GoodN.on {fs : List FileR} (h : GoodN fs) (keep : List Int) (n : Nat) : GoodN (onFiles keep fs n) := fun g hg => by
  simp only [onFiles, List.mem_filterMap] at hg
  obtain ⟨i, _, hi⟩ := hg
  cases hf : fs[i]? with
  | none => rw [hf] at hi; cases hi
  | some f =>
    rw [hf] at hi
    have hm : f ∈ fs := List.mem_of_getElem? hf
    simp only [Option.bind_some, onFile] at hi
    split at hi
    · cases hi; exact h f hm
    · cases hi
theorem GoodN.has {r : DiskR} (h : GoodN r.files) (x : ActR) : GoodN (hasR r x).2.files := by
  unfold hasR
  split
  · show GoodN (rappendR r x.name x.b).2.files
    unfold rappendR
    split
    · rename_i h0
      split; · exact h
      split; · exact h
      rw [step_files]
      exact (h.oth _).one (rbars_zero h0).1
    · exact h
  split; · exact h.rdo _ _ _
  split
  · show GoodN (rcutR r x.name x.n).2.files
    unfold rcutR
    split
    · rename_i h0
      split; · exact h
      exact h.dry _ _ (rbars_zero h0).1
    · exact h
  split; · exact h.rdo _ _ _
  split
  · show GoodN (rremoveR r x.name).2.files
    unfold rremoveR
    split
    · split
      · rw [step_files]; exact h
      · exact h.oth _
    · exact h
  split; · exact h
  split; · exact h
  split; · exact h
  · show GoodN (rOnR r x.keep).files
    unfold rOnR
    split
    · exact GoodN.on h.sort _ _
    · exact h
theorem ROk.of {d r : DiskR} (h : Same d r) (hd : DOk d) : ROk r :=
  ⟨by rw [← h.perm.length_eq]; exact hd.few, by rw [← used_perm h.perm]; exact hd.used, by rw [← h.quota]; exact hd.q0, by rw [← h.quota]; exact hd.q1, by rw [← h.steps]; exact hd.s0, by rw [← h.steps]; exact hd.s1, by rw [← h.set]; exact hd.t0, by rw [← h.set]; exact hd.t1⟩
theorem read_file {d r : DiskR} (h : Same d r) (hN : GoodN r.files) (hoff : r.off = false) {i : Nat} (hi : i < d.files.length) : readR d d.files[i].name = (0, d.files[i].all) := by
  have hg : badN d.files[i].name = false := hN _ (h.perm.subset (List.getElem_mem hi))
  have hget := getF_at h.sorted hi
  have ht : isAt d.files d.files[i].name = true := by rw [(isAt_get h.sorted _).1, hget]; rfl
  unfold readR
  rw [if_pos (by simp [barsE, h.off, hoff, hg]), if_pos ht, h.all ht]
  rw [h.file] at hget
  simp [kAll, lookOr, hget, FileR.all]
theorem alike_ok (M : AMem) (p p2 : Nat) (v v2 : Value) (d r : DiskR) (hD : DAt M p v d) (hR : RAt M p2 v2 r) (hS : Same d r) (hO : DOk d) (hN : GoodN r.files) :
    RelC Try.prog 0 28 [.pointer (some ⟨p, 0, none⟩), .pointer (some ⟨p2, 0, none⟩)] M fun w m' => w = .bool true ∧ Old M m' := by
  refine rel_of_W (fn := Try.f28) rfl rfl F28_ok (by simp [F28]) ?_
  have hRO := ROk.of hS hO
  have hso := hS.sort
  have hp := hD.lt
  have hp2 := hR.lt
  have hfew := hO.few
  have hused := hO.used
  have hup := used_perm hS.perm
  obtain ⟨a, cap, rfl⟩ := hD.files.len
  have hD1 := hD.old (Old.here M [])
  have hn := names_ok (mx M []) p a cap d.files hD1.lt hD1.get hD1.files (by omega)
  repeat first | simp (implicitDefEqProofs := false) (maxSteps := 1000000) (disch := first | omega | with_reducible assumption | (simp only [lenT, Nat.reduceAdd]; omega)) only [amT, cut, bnd, Nat.reduceBEq, reduceCtorEq, Nat.reduceEqDiff, Nat.reduceAdd, Nat.reduceMul, Nat.reduceSub, Int.reduceToNat, Int.reduceEq, Int.reduceLT, Int.reduceLE, Int.reduceAdd, Int.reduceSub, Int.reduceMul, reduceIte, resVs, resV, packV, initT, addr, F28] | refine OrW.go ?_
  refine RelC.call hn ?_
  rintro l M1 ⟨hO1, hL⟩
  obtain ⟨al, cl, rfl⟩ := hL.len
  have hR1 := (hR.old (Old.here M [])).old hO1
  have hf := files_ok (mx M1 []) p2 v2 r (hR1.old (Old.here _ _)) hRO
  repeat first | simp (implicitDefEqProofs := false) (maxSteps := 1000000) (disch := first | omega | with_reducible assumption | (simp only [lenT, Nat.reduceAdd]; omega)) only [amT, cut, bnd, Nat.reduceBEq, reduceCtorEq, Nat.reduceEqDiff, Nat.reduceAdd, Nat.reduceMul, Nat.reduceSub, Int.reduceToNat, Int.reduceEq, Int.reduceLT, Int.reduceLE, Int.reduceAdd, Int.reduceSub, Int.reduceMul, reduceIte, resVs, resV, packV, initT, addr] | refine OrW.go ?_
  refine RelC.call hf ?_
  rintro fl M2 ⟨hO2, hF⟩
  rw [hso] at hF
  obtain ⟨af, cf, rfl⟩ := hF.len
  have hOM : Old M M2 := ((Old.here M []).trans hO1).trans ((Old.here M1 []).trans hO2)
  have hDM := (hD.old hOM).old (Old.here M2 [])
  have hRM := (hR.old hOM).old (Old.here M2 [])
  have ku := DetC.known (used_ok (mx M2 []) p a cap d.files hDM.lt hDM.get hDM.files (by omega) (by omega))
  have kru := DetC.known (rused_ok (mx M2 []) p2 v2 r hRM hRO)
  have ks := DetC.known (steps_ok (mx M2 []) p hDM.lt hDM.get)
  have ko := DetC.known (off_ok (mx M2 []) p hDM.lt hDM.get)
  have hrd : M2.get p2 = .cells (r.cells v2) 73 true .exact := (hR.old hOM).get
  have hp2M : p2 < M2.size := (hR.old hOM).lt
  rw [← hup] at kru
  simp only [DiskR.cells, ← hS.steps, ← hS.off] at hrd
  rw [List.length_map] at hL
  have hO2'' : Old M1 M2 := (Old.here M1 []).trans hO2
  repeat first | simp (implicitDefEqProofs := false) (maxSteps := 1000000) (disch := first | omega | with_reducible assumption | (simp only [lenT, Nat.reduceAdd]; omega)) only [amT, cut, bnd, Nat.reduceBEq, reduceCtorEq, Nat.reduceEqDiff, Nat.reduceAdd, Nat.reduceMul, Nat.reduceSub, Int.reduceToNat, Int.reduceEq, Int.reduceLT, Int.reduceLE, Int.reduceAdd, Int.reduceSub, Int.reduceMul, reduceIte, resVs, resV, packV, initT, addr, hrd, ku, kru, ks, ko] | refine OrW.go ?_
  refine W_loop (fun N qs => ∃ (i : Nat) (M3 : AMem), N = d.files.length - i ∧ qs.ds = [] ∧ qs.m = mx M3 [] ∧ qs.t 0 = .pointer (some ⟨p, 0, none⟩) ∧ qs.t 1 = .pointer (some ⟨p2, 0, none⟩) ∧ qs.t 5 = .slice al d.files.length cl ∧ qs.t 6 = .slice af d.files.length cf ∧ qs.t 7 = .int .i64 i ∧ i ≤ d.files.length ∧ Old M2 M3) (d.files.length - (0)) ⟨0, M2, rfl, rfl, ?qm, ?q0, ?q1, ?q5, ?q6, ?q7, ?_⟩ ?_
  case qm | q0 | q1 | q5 | q6 | q7 => first | rfl | (simp (implicitDefEqProofs := false) (maxSteps := 1000000) (disch := first | omega | with_reducible assumption | (simp only [lenT, Nat.reduceAdd]; omega)) only [amT, cut, bnd, Nat.reduceBEq, reduceCtorEq, Nat.reduceEqDiff, Nat.reduceAdd, Nat.reduceMul, Nat.reduceSub, Int.reduceToNat, Int.reduceEq, Int.reduceLT, Int.reduceLE, Int.reduceAdd, Int.reduceSub, Int.reduceMul, reduceIte, resVs, resV, packV, initT, addr]; first | done | rfl | (congr 1; omega))
  · exact ⟨by omega, .refl _⟩
  · rintro N t m1 ds ⟨i, M3, rfl, hds, hm, t0, t1, t5, t6, t7, hp⟩
    simp only at hds hm t0 t1 t5 t6 t7
    subst hds; replace hm := hm.symm; subst hm
    obtain ⟨hi, hO3⟩ := hp
    have hOM3 := hOM.trans hO3
    by_cases h1 : (i : Int) < (d.files.length : Int)
    · have hi : i < d.files.length := by omega
      obtain ⟨bl, rfl, hbl, hrl⟩ := (((hL.old hO2'').old hO3)).get (i := i) (by rw [List.length_map]; exact hi)
      obtain ⟨bf, X, bb, rfl, hbf, hX, e1, e2, hbb, hgb⟩ := (hF.old hO3).get hi
      rw [List.getElem_map, rd_def] at hrl
      have hrdc := read_ok (mx M3 []) p _ d d.files[i].name (by have := hN _ (hS.perm.subset (List.getElem_mem hi)); simp [badN] at this; omega) ((hD.old hOM3).old (Old.here _ _)) hO
      repeat first | simp (implicitDefEqProofs := false) (maxSteps := 1000000) (disch := first | omega | with_reducible assumption | (simp only [lenT, Nat.reduceAdd]; omega)) only [amT, cut, bnd, Nat.reduceBEq, reduceCtorEq, Nat.reduceEqDiff, Nat.reduceAdd, Nat.reduceMul, Nat.reduceSub, Int.reduceToNat, Int.reduceEq, Int.reduceLT, Int.reduceLE, Int.reduceAdd, Int.reduceSub, Int.reduceMul, reduceIte, resVs, resV, packV, initT, addr, F28_l0, t0, t1, t5, t6, t7, h1, hrl] | refine OrW.go ?_
      refine RelC.call hrdc ?_
      rintro w M4 ⟨b, rfl, hO4, hB⟩
      obtain ⟨ab, cb, rfl, hbs⟩ := hB.bsl'
      have hO5 : Old M3 M4 := (Old.here M3 []).trans hO4
      have f1 : rdO (M4.get bl) i 1 = some [.string ⟨d.files[i].name.toArray⟩] := by rw [hO5.2 bl hbl]; exact hrl
      have f2 : M4.get bf = .cells X 77 true (.room zO) := by rw [hO5.2 bf hbf]; exact hX
      have f3 : M4.get p2 = .cells (r.cells v2) 73 true .exact := ((hR.old hOM3).old hO5).get
      have hp4 : p2 < M4.size := ((hR.old hOM3).old hO5).lt
      have hbl4 : bl < M4.size := Nat.lt_of_lt_of_le hbl hO5.1
      have hbf4 : bf < M4.size := Nat.lt_of_lt_of_le hbf hO5.1
      have hstr := (hbs.old (Old.here M4 [])).str
      have hbs2 : BSl (mx M4 []) (some ⟨bb, 0, none⟩) openCap d.files[i].all := BSl.old (.inr ⟨bb, 0, _, _, _, _, rfl, hbb, hgb, cutL_all (by simp), .inl ⟨rfl, rfl⟩⟩) (hO5.trans (Old.here M4 []))
      have hstr2 := hbs2.str
      cases hoff : r.off with
      | true =>
        simp only [DiskR.cells, hoff] at f3
        repeat first | simp (implicitDefEqProofs := false) (maxSteps := 1000000) (disch := first | omega | with_reducible assumption | (simp only [lenT, Nat.reduceAdd]; omega)) only [amT, cut, bnd, Nat.reduceBEq, reduceCtorEq, Nat.reduceEqDiff, Nat.reduceAdd, Nat.reduceMul, Nat.reduceSub, Int.reduceToNat, Int.reduceEq, Int.reduceLT, Int.reduceLE, Int.reduceAdd, Int.reduceSub, Int.reduceMul, reduceIte, resVs, resV, packV, initT, addr, t0, t1, t5, t6, t7, f1, f2, e1, f3, undef] | refine OrW.go ?_
        rw [LoopK_normal]; refine ⟨_, ?_, i + 1, M4, rfl, rfl, ?qm, ?q0, ?q1, ?q5, ?q6, ?q7, ?_⟩
        case qm | q0 | q1 | q5 | q6 | q7 => first | rfl | (simp (implicitDefEqProofs := false) (maxSteps := 1000000) (disch := first | omega | with_reducible assumption | (simp only [lenT, Nat.reduceAdd]; omega)) only [amT, cut, bnd, Nat.reduceBEq, reduceCtorEq, Nat.reduceEqDiff, Nat.reduceAdd, Nat.reduceMul, Nat.reduceSub, Int.reduceToNat, Int.reduceEq, Int.reduceLT, Int.reduceLE, Int.reduceAdd, Int.reduceSub, Int.reduceMul, reduceIte, resVs, resV, packV, initT, addr, t0, t1, t5, t6, t7]; first | done | rfl | (congr 1; omega))
        · omega
        · exact ⟨by omega, hO3.trans hO5⟩
      | false =>
        have hrf := read_file hS hN hoff hi
        rw [hrf] at hstr
        simp only [DiskR.cells, hoff] at f3
        repeat first | simp (implicitDefEqProofs := false) (maxSteps := 1000000) (disch := first | omega | with_reducible assumption | (simp only [lenT, Nat.reduceAdd]; omega)) only [amT, cut, bnd, Nat.reduceBEq, reduceCtorEq, Nat.reduceEqDiff, Nat.reduceAdd, Nat.reduceMul, Nat.reduceSub, Int.reduceToNat, Int.reduceEq, Int.reduceLT, Int.reduceLE, Int.reduceAdd, Int.reduceSub, Int.reduceMul, reduceIte, resVs, resV, packV, initT, addr, t0, t1, t5, t6, t7, f1, f2, e1, e2, f3, hrf, stepOp_b2s_v, hstr, hstr2, undef] | refine OrW.go ?_
        rw [LoopK_normal]; refine ⟨_, ?_, i + 1, M4, rfl, rfl, ?qm, ?q0, ?q1, ?q5, ?q6, ?q7, ?_⟩
        case qm | q0 | q1 | q5 | q6 | q7 => first | rfl | (simp (implicitDefEqProofs := false) (maxSteps := 1000000) (disch := first | omega | with_reducible assumption | (simp only [lenT, Nat.reduceAdd]; omega)) only [amT, cut, bnd, Nat.reduceBEq, reduceCtorEq, Nat.reduceEqDiff, Nat.reduceAdd, Nat.reduceMul, Nat.reduceSub, Int.reduceToNat, Int.reduceEq, Int.reduceLT, Int.reduceLE, Int.reduceAdd, Int.reduceSub, Int.reduceMul, reduceIte, resVs, resV, packV, initT, addr, t0, t1, t5, t6, t7]; first | done | rfl | (congr 1; omega))
        · omega
        · exact ⟨by omega, hO3.trans hO5⟩
    · obtain rfl : i = d.files.length := by omega
      repeat first | simp (implicitDefEqProofs := false) (maxSteps := 1000000) (disch := first | omega | with_reducible assumption | (simp only [lenT, Nat.reduceAdd]; omega)) only [amT, cut, bnd, Nat.reduceBEq, reduceCtorEq, Nat.reduceEqDiff, Nat.reduceAdd, Nat.reduceMul, Nat.reduceSub, Int.reduceToNat, Int.reduceEq, Int.reduceLT, Int.reduceLE, Int.reduceAdd, Int.reduceSub, Int.reduceMul, reduceIte, resVs, resV, packV, initT, addr, F28_l0, t0, t1, t5, t6, t7, h1] | refine OrW.go ?_
      exact ⟨_, rfl, fun _ => ⟨rfl, hOM3.mx _⟩⟩
end Go.Proofs.Ytbmjhiifinjieaa
