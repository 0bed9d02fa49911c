/- Sync, Rename, Cut, Remove, Append. -/
import Derived.Test.YtbmjhiifinjieaaB1
import Derived.Test.YtbmjhiifinjieaaA4
set_option linter.unusedVariables false
set_option linter.unusedSimpArgs false
set_option linter.unnecessarySimpa false
namespace Go.AM
theorem ByV.head [Ex] {e : TypeId} {M : AMem} {v : Value} {c : List UInt8} (h : ByV e M v c) {n : Nat} (hn : n ≤ c.length) (hl : c.length < openCap) :
    ∃ v', slVv 1 v none (some (.int .i64 (n : Int))) none M = some (v', M) ∧ ByV e M v' (c.take n) := by
  have hc : ∀ len cap : Nat, n ≤ cap → cutV len cap none (some (.int .i64 (n : Int))) none = some (0, n, cap) := fun len cap h1 => by
    simp only [cutV]; rw [if_pos (by omega)]; simp
  rcases h with ⟨rfl, rfl⟩ | ⟨b, o, cap, X, w, sp, rfl, h1, h2, h3, h4, hx⟩
  · obtain rfl : n = 0 := by simpa using hn
    refine ⟨.slice none 0 0, ?_, .inl ⟨rfl, rfl⟩⟩
    simp only [slVv, if_neg (Nat.ne_of_lt zeroCap_lt), hc 0 0 (Nat.le_refl _)]
  · have hle := cutL_le h3
    have ht : (c.take n).length = n := by rw [List.length_take]; omega
    have hcut : cutL X o (c.take n).length = some ((c.take n).map byteV) := by rw [ht, List.map_take]; exact cutL_take h3 hn
    rcases h4 with ⟨rfl, hs⟩ | ⟨hlt, hle2⟩
    · refine ⟨.slice (some ⟨b, o, none⟩) n openCap, ?_, .inr ⟨b, o, openCap, X, w, sp, by rw [ht], h1, h2, hcut, .inl ⟨rfl, hs⟩, hx⟩⟩
      simp only [slVv, if_true, h2]
      rw [if_pos ⟨hs, by simp; omega⟩, hc _ _ (by simp; omega)]
      simp
    · refine ⟨.slice (some ⟨b, o, none⟩) n cap, ?_, .inr ⟨b, o, cap, X, w, sp, by rw [ht], h1, h2, hcut, .inr ⟨hlt, by omega⟩, hx⟩⟩
      simp only [slVv, if_neg (Nat.ne_of_lt hlt), hc _ _ (show n ≤ cap by omega)]
      simp
theorem ByV.unmx [Ex] {M : AMem} {v : Value} {e : TypeId} {c : List UInt8} (h : ByV e (mx M []) v c) : ByV e M v c := by
  rcases h with h | ⟨b, o, cap, X, w, sp, h0, h1, h2, h3⟩
  · exact .inl h
  · rw [mx_nil_size] at h1
    exact .inr ⟨b, o, cap, X, w, sp, h0, h1, by rw [mx_old h1] at h2; exact h2, h3⟩
end Go.AM
namespace Go.Proofs.Ytbmjhiifinjieaa
open Go Go.AM
set_option linter.unusedVariables false
set_option linter.unusedSimpArgs false
set_option linter.unusedSectionVars false
set_option maxHeartbeats 1000000
set_option maxRecDepth 100000
variable [Ex]

theorem whole_left (m : AMem) : LeftOk m 39 [] some := by
  intro M hM v c hcl hv
  obtain ⟨a, cap, rfl⟩ := hv.len
  refine ⟨_, hv, ?_⟩
  refine det_exact (fn := Try.f39) rfl rfl F39_ok (by simp [F39]) ?_
  simp (implicitDefEqProofs := false) (maxSteps := 1000000) (disch := first | omega | with_reducible assumption | (simp only [lenT, Nat.reduceAdd]; omega)) only [amT, cut, bnd, Nat.reduceBEq, reduceCtorEq, Nat.reduceEqDiff, Nat.reduceAdd, Nat.reduceMul, Nat.reduceSub, Int.reduceToNat, Int.reduceEq, Int.reduceLT, Int.reduceLE, Int.reduceAdd, Int.reduceSub, Int.reduceMul, reduceIte, resVs, resV, packV, initT, addr, F39, List.cons_append, List.nil_append]

def cutN (n : Int) (c : List UInt8) : Option (List UInt8) := if n < 0 ∨ (c.length : Int) < n then none else some (c.take n.toNat)
theorem cut_left (m : AMem) (nb : Nat) (n : Int) {e : TypeId} {w : Bool} {sp : Spare} (hnb : nb < m.size) (h : m.get nb = .cells [.int .i64 n] e w sp) : LeftOk m 53 [.pointer (some ⟨nb, 0, none⟩)] (cutN n) := by
  intro M hM v c hcl hv
  have hM1 := hM.1
  have hg : M.get nb = .cells [.int .i64 n] e w sp := by rw [hM.2 nb hnb]; exact h
  unfold cutN
  by_cases h1 : n < 0
  · rw [if_pos (.inl h1)]
    refine det_exact (fn := Try.f53) rfl rfl F53_ok (by simp [F53]) ?_
    simp (implicitDefEqProofs := false) (maxSteps := 1000000) (disch := first | omega | with_reducible assumption | (simp only [lenT, Nat.reduceAdd]; omega)) only [amT, cut, bnd, Nat.reduceBEq, reduceCtorEq, Nat.reduceEqDiff, Nat.reduceAdd, Nat.reduceMul, Nat.reduceSub, Int.reduceToNat, Int.reduceEq, Int.reduceLT, Int.reduceLE, Int.reduceAdd, Int.reduceSub, Int.reduceMul, reduceIte, resVs, resV, packV, initT, addr, F53, List.cons_append, List.nil_append, hg, h1]
  · obtain ⟨a, cap, rfl⟩ := hv.len
    by_cases h2 : (c.length : Int) < n
    · rw [if_pos (.inr h2)]
      refine det_exact (fn := Try.f53) rfl rfl F53_ok (by simp [F53]) ?_
      simp (implicitDefEqProofs := false) (maxSteps := 1000000) (disch := first | omega | with_reducible assumption | (simp only [lenT, Nat.reduceAdd]; omega)) only [amT, cut, bnd, Nat.reduceBEq, reduceCtorEq, Nat.reduceEqDiff, Nat.reduceAdd, Nat.reduceMul, Nat.reduceSub, Int.reduceToNat, Int.reduceEq, Int.reduceLT, Int.reduceLE, Int.reduceAdd, Int.reduceSub, Int.reduceMul, reduceIte, resVs, resV, packV, initT, addr, F53, List.cons_append, List.nil_append, hg, h1, h2]
    · rw [if_neg (by omega)]
      have hl : c.length < openCap := openCap_lt (by omega)
      obtain ⟨v', h3, h4⟩ := (hv.old (Old.here M [])).head (n := n.toNat) (by omega) hl
      rw [show ((n.toNat : Nat) : Int) = n by omega] at h3
      refine ⟨v', h4.unmx, ?_⟩
      refine det_exact (fn := Try.f53) rfl rfl F53_ok (by simp [F53]) ?_
      simp (implicitDefEqProofs := false) (maxSteps := 1000000) (disch := first | omega | with_reducible assumption | (simp only [lenT, Nat.reduceAdd]; omega)) only [amT, cut, bnd, Nat.reduceBEq, reduceCtorEq, Nat.reduceEqDiff, Nat.reduceAdd, Nat.reduceMul, Nat.reduceSub, Int.reduceToNat, Int.reduceEq, Int.reduceLT, Int.reduceLE, Int.reduceAdd, Int.reduceSub, Int.reduceMul, reduceIte, resVs, resV, packV, initT, addr, F53, List.cons_append, List.nil_append, hg, h1, h2, stepOp_slV_v, h3]

theorem sync_ok (m : AMem) (p : Nat) (v : Value) (d : DiskR) (s : List UInt8) (hs : s.length ≤ 9223372036854775807) (hD : DAt m p v d) (hO : DOk d) :
    RelC Try.prog 0 15 [.pointer (some ⟨p, 0, none⟩), .string ⟨s.toArray⟩] m fun r m' => r = .int .i64 (driesR d s s some).1 ∧ ∃ v', DAt m' p v' (driesR d s s some).2 ∧ DStep p v m v' m' := by
  refine rel_of_W (fn := Try.f15) rfl rfl F15_ok (by simp [F15]) ?_
  have h := (dries_ok m p v d s s 39 [] some hs hs hD hO (whole_left m)).at
  simp (implicitDefEqProofs := false) (maxSteps := 1000000) (disch := first | omega | with_reducible assumption | (simp only [lenT, Nat.reduceAdd]; omega)) only [amT, cut, bnd, Nat.reduceBEq, reduceCtorEq, Nat.reduceEqDiff, Nat.reduceAdd, Nat.reduceMul, Nat.reduceSub, Int.reduceToNat, Int.reduceEq, Int.reduceLT, Int.reduceLE, Int.reduceAdd, Int.reduceSub, Int.reduceMul, reduceIte, resVs, resV, packV, initT, addr, F15]
  refine RelC.call h ?_
  rintro r M ⟨rfl, v', h1, h2⟩
  simp (implicitDefEqProofs := false) (maxSteps := 1000000) (disch := first | omega | with_reducible assumption | (simp only [lenT, Nat.reduceAdd]; omega)) only [amT, cut, bnd, Nat.reduceBEq, reduceCtorEq, Nat.reduceEqDiff, Nat.reduceAdd, Nat.reduceMul, Nat.reduceSub, Int.reduceToNat, Int.reduceEq, Int.reduceLT, Int.reduceLE, Int.reduceAdd, Int.reduceSub, Int.reduceMul, reduceIte, resVs, resV, packV, initT, addr]
  exact ⟨_, rfl, fun _ => ⟨rfl, v', h1.old (Old.here _ _), h2.1.mx _, h2.2⟩⟩
theorem rename_ok (m : AMem) (p : Nat) (v : Value) (d : DiskR) (s t : List UInt8) (hs : s.length ≤ 9223372036854775807) (ht : t.length ≤ 9223372036854775807) (hD : DAt m p v d) (hO : DOk d) :
    RelC Try.prog 0 21 [.pointer (some ⟨p, 0, none⟩), .string ⟨s.toArray⟩, .string ⟨t.toArray⟩] m fun r m' => r = .int .i64 (driesR d s t some).1 ∧ ∃ v', DAt m' p v' (driesR d s t some).2 ∧ DStep p v m v' m' := by
  refine rel_of_W (fn := Try.f21) rfl rfl F21_ok (by simp [F21]) ?_
  have h := (dries_ok m p v d s t 39 [] some hs ht hD hO (whole_left m)).at
  simp (implicitDefEqProofs := false) (maxSteps := 1000000) (disch := first | omega | with_reducible assumption | (simp only [lenT, Nat.reduceAdd]; omega)) only [amT, cut, bnd, Nat.reduceBEq, reduceCtorEq, Nat.reduceEqDiff, Nat.reduceAdd, Nat.reduceMul, Nat.reduceSub, Int.reduceToNat, Int.reduceEq, Int.reduceLT, Int.reduceLE, Int.reduceAdd, Int.reduceSub, Int.reduceMul, reduceIte, resVs, resV, packV, initT, addr, F21]
  refine RelC.call h ?_
  rintro r M ⟨rfl, v', h1, h2⟩
  simp (implicitDefEqProofs := false) (maxSteps := 1000000) (disch := first | omega | with_reducible assumption | (simp only [lenT, Nat.reduceAdd]; omega)) only [amT, cut, bnd, Nat.reduceBEq, reduceCtorEq, Nat.reduceEqDiff, Nat.reduceAdd, Nat.reduceMul, Nat.reduceSub, Int.reduceToNat, Int.reduceEq, Int.reduceLT, Int.reduceLE, Int.reduceAdd, Int.reduceSub, Int.reduceMul, reduceIte, resVs, resV, packV, initT, addr]
  exact ⟨_, rfl, fun _ => ⟨rfl, v', h1.old (Old.here _ _), h2.1.mx _, h2.2⟩⟩
theorem cut_ok (m : AMem) (p : Nat) (v : Value) (d : DiskR) (s : List UInt8) (n : Int) (hs : s.length ≤ 9223372036854775807) (hD : DAt m p v d) (hO : DOk d) :
    RelC Try.prog 0 30 [.pointer (some ⟨p, 0, none⟩), .string ⟨s.toArray⟩, .int .i64 n] m fun r m' => r = .int .i64 (driesR d s s (cutN n)).1 ∧ ∃ v', DAt m' p v' (driesR d s s (cutN n)).2 ∧ DStep p v m v' m' := by
  refine rel_of_W (fn := Try.f30) rfl rfl F30_ok (by simp [F30]) ?_
  have hOx := Old.here m [.cells [.int .i64 n] 3 true .exact]
  have h := dries_ok (mx m [.cells [.int .i64 n] 3 true .exact]) p v d s s 53 [.pointer (some ⟨m.size, 0, none⟩)] (cutN n) hs hs (hD.old hOx) hO (cut_left _ m.size n (by rw [mx_size]; simp) (mx_new0 _ _))
  simp (implicitDefEqProofs := false) (maxSteps := 1000000) (disch := first | omega | with_reducible assumption | (simp only [lenT, Nat.reduceAdd]; omega)) only [amT, cut, bnd, Nat.reduceBEq, reduceCtorEq, Nat.reduceEqDiff, Nat.reduceAdd, Nat.reduceMul, Nat.reduceSub, Int.reduceToNat, Int.reduceEq, Int.reduceLT, Int.reduceLE, Int.reduceAdd, Int.reduceSub, Int.reduceMul, reduceIte, resVs, resV, packV, initT, addr, F30]
  refine RelC.call h ?_
  rintro r M ⟨rfl, v', h1, h2⟩
  simp (implicitDefEqProofs := false) (maxSteps := 1000000) (disch := first | omega | with_reducible assumption | (simp only [lenT, Nat.reduceAdd]; omega)) only [amT, cut, bnd, Nat.reduceBEq, reduceCtorEq, Nat.reduceEqDiff, Nat.reduceAdd, Nat.reduceMul, Nat.reduceSub, Int.reduceToNat, Int.reduceEq, Int.reduceLT, Int.reduceLE, Int.reduceAdd, Int.reduceSub, Int.reduceMul, reduceIte, resVs, resV, packV, initT, addr]
  have h3 := h2.old hOx
  exact ⟨_, rfl, fun _ => ⟨rfl, v', h1.old (Old.here _ _), h3.1.mx _, h3.2⟩⟩

def removeR (d : DiskR) (s : List UInt8) : Int × DiskR :=
  if barsE d.off [s] = 0 then
    if isAt d.files s then (if d.set = 0 then (40, d.step) else (0, { d.step with files := d.files.eraseIdx (place d.files s) })) else (5, d)
  else (barsE d.off [s], d)
theorem remove_ok (m : AMem) (p : Nat) (v : Value) (d : DiskR) (s : List UInt8) (hs : s.length ≤ 9223372036854775807) (hD : DAt m p v d) (hO : DOk d) :
    RelC Try.prog 0 31 [.pointer (some ⟨p, 0, none⟩), .string ⟨s.toArray⟩] m fun r m' => r = .int .i64 (removeR d s).1 ∧ ∃ v', DAt m' p v' (removeR d s).2 ∧ DStep p v m v' m' := by
  refine rel_of_W (fn := Try.f31) rfl rfl F31_ok (by simp [F31]) ?_
  have hp := hD.lt
  have hfew := hO.few
  obtain ⟨a, cap, rfl⟩ := hD.files.len
  have hOx := Old.here m [.cells [.string ⟨s.toArray⟩] 9 true .exact]
  have hDx := hD.old hOx
  have k32 : Known Try.prog 0 32 [.pointer (some ⟨p, 0, none⟩), .slice (some ⟨m.size, 0, none⟩) 1 1] (mx m [.cells [.string ⟨s.toArray⟩] 9 true .exact]) (.int .i64 (barsE d.off [s])) _ :=
    DetC.known (bars_ok _ p m.size 1 [s] (by simp) (by simpa using hs) (by rw [mx_size]; simp) (mx_new0 _ _) hDx.lt hDx.get)
  have k33 := DetC.known (find_ok _ p a cap d.files s hDx.lt hDx.get hDx.files hO.sorted (by have := hO.few; omega))
  have same : ∀ e, removeR d s = (e, d) → ∃ v', DAt (mx m [.cells [.string ⟨s.toArray⟩] 9 true .exact]) p v' (removeR d s).2 ∧ DStep p (.slice a d.files.length cap) m v' (mx m [.cells [.string ⟨s.toArray⟩] 9 true .exact]) := fun e h => by
    rw [h]; exact ⟨_, hDx, (Old.here m _).keep _, fun _ h => .inl h⟩
  by_cases hb : barsE d.off [s] = 0
  · rw [hb] at k32
    cases hat : isAt d.files s with
    | false =>
      rw [hat] at k33
      repeat first | simp (implicitDefEqProofs := false) (maxSteps := 1000000) (disch := first | omega | with_reducible assumption | (simp only [lenT, Nat.reduceAdd]; omega)) only [amT, cut, bnd, Nat.reduceBEq, reduceCtorEq, Nat.reduceEqDiff, Nat.reduceAdd, Nat.reduceMul, Nat.reduceSub, Int.reduceToNat, Int.reduceEq, Int.reduceLT, Int.reduceLE, Int.reduceAdd, Int.reduceSub, Int.reduceMul, reduceIte, resVs, resV, packV, initT, addr, F31, k32, k33] | refine OrW.go ?_
      have e : removeR d s = (5, d) := by simp [removeR, hb, hat]
      exact ⟨_, rfl, fun _ => ⟨by rw [e], same 5 e⟩⟩
    | true =>
      rw [hat] at k33
      obtain ⟨hlt, _⟩ := isAt_lt hat
      have k37 := DetC.known (step_d _ p _ d hDx hO)
      rw [mx_set_old hp, mx_mx, List.append_nil] at k37
      have hDS : DAt (mx (m.set p (.cells (d.step.cells (.slice a d.files.length cap)) 60 true .exact)) [.cells [.string ⟨s.toArray⟩] 9 true .exact]) p (.slice a d.files.length cap) d.step := (hD.put (step_files d)).old (Old.here _ _)
      have hst1 : DStep p (.slice a d.files.length cap) m (.slice a d.files.length cap) (mx (m.set p (.cells (d.step.cells (.slice a d.files.length cap)) 60 true .exact)) [.cells [.string ⟨s.toArray⟩] 9 true .exact]) := ⟨(DStep.setp p _ m _).1.mx _, fun _ h => .inl h⟩
      by_cases hset : d.set = 0
      · have e : removeR d s = (40, d.step) := by simp [removeR, hb, hat, hset]
        repeat first | simp (implicitDefEqProofs := false) (maxSteps := 1000000) (disch := first | omega | with_reducible assumption | (simp only [lenT, Nat.reduceAdd]; omega)) only [amT, cut, bnd, Nat.reduceBEq, reduceCtorEq, Nat.reduceEqDiff, Nat.reduceAdd, Nat.reduceMul, Nat.reduceSub, Int.reduceToNat, Int.reduceEq, Int.reduceLT, Int.reduceLE, Int.reduceAdd, Int.reduceSub, Int.reduceMul, reduceIte, resVs, resV, packV, initT, addr, F31, k32, k33, k37, hset] | refine OrW.go ?_
        exact ⟨_, rfl, fun _ => ⟨by rw [e], by rw [e]; exact ⟨_, hDS, hst1⟩⟩⟩
      · have e : removeR d s = (0, { d.step with files := d.files.eraseIdx (place d.files s) }) := by simp [removeR, hb, hat, hset]
        have hfs := hDS.files
        rw [step_files] at hfs
        have hdel := delete_ok _ _ d.files (place d.files s) hfs (by omega) hlt
        repeat first | simp (implicitDefEqProofs := false) (maxSteps := 1000000) (disch := first | omega | with_reducible assumption | (simp only [lenT, Nat.reduceAdd]; omega)) only [amT, cut, bnd, Nat.reduceBEq, reduceCtorEq, Nat.reduceEqDiff, Nat.reduceAdd, Nat.reduceMul, Nat.reduceSub, Int.reduceToNat, Int.reduceEq, Int.reduceLT, Int.reduceLE, Int.reduceAdd, Int.reduceSub, Int.reduceMul, reduceIte, resVs, resV, packV, initT, addr, F31, k32, k33, k37, hset, cells_0] | refine OrW.go ?_
        refine RelC.call hdel ?_
        rintro v1 M1 ⟨hF1, hst2⟩
        obtain ⟨av1, cv1, rfl⟩ := hF1.len
        have hM1p : M1.get p = .cells (d.step.cells (.slice a d.files.length cap)) 60 true .exact := by
          rw [hst2.1.2 p hDS.lt (not_own hfs hDS.get (by decide))]; exact hDS.get
        have hpM1 : p < M1.size := Nat.lt_of_lt_of_le hDS.lt hst2.1.1
        have hst3 := hst1.trans ((hst2.d p).trans (DStep.setp p _ M1 (.cells (d.step.cells (.slice av1 (d.files.eraseIdx (place d.files s)).length cv1)) 60 true .exact)))
        have hcl := cells_len d.step (.slice a d.files.length cap)
        repeat first | simp (implicitDefEqProofs := false) (maxSteps := 1000000) (disch := first | omega | with_reducible assumption | (simp only [lenT, Nat.reduceAdd]; omega)) only [amT, cut, bnd, Nat.reduceBEq, reduceCtorEq, Nat.reduceEqDiff, Nat.reduceAdd, Nat.reduceMul, Nat.reduceSub, Int.reduceToNat, Int.reduceEq, Int.reduceLT, Int.reduceLE, Int.reduceAdd, Int.reduceSub, Int.reduceMul, reduceIte, resVs, resV, packV, initT, addr, hM1p, cells_set0, cells_len] | refine OrW.go ?_
        exact ⟨_, rfl, fun _ => ⟨by rw [e], by rw [e]; exact ⟨_, (DAt.mk hpM1 (AMem.get_set_self _ _ _) (hF1.setp hM1p (by decide) (by decide) _) (Nat.lt_of_lt_of_le hD.ex hst3.1.1) : DAt (M1.set p (.cells (d.step.cells (.slice av1 (d.files.eraseIdx (place d.files s)).length cv1)) 60 true .exact)) p _ { d.step with files := d.files.eraseIdx (place d.files s) }).old (Old.here _ _), hst3.1.mx _, hst3.2⟩⟩⟩
  · repeat first | simp (implicitDefEqProofs := false) (maxSteps := 1000000) (disch := first | omega | with_reducible assumption | (simp only [lenT, Nat.reduceAdd]; omega)) only [amT, cut, bnd, Nat.reduceBEq, reduceCtorEq, Nat.reduceEqDiff, Nat.reduceAdd, Nat.reduceMul, Nat.reduceSub, Int.reduceToNat, Int.reduceEq, Int.reduceLT, Int.reduceLE, Int.reduceAdd, Int.reduceSub, Int.reduceMul, reduceIte, resVs, resV, packV, initT, addr, F31, k32, k33, hb] | refine OrW.go ?_
    have e : removeR d s = (barsE d.off [s], d) := by simp [removeR, hb]
    exact ⟨_, rfl, fun _ => ⟨by rw [e], same _ e⟩⟩
end Go.Proofs.Ytbmjhiifinjieaa
namespace Go.Proofs.Ytbmjhiifinjieaa
open Go Go.AM
set_option linter.unusedVariables false
set_option linter.unusedSimpArgs false
set_option linter.unusedSectionVars false
set_option maxHeartbeats 2000000
set_option maxRecDepth 100000
variable [Ex]

/-- The file of a name; a new one, if there is none. -/
def fileOr (fs : List FileR) (s : List UInt8) : FileR := if isAt fs s then fileAt fs s else ⟨s, [], [], false⟩
theorem fileOr_name (fs : List FileR) (s : List UInt8) : (fileOr fs s).name = s := by
  unfold fileOr
  split
  · rename_i h
    obtain ⟨hl, hn⟩ := isAt_lt h
    rw [fileAt_eq hl]; exact hn
  · rfl
def appendR (d : DiskR) (s b : List UInt8) : Int × DiskR :=
  if barsE d.off [s] = 0 then
    if (8388608 : Int) - (fileOr d.files s).size < b.length then (3, d)
    else if d.quota - usedR d.files < b.length then (41, d)
    else (if d.set = 0 then 40 else 0, DiskR.step { d with files := layR d.files { fileOr d.files s with wet := (fileOr d.files s).wet ++ b } })
  else (barsE d.off [s], d)

theorem bss2' {M : AMem} {b : Nat} {v1 : Value} {a2 : Option Addr} {k2 : Nat} {c1 c2 : List UInt8} {e : TypeId} (hb : b < M.size) (h : M.get b = .cells [v1, .slice a2 c2.length k2] e true .exact) (h1 : ByV 5 M v1 c1) (h2 : BSl M a2 k2 c2) : BSS M (some ⟨b, 0, none⟩) [c1, c2] := by
  obtain ⟨a1, k1, rfl, g1⟩ := h1.bsl
  refine .inr ⟨b, 0, _, _, _, _, rfl, hb, h, fun i hi => ?_⟩
  have : i = 0 ∨ i = 1 := by simp at hi; omega
  rcases this with rfl | rfl
  · exact ⟨a1, k1, rfl, g1⟩
  · exact ⟨a2, k2, rfl, h2⟩
def F14_r : ACode := F14.code.tl.tl.tl.tl
theorem F14_cut : F14.code = .seq F14.code.hd (.seq F14.code.tl.hd (.seq F14.code.tl.tl.hd (.seq F14.code.tl.tl.tl.hd F14_r))) := rfl
theorem append_rest (m : AMem) (p : Nat) (a : Option Addr) (cap : Nat) (d : DiskR) (s : List UInt8) (a3 : Option Addr) (cap3 : Nat) (c : List UInt8) (hc : BSl m a3 cap3 c) (hcl : c.length ≤ 9223372036854775807) (hD : DAt m p (.slice a d.files.length cap) d) (hO : DOk d)
    (hb : barsE d.off [s] = 0) (t : Tmps) (t0 : t 0 = .pointer (some ⟨p, 0, none⟩)) (t2 : t 2 = .slice a3 c.length cap3) (t8 : t 8 = .pointer (some ⟨m.size + 1, 0, none⟩)) (a1 : Option Addr) (c1 : Nat) (a2 : Option Addr) (c2 : Nat)
    (hf : FCell m (fRow (fileOr d.files s) a1 c1 a2 c2) (fileOr d.files s)) (h2 : ByV 5 m (.slice a2 (fileOr d.files s).wet.length c2) (fileOr d.files s).wet) (hsz : (fileOr d.files s).size ≤ 50000000) :
    W Try.prog 0 F14_r (RetK F14.res fun r m' => ∃ v, r = .ret v ∧ (m.size ≤ m'.size → v = .int .i64 (appendR d s c).1 ∧ ∃ v', DAt m' p v' (appendR d s c).2 ∧ DStep p (.slice a d.files.length cap) m v' m'))
      ⟨t, mx m [.cells [.string ⟨s.toArray⟩] 9 true .exact, .cells (fRow (fileOr d.files s) a1 c1 a2 c2) 63 true .exact], []⟩ := by
  have hp := hD.lt
  have hfew := hO.few
  have hused := hO.used
  have hq0 := hO.q0
  have hq1 := hO.q1
  have hd := hD.get
  simp only [DiskR.cells] at hd
  have same : ∀ (l : List AObj) e, appendR d s c = (e, d) → ∃ v', DAt (mx m l) p v' (appendR d s c).2 ∧ DStep p (.slice a d.files.length cap) m v' (mx m l) := fun l e h => by
    rw [h]; exact ⟨_, hD.old (Old.here _ _), (Old.here m _).keep _, fun _ h => .inl h⟩
  have hO2 : ∀ l, Old m (mx m l) := fun l => Old.here m l
  have k24 := fun l => DetC.known (used_ok (mx m l) p a cap d.files (hD.old (hO2 l)).lt (hD.old (hO2 l)).get (hD.old (hO2 l)).files (by omega) (by omega))
  have k34 := fun X => DetC.known (size34_ok X (fileOr d.files s) a1 c1 a2 c2 (by omega))
  simp only [fRow] at k34
  by_cases g1 : (8388608 : Int) - (fileOr d.files s).size < c.length
  · have e : appendR d s c = (3, d) := by simp [appendR, hb, g1]
    repeat first | simp (implicitDefEqProofs := false) (maxSteps := 1000000) (disch := first | omega | with_reducible assumption | (simp only [lenT, Nat.reduceAdd]; omega)) only [amT, cut, bnd, Nat.reduceBEq, reduceCtorEq, Nat.reduceEqDiff, Nat.reduceAdd, Nat.reduceMul, Nat.reduceSub, Int.reduceToNat, Int.reduceEq, Int.reduceLT, Int.reduceLE, Int.reduceAdd, Int.reduceSub, Int.reduceMul, reduceIte, resVs, resV, packV, initT, addr, F14_r, F14, tl_seq, t0, t2, t8, fRow, cutL4, k34, g1] | refine OrW.go ?_
    exact ⟨_, rfl, fun _ => ⟨by rw [e], same _ _ e⟩⟩
  · by_cases g2 : d.quota - usedR d.files < c.length
    · have e : appendR d s c = (41, d) := by simp [appendR, hb, g1, g2]
      repeat first | simp (implicitDefEqProofs := false) (maxSteps := 1000000) (disch := first | omega | with_reducible assumption | (simp only [lenT, Nat.reduceAdd]; omega)) only [amT, cut, bnd, Nat.reduceBEq, reduceCtorEq, Nat.reduceEqDiff, Nat.reduceAdd, Nat.reduceMul, Nat.reduceSub, Int.reduceToNat, Int.reduceEq, Int.reduceLT, Int.reduceLE, Int.reduceAdd, Int.reduceSub, Int.reduceMul, reduceIte, resVs, resV, packV, initT, addr, F14_r, F14, tl_seq, t0, t2, t8, fRow, cutL4, k34, g1, hd, k24, g2] | refine OrW.go ?_
      exact ⟨_, rfl, fun _ => ⟨by rw [e], same _ _ e⟩⟩
    · repeat first | simp (implicitDefEqProofs := false) (maxSteps := 1000000) (disch := first | omega | with_reducible assumption | (simp only [lenT, Nat.reduceAdd]; omega)) only [amT, cut, bnd, Nat.reduceBEq, reduceCtorEq, Nat.reduceEqDiff, Nat.reduceAdd, Nat.reduceMul, Nat.reduceSub, Int.reduceToNat, Int.reduceEq, Int.reduceLT, Int.reduceLE, Int.reduceAdd, Int.reduceSub, Int.reduceMul, reduceIte, resVs, resV, packV, initT, addr, F14_r, F14, tl_seq, t0, t2, t8, fRow, cutL4, k34, g1, hd, k24, g2] | refine OrW.go ?_
      have hbss := bss2' (e := 30) (M := mx m [.cells [.string ⟨s.toArray⟩] 9 true .exact, .cells (fRow (fileOr d.files s) a1 c1 a2 c2) 63 true .exact, .cells [.slice a2 (fileOr d.files s).wet.length c2, .slice a3 c.length cap3] 30 true .exact]) (b := m.size + 2) (by rw [mx_size]; simp) (mx_new _ _ 2) (h2.old (hO2 _)) (hc.old (hO2 _))
      have hwl : (fileOr d.files s).wet.length ≤ (fileOr d.files s).size := by simp only [FileR.size]; omega
      have hcc := concat_ok _ _ 2 [(fileOr d.files s).wet, c] hbss (by simp) (by simp; omega)
      have hfl : [(fileOr d.files s).wet, c].flatten = (fileOr d.files s).wet ++ c := by simp
      rw [hfl] at hcc
      simp only [fRow] at hcc
      refine RelC.call hcc ?_
      rintro vw M ⟨hM, hB⟩
      have hOM : Old m M := (hO2 _).trans hM
      have hMs : m.size + 3 ≤ M.size := Nat.le_trans (by rw [mx_size]; simp) hM.1
      have hrow : M.get (m.size + 1) = .cells (fRow (fileOr d.files s) a1 c1 a2 c2) 63 true .exact := by
        rw [hM.2 _ (by rw [mx_size]; simp)]; exact mx_new _ _ 1
      have hbw := hB.byv (Nat.lt_of_lt_of_le hD.ex (hO2 _).1)
      obtain ⟨aw, cw, rfl⟩ := hbw.len
      have hO3 : Old m (M.set (m.size + 1) (.cells (fRow { fileOr d.files s with wet := (fileOr d.files s).wet ++ c } a1 c1 aw cw) 63 true .exact)) := hOM.set (by omega) _
      have hbw3 : ByV 5 (M.set (m.size + 1) (.cells (fRow { fileOr d.files s with wet := (fileOr d.files s).wet ++ c } a1 c1 aw cw) 63 true .exact)) (.slice aw ((fileOr d.files s).wet ++ c).length cw) ((fileOr d.files s).wet ++ c) :=
        hbw.keep (O := fun x => x = m.size + 1) ((Keep.refl (fun x => x = m.size + 1) M).set (fun _ => rfl) _) fun x X w sp hx e => by subst e; rw [hrow] at hx; cases hx
      obtain ⟨b1, e1, b2, e2, hfr, hf1, _⟩ := hf
      cases hfr
      have hD3 := hD.old hO3
      have hlay := (lay_ok _ p _ d.files { fileOr d.files s with wet := (fileOr d.files s).wet ++ c } a1 c1 aw cw hD3.lt hD3.get hD3.files hO.sorted (by omega) ⟨_, _, _, _, rfl, hf1.old hO3, hbw3⟩).at
      simp only [fRow] at hrow
      simp only [fRow, List.length_append] at hlay hO3 hD3
      simp (implicitDefEqProofs := false) (maxSteps := 1000000) (disch := first | omega | with_reducible assumption | (simp only [lenT, Nat.reduceAdd]; omega)) only [amT, cut, bnd, Nat.reduceBEq, reduceCtorEq, Nat.reduceEqDiff, Nat.reduceAdd, Nat.reduceMul, Nat.reduceSub, Int.reduceToNat, Int.reduceEq, Int.reduceLT, Int.reduceLE, Int.reduceAdd, Int.reduceSub, Int.reduceMul, reduceIte, resVs, resV, packV, initT, addr, hrow, t0, t2, t8, cutL4]
      refine RelC.call hlay ?_
      rintro r2 M2 ⟨rfl, v2, hg2, hF4, hst4⟩
      have hp2 : p < M2.size := Nat.lt_of_lt_of_le hD3.lt hst4.1.1
      have hDA : DAt M2 p v2 { d with files := layR d.files { fileOr d.files s with wet := (fileOr d.files s).wet ++ c } } := ⟨hp2, hg2, hF4, Nat.lt_of_lt_of_le hD3.ex hst4.1.1⟩
      have k37 := DetC.known (step_d' _ p _ _ (hDA.old (Old.here M2 [])) hO.s0 hO.s1 hO.t0 hO.t1)
      have hst5 := (hst4.old (hO3)).trans (DStep.setp p v2 M2 (.cells (DiskR.cells (DiskR.step { d with files := layR d.files { fileOr d.files s with wet := (fileOr d.files s).wet ++ c } }) v2) 60 true .exact))
      have hDS := hDA.put (step_files _)
      by_cases hset : d.set = 0
      · have e : appendR d s c = (40, DiskR.step { d with files := layR d.files { fileOr d.files s with wet := (fileOr d.files s).wet ++ c } }) := by simp [appendR, hb, g1, g2, hset]
        have hd0 : decide (d.set = 0) = true := by simp [hset]
        repeat first | simp (implicitDefEqProofs := false) (maxSteps := 1000000) (disch := first | omega | with_reducible assumption | (simp only [lenT, Nat.reduceAdd]; omega)) only [amT, cut, bnd, Nat.reduceBEq, reduceCtorEq, Nat.reduceEqDiff, Nat.reduceAdd, Nat.reduceMul, Nat.reduceSub, Int.reduceToNat, Int.reduceEq, Int.reduceLT, Int.reduceLE, Int.reduceAdd, Int.reduceSub, Int.reduceMul, reduceIte, resVs, resV, packV, initT, addr, k37, hd0, t0] | refine OrW.go ?_
        exact ⟨_, rfl, fun _ => ⟨by rw [e], by rw [e]; exact ⟨_, hDS.old (Old.here _ _), hst5.1.mx _, hst5.2⟩⟩⟩
      · have e : appendR d s c = (0, DiskR.step { d with files := layR d.files { fileOr d.files s with wet := (fileOr d.files s).wet ++ c } }) := by simp [appendR, hb, g1, g2, hset]
        have hd0 : decide (d.set = 0) = false := by simp [hset]
        repeat first | simp (implicitDefEqProofs := false) (maxSteps := 1000000) (disch := first | omega | with_reducible assumption | (simp only [lenT, Nat.reduceAdd]; omega)) only [amT, cut, bnd, Nat.reduceBEq, reduceCtorEq, Nat.reduceEqDiff, Nat.reduceAdd, Nat.reduceMul, Nat.reduceSub, Int.reduceToNat, Int.reduceEq, Int.reduceLT, Int.reduceLE, Int.reduceAdd, Int.reduceSub, Int.reduceMul, reduceIte, resVs, resV, packV, initT, addr, k37, hd0, t0] | refine OrW.go ?_
        exact ⟨_, rfl, fun _ => ⟨by rw [e], by rw [e]; exact ⟨_, hDS.old (Old.here _ _), hst5.1.mx _, hst5.2⟩⟩⟩

theorem append_ok (m : AMem) (p : Nat) (v : Value) (d : DiskR) (s : List UInt8) (a3 : Option Addr) (cap3 : Nat) (c : List UInt8) (hs : s.length ≤ 9223372036854775807) (hc : BSl m a3 cap3 c) (hcl : c.length ≤ 9223372036854775807) (hD : DAt m p v d) (hO : DOk d) :
    RelC Try.prog 0 14 [.pointer (some ⟨p, 0, none⟩), .string ⟨s.toArray⟩, .slice a3 c.length cap3] m fun r m' => r = .int .i64 (appendR d s c).1 ∧ ∃ v', DAt m' p v' (appendR d s c).2 ∧ DStep p v m v' m' := by
  refine rel_of_W (fn := Try.f14) rfl rfl F14_ok (by simp [F14]) ?_
  have hp := hD.lt
  have hfew := hO.few
  have hused := hO.used
  have hq0 := hO.q0
  have hq1 := hO.q1
  have hd := hD.get
  obtain ⟨a, cap, rfl⟩ := hD.files.len
  have hOx := Old.here m [.cells [.string ⟨s.toArray⟩] 9 true .exact]
  have hDx := hD.old hOx
  have k32 : Known Try.prog 0 32 [.pointer (some ⟨p, 0, none⟩), .slice (some ⟨m.size, 0, none⟩) 1 1] (mx m [.cells [.string ⟨s.toArray⟩] 9 true .exact]) (.int .i64 (barsE d.off [s])) _ :=
    DetC.known (bars_ok _ p m.size 1 [s] (by simp) (by simpa using hs) (by rw [mx_size]; simp) (mx_new0 _ _) hDx.lt hDx.get)
  have same : ∀ (l : List AObj) e, appendR d s c = (e, d) → ∃ v', DAt (mx m l) p v' (appendR d s c).2 ∧ DStep p (.slice a d.files.length cap) m v' (mx m l) := fun l e h => by
    rw [h]; exact ⟨_, hD.old (Old.here _ _), (Old.here m _).keep _, fun _ h => .inl h⟩
  by_cases hb : barsE d.off [s] = 0
  · rw [hb] at k32
    have hO2 : ∀ l, Old m (mx m l) := fun l => Old.here m l
    have k33 := fun l => DetC.known (find_ok (mx m l) p a cap d.files s (hD.old (hO2 l)).lt (hD.old (hO2 l)).get (hD.old (hO2 l)).files hO.sorted (by omega))
    simp only [DiskR.cells] at hd
    rw [F14_cut]
    cases hat : isAt d.files s with
    | false =>
      have k33' := k33 [.cells [.string ⟨s.toArray⟩] 9 true .exact, .cells [.string ⟨s.toArray⟩, .slice none 0 0, .slice none 0 0, .bool false] 63 true .exact]
      rw [hat] at k33'
      have ef : fileOr d.files s = ⟨s, [], [], false⟩ := by simp [fileOr, hat]
      repeat first | simp (implicitDefEqProofs := false) (maxSteps := 1000000) (disch := first | omega | with_reducible assumption | (simp only [lenT, Nat.reduceAdd]; omega)) only [amT, cut, bnd, Nat.reduceBEq, reduceCtorEq, Nat.reduceEqDiff, Nat.reduceAdd, Nat.reduceMul, Nat.reduceSub, Int.reduceToNat, Int.reduceEq, Int.reduceLT, Int.reduceLE, Int.reduceAdd, Int.reduceSub, Int.reduceMul, reduceIte, resVs, resV, packV, initT, addr, F14, hd_seq, tl_seq, k32, k33', cellsOf_row4, splice4, cutL4] | refine OrW.go ?_
      have h := fun t h0 h2 h8 => append_rest m p a cap d s a3 cap3 c hc hcl hD hO hb t h0 h2 h8 none 0 none 0 (by rw [ef]; exact ⟨_, _, _, _, rfl, ByV.nil _ _, ByV.nil _ _⟩) (by rw [ef]; exact ByV.nil _ _) (by rw [ef]; simp [FileR.size])
      rw [ef] at h
      exact h _ (by simp (implicitDefEqProofs := false) (maxSteps := 1000000) (disch := first | omega | with_reducible assumption | (simp only [lenT, Nat.reduceAdd]; omega)) only [amT, cut, bnd, Nat.reduceBEq, reduceCtorEq, Nat.reduceEqDiff, Nat.reduceAdd, Nat.reduceMul, Nat.reduceSub, Int.reduceToNat, Int.reduceEq, Int.reduceLT, Int.reduceLE, Int.reduceAdd, Int.reduceSub, Int.reduceMul, reduceIte, resVs, resV, packV, initT, addr]) (by simp (implicitDefEqProofs := false) (maxSteps := 1000000) (disch := first | omega | with_reducible assumption | (simp only [lenT, Nat.reduceAdd]; omega)) only [amT, cut, bnd, Nat.reduceBEq, reduceCtorEq, Nat.reduceEqDiff, Nat.reduceAdd, Nat.reduceMul, Nat.reduceSub, Int.reduceToNat, Int.reduceEq, Int.reduceLT, Int.reduceLE, Int.reduceAdd, Int.reduceSub, Int.reduceMul, reduceIte, resVs, resV, packV, initT, addr]) (by simp (implicitDefEqProofs := false) (maxSteps := 1000000) (disch := first | omega | with_reducible assumption | (simp only [lenT, Nat.reduceAdd]; omega)) only [amT, cut, bnd, Nat.reduceBEq, reduceCtorEq, Nat.reduceEqDiff, Nat.reduceAdd, Nat.reduceMul, Nat.reduceSub, Int.reduceToNat, Int.reduceEq, Int.reduceLT, Int.reduceLE, Int.reduceAdd, Int.reduceSub, Int.reduceMul, reduceIte, resVs, resV, packV, initT, addr])
    | true =>
      have k33' := k33 [.cells [.string ⟨s.toArray⟩] 9 true .exact, .cells [.string ⟨s.toArray⟩, .slice none 0 0, .slice none 0 0, .bool false] 63 true .exact]
      rw [hat] at k33'
      obtain ⟨hlt, _⟩ := isAt_lt hat
      have ef : fileOr d.files s = d.files[place d.files s] := by simp [fileOr, hat, fileAt_eq hlt]
      obtain ⟨b, a1, c1, a2, c2, rfl, hbs, hr, hb1, hb2⟩ := hD.files.get hlt
      rw [rd_def] at hr
      simp only [fRow] at hr
      repeat first | simp (implicitDefEqProofs := false) (maxSteps := 1000000) (disch := first | omega | with_reducible assumption | (simp only [lenT, Nat.reduceAdd]; omega)) only [amT, cut, bnd, Nat.reduceBEq, reduceCtorEq, Nat.reduceEqDiff, Nat.reduceAdd, Nat.reduceMul, Nat.reduceSub, Int.reduceToNat, Int.reduceEq, Int.reduceLT, Int.reduceLE, Int.reduceAdd, Int.reduceSub, Int.reduceMul, reduceIte, resVs, resV, packV, initT, addr, F14, hd_seq, tl_seq, k32, k33', cellsOf_row4, splice4, cutL4, hd, hr] | refine OrW.go ?_
      have h := fun t h0 h2 h8 => append_rest m p _ cap d s a3 cap3 c hc hcl hD hO hb t h0 h2 h8 a1 c1 a2 c2 (by rw [ef]; exact ⟨_, _, _, _, rfl, hb1, hb2⟩) (by rw [ef]; exact hb2) (by rw [ef]; have := size_le hlt; omega)
      simp only [fRow, ef] at h
      exact h _ (by simp (implicitDefEqProofs := false) (maxSteps := 1000000) (disch := first | omega | with_reducible assumption | (simp only [lenT, Nat.reduceAdd]; omega)) only [amT, cut, bnd, Nat.reduceBEq, reduceCtorEq, Nat.reduceEqDiff, Nat.reduceAdd, Nat.reduceMul, Nat.reduceSub, Int.reduceToNat, Int.reduceEq, Int.reduceLT, Int.reduceLE, Int.reduceAdd, Int.reduceSub, Int.reduceMul, reduceIte, resVs, resV, packV, initT, addr]) (by simp (implicitDefEqProofs := false) (maxSteps := 1000000) (disch := first | omega | with_reducible assumption | (simp only [lenT, Nat.reduceAdd]; omega)) only [amT, cut, bnd, Nat.reduceBEq, reduceCtorEq, Nat.reduceEqDiff, Nat.reduceAdd, Nat.reduceMul, Nat.reduceSub, Int.reduceToNat, Int.reduceEq, Int.reduceLT, Int.reduceLE, Int.reduceAdd, Int.reduceSub, Int.reduceMul, reduceIte, resVs, resV, packV, initT, addr]) (by simp (implicitDefEqProofs := false) (maxSteps := 1000000) (disch := first | omega | with_reducible assumption | (simp only [lenT, Nat.reduceAdd]; omega)) only [amT, cut, bnd, Nat.reduceBEq, reduceCtorEq, Nat.reduceEqDiff, Nat.reduceAdd, Nat.reduceMul, Nat.reduceSub, Int.reduceToNat, Int.reduceEq, Int.reduceLT, Int.reduceLE, Int.reduceAdd, Int.reduceSub, Int.reduceMul, reduceIte, resVs, resV, packV, initT, addr])
  · rw [F14_cut]
    repeat first | simp (implicitDefEqProofs := false) (maxSteps := 1000000) (disch := first | omega | with_reducible assumption | (simp only [lenT, Nat.reduceAdd]; omega)) only [amT, cut, bnd, Nat.reduceBEq, reduceCtorEq, Nat.reduceEqDiff, Nat.reduceAdd, Nat.reduceMul, Nat.reduceSub, Int.reduceToNat, Int.reduceEq, Int.reduceLT, Int.reduceLE, Int.reduceAdd, Int.reduceSub, Int.reduceMul, reduceIte, resVs, resV, packV, initT, addr, F14, hd_seq, tl_seq, k32, hb] | refine OrW.go ?_
    have e : appendR d s c = (barsE d.off [s], d) := by simp [appendR, hb]
    exact ⟨_, rfl, fun _ => ⟨by rw [e], same _ _ e⟩⟩
end Go.Proofs.Ytbmjhiifinjieaa
namespace Go.AM
/-- A slice of numbers. -/
def IntV (m : AMem) (v : Value) (l : List Int) : Prop :=
  ∃ a cap, v = .slice a l.length cap ∧ ∀ i (h : i < l.length), ∃ b o, a = some ⟨b, o, none⟩ ∧ b < m.size ∧ rd m b (o + i) 1 = some [.int .i64 l[i]]
theorem IntV.old {m m' : AMem} {v : Value} {l : List Int} (h : IntV m v l) (ho : Old m m') : IntV m' v l := by
  obtain ⟨a, cap, h1, h2⟩ := h
  refine ⟨a, cap, h1, fun i hi => ?_⟩
  obtain ⟨b, o, h3, h4, h5⟩ := h2 i hi
  exact ⟨b, o, h3, Nat.lt_of_lt_of_le h4 ho.1, by rw [rd_def, ho.2 b h4, ← rd_def]; exact h5⟩
theorem IntV.keep {m m' : AMem} {v : Value} {l : List Int} (h : IntV m v l) {O : Nat → Prop} (ho : Keep O m m') (hO : ∀ b o n c, v = .slice (some ⟨b, o, none⟩) n c → ¬ O b) : IntV m' v l := by
  obtain ⟨a, cap, rfl, h2⟩ := h
  refine ⟨a, cap, rfl, fun i hi => ?_⟩
  obtain ⟨b, o, rfl, h4, h5⟩ := h2 i hi
  exact ⟨b, o, rfl, Nat.lt_of_lt_of_le h4 ho.1, by rw [rd_def, ho.2 b h4 (hO b o _ _ rfl), ← rd_def]; exact h5⟩
end Go.AM
namespace Go.Proofs.Ytbmjhiifinjieaa
open Go Go.AM
set_option linter.unusedVariables false
set_option linter.unusedSimpArgs false
set_option linter.unusedSectionVars false
set_option maxHeartbeats 2000000
set_option maxRecDepth 100000
variable [Ex]

def newR (q : Int) : DiskR := ⟨[], max 0 q, 0, -1, false⟩
theorem cellsOf_disk (a : Option Addr) (l c : Nat) (q s e : Int) (o : Bool) : cellsOf (.agg [.slice a l c, .int .i64 q, .int .i64 s, .int .i64 e, .bool o].toArray) = some [.slice a l c, .int .i64 q, .int .i64 s, .int .i64 e, .bool o] := rfl
theorem splice5 (a b c d e x y z u v : Value) : splice [a, b, c, d, e] 0 [x, y, z, u, v] = [x, y, z, u, v] := rfl
theorem cutL5 (a b c d e : Value) : cutL [a, b, c, d, e] 0 5 = some [a, b, c, d, e] := rfl
theorem new_ok (m : AMem) (q : Int) : DetC Try.prog 0 11 [.int .i64 q] m (.pointer (some ⟨m.size, 0, none⟩)) (mx m [.cells ((newR q).cells (.slice none 0 0)) 60 true .exact]) := by
  refine det_exact (fn := Try.f11) rfl rfl F11_ok (by simp [F11]) ?_
  simp (implicitDefEqProofs := false) (maxSteps := 1000000) (disch := first | omega | with_reducible assumption | (simp only [lenT, Nat.reduceAdd]; omega)) only [amT, cut, bnd, Nat.reduceBEq, reduceCtorEq, Nat.reduceEqDiff, Nat.reduceAdd, Nat.reduceMul, Nat.reduceSub, Int.reduceToNat, Int.reduceEq, Int.reduceLT, Int.reduceLE, Int.reduceAdd, Int.reduceSub, Int.reduceMul, reduceIte, resVs, resV, packV, initT, addr, F11, stepOp_mnx, mnx_max, cellsOf_disk, newR, DiskR.cells]
theorem new_at (m : AMem) (q : Int) (hx : Ex.x ≤ m.size) : DAt (mx m [.cells ((newR q).cells (.slice none 0 0)) 60 true .exact]) m.size (.slice none 0 0) (newR q) :=
  ⟨by rw [mx_size]; simp, mx_new0 _ _, .inl ⟨rfl, .inl rfl⟩, by rw [mx_size]; simp; omega⟩

theorem eqV_nil (l c l' c' : Nat) : eqV .nilS (.slice none l c) (.slice none l' c') = some true := rfl
theorem eqV_some (a : Addr) (l c l' c' : Nat) : eqV .nilS (.slice (some a) l c) (.slice none l' c') = some false := rfl
theorem clone_ok (m : AMem) (v : Value) (fs : List FileR) (hF : FilesV m v fs) (hn : fs.length ≤ 100000) :
    RelC Try.prog 0 52 [v] m fun v' m' => FilesV m' v' fs ∧ Old m m' ∧ ∀ x, ownV v' x → m.size ≤ x := by
  refine rel_of_W (fn := Try.f52) rfl rfl F52_ok (by simp [F52]) ?_
  have zero : ∀ (a : Option Addr) (cap : Nat), FilesV m (.slice (a) 0 cap) [] → (∃ x, a = some x) → appV 63 4 72 zF (.slice (some ⟨m.size, 0, none⟩) 0 0) (.slice a 0 cap) (mx m [.cells [] 63 true .exact]) = some (.slice (some ⟨m.size, 0, none⟩) 0 0, mx m [.cells [] 63 true .exact]) := by
    rintro a cap hf ⟨x, rfl⟩
    have : ∃ b, x = ⟨b, 0, none⟩ ∧ b < m.size ∧ ∃ X sp, m.get b = .cells X 63 true sp := by
      rcases hf with ⟨_, h | ⟨b, h, h1, h2⟩⟩ | ⟨b, X, sp, h, h1, h2, _⟩
      · cases h
      · cases h; exact ⟨b, rfl, h1, _, _, h2⟩
      · cases h; exact ⟨b, rfl, h1, _, _, h2⟩
    obtain ⟨b, rfl, hb, X, sp, hm⟩ := this
    have hsrc : srcCells 4 0 (.slice (some ⟨b, 0, none⟩) 0 cap) (mx m [.cells [] 63 true .exact]) = some [] := by
      rw [srcCells_slice (Nat.le_refl _), rd_def, mx_old hb, hm, rdO_cells]; exact cutL_zero (Nat.zero_le _)
    simp only [appV, srcLen_slice, hsrc]
    rw [if_pos ⟨rfl, by omega, rfl, rfl⟩]
    simp only [appendTo, if_neg (Nat.ne_of_lt zeroCap_lt)]
    simp
  have fin0 : FilesV (mx m [.cells [] 63 true .exact]) (.slice (some ⟨m.size, 0, none⟩) 0 0) [] := .inl ⟨rfl, .inr ⟨m.size, rfl, by rw [mx_size]; simp, mx_new0 _ _⟩⟩
  by_cases h0 : fs = []
  · subst h0
    obtain ⟨a, cap, rfl⟩ := hF.len
    cases a with
    | none =>
      rcases hF with ⟨_, h | ⟨b, h, _⟩⟩ | ⟨b, X, sp, h, _⟩
      · cases h
        repeat first | simp (implicitDefEqProofs := false) (maxSteps := 1000000) (disch := first | omega | with_reducible assumption | (simp only [lenT, Nat.reduceAdd]; omega)) only [amT, cut, bnd, Nat.reduceBEq, reduceCtorEq, Nat.reduceEqDiff, Nat.reduceAdd, Nat.reduceMul, Nat.reduceSub, Int.reduceToNat, Int.reduceEq, Int.reduceLT, Int.reduceLE, Int.reduceAdd, Int.reduceSub, Int.reduceMul, reduceIte, resVs, resV, packV, initT, addr, F52, eqV_nil] | refine OrW.go ?_
        exact ⟨_, rfl, fun _ => ⟨.inl ⟨rfl, .inl rfl⟩, fun x ⟨o, l, c, h⟩ => by cases h⟩⟩
      · cases h
      · cases h
    | some x =>
      have h1 := zero _ _ hF ⟨x, rfl⟩
      simp only [zF] at h1
      repeat first | simp (implicitDefEqProofs := false) (maxSteps := 1000000) (disch := first | omega | with_reducible assumption | (simp only [lenT, Nat.reduceAdd]; omega)) only [amT, cut, bnd, Nat.reduceBEq, reduceCtorEq, Nat.reduceEqDiff, Nat.reduceAdd, Nat.reduceMul, Nat.reduceSub, Int.reduceToNat, Int.reduceEq, Int.reduceLT, Int.reduceLE, Int.reduceAdd, Int.reduceSub, Int.reduceMul, reduceIte, resVs, resV, packV, initT, addr, F52, eqV_some, List.length_nil, stepOp_app_v, h1] | refine OrW.go ?_
      exact ⟨_, rfl, fun _ => ⟨fin0, fun x ⟨o, l, c, h⟩ => by cases h; exact Nat.le_refl _⟩⟩
  · have hF0 := hF
    rcases hF with ⟨h, _⟩ | ⟨b, X, sp, rfl, hb, hm, hsp, hX, hX4, hcell⟩
    · exact absurd h h0
    have hpos : 0 < fs.length := List.length_pos_iff.2 h0
    have hone : (X.take (4 * fs.length)).all oneCell = true := cells_one fs.length (by rw [List.length_take]; omega) fun j hj => by rw [cell_take hj]; exact (hcell j hj).one
    have hlen : (X.take (4 * fs.length)).length = 4 * fs.length := by rw [List.length_take]; omega
    have hsrc : srcCells 4 fs.length (.slice (some ⟨b, 0, none⟩) fs.length openCap) (mx m [.cells [] 63 true .exact]) = some (X.take (4 * fs.length)) := by
      rw [srcCells_slice (Nat.le_refl _), rd_def, mx_old hb, hm, rdO_cells, Nat.mul_comm _ 4]; unfold cutL; rw [if_pos (by omega), List.drop_zero]
    have h1 : appV 63 4 72 zF (.slice (some ⟨m.size, 0, none⟩) 0 0) (.slice (some ⟨b, 0, none⟩) fs.length openCap) (mx m [.cells [] 63 true .exact]) = some (.slice (some ⟨m.size + 1, 0, none⟩) fs.length openCap, mx m [.cells [] 63 true .exact, .cells (X.take (4 * fs.length)) 63 true (.room zF)]) := by
      simp only [appV, srcLen_slice, hsrc]
      rw [if_pos ⟨rfl, by omega, hone, by omega⟩]
      simp only [appendTo, if_neg (Nat.ne_of_lt zeroCap_lt)]
      rw [if_neg (by omega), rd_def, mx_new0, List.getD_cons_zero, rdO_cells, show cutL ([] : List Value) 0 (0 * 4) = some [] from rfl]
      simp only
      rw [if_pos (by omega), mx_push, mx_size]; simp
    simp only [zF] at h1
    repeat first | simp (implicitDefEqProofs := false) (maxSteps := 1000000) (disch := first | omega | with_reducible assumption | (simp only [lenT, Nat.reduceAdd]; omega)) only [amT, cut, bnd, Nat.reduceBEq, reduceCtorEq, Nat.reduceEqDiff, Nat.reduceAdd, Nat.reduceMul, Nat.reduceSub, Int.reduceToNat, Int.reduceEq, Int.reduceLT, Int.reduceLE, Int.reduceAdd, Int.reduceSub, Int.reduceMul, reduceIte, resVs, resV, packV, initT, addr, F52, eqV_some, stepOp_app_v, h1] | refine OrW.go ?_
    refine ⟨_, rfl, fun _ => ⟨.inr ⟨m.size + 1, _, .room zF, rfl, by rw [mx_size]; simp, mx_new m _ 1, .inl rfl, by omega, by omega, fun k hk => ?_⟩, fun x ⟨o, l, c, h⟩ => by cases h; omega⟩⟩
    rw [cell_take hk]
    exact (hcell k hk).keep ((Old.here m _).keep fun _ => False) fun _ _ _ _ _ h => h

theorem copy_ok (m : AMem) (p : Nat) (v : Value) (d : DiskR) (hD : DAt m p v d) (hn : d.files.length ≤ 100000) :
    RelC Try.prog 0 29 [.pointer (some ⟨p, 0, none⟩)] m fun r m' => ∃ p' v', r = .pointer (some ⟨p', 0, none⟩) ∧ m.size ≤ p' ∧ DAt m' p' v' d ∧ (∀ x, ownV v' x → m.size ≤ x) ∧ Old m m' := by
  refine rel_of_W (fn := Try.f29) rfl rfl F29_ok (by simp [F29]) ?_
  have hd := hD.get
  have hp := hD.lt
  obtain ⟨a, cap, rfl⟩ := hD.files.len
  have hOx := Old.here m [.cells (d.cells (.slice a d.files.length cap)) 60 true .exact]
  have hcl := clone_ok _ _ d.files (hD.files.old hOx) hn
  simp only [DiskR.cells] at hd hcl
  repeat first | simp (implicitDefEqProofs := false) (maxSteps := 1000000) (disch := first | omega | with_reducible assumption | (simp only [lenT, Nat.reduceAdd]; omega)) only [amT, cut, bnd, Nat.reduceBEq, reduceCtorEq, Nat.reduceEqDiff, Nat.reduceAdd, Nat.reduceMul, Nat.reduceSub, Int.reduceToNat, Int.reduceEq, Int.reduceLT, Int.reduceLE, Int.reduceAdd, Int.reduceSub, Int.reduceMul, reduceIte, resVs, resV, packV, initT, addr, F29, eqV_pn, hd, cutL5, cellsOf_disk, splice5] | refine OrW.go ?_
  refine RelC.call hcl ?_
  rintro v1 M ⟨hF1, hO1, hown⟩
  obtain ⟨av, cv, rfl⟩ := hF1.len
  have hMs : m.size + 1 ≤ M.size := Nat.le_trans (by rw [mx_size]; simp) hO1.1
  have hg : M.get m.size = .cells (d.cells (.slice a d.files.length cap)) 60 true .exact := by rw [hO1.2 _ (by rw [mx_size]; simp)]; exact mx_new0 _ _
  have hF2 := hF1.setp hg (by decide) (by decide) (.cells (d.cells (.slice av d.files.length cv)) 60 true .exact)
  have hO2 : Old m (M.set m.size (.cells (d.cells (.slice av d.files.length cv)) 60 true .exact)) := (hOx.trans hO1).set (Nat.le_refl _) _
  have hDA : DAt (M.set m.size (.cells (d.cells (.slice av d.files.length cv)) 60 true .exact)) m.size (.slice av d.files.length cv) d := ⟨by rw [AMem.size_set]; omega, AMem.get_set_self _ _ _, hF2, by rw [AMem.size_set]; have := hD.ex; omega⟩
  simp only [DiskR.cells] at hg hDA hO2
  repeat first | simp (implicitDefEqProofs := false) (maxSteps := 1000000) (disch := first | omega | with_reducible assumption | (simp only [lenT, Nat.reduceAdd]; omega)) only [amT, cut, bnd, Nat.reduceBEq, reduceCtorEq, Nat.reduceEqDiff, Nat.reduceAdd, Nat.reduceMul, Nat.reduceSub, Int.reduceToNat, Int.reduceEq, Int.reduceLT, Int.reduceLE, Int.reduceAdd, Int.reduceSub, Int.reduceMul, reduceIte, resVs, resV, packV, initT, addr, hg] | refine OrW.go ?_
  exact ⟨_, rfl, fun _ => ⟨m.size, _, rfl, Nat.le_refl _, hDA.old (Old.here _ _), fun x hx => Nat.le_trans (by rw [mx_size]; omega) (hown x hx), hO2.mx _⟩⟩
theorem copy_nil (m : AMem) : PureC Try.prog 0 29 [.pointer none] m (.pointer none) := by
  refine pure_of_W (fn := Try.f29) rfl rfl F29_ok (by simp [F29]) .nilPtr ?_
  repeat first | simp (implicitDefEqProofs := false) (maxSteps := 1000000) (disch := first | omega | with_reducible assumption | (simp only [lenT, Nat.reduceAdd]; omega)) only [amT, cut, bnd, Nat.reduceBEq, reduceCtorEq, Nat.reduceEqDiff, Nat.reduceAdd, Nat.reduceMul, Nat.reduceSub, Int.reduceToNat, Int.reduceEq, Int.reduceLT, Int.reduceLE, Int.reduceAdd, Int.reduceSub, Int.reduceMul, reduceIte, resVs, resV, packV, initT, addr, F29, eqV_nn] | refine OrW.go ?_
end Go.Proofs.Ytbmjhiifinjieaa
namespace Go.AM
theorem Old.more (M : AMem) (l l' : List AObj) : Old (Go.AM.mx M l) (Go.AM.mx M (l ++ l')) := by rw [← mx_mx]; exact Old.here _ _
end Go.AM
namespace Go.Proofs.Ytbmjhiifinjieaa
open Go Go.AM
set_option linter.unusedVariables false
set_option linter.unusedSimpArgs false
set_option linter.unusedSectionVars false
set_option maxHeartbeats 2000000
set_option maxRecDepth 100000
variable [Ex]

/-- How many wet bytes stay. -/
def staysR (keep : List Int) (i wet : Nat) : Nat := ((((keep.getD i 0).tmod ((wet : Int) + 1)) + ((wet : Int) + 1)).tmod ((wet : Int) + 1)).toNat
theorem stays_le (keep : List Int) (i wet : Nat) : staysR keep i wet ≤ wet := by
  unfold staysR
  have := Int.tmod_lt_of_pos ((keep.getD i 0).tmod ((wet : Int) + 1) + ((wet : Int) + 1)) (show 0 < (wet : Int) + 1 by omega)
  omega
theorem stays_int (keep : List Int) (i wet : Nat) : (((keep.getD i 0).tmod ((wet : Int) + 1)) + ((wet : Int) + 1)).tmod ((wet : Int) + 1) = (staysR keep i wet : Int) := by
  unfold staysR
  have h1 := Int.lt_tmod_of_pos (keep.getD i 0) (show 0 < (wet : Int) + 1 by omega)
  have h2 := Int.tmod_nonneg ((wet : Int) + 1) (show 0 ≤ (keep.getD i 0).tmod ((wet : Int) + 1) + ((wet : Int) + 1) by omega)
  omega
theorem stays_none {keep : List Int} {i : Nat} (h : keep.length ≤ i) (wet : Nat) : staysR keep i wet = 0 := by
  unfold staysR
  have : keep.getD i 0 = 0 := by simp [List.getD, h]
  rw [this]; simp
def onFile (keep : List Int) (i : Nat) (f : FileR) : Option FileR :=
  if f.born || decide (0 < (f.dry ++ f.wet.take (staysR keep i f.wet.length)).length) then some ⟨f.name, f.dry ++ f.wet.take (staysR keep i f.wet.length), [], true⟩ else none
def onFiles (keep : List Int) (fs : List FileR) (n : Nat) : List FileR := (List.range n).filterMap fun i => (fs[i]?).bind (onFile keep i)
theorem onFiles_succ (keep : List Int) (fs : List FileR) {n : Nat} (h : n < fs.length) : onFiles keep fs (n + 1) = onFiles keep fs n ++ (onFile keep n fs[n]).toList := by
  simp only [onFiles, List.range_succ, List.filterMap_append, List.filterMap_cons, List.filterMap_nil]
  simp only [List.getElem?_eq_getElem h, Option.bind_some]
  cases onFile keep n fs[n] <;> rfl
theorem onFiles_len (keep : List Int) (fs : List FileR) (n : Nat) : (onFiles keep fs n).length ≤ n := by
  have := List.length_filterMap_le (fun i => (fs[i]?).bind (onFile keep i)) (List.range n)
  simpa [onFiles] using this
def onR (d : DiskR) (keep : List Int) : DiskR := if d.off then { d with files := onFiles keep d.files d.files.length, set := -1, off := false } else { d with set := -1 }

theorem on_nil (m : AMem) (v : Value) : PureC Try.prog 0 17 [.pointer none, v] m (.tuple #[]) := by
  refine pure_of_W (fn := Try.f17) rfl rfl F17_ok (by simp [F17]) (.tuple (by simp)) ?_
  repeat first | simp (implicitDefEqProofs := false) (maxSteps := 1000000) (disch := first | omega | with_reducible assumption | (simp only [lenT, Nat.reduceAdd]; omega)) only [amT, cut, bnd, Nat.reduceBEq, reduceCtorEq, Nat.reduceEqDiff, Nat.reduceAdd, Nat.reduceMul, Nat.reduceSub, Int.reduceToNat, Int.reduceEq, Int.reduceLT, Int.reduceLE, Int.reduceAdd, Int.reduceSub, Int.reduceMul, reduceIte, resVs, resV, packV, initT, addr, F17, eqV_nn] | refine OrW.go ?_

theorem on_ok (m : AMem) (p : Nat) (v : Value) (d : DiskR) (kv : Value) (keep : List Int) (hk : IntV m kv keep) (hkl : keep.length ≤ 9223372036854775807) (hk64 : ∀ x ∈ keep, -9223372036854775808 ≤ x ∧ x ≤ 9223372036854775807) (hD : DAt m p v d) (hO : DOk d) (hkp : ∀ b o n c, kv = .slice (some ⟨b, o, none⟩) n c → b ≠ p) :
    RelC Try.prog 0 17 [.pointer (some ⟨p, 0, none⟩), kv] m fun r m' => r = .tuple #[] ∧ ∃ v', DAt m' p v' (onR d keep) ∧ DStep p v m v' m' := by
  refine rel_of_W (fn := Try.f17) rfl rfl F17_ok (by simp [F17]) ?_
  have hd := hD.get
  have hp := hD.lt
  have hfew := hO.few
  have hused := hO.used
  obtain ⟨a, cap, rfl⟩ := hD.files.len
  obtain ⟨ak, ck, rfl, hki⟩ := hk
  simp only [DiskR.cells] at hd
  have hD1 : DAt (m.set p (.cells (DiskR.cells { d with set := -1 } (.slice a d.files.length cap)) 60 true .exact)) p (.slice a d.files.length cap) { d with set := -1 } := hD.put rfl
  have hk1 : IntV (m.set p (.cells (DiskR.cells { d with set := -1 } (.slice a d.files.length cap)) 60 true .exact)) (.slice ak keep.length ck) keep :=
    IntV.keep (O := fun x => x = p) ⟨ak, ck, rfl, hki⟩ ((Keep.refl (fun x => x = p) m).set (fun _ => rfl) _) fun b o n c h => hkp b o n c h
  have hst1 : DStep p (.slice a d.files.length cap) m (.slice a d.files.length cap) (m.set p (.cells (DiskR.cells { d with set := -1 } (.slice a d.files.length cap)) 60 true .exact)) := DStep.setp _ _ _ _
  generalize hm1 : m.set p (.cells (DiskR.cells { d with set := -1 } (.slice a d.files.length cap)) 60 true .exact) = m1 at hD1 hk1 hst1
  have hms : m1.size = m.size := by rw [← hm1]; rfl
  have hFs : FilesV m1 (.slice a d.files.length cap) d.files := hD1.files
  obtain ⟨ak', ck', hkeq, hk1i⟩ := hk1
  cases hkeq
  have hd1 := hD1.get
  simp only [DiskR.cells] at hd1 hm1
  by_cases hoff : d.off = true
  · rw [hoff] at hd hm1 hd1
    have e : onR d keep = { d with files := onFiles keep d.files d.files.length, set := -1, off := false } := by simp [onR, hoff]
    repeat first | simp (implicitDefEqProofs := false) (maxSteps := 1000000) (disch := first | omega | with_reducible assumption | (simp only [lenT, Nat.reduceAdd]; omega)) only [amT, cut, bnd, Nat.reduceBEq, reduceCtorEq, Nat.reduceEqDiff, Nat.reduceAdd, Nat.reduceMul, Nat.reduceSub, Int.reduceToNat, Int.reduceEq, Int.reduceLT, Int.reduceLE, Int.reduceAdd, Int.reduceSub, Int.reduceMul, reduceIte, resVs, resV, packV, initT, addr, F17, eqV_pn, hd, hm1, hd1] | refine OrW.go ?_
    refine W_loop (fun N qs => ∃ (i : Nat) (M : AMem) (av : Option Addr) (cv : Nat), N = d.files.length - i ∧ qs.ds = [] ∧ qs.m = mx M [] ∧ qs.t 0 = .pointer (some ⟨p, 0, none⟩) ∧ qs.t 1 = .slice ak keep.length ck ∧ qs.t 4 = .slice av (onFiles keep d.files i).length cv ∧ qs.t 22 = .slice a d.files.length cap ∧ qs.t 23 = .int .i64 d.files.length ∧ qs.t 24 = .int .i64 i ∧ i ≤ d.files.length ∧ Old m1 M ∧ FilesV M (.slice av (onFiles keep d.files i).length cv) (onFiles keep d.files i) ∧ ∀ x, ownV (.slice av (onFiles keep d.files i).length cv) x → m1.size ≤ x) (d.files.length - (0)) ⟨0, m1, none, 0, rfl, rfl, ?qm, ?q0, ?q1, ?q4, ?q22, ?q23, ?q24, ?_⟩ ?_
    case qm | q0 | q1 | q4 | q22 | q23 | q24 => first | rfl | (simp (implicitDefEqProofs := false) (maxSteps := 1000000) (disch := first | omega | with_reducible assumption | (simp only [lenT, Nat.reduceAdd]; omega)) only [amT, cut, bnd, Nat.reduceBEq, reduceCtorEq, Nat.reduceEqDiff, Nat.reduceAdd, Nat.reduceMul, Nat.reduceSub, Int.reduceToNat, Int.reduceEq, Int.reduceLT, Int.reduceLE, Int.reduceAdd, Int.reduceSub, Int.reduceMul, reduceIte, resVs, resV, packV, initT, addr, onFiles]; first | done | rfl | (congr 1; omega))
    · exact ⟨by omega, .refl _, .inl ⟨rfl, .inl rfl⟩, fun x ⟨o, l, c, h⟩ => by cases h⟩
    · rintro N t m1 ds ⟨i, M, av, cv, rfl, hds, hm, t0, t1, t4, t22, t23, t24, hp⟩
      simp only at hds hm t0 t1 t4 t22 t23 t24
      subst hds; replace hm := hm.symm; subst hm
      obtain ⟨hi, hOM, hFa, hown⟩ := hp
      by_cases h1 : (i : Int) < (d.files.length : Int)
      · have hi : i < d.files.length := by omega
        obtain ⟨b, a1, c1, a2, c2, rfl, hb, hr, hb1, hb2⟩ := (hFs.old hOM).get hi
        rw [rd_def] at hr
        have hsz : d.files[i].size ≤ 50000000 := by have := size_le hi; omega
        have hwl : d.files[i].wet.length ≤ d.files[i].size := by simp only [FileR.size]; omega
        have hsl := stays_le keep i d.files[i].wet.length
        obtain ⟨v', hv', hbv'⟩ := (hb2.old (Old.here M [.cells (fRow d.files[i] a1 c1 a2 c2) 63 true .exact])).head (n := staysR keep i d.files[i].wet.length) hsl (openCap_lt (by omega))
        obtain ⟨aw, cw, rfl⟩ := hbv'.len
        have hbss := bss2 (e := 30) (M := mx M [.cells (fRow d.files[i] a1 c1 a2 c2) 63 true .exact, .cells [.slice a1 d.files[i].dry.length c1, .slice aw (d.files[i].wet.take (staysR keep i d.files[i].wet.length)).length cw] 30 true .exact]) (b := M.size + 1) (by rw [mx_size]; simp) (mx_new _ _ 1) (hb1.old (Old.here _ _)) (hbv'.old (Old.more M [_] [_]))
        have hcc := concat_ok _ _ 2 [d.files[i].dry, d.files[i].wet.take (staysR keep i d.files[i].wet.length)] hbss (by simp) (by simp [FileR.size] at *; omega)
        have hfl : [d.files[i].dry, d.files[i].wet.take (staysR keep i d.files[i].wet.length)].flatten = d.files[i].dry ++ d.files[i].wet.take (staysR keep i d.files[i].wet.length) := by simp
        rw [hfl] at hcc
        simp only [fRow] at hcc hv'
        by_cases hik : (i : Int) < (keep.length : Int)
        · have hik' : i < keep.length := by omega
          obtain ⟨bk, ok, rfl, hbk, hrk⟩ := hk1i i hik'
          have hrk' : rdO (M.get bk) (ok + i) 1 = some [.int .i64 keep[i]] := by rw [← rd_def, rd_def, hOM.2 bk hbk, ← rd_def]; exact hrk
          have hbk' : bk < M.size := Nat.lt_of_lt_of_le hbk hOM.1
          have hg : keep.getD i 0 = keep[i] := by simp [hik']
          have hst := stays_int keep i d.files[i].wet.length
          rw [hg] at hst
          have t1' := Int.lt_tmod_of_pos keep[i] (show 0 < (d.files[i].wet.length : Int) + 1 by omega)
          have t2' := Int.tmod_lt_of_pos keep[i] (show 0 < (d.files[i].wet.length : Int) + 1 by omega)
          simp (implicitDefEqProofs := false) (maxSteps := 1000000) (disch := first | omega | with_reducible assumption | (simp only [lenT, Nat.reduceAdd]; omega)) only [amT, cut, bnd, Nat.reduceBEq, reduceCtorEq, Nat.reduceEqDiff, Nat.reduceAdd, Nat.reduceMul, Nat.reduceSub, Int.reduceToNat, Int.reduceEq, Int.reduceLT, Int.reduceLE, Int.reduceAdd, Int.reduceSub, Int.reduceMul, reduceIte, resVs, resV, packV, initT, addr, F17_l0, t0, t1, t4, t22, t23, t24, h1, hr, fRow, cellsOf_row4, splice4, cutL4, hik, hrk', binV_rem, hst, stepOp_slV_v, hv']
          refine RelC.call hcc ?_
          rintro vd M2 ⟨hO2, hB2⟩
          have hbd := hB2.byv (by rw [mx_size]; have := hD.ex; have := hOM.1; omega)
          obtain ⟨avd, cvd, rfl⟩ := hbd.len
          have hM2s : M.size + 2 ≤ M2.size := Nat.le_trans (by rw [mx_size]; simp) hO2.1
          have hrow2 : M2.get M.size = .cells (fRow d.files[i] a1 c1 a2 c2) 63 true .exact := by rw [hO2.2 _ (by rw [mx_size]; simp)]; exact mx_new0 _ _
          have hOM2 : Old M M2 := (Old.here M _).trans hO2
          simp only [fRow] at hrow2
          cases hb0 : d.files[i].born with
          | true =>
            rw [hb0] at hrow2
            have hon : onFile keep i d.files[i] = some ⟨d.files[i].name, d.files[i].dry ++ d.files[i].wet.take (staysR keep i d.files[i].wet.length), [], true⟩ := by simp [onFile, hb0]
            have hsucc := onFiles_succ keep d.files hi
            rw [hon] at hsucc
            simp only [Option.toList] at hsucc
            have hOM3 : Old M (M2.set M.size (.cells [.string ⟨d.files[i].name.toArray⟩, .slice avd (d.files[i].dry ++ d.files[i].wet.take (staysR keep i d.files[i].wet.length)).length cvd, .slice none 0 0, .bool true] 63 true .exact)) := hOM2.set (Nat.le_refl _) _
            have hbd3 : ByV 5 (M2.set M.size (.cells [.string ⟨d.files[i].name.toArray⟩, .slice avd (d.files[i].dry ++ d.files[i].wet.take (staysR keep i d.files[i].wet.length)).length cvd, .slice none 0 0, .bool true] 63 true .exact)) (.slice avd (d.files[i].dry ++ d.files[i].wet.take (staysR keep i d.files[i].wet.length)).length cvd) (d.files[i].dry ++ d.files[i].wet.take (staysR keep i d.files[i].wet.length)) :=
              hbd.keep (O := fun x => x = M.size) ((Keep.refl (fun x => x = M.size) M2).set (fun _ => rfl) _) fun x X w sp hx e => by subst e; rw [hrow2] at hx; cases hx
            have hFa2 := (hFa.old hOM3).old (Old.here _ [.cells [.string ⟨d.files[i].name.toArray⟩, .slice avd (d.files[i].dry ++ d.files[i].wet.take (staysR keep i d.files[i].wet.length)).length cvd, .slice none 0 0, .bool true] 63 true .exact])
            obtain ⟨v', M', happ, hF', hst'⟩ := app_files (f := ⟨d.files[i].name, d.files[i].dry ++ d.files[i].wet.take (staysR keep i d.files[i].wet.length), [], true⟩) (nb := M2.size) (row := [.string ⟨d.files[i].name.toArray⟩, .slice avd (d.files[i].dry ++ d.files[i].wet.take (staysR keep i d.files[i].wet.length)).length cvd, .slice none 0 0, .bool true]) hFa2 (by have := onFiles_len keep d.files i; omega) (by rw [mx_size, AMem.size_set]; simp) (mx_new0 _ _) ⟨_, _, _, _, rfl, hbd3.old (Old.here _ _), ByV.nil _ _⟩ (fun h => by have := own_lt hFa h; omega)
            obtain ⟨av', cv', rfl⟩ := hF'.len
            rw [← hsucc] at hF' happ hst'
            rw [mx_mx, List.append_nil] at happ
            simp only [zF, List.length_append] at happ
            repeat first | simp (implicitDefEqProofs := false) (maxSteps := 1000000) (disch := first | omega | with_reducible assumption | (simp only [lenT, Nat.reduceAdd]; omega)) only [amT, cut, bnd, Nat.reduceBEq, reduceCtorEq, Nat.reduceEqDiff, Nat.reduceAdd, Nat.reduceMul, Nat.reduceSub, Int.reduceToNat, Int.reduceEq, Int.reduceLT, Int.reduceLE, Int.reduceAdd, Int.reduceSub, Int.reduceMul, reduceIte, resVs, resV, packV, initT, addr, t0, t1, t4, t22, t23, t24, hrow2, fRow, cutL4, fill_row4, stepOp_app_v, List.length_append, happ] | refine OrW.go ?_
            rw [LoopK_normal]; refine ⟨_, ?_, i + 1, M', av', cv', rfl, rfl, ?qm, ?q0, ?q1, ?q4, ?q22, ?q23, ?q24, ?_⟩
            case qm | q0 | q1 | q4 | q22 | q23 | q24 => first | rfl | (simp (implicitDefEqProofs := false) (maxSteps := 1000000) (disch := first | omega | with_reducible assumption | (simp only [lenT, Nat.reduceAdd]; omega)) only [amT, cut, bnd, Nat.reduceBEq, reduceCtorEq, Nat.reduceEqDiff, Nat.reduceAdd, Nat.reduceMul, Nat.reduceSub, Int.reduceToNat, Int.reduceEq, Int.reduceLT, Int.reduceLE, Int.reduceAdd, Int.reduceSub, Int.reduceMul, reduceIte, resVs, resV, packV, initT, addr, t0, t1, t4, t22, t23, t24]; first | done | rfl | (congr 1; omega))
            · omega
            · exact ⟨by omega, hst'.1.keep_old ((hOM.trans hOM3).trans (Old.here _ _)) hown, hF', fun x hx => (hst'.2 x hx).elim (hown x) fun h => by rw [mx_size, AMem.size_set] at h; have := hOM.1; have := hOM2.1; omega⟩
          | false =>
            rw [hb0] at hrow2
            by_cases hlen : (0 : Int) < ((d.files[i].dry ++ d.files[i].wet.take (staysR keep i d.files[i].wet.length)).length : Int)
            · have hlen2 := hlen
              rw [List.length_append] at hlen2
              have hon : onFile keep i d.files[i] = some ⟨d.files[i].name, d.files[i].dry ++ d.files[i].wet.take (staysR keep i d.files[i].wet.length), [], true⟩ := by
                unfold onFile; rw [if_pos]; simp only [Bool.or_eq_true, decide_eq_true_eq]; right; omega
              have hsucc := onFiles_succ keep d.files hi
              rw [hon] at hsucc
              simp only [Option.toList] at hsucc
              have hOM3 : Old M (M2.set M.size (.cells [.string ⟨d.files[i].name.toArray⟩, .slice avd (d.files[i].dry ++ d.files[i].wet.take (staysR keep i d.files[i].wet.length)).length cvd, .slice none 0 0, .bool true] 63 true .exact)) := hOM2.set (Nat.le_refl _) _
              have hbd3 : ByV 5 (M2.set M.size (.cells [.string ⟨d.files[i].name.toArray⟩, .slice avd (d.files[i].dry ++ d.files[i].wet.take (staysR keep i d.files[i].wet.length)).length cvd, .slice none 0 0, .bool true] 63 true .exact)) (.slice avd (d.files[i].dry ++ d.files[i].wet.take (staysR keep i d.files[i].wet.length)).length cvd) (d.files[i].dry ++ d.files[i].wet.take (staysR keep i d.files[i].wet.length)) :=
                hbd.keep (O := fun x => x = M.size) ((Keep.refl (fun x => x = M.size) M2).set (fun _ => rfl) _) fun x X w sp hx e => by subst e; rw [hrow2] at hx; cases hx
              have hFa2 := (hFa.old hOM3).old (Old.here _ [.cells [.string ⟨d.files[i].name.toArray⟩, .slice avd (d.files[i].dry ++ d.files[i].wet.take (staysR keep i d.files[i].wet.length)).length cvd, .slice none 0 0, .bool true] 63 true .exact])
              obtain ⟨v', M', happ, hF', hst'⟩ := app_files (f := ⟨d.files[i].name, d.files[i].dry ++ d.files[i].wet.take (staysR keep i d.files[i].wet.length), [], true⟩) (nb := M2.size) (row := [.string ⟨d.files[i].name.toArray⟩, .slice avd (d.files[i].dry ++ d.files[i].wet.take (staysR keep i d.files[i].wet.length)).length cvd, .slice none 0 0, .bool true]) hFa2 (by have := onFiles_len keep d.files i; omega) (by rw [mx_size, AMem.size_set]; simp) (mx_new0 _ _) ⟨_, _, _, _, rfl, hbd3.old (Old.here _ _), ByV.nil _ _⟩ (fun h => by have := own_lt hFa h; omega)
              obtain ⟨av', cv', rfl⟩ := hF'.len
              rw [← hsucc] at hF' happ hst'
              rw [mx_mx, List.append_nil] at happ
              simp only [zF, List.length_append] at happ
              repeat first | simp (implicitDefEqProofs := false) (maxSteps := 1000000) (disch := first | omega | with_reducible assumption | (simp only [lenT, Nat.reduceAdd]; omega)) only [amT, cut, bnd, Nat.reduceBEq, reduceCtorEq, Nat.reduceEqDiff, Nat.reduceAdd, Nat.reduceMul, Nat.reduceSub, Int.reduceToNat, Int.reduceEq, Int.reduceLT, Int.reduceLE, Int.reduceAdd, Int.reduceSub, Int.reduceMul, reduceIte, resVs, resV, packV, initT, addr, t0, t1, t4, t22, t23, t24, hrow2, hlen2, fRow, cutL4, fill_row4, stepOp_app_v, List.length_append, happ] | refine OrW.go ?_
              rw [LoopK_normal]; refine ⟨_, ?_, i + 1, M', av', cv', rfl, rfl, ?qm, ?q0, ?q1, ?q4, ?q22, ?q23, ?q24, ?_⟩
              case qm | q0 | q1 | q4 | q22 | q23 | q24 => first | rfl | (simp (implicitDefEqProofs := false) (maxSteps := 1000000) (disch := first | omega | with_reducible assumption | (simp only [lenT, Nat.reduceAdd]; omega)) only [amT, cut, bnd, Nat.reduceBEq, reduceCtorEq, Nat.reduceEqDiff, Nat.reduceAdd, Nat.reduceMul, Nat.reduceSub, Int.reduceToNat, Int.reduceEq, Int.reduceLT, Int.reduceLE, Int.reduceAdd, Int.reduceSub, Int.reduceMul, reduceIte, resVs, resV, packV, initT, addr, t0, t1, t4, t22, t23, t24]; first | done | rfl | (congr 1; omega))
              · omega
              · exact ⟨by omega, hst'.1.keep_old ((hOM.trans hOM3).trans (Old.here _ _)) hown, hF', fun x hx => (hst'.2 x hx).elim (hown x) fun h => by rw [mx_size, AMem.size_set] at h; have := hOM.1; have := hOM2.1; omega⟩
            · have hlen2 := hlen
              rw [List.length_append] at hlen2
              have hon : onFile keep i d.files[i] = none := by
                unfold onFile; rw [if_neg]; simp only [hb0, Bool.or_eq_true, decide_eq_true_eq]; simp only [Bool.false_eq_true, false_or]; omega
              have hsucc := onFiles_succ keep d.files hi
              rw [hon] at hsucc
              simp only [Option.toList, List.append_nil] at hsucc
              have hOM3 : Old M (M2.set M.size (.cells [.string ⟨d.files[i].name.toArray⟩, .slice avd (d.files[i].dry ++ d.files[i].wet.take (staysR keep i d.files[i].wet.length)).length cvd, .slice none 0 0, .bool false] 63 true .exact)) := hOM2.set (Nat.le_refl _) _
              repeat first | simp (implicitDefEqProofs := false) (maxSteps := 1000000) (disch := first | omega | with_reducible assumption | (simp only [lenT, Nat.reduceAdd]; omega)) only [amT, cut, bnd, Nat.reduceBEq, reduceCtorEq, Nat.reduceEqDiff, Nat.reduceAdd, Nat.reduceMul, Nat.reduceSub, Int.reduceToNat, Int.reduceEq, Int.reduceLT, Int.reduceLE, Int.reduceAdd, Int.reduceSub, Int.reduceMul, reduceIte, resVs, resV, packV, initT, addr, t0, t1, t4, t22, t23, t24, hrow2, hlen2, fRow, List.length_append] | refine OrW.go ?_
              rw [LoopK_normal]; refine ⟨_, ?_, i + 1, M2.set M.size (.cells [.string ⟨d.files[i].name.toArray⟩, .slice avd (d.files[i].dry ++ d.files[i].wet.take (staysR keep i d.files[i].wet.length)).length cvd, .slice none 0 0, .bool false] 63 true .exact), av, cv, rfl, rfl, ?qm, ?q0, ?q1, ?q4, ?q22, ?q23, ?q24, ?_⟩
              case qm | q0 | q1 | q4 | q22 | q23 | q24 => first | rfl | (simp (implicitDefEqProofs := false) (maxSteps := 1000000) (disch := first | omega | with_reducible assumption | (simp only [lenT, Nat.reduceAdd]; omega)) only [amT, cut, bnd, Nat.reduceBEq, reduceCtorEq, Nat.reduceEqDiff, Nat.reduceAdd, Nat.reduceMul, Nat.reduceSub, Int.reduceToNat, Int.reduceEq, Int.reduceLT, Int.reduceLE, Int.reduceAdd, Int.reduceSub, Int.reduceMul, reduceIte, resVs, resV, packV, initT, addr, t0, t1, t4, t22, t23, t24, hsucc, List.length_append]; first | done | rfl | (congr 1; omega))
              · omega
              · rw [hsucc]
                exact ⟨by omega, hOM.trans hOM3, hFa.old hOM3, hown⟩
        · have hst := stays_none (show keep.length ≤ i by omega) d.files[i].wet.length
          have hv0 := hv'
          rw [show ((staysR keep i d.files[i].wet.length : Nat) : Int) = 0 by rw [hst]; rfl] at hv0
          simp (implicitDefEqProofs := false) (maxSteps := 1000000) (disch := first | omega | with_reducible assumption | (simp only [lenT, Nat.reduceAdd]; omega)) only [amT, cut, bnd, Nat.reduceBEq, reduceCtorEq, Nat.reduceEqDiff, Nat.reduceAdd, Nat.reduceMul, Nat.reduceSub, Int.reduceToNat, Int.reduceEq, Int.reduceLT, Int.reduceLE, Int.reduceAdd, Int.reduceSub, Int.reduceMul, reduceIte, resVs, resV, packV, initT, addr, F17_l0, t0, t1, t4, t22, t23, t24, h1, hr, fRow, cellsOf_row4, splice4, cutL4, hik, stepOp_slV_v, hv0]
          refine RelC.call hcc ?_
          rintro vd M2 ⟨hO2, hB2⟩
          have hbd := hB2.byv (by rw [mx_size]; have := hD.ex; have := hOM.1; omega)
          obtain ⟨avd, cvd, rfl⟩ := hbd.len
          have hM2s : M.size + 2 ≤ M2.size := Nat.le_trans (by rw [mx_size]; simp) hO2.1
          have hrow2 : M2.get M.size = .cells (fRow d.files[i] a1 c1 a2 c2) 63 true .exact := by rw [hO2.2 _ (by rw [mx_size]; simp)]; exact mx_new0 _ _
          have hOM2 : Old M M2 := (Old.here M _).trans hO2
          simp only [fRow] at hrow2
          cases hb0 : d.files[i].born with
          | true =>
            rw [hb0] at hrow2
            have hon : onFile keep i d.files[i] = some ⟨d.files[i].name, d.files[i].dry ++ d.files[i].wet.take (staysR keep i d.files[i].wet.length), [], true⟩ := by simp [onFile, hb0]
            have hsucc := onFiles_succ keep d.files hi
            rw [hon] at hsucc
            simp only [Option.toList] at hsucc
            have hOM3 : Old M (M2.set M.size (.cells [.string ⟨d.files[i].name.toArray⟩, .slice avd (d.files[i].dry ++ d.files[i].wet.take (staysR keep i d.files[i].wet.length)).length cvd, .slice none 0 0, .bool true] 63 true .exact)) := hOM2.set (Nat.le_refl _) _
            have hbd3 : ByV 5 (M2.set M.size (.cells [.string ⟨d.files[i].name.toArray⟩, .slice avd (d.files[i].dry ++ d.files[i].wet.take (staysR keep i d.files[i].wet.length)).length cvd, .slice none 0 0, .bool true] 63 true .exact)) (.slice avd (d.files[i].dry ++ d.files[i].wet.take (staysR keep i d.files[i].wet.length)).length cvd) (d.files[i].dry ++ d.files[i].wet.take (staysR keep i d.files[i].wet.length)) :=
              hbd.keep (O := fun x => x = M.size) ((Keep.refl (fun x => x = M.size) M2).set (fun _ => rfl) _) fun x X w sp hx e => by subst e; rw [hrow2] at hx; cases hx
            have hFa2 := (hFa.old hOM3).old (Old.here _ [.cells [.string ⟨d.files[i].name.toArray⟩, .slice avd (d.files[i].dry ++ d.files[i].wet.take (staysR keep i d.files[i].wet.length)).length cvd, .slice none 0 0, .bool true] 63 true .exact])
            obtain ⟨v', M', happ, hF', hst'⟩ := app_files (f := ⟨d.files[i].name, d.files[i].dry ++ d.files[i].wet.take (staysR keep i d.files[i].wet.length), [], true⟩) (nb := M2.size) (row := [.string ⟨d.files[i].name.toArray⟩, .slice avd (d.files[i].dry ++ d.files[i].wet.take (staysR keep i d.files[i].wet.length)).length cvd, .slice none 0 0, .bool true]) hFa2 (by have := onFiles_len keep d.files i; omega) (by rw [mx_size, AMem.size_set]; simp) (mx_new0 _ _) ⟨_, _, _, _, rfl, hbd3.old (Old.here _ _), ByV.nil _ _⟩ (fun h => by have := own_lt hFa h; omega)
            obtain ⟨av', cv', rfl⟩ := hF'.len
            rw [← hsucc] at hF' happ hst'
            rw [mx_mx, List.append_nil] at happ
            simp only [zF, List.length_append] at happ
            repeat first | simp (implicitDefEqProofs := false) (maxSteps := 1000000) (disch := first | omega | with_reducible assumption | (simp only [lenT, Nat.reduceAdd]; omega)) only [amT, cut, bnd, Nat.reduceBEq, reduceCtorEq, Nat.reduceEqDiff, Nat.reduceAdd, Nat.reduceMul, Nat.reduceSub, Int.reduceToNat, Int.reduceEq, Int.reduceLT, Int.reduceLE, Int.reduceAdd, Int.reduceSub, Int.reduceMul, reduceIte, resVs, resV, packV, initT, addr, t0, t1, t4, t22, t23, t24, hrow2, fRow, cutL4, fill_row4, stepOp_app_v, List.length_append, happ] | refine OrW.go ?_
            rw [LoopK_normal]; refine ⟨_, ?_, i + 1, M', av', cv', rfl, rfl, ?qm, ?q0, ?q1, ?q4, ?q22, ?q23, ?q24, ?_⟩
            case qm | q0 | q1 | q4 | q22 | q23 | q24 => first | rfl | (simp (implicitDefEqProofs := false) (maxSteps := 1000000) (disch := first | omega | with_reducible assumption | (simp only [lenT, Nat.reduceAdd]; omega)) only [amT, cut, bnd, Nat.reduceBEq, reduceCtorEq, Nat.reduceEqDiff, Nat.reduceAdd, Nat.reduceMul, Nat.reduceSub, Int.reduceToNat, Int.reduceEq, Int.reduceLT, Int.reduceLE, Int.reduceAdd, Int.reduceSub, Int.reduceMul, reduceIte, resVs, resV, packV, initT, addr, t0, t1, t4, t22, t23, t24]; first | done | rfl | (congr 1; omega))
            · omega
            · exact ⟨by omega, hst'.1.keep_old ((hOM.trans hOM3).trans (Old.here _ _)) hown, hF', fun x hx => (hst'.2 x hx).elim (hown x) fun h => by rw [mx_size, AMem.size_set] at h; have := hOM.1; have := hOM2.1; omega⟩
          | false =>
            rw [hb0] at hrow2
            by_cases hlen : (0 : Int) < ((d.files[i].dry ++ d.files[i].wet.take (staysR keep i d.files[i].wet.length)).length : Int)
            · have hlen2 := hlen
              rw [List.length_append] at hlen2
              have hon : onFile keep i d.files[i] = some ⟨d.files[i].name, d.files[i].dry ++ d.files[i].wet.take (staysR keep i d.files[i].wet.length), [], true⟩ := by
                unfold onFile; rw [if_pos]; simp only [Bool.or_eq_true, decide_eq_true_eq]; right; omega
              have hsucc := onFiles_succ keep d.files hi
              rw [hon] at hsucc
              simp only [Option.toList] at hsucc
              have hOM3 : Old M (M2.set M.size (.cells [.string ⟨d.files[i].name.toArray⟩, .slice avd (d.files[i].dry ++ d.files[i].wet.take (staysR keep i d.files[i].wet.length)).length cvd, .slice none 0 0, .bool true] 63 true .exact)) := hOM2.set (Nat.le_refl _) _
              have hbd3 : ByV 5 (M2.set M.size (.cells [.string ⟨d.files[i].name.toArray⟩, .slice avd (d.files[i].dry ++ d.files[i].wet.take (staysR keep i d.files[i].wet.length)).length cvd, .slice none 0 0, .bool true] 63 true .exact)) (.slice avd (d.files[i].dry ++ d.files[i].wet.take (staysR keep i d.files[i].wet.length)).length cvd) (d.files[i].dry ++ d.files[i].wet.take (staysR keep i d.files[i].wet.length)) :=
                hbd.keep (O := fun x => x = M.size) ((Keep.refl (fun x => x = M.size) M2).set (fun _ => rfl) _) fun x X w sp hx e => by subst e; rw [hrow2] at hx; cases hx
              have hFa2 := (hFa.old hOM3).old (Old.here _ [.cells [.string ⟨d.files[i].name.toArray⟩, .slice avd (d.files[i].dry ++ d.files[i].wet.take (staysR keep i d.files[i].wet.length)).length cvd, .slice none 0 0, .bool true] 63 true .exact])
              obtain ⟨v', M', happ, hF', hst'⟩ := app_files (f := ⟨d.files[i].name, d.files[i].dry ++ d.files[i].wet.take (staysR keep i d.files[i].wet.length), [], true⟩) (nb := M2.size) (row := [.string ⟨d.files[i].name.toArray⟩, .slice avd (d.files[i].dry ++ d.files[i].wet.take (staysR keep i d.files[i].wet.length)).length cvd, .slice none 0 0, .bool true]) hFa2 (by have := onFiles_len keep d.files i; omega) (by rw [mx_size, AMem.size_set]; simp) (mx_new0 _ _) ⟨_, _, _, _, rfl, hbd3.old (Old.here _ _), ByV.nil _ _⟩ (fun h => by have := own_lt hFa h; omega)
              obtain ⟨av', cv', rfl⟩ := hF'.len
              rw [← hsucc] at hF' happ hst'
              rw [mx_mx, List.append_nil] at happ
              simp only [zF, List.length_append] at happ
              repeat first | simp (implicitDefEqProofs := false) (maxSteps := 1000000) (disch := first | omega | with_reducible assumption | (simp only [lenT, Nat.reduceAdd]; omega)) only [amT, cut, bnd, Nat.reduceBEq, reduceCtorEq, Nat.reduceEqDiff, Nat.reduceAdd, Nat.reduceMul, Nat.reduceSub, Int.reduceToNat, Int.reduceEq, Int.reduceLT, Int.reduceLE, Int.reduceAdd, Int.reduceSub, Int.reduceMul, reduceIte, resVs, resV, packV, initT, addr, t0, t1, t4, t22, t23, t24, hrow2, hlen2, fRow, cutL4, fill_row4, stepOp_app_v, List.length_append, happ] | refine OrW.go ?_
              rw [LoopK_normal]; refine ⟨_, ?_, i + 1, M', av', cv', rfl, rfl, ?qm, ?q0, ?q1, ?q4, ?q22, ?q23, ?q24, ?_⟩
              case qm | q0 | q1 | q4 | q22 | q23 | q24 => first | rfl | (simp (implicitDefEqProofs := false) (maxSteps := 1000000) (disch := first | omega | with_reducible assumption | (simp only [lenT, Nat.reduceAdd]; omega)) only [amT, cut, bnd, Nat.reduceBEq, reduceCtorEq, Nat.reduceEqDiff, Nat.reduceAdd, Nat.reduceMul, Nat.reduceSub, Int.reduceToNat, Int.reduceEq, Int.reduceLT, Int.reduceLE, Int.reduceAdd, Int.reduceSub, Int.reduceMul, reduceIte, resVs, resV, packV, initT, addr, t0, t1, t4, t22, t23, t24]; first | done | rfl | (congr 1; omega))
              · omega
              · exact ⟨by omega, hst'.1.keep_old ((hOM.trans hOM3).trans (Old.here _ _)) hown, hF', fun x hx => (hst'.2 x hx).elim (hown x) fun h => by rw [mx_size, AMem.size_set] at h; have := hOM.1; have := hOM2.1; omega⟩
            · have hlen2 := hlen
              rw [List.length_append] at hlen2
              have hon : onFile keep i d.files[i] = none := by
                unfold onFile; rw [if_neg]; simp only [hb0, Bool.or_eq_true, decide_eq_true_eq]; simp only [Bool.false_eq_true, false_or]; omega
              have hsucc := onFiles_succ keep d.files hi
              rw [hon] at hsucc
              simp only [Option.toList, List.append_nil] at hsucc
              have hOM3 : Old M (M2.set M.size (.cells [.string ⟨d.files[i].name.toArray⟩, .slice avd (d.files[i].dry ++ d.files[i].wet.take (staysR keep i d.files[i].wet.length)).length cvd, .slice none 0 0, .bool false] 63 true .exact)) := hOM2.set (Nat.le_refl _) _
              repeat first | simp (implicitDefEqProofs := false) (maxSteps := 1000000) (disch := first | omega | with_reducible assumption | (simp only [lenT, Nat.reduceAdd]; omega)) only [amT, cut, bnd, Nat.reduceBEq, reduceCtorEq, Nat.reduceEqDiff, Nat.reduceAdd, Nat.reduceMul, Nat.reduceSub, Int.reduceToNat, Int.reduceEq, Int.reduceLT, Int.reduceLE, Int.reduceAdd, Int.reduceSub, Int.reduceMul, reduceIte, resVs, resV, packV, initT, addr, t0, t1, t4, t22, t23, t24, hrow2, hlen2, fRow, List.length_append] | refine OrW.go ?_
              rw [LoopK_normal]; refine ⟨_, ?_, i + 1, M2.set M.size (.cells [.string ⟨d.files[i].name.toArray⟩, .slice avd (d.files[i].dry ++ d.files[i].wet.take (staysR keep i d.files[i].wet.length)).length cvd, .slice none 0 0, .bool false] 63 true .exact), av, cv, rfl, rfl, ?qm, ?q0, ?q1, ?q4, ?q22, ?q23, ?q24, ?_⟩
              case qm | q0 | q1 | q4 | q22 | q23 | q24 => first | rfl | (simp (implicitDefEqProofs := false) (maxSteps := 1000000) (disch := first | omega | with_reducible assumption | (simp only [lenT, Nat.reduceAdd]; omega)) only [amT, cut, bnd, Nat.reduceBEq, reduceCtorEq, Nat.reduceEqDiff, Nat.reduceAdd, Nat.reduceMul, Nat.reduceSub, Int.reduceToNat, Int.reduceEq, Int.reduceLT, Int.reduceLE, Int.reduceAdd, Int.reduceSub, Int.reduceMul, reduceIte, resVs, resV, packV, initT, addr, t0, t1, t4, t22, t23, t24, hsucc, List.length_append]; first | done | rfl | (congr 1; omega))
              · omega
              · rw [hsucc]
                exact ⟨by omega, hOM.trans hOM3, hFa.old hOM3, hown⟩
      · obtain rfl : i = d.files.length := by omega
        have hdM : M.get p = .cells (DiskR.cells { d with set := -1 } (.slice a d.files.length cap)) 60 true .exact := by rw [hOM.2 p hD1.lt]; exact hD1.get
        have hpM : p < M.size := Nat.lt_of_lt_of_le hD1.lt hOM.1
        have hF3 := hFa.setp hdM (by decide) (by decide) (.cells (DiskR.cells { d with files := onFiles keep d.files d.files.length, set := -1, off := false } (.slice av (onFiles keep d.files d.files.length).length cv)) 60 true .exact)
        have hDA : DAt (M.set p (.cells (DiskR.cells { d with files := onFiles keep d.files d.files.length, set := -1, off := false } (.slice av (onFiles keep d.files d.files.length).length cv)) 60 true .exact)) p (.slice av (onFiles keep d.files d.files.length).length cv) { d with files := onFiles keep d.files d.files.length, set := -1, off := false } := ⟨hpM, AMem.get_set_self _ _ _, hF3, by rw [AMem.size_set]; have := hD1.ex; have := hOM.1; omega⟩
        have hst2 : DStep p (.slice a d.files.length cap) m1 (.slice av (onFiles keep d.files d.files.length).length cv) (M.set p (.cells (DiskR.cells { d with files := onFiles keep d.files d.files.length, set := -1, off := false } (.slice av (onFiles keep d.files d.files.length).length cv)) 60 true .exact)) :=
          ⟨(hOM.keep _).set (fun _ => .inl rfl) _, fun x hx => .inr (hown x hx)⟩
        have hst3 := hst1.trans hst2
        simp only [DiskR.cells] at hdM hDA hst3
        rw [hoff] at hdM
        repeat first | simp (implicitDefEqProofs := false) (maxSteps := 1000000) (disch := first | omega | with_reducible assumption | (simp only [lenT, Nat.reduceAdd]; omega)) only [amT, cut, bnd, Nat.reduceBEq, reduceCtorEq, Nat.reduceEqDiff, Nat.reduceAdd, Nat.reduceMul, Nat.reduceSub, Int.reduceToNat, Int.reduceEq, Int.reduceLT, Int.reduceLE, Int.reduceAdd, Int.reduceSub, Int.reduceMul, reduceIte, resVs, resV, packV, initT, addr, F17_l0, t0, t1, t4, t22, t23, t24, h1, hdM] | refine OrW.go ?_
        exact ⟨_, rfl, fun _ => ⟨rfl, by rw [e]; exact ⟨_, hDA.old (Old.here _ _), hst3.1.mx _, hst3.2⟩⟩⟩
  · have hoff' : d.off = false := by simpa using hoff
    rw [hoff'] at hd hm1 hd1
    have e : onR d keep = { d with set := -1 } := by simp [onR, hoff']
    repeat first | simp (implicitDefEqProofs := false) (maxSteps := 1000000) (disch := first | omega | with_reducible assumption | (simp only [lenT, Nat.reduceAdd]; omega)) only [amT, cut, bnd, Nat.reduceBEq, reduceCtorEq, Nat.reduceEqDiff, Nat.reduceAdd, Nat.reduceMul, Nat.reduceSub, Int.reduceToNat, Int.reduceEq, Int.reduceLT, Int.reduceLE, Int.reduceAdd, Int.reduceSub, Int.reduceMul, reduceIte, resVs, resV, packV, initT, addr, F17, eqV_pn, hd, hm1, hd1] | refine OrW.go ?_
    exact ⟨_, rfl, fun _ => ⟨rfl, by rw [e]; exact ⟨_, hD1.old (Old.here _ _), hst1.1.mx _, hst1.2⟩⟩⟩
end Go.Proofs.Ytbmjhiifinjieaa
namespace Go.Proofs.Ytbmjhiifinjieaa
open Go Go.AM
set_option linter.unusedVariables false
set_option linter.unusedSimpArgs false
set_option linter.unusedSectionVars false
variable [Ex]

def getF (fs : List FileR) (s : List UInt8) : Option FileR := fs.find? fun f => decide (f.name = s)
theorem getF_cons (f : FileR) (fs : List FileR) (s : List UInt8) : getF (f :: fs) s = if f.name = s then some f else getF fs s := by
  simp only [getF, List.find?_cons]; by_cases h : f.name = s <;> simp [h]
theorem getF_name {fs : List FileR} {s : List UInt8} {f : FileR} (h : getF fs s = some f) : f.name = s := by
  have := List.find?_some h; simpa using this
theorem getF_mem {fs : List FileR} {s : List UInt8} {f : FileR} (h : getF fs s = some f) : f ∈ fs := List.mem_of_find?_eq_some h
theorem getF_none {fs : List FileR} {s : List UInt8} (h : ∀ f ∈ fs, f.name ≠ s) : getF fs s = none := by
  rw [getF, List.find?_eq_none]; intro f hf; simpa using h f hf
theorem place_cons (f : FileR) (fs : List FileR) (s : List UInt8) : place (f :: fs) s = if ltB f.name s = true then place fs s + 1 else 0 := by
  simp only [place, List.findIdx_cons]; cases ltB f.name s <;> simp
theorem isAt_cons (f : FileR) (fs : List FileR) (s : List UInt8) : isAt (f :: fs) s = if ltB f.name s = true then isAt fs s else decide (f.name = s) := by
  unfold isAt; rw [place_cons]; by_cases h : ltB f.name s = true <;> simp [h]
theorem fileAt_cons (f : FileR) (fs : List FileR) (s : List UInt8) : fileAt (f :: fs) s = if ltB f.name s = true then fileAt fs s else f := by
  unfold fileAt; rw [place_cons]; by_cases h : ltB f.name s = true <;> simp [h]
theorem Sorted.tl {f : FileR} {fs : List FileR} (h : Sorted (f :: fs)) : Sorted fs := (List.pairwise_cons.1 h).2
theorem Sorted.hd {f : FileR} {fs : List FileR} (h : Sorted (f :: fs)) : ∀ g ∈ fs, ltB f.name g.name = true := (List.pairwise_cons.1 h).1
theorem isAt_get : ∀ {fs : List FileR} (h : Sorted fs) (s : List UInt8), (isAt fs s = (getF fs s).isSome) ∧ fileOr fs s = (getF fs s).getD ⟨s, [], [], false⟩
  | [], _, s => ⟨rfl, rfl⟩
  | f :: fs, h, s => by
    have ih := isAt_get h.tl s
    have hor : fileOr (f :: fs) s = if ltB f.name s = true then fileOr fs s else if f.name = s then f else ⟨s, [], [], false⟩ := by
      unfold fileOr; rw [isAt_cons, fileAt_cons]; by_cases h : ltB f.name s = true <;> simp [h]
    rw [hor, isAt_cons, getF_cons]
    by_cases h1 : ltB f.name s = true
    · have h2 : f.name ≠ s := ltB_ne h1
      simp [h1, h2, ih.1, ih.2]
    · by_cases h2 : f.name = s
      · simp only [if_neg h1, if_pos h2]; exact ⟨decide_eq_true h2, rfl⟩
      · have h3 : ltB s f.name = true := by rcases ltB_tri f.name s with h | h | h; exact absurd h h1; exact absurd h h2; exact h
        have h4 : getF fs s = none := getF_none fun g hg e => by
          have := ltB_trans h3 (h.hd g hg); rw [e, ltB_irrefl] at this; cases this
        simp [h1, h2, h4]
theorem fileAt_get {fs : List FileR} (h : Sorted fs) {s : List UInt8} {f : FileR} (hg : getF fs s = some f) : fileAt fs s = f := by
  have h1 := isAt_get h s
  rw [hg] at h1
  have h2 := h1.2
  unfold fileOr at h2
  rw [h1.1] at h2
  exact h2

theorem lay_nil (g : FileR) : layR [] g = [g] := rfl
theorem lay_cons (f : FileR) (fs : List FileR) (g : FileR) : layR (f :: fs) g = if ltB f.name g.name = true then f :: layR fs g else if f.name = g.name then g :: fs else g :: f :: fs := by
  unfold layR
  rw [isAt_cons, place_cons]
  by_cases h1 : ltB f.name g.name = true
  · simp only [if_pos h1, List.set_cons_succ, insR, List.take_succ_cons, List.drop_succ_cons, List.cons_append]
    cases isAt fs g.name <;> simp
  · by_cases h2 : f.name = g.name
    · simp only [if_neg h1, if_pos h2]; rw [if_pos (decide_eq_true h2)]; rfl
    · simp [h1, h2, insR]
theorem mem_lay : ∀ {fs : List FileR} {g x : FileR}, x ∈ layR fs g → x = g ∨ x ∈ fs
  | [], g, x, h => by rw [lay_nil] at h; simpa using h
  | f :: fs, g, x, h => by
    rw [lay_cons] at h
    split at h
    · rcases List.mem_cons.1 h with h | h
      · exact .inr (by simp [h])
      · rcases mem_lay h with h | h
        · exact .inl h
        · exact .inr (by simp [h])
    · split at h
      · rcases List.mem_cons.1 h with h | h
        · exact .inl h
        · exact .inr (by simp [h])
      · rcases List.mem_cons.1 h with h | h
        · exact .inl h
        · exact .inr h
theorem Sorted.lay : ∀ {fs : List FileR} (h : Sorted fs) (g : FileR), Sorted (layR fs g)
  | [], _, g => by rw [lay_nil]; simp [Sorted]
  | f :: fs, h, g => by
    rw [lay_cons]
    split
    · rename_i h1
      refine List.pairwise_cons.2 ⟨fun x hx => ?_, h.tl.lay g⟩
      rcases mem_lay hx with rfl | hx
      · exact h1
      · exact h.hd x hx
    · rename_i h1
      split
      · rename_i h2
        exact List.pairwise_cons.2 ⟨fun x hx => by rw [← h2]; exact h.hd x hx, h.tl⟩
      · rename_i h2
        have h3 : ltB g.name f.name = true := by rcases ltB_tri f.name g.name with h | h | h; exact absurd h h1; exact absurd h h2; exact h
        refine List.pairwise_cons.2 ⟨fun x hx => ?_, h⟩
        rcases List.mem_cons.1 hx with rfl | hx
        · exact h3
        · exact ltB_trans h3 (h.hd x hx)
theorem get_lay : ∀ (fs : List FileR) (g : FileR) (s : List UInt8), getF (layR fs g) s = if g.name = s then some g else getF fs s
  | [], g, s => by rw [lay_nil, getF_cons]
  | f :: fs, g, s => by
    have ih := get_lay fs g s
    rw [lay_cons]
    split
    · rename_i h1
      rw [getF_cons, getF_cons, ih]
      by_cases h2 : g.name = s
      · have : f.name ≠ s := fun e => ltB_ne h1 (e.trans h2.symm)
        simp [h2, this]
      · simp [h2]
    · split
      · rename_i h2
        rw [getF_cons, getF_cons, h2]
        by_cases h3 : g.name = s <;> simp [h3]
      · rw [getF_cons]
def sizeOf' (o : Option FileR) : Nat := match o with | some f => f.size | none => 0
theorem used_cons (f : FileR) (fs : List FileR) : usedR (f :: fs) = f.size + usedR fs := by simp [usedR]
theorem used_lay : ∀ {fs : List FileR} (h : Sorted fs) (g : FileR), usedR (layR fs g) + sizeOf' (getF fs g.name) = usedR fs + g.size
  | [], _, g => by rw [lay_nil]; simp [used_cons, getF, sizeOf', usedR]
  | f :: fs, h, g => by
    have ih := used_lay h.tl g
    rw [lay_cons, getF_cons]
    split
    · rename_i h1
      have h2 : f.name ≠ g.name := ltB_ne h1
      rw [used_cons, used_cons]; simp only [if_neg h2]; omega
    · rename_i h1
      split
      · rw [used_cons, used_cons]; simp only [sizeOf']; omega
      · rename_i h2
        have h3 : ltB g.name f.name = true := by rcases ltB_tri f.name g.name with h | h | h; exact absurd h h1; exact absurd h h2; exact h
        have h4 : getF fs g.name = none := getF_none fun x hx e => by
          have := ltB_trans h3 (h.hd x hx); rw [e, ltB_irrefl] at this; cases this
        rw [used_cons, used_cons, h4]; simp only [sizeOf']; omega
theorem len_lay (fs : List FileR) (g : FileR) : (layR fs g).length ≤ fs.length + 1 := by
  unfold layR; split
  · simp
  · simp only [insR, List.length_append, List.length_take, List.length_drop, List.length_cons, List.length_nil]; omega

def delR (fs : List FileR) (t : List UInt8) : List FileR := fs.eraseIdx (place fs t)
theorem del_cons (f : FileR) (fs : List FileR) (t : List UInt8) : delR (f :: fs) t = if ltB f.name t = true then f :: delR fs t else fs := by
  unfold delR; rw [place_cons]; split <;> simp
theorem get_del : ∀ {fs : List FileR} (h : Sorted fs) {t : List UInt8} (ht : isAt fs t = true) (s : List UInt8), getF (delR fs t) s = if t = s then none else getF fs s
  | [], _, t, ht, s => by cases ht
  | f :: fs, h, t, ht, s => by
    rw [isAt_cons] at ht
    rw [del_cons]
    split
    · rename_i h1
      rw [if_pos h1] at ht
      have ih := get_del h.tl ht s
      rw [getF_cons, getF_cons, ih]
      by_cases h2 : t = s
      · have : f.name ≠ s := fun e => ltB_ne h1 (e.trans h2.symm)
        simp [h2, this]
      · simp [h2]
    · rename_i h1
      rw [if_neg h1] at ht
      have hf : f.name = t := by simpa using ht
      rw [getF_cons, hf]
      by_cases h2 : t = s
      · rw [if_pos h2]
        exact getF_none fun x hx e => by have := h.hd x hx; rw [e, hf, h2, ltB_irrefl] at this; cases this
      · simp [h2]
theorem used_del : ∀ {fs : List FileR} (h : Sorted fs) {t : List UInt8} (ht : isAt fs t = true), usedR (delR fs t) + (fileAt fs t).size = usedR fs
  | [], _, t, ht => by cases ht
  | f :: fs, h, t, ht => by
    rw [isAt_cons] at ht
    rw [del_cons, fileAt_cons]
    split
    · rename_i h1
      rw [if_pos h1] at ht
      have ih := used_del h.tl ht
      rw [used_cons, used_cons]; omega
    · rw [used_cons]; omega
theorem len_del (fs : List FileR) (t : List UInt8) : (delR fs t).length ≤ fs.length := by unfold delR; exact List.length_eraseIdx_le _ _

def onS (keep : List Int) : Nat → List FileR → List FileR
  | _, [] => []
  | k, f :: fs => (onFile keep k f).toList ++ onS keep (k + 1) fs
theorem onS_eq' (keep : List Int) : ∀ (fs : List FileR) (k : Nat), (List.range fs.length).filterMap (fun i => (fs[i]?).bind (onFile keep (k + i))) = onS keep k fs
  | [], k => rfl
  | f :: fs, k => by
    have ih := onS_eq' keep fs (k + 1)
    rw [List.length_cons, List.range_succ_eq_map, List.filterMap_cons, List.filterMap_map]
    simp only [List.getElem?_cons_zero, Option.bind_some, Nat.add_zero, Function.comp_def, List.getElem?_cons_succ, onS, ← ih]
    have e : (fun x => (fs[x]?).bind (onFile keep (k + (x + 1)))) = fun x => (fs[x]?).bind (onFile keep (k + 1 + x)) := by funext x; rw [show k + (x + 1) = k + 1 + x by omega]
    simp only [Nat.succ_eq_add_one]
    rw [e]
    cases onFile keep k f <;> rfl
theorem onS_eq (keep : List Int) (fs : List FileR) : onFiles keep fs fs.length = onS keep 0 fs := by
  rw [← onS_eq' keep fs 0]; simp [onFiles]
theorem onFile_name {keep : List Int} {i : Nat} {f g : FileR} (h : onFile keep i f = some g) : g.name = f.name ∧ g.size ≤ f.size := by
  unfold onFile at h
  split at h
  · cases h
    have := stays_le keep i f.wet.length
    refine ⟨rfl, ?_⟩
    simp only [FileR.size, List.length_append, List.length_take, List.length_nil]; omega
  · cases h
theorem mem_onS {keep : List Int} : ∀ {fs : List FileR} {k : Nat} {x : FileR}, x ∈ onS keep k fs → ∃ f ∈ fs, x.name = f.name
  | f :: fs, k, x, h => by
    rw [onS, List.mem_append] at h
    rcases h with h | h
    · exact ⟨f, by simp, (onFile_name (by simpa using h)).1⟩
    · obtain ⟨g, h1, h2⟩ := mem_onS h
      exact ⟨g, by simp [h1], h2⟩
theorem Sorted.onS {keep : List Int} : ∀ {fs : List FileR} (h : Sorted fs) (k : Nat), Sorted (onS keep k fs)
  | [], _, _ => .nil
  | f :: fs, h, k => by
    rw [Ytbmjhiifinjieaa.onS]
    cases he : onFile keep k f with
    | none => exact h.tl.onS (k + 1)
    | some g =>
      refine List.pairwise_cons.2 ⟨fun x hx => ?_, h.tl.onS (k + 1)⟩
      obtain ⟨y, h1, h2⟩ := mem_onS hx
      rw [h2, (onFile_name he).1]; exact h.hd y h1
theorem get_onS {keep : List Int} : ∀ {fs : List FileR} (h : Sorted fs) (k : Nat) (s : List UInt8), ∃ i, k ≤ i ∧ i < k + max 1 fs.length ∧ getF (onS keep k fs) s = (getF fs s).bind (onFile keep i)
  | [], _, k, s => ⟨k, Nat.le_refl _, by simp, rfl⟩
  | f :: fs, h, k, s => by
    obtain ⟨i, h0, h00, h1⟩ := get_onS (keep := keep) h.tl (k + 1) s
    rw [Ytbmjhiifinjieaa.onS, getF_cons]
    have hlt : i < k + max 1 (f :: fs).length ∨ fs = [] := by cases fs with | nil => exact .inr rfl | cons a b => left; simp only [List.length_cons] at h00 ⊢; omega
    by_cases hs : f.name = s
    · refine ⟨k, Nat.le_refl _, by omega, ?_⟩
      rw [if_pos hs, Option.bind_some]
      cases he : onFile keep k f with
      | some g => simp only [Option.toList, List.singleton_append]; rw [getF_cons, (onFile_name he).1, if_pos hs]
      | none =>
        show getF (Ytbmjhiifinjieaa.onS keep (k + 1) fs) s = none
        exact getF_none fun x hx e => by
          obtain ⟨y, h2, h3⟩ := mem_onS hx
          have := h.hd y h2; rw [← h3, e, hs, ltB_irrefl] at this; cases this
    · have e : getF ((onFile keep k f).toList ++ Ytbmjhiifinjieaa.onS keep (k + 1) fs) s = getF (Ytbmjhiifinjieaa.onS keep (k + 1) fs) s := by
        cases he : onFile keep k f with
        | none => rfl
        | some g => simp only [Option.toList, List.singleton_append]; rw [getF_cons, (onFile_name he).1, if_neg hs]
      rw [e, if_neg hs]
      rcases hlt with hlt | rfl
      · exact ⟨i, by omega, hlt, h1⟩
      · exact ⟨k, Nat.le_refl _, by omega, rfl⟩
theorem used_onS {keep : List Int} : ∀ (fs : List FileR) (k : Nat), usedR (onS keep k fs) ≤ usedR fs ∧ (onS keep k fs).length ≤ fs.length
  | [], k => ⟨Nat.le_refl _, Nat.le_refl _⟩
  | f :: fs, k => by
    have ih := used_onS (keep := keep) fs (k + 1)
    rw [Ytbmjhiifinjieaa.onS, used_cons]
    cases he : onFile keep k f with
    | none => simp only [Option.toList, List.nil_append, List.length_cons]; omega
    | some g =>
      have := (onFile_name he).2
      simp only [Option.toList, List.singleton_append, List.length_cons]; rw [used_cons]; omega

/-- At most so many things were done, of at most 1000 bytes each. -/
structure Bud (d : DiskR) (k : Nat) : Prop where
  sorted : Sorted d.files
  few : d.files.length ≤ k
  used : usedR d.files ≤ 1000 * k
  q0 : 0 ≤ d.quota
  q1 : d.quota ≤ 9223372036854775807
  s0 : 0 ≤ d.steps
  s1 : d.steps ≤ k
  t0 : -1 ≤ d.set
  t1 : d.set ≤ 9223372036854775807
theorem Bud.ok {d : DiskR} {k : Nat} (h : Bud d k) (hk : k ≤ 10000) : DOk d :=
  ⟨h.sorted, by have := h.few; omega, by have := h.used; omega, h.q0, h.q1, h.s0, by have := h.s1; omega, h.t0, h.t1⟩
theorem Bud.up {d : DiskR} {k k' : Nat} (h : Bud d k) (hk : k ≤ k') : Bud d k' :=
  ⟨h.sorted, by have := h.few; omega, by have := h.used; omega, h.q0, h.q1, h.s0, by have := h.s1; omega, h.t0, h.t1⟩
theorem Bud.new {q : Int} (h : q ≤ 9223372036854775807) : Bud (newR q) 0 := ⟨.nil, Nat.le_refl _, Nat.le_refl _, by simp only [newR]; omega, by simp only [newR]; omega, Int.le_refl _, Int.le_refl _, by simp [newR], by simp [newR]⟩
theorem Bud.step {d : DiskR} {k : Nat} (h : Bud d k) : Bud d.step (k + 1) := by
  have h1 := h.few; have h2 := h.used; have h3 := h.s1; have h4 := h.s0; have h5 := h.t0; have h6 := h.t1
  unfold DiskR.step
  split
  · exact ⟨h.sorted, by simp; omega, by simp; omega, h.q0, h.q1, by simp; omega, by simp; omega, by simp, by simp⟩
  · exact ⟨h.sorted, by simp; omega, by simp; omega, h.q0, h.q1, by simp; omega, by simp; omega, by simp only []; omega, by simp only []; omega⟩
theorem Bud.files {d : DiskR} {k k' : Nat} (h : Bud d k) (hk : k ≤ k') {fs : List FileR} (h1 : Sorted fs) (h2 : fs.length ≤ k') (h3 : usedR fs ≤ 1000 * k') : Bud { d with files := fs } k' :=
  ⟨h1, h2, h3, h.q0, h.q1, h.s0, by have := h.s1; simp only []; omega, h.t0, h.t1⟩
theorem Bud.append {d : DiskR} {k : Nat} (h : Bud d k) (s c : List UInt8) (hc : c.length ≤ 1000) : Bud (appendR d s c).2 (k + 1) := by
  have hu := used_lay h.sorted { fileOr d.files s with wet := (fileOr d.files s).wet ++ c }
  have hl := len_lay d.files { fileOr d.files s with wet := (fileOr d.files s).wet ++ c }
  have h1 := h.few; have h2 := h.used
  have hsz : sizeOf' (getF d.files s) = (fileOr d.files s).size := by rw [(isAt_get h.sorted s).2]; cases getF d.files s <;> rfl
  simp only [fileOr_name] at hu
  rw [hsz] at hu
  have hs2 : (FileR.mk s (fileOr d.files s).dry ((fileOr d.files s).wet ++ c) (fileOr d.files s).born).size = (fileOr d.files s).size + c.length := by simp only [FileR.size, List.length_append]; omega
  simp only [hs2] at hu
  unfold appendR
  split
  · split
    · exact h.up (by omega)
    · split
      · exact h.up (by omega)
      · have hn := fileOr_name d.files s
        have := (h.up (k' := k) (Nat.le_refl _))
        have hb : Bud (DiskR.step d) (k + 1) := h.step
        have e : DiskR.step { d with files := layR d.files { fileOr d.files s with wet := (fileOr d.files s).wet ++ c } } = { d.step with files := layR d.files { fileOr d.files s with wet := (fileOr d.files s).wet ++ c } } := by unfold DiskR.step; split <;> rfl
        simp only []
        rw [e]
        refine hb.files (Nat.le_refl _) (h.sorted.lay _) (by omega) ?_
        simp only [hn]; omega
  · exact h.up (by omega)
theorem Bud.dries {d : DiskR} {k : Nat} (h : Bud d k) (a b : List UInt8) (L : List UInt8 → Option (List UInt8)) (hL : ∀ c c', L c = some c' → c'.length ≤ c.length) : Bud (driesR d a b L).2 (k + 1) := by
  have h1 := h.few; have h2 := h.used
  unfold driesR
  split
  · split
    · rename_i hat
      have hud := used_del h.sorted hat
      have hld := len_del d.files a
      split
      · exact h.up (by omega)
      · rename_i c hc
        split
        · exact h.step
        · have hs : Sorted (delR d.files a) := h.sorted.erase _
          have hu := used_lay hs ⟨b, c, [], true⟩
          have hl := len_lay (delR d.files a) ⟨b, c, [], true⟩
          have := hL _ _ hc
          have e1 : (FileR.mk b c [] true).size = c.length := by simp [FileR.size]
          have e2 : (fileAt d.files a).all.length = (fileAt d.files a).size := by simp [FileR.all, FileR.size]
          refine h.step.files (Nat.le_refl _) (hs.lay _) ?_ ?_
          · show (layR (delR d.files a) ⟨b, c, [], true⟩).length ≤ k + 1
            omega
          · show usedR (layR (delR d.files a) ⟨b, c, [], true⟩) ≤ 1000 * (k + 1)
            omega
    · exact h.up (by omega)
  · exact h.up (by omega)
theorem Bud.remove {d : DiskR} {k : Nat} (h : Bud d k) (a : List UInt8) : Bud (removeR d a).2 (k + 1) := by
  have h1 := h.few; have h2 := h.used
  unfold removeR
  split
  · split
    · rename_i hat
      have hud := used_del h.sorted hat
      have hld := len_del d.files a
      split
      · exact h.step
      · refine h.step.files (Nat.le_refl _) (h.sorted.erase _) ?_ ?_
        · show (delR d.files a).length ≤ k + 1
          omega
        · show usedR (delR d.files a) ≤ 1000 * (k + 1)
          omega
    · exact h.up (by omega)
  · exact h.up (by omega)
theorem Bud.on {d : DiskR} {k : Nat} (h : Bud d k) (keep : List Int) : Bud (onR d keep) k := by
  have h1 := h.few; have h2 := h.used
  unfold onR
  split
  · rw [onS_eq]
    have := used_onS (keep := keep) d.files 0
    exact ⟨h.sorted.onS 0, by simp only []; omega, by simp only []; omega, h.q0, h.q1, h.s0, h.s1, by simp, by simp⟩
  · exact ⟨h.sorted, h1, h2, h.q0, h.q1, h.s0, h.s1, by simp, by simp⟩
def crashR (d : DiskR) : DiskR := { d with set := -1, off := true }
def failR (d : DiskR) (n : Int) : DiskR := { d with set := max (-1) n }
theorem Bud.crash {d : DiskR} {k : Nat} (h : Bud d k) : Bud (crashR d) k := ⟨h.sorted, h.few, h.used, h.q0, h.q1, h.s0, h.s1, by simp [crashR], by simp [crashR]⟩
theorem Bud.fail {d : DiskR} {k : Nat} (h : Bud d k) {n : Int} (hn : n ≤ 9223372036854775807) : Bud (failR d n) k := ⟨h.sorted, h.few, h.used, h.q0, h.q1, h.s0, h.s1, by simp only [failR]; omega, by simp only [failR]; omega⟩
end Go.Proofs.Ytbmjhiifinjieaa
namespace Go.AM
theorem bsl_new (M : AMem) (l : List AObj) (k : Nat) {c : List UInt8} {e : TypeId} {w : Bool} {sp : Spare} {cap : Nat} (h : l[k]? = some (.cells (c.map byteV) e w sp)) (hc : cap < openCap) (hl : c.length ≤ cap) : BSl (mx M l) (some ⟨M.size + k, 0, none⟩) cap c := by
  have hk : k < l.length := (List.getElem?_eq_some_iff.1 h).1
  have hg : (mx M l).get (M.size + k) = .cells (c.map byteV) e w sp := by rw [mx_new]; simp [List.getD, h]
  exact .inr ⟨_, _, _, _, _, _, rfl, by rw [mx_size]; omega, hg, cutL_all (by simp), .inr ⟨hc, hl⟩⟩
theorem intv_new (M : AMem) (l : List AObj) (k : Nat) {c : List Int} {e : TypeId} {w : Bool} {sp : Spare} {cap : Nat} (h : l[k]? = some (.cells (c.map fun x => .int .i64 x) e w sp)) : IntV (mx M l) (.slice (some ⟨M.size + k, 0, none⟩) c.length cap) c := by
  have hk : k < l.length := (List.getElem?_eq_some_iff.1 h).1
  have hg : (mx M l).get (M.size + k) = .cells (c.map fun x => .int .i64 x) e w sp := by rw [mx_new]; simp [List.getD, h]
  refine ⟨_, _, rfl, fun i hi => ⟨_, _, rfl, by rw [mx_size]; omega, ?_⟩⟩
  rw [rd_def, hg, rdO_cells, Nat.zero_add]
  unfold cutL
  rw [if_pos (by simp; omega)]
  simp [hi, List.drop_eq_getElem_cons]
end Go.AM
namespace Go.AM
theorem Buf.bsl' {m M : AMem} {v : Value} {c : List UInt8} {e : TypeId} (h : Buf m M v (c.map byteV) e (.int .u8 0)) : ∃ a cap, v = .slice a c.length cap ∧ BSl M a cap c := by
  rcases h with ⟨h, rfl⟩ | ⟨b, h1, h2, rfl, h4⟩
  · obtain rfl : c = [] := by simpa using h
    exact ⟨none, 0, rfl, .inl ⟨rfl, rfl, rfl⟩⟩
  · exact ⟨_, _, by rw [List.length_map], .inr ⟨b, 0, _, _, _, _, rfl, h2, h4, by rw [← List.length_map (f := byteV)]; exact cutL_all rfl, .inl ⟨rfl, rfl⟩⟩⟩
end Go.AM
namespace Go.Proofs.Ytbmjhiifinjieaa
open Go Go.AM
set_option linter.unusedVariables false
set_option linter.unusedSimpArgs false
set_option linter.unusedSectionVars false
set_option maxHeartbeats 2000000
set_option maxRecDepth 100000
variable [Ex]

/-- A disk all of whose blocks are newer than a memory that is as it was. -/
structure DIn (m0 M : AMem) (p : Nat) (v : Value) (d : DiskR) : Prop where
  here : DAt M p v d
  old : Old m0 M
  ap : m0.size ≤ p
  own : ∀ x, ownV v x → m0.size ≤ x
theorem DIn.mx {m0 M : AMem} {p : Nat} {v : Value} {d : DiskR} (h : DIn m0 M p v d) (l : List AObj) : DIn m0 (mx M l) p v d := ⟨h.here.old (Old.here _ _), h.old.mx _, h.ap, h.own⟩
theorem DIn.step {m0 M M' : AMem} {p : Nat} {v v' : Value} {d d' : DiskR} (h : DIn m0 M p v d) (hs : DStep p v M v' M') (hd : DAt M' p v' d') : DIn m0 M' p v' d' :=
  ⟨hd, hs.1.keep_old h.old (fun x hx => by rcases hx with rfl | hx; exact h.ap; exact h.own x hx), h.ap, fun x hx => by
    rcases hs.2 x hx with h1 | h1
    · exact h.own x h1
    · exact Nat.le_trans h.old.1 h1⟩
theorem DIn.new {m0 M : AMem} (h : Old m0 M) (hx : Ex.x ≤ M.size) (q : Int) : DIn m0 (Go.AM.mx M [.cells ((newR q).cells (.slice none 0 0)) 60 true .exact]) M.size (.slice none 0 0) (newR q) :=
  ⟨new_at M q hx, h.mx _, h.1, fun x ⟨o, l, c, e⟩ => by cases e⟩
variable {m0 M : AMem} {p : Nat} {v : Value} {d : DiskR} {k : Nat}
omit [Ex] in
theorem ByV.swap {m : AMem} {v : Value} {c : List UInt8} {x y : Nat} (h : @ByV ⟨x⟩ 5 m v c) (hy : ∀ X w sp, y < m.size → m.get y ≠ .cells X 5 w sp) : @ByV ⟨y⟩ 5 m v c := by
  rcases h with h | ⟨b, o, cap, X, w, sp, h0, h1, h2, h3, h4, h5⟩
  · exact .inl h
  · exact .inr ⟨b, o, cap, X, w, sp, h0, h1, h2, h3, h4, fun e => hy X w sp (by have e' : b = y := e; omega) (by have e' : b = y := e; rw [← e']; exact h2)⟩
omit [Ex] in
theorem FilesV.swap {m : AMem} {v : Value} {fs : List FileR} {x y : Nat} (h : @FilesV ⟨x⟩ m v fs) (hy : ∀ X w sp, y < m.size → m.get y ≠ .cells X 5 w sp) : @FilesV ⟨y⟩ m v fs := by
  rcases h with h | ⟨b, X, sp, h0, h1, h2, h3, h4, h5, h6⟩
  · exact .inl h
  · refine .inr ⟨b, X, sp, h0, h1, h2, h3, h4, h5, fun k hk => ?_⟩
    obtain ⟨a1, c1, a2, c2, e1, e2, e3⟩ := h6 k hk
    exact ⟨a1, c1, a2, c2, e1, ByV.swap e2 hy, ByV.swap e3 hy⟩
omit [Ex] in
/-- A block that is no bytes' yet. -/
theorem DAt.swap {m m' : AMem} {p : Nat} {v : Value} {d : DiskR} {x y : Nat} (h : @DAt ⟨x⟩ m p v d) (ho : Old m m') (hy : ∀ X w sp, y < m.size → m.get y ≠ .cells X 5 w sp) (hl : y < m'.size) : @DAt ⟨y⟩ m' p v d :=
  @DAt.mk ⟨y⟩ m' p v d (@DAt.lt ⟨x⟩ _ _ _ _ (@DAt.old ⟨x⟩ _ _ _ _ _ h ho)) (@DAt.get ⟨x⟩ _ _ _ _ (@DAt.old ⟨x⟩ _ _ _ _ _ h ho)) (@FilesV.old ⟨y⟩ _ _ _ _ (FilesV.swap (@DAt.files ⟨x⟩ _ _ _ _ h) hy) ho) hl
theorem append_in (h : DIn m0 M p v d) (hb : Bud d k) (hk : k ≤ 10000) (s : List UInt8) (a3 : Option Addr) (cap3 : Nat) (c : List UInt8) (hs : s.length ≤ 9223372036854775807) (hc : BSl M a3 cap3 c) (hcl : c.length ≤ 9223372036854775807) :
    RelC Try.prog 0 14 [.pointer (some ⟨p, 0, none⟩), .string ⟨s.toArray⟩, .slice a3 c.length cap3] M fun r m' => r = .int .i64 (appendR d s c).1 ∧ ∃ v', DIn m0 m' p v' (appendR d s c).2 ∧ DStep p v M v' m' :=
  (append_ok M p v d s a3 cap3 c hs hc hcl h.here (hb.ok hk)).mono fun r m' ⟨h1, v', h2, h3⟩ => ⟨h1, v', h.step h3 h2, h3⟩
theorem sync_in (h : DIn m0 M p v d) (hb : Bud d k) (hk : k ≤ 10000) (s : List UInt8) (hs : s.length ≤ 9223372036854775807) :
    RelC Try.prog 0 15 [.pointer (some ⟨p, 0, none⟩), .string ⟨s.toArray⟩] M fun r m' => r = .int .i64 (driesR d s s some).1 ∧ ∃ v', DIn m0 m' p v' (driesR d s s some).2 ∧ DStep p v M v' m' :=
  (sync_ok M p v d s hs h.here (hb.ok hk)).mono fun r m' ⟨h1, v', h2, h3⟩ => ⟨h1, v', h.step h3 h2, h3⟩
theorem rename_in (h : DIn m0 M p v d) (hb : Bud d k) (hk : k ≤ 10000) (s t : List UInt8) (hs : s.length ≤ 9223372036854775807) (ht : t.length ≤ 9223372036854775807) :
    RelC Try.prog 0 21 [.pointer (some ⟨p, 0, none⟩), .string ⟨s.toArray⟩, .string ⟨t.toArray⟩] M fun r m' => r = .int .i64 (driesR d s t some).1 ∧ ∃ v', DIn m0 m' p v' (driesR d s t some).2 ∧ DStep p v M v' m' :=
  (rename_ok M p v d s t hs ht h.here (hb.ok hk)).mono fun r m' ⟨h1, v', h2, h3⟩ => ⟨h1, v', h.step h3 h2, h3⟩
theorem cut_in (h : DIn m0 M p v d) (hb : Bud d k) (hk : k ≤ 10000) (s : List UInt8) (n : Int) (hs : s.length ≤ 9223372036854775807) :
    RelC Try.prog 0 30 [.pointer (some ⟨p, 0, none⟩), .string ⟨s.toArray⟩, .int .i64 n] M fun r m' => r = .int .i64 (driesR d s s (cutN n)).1 ∧ ∃ v', DIn m0 m' p v' (driesR d s s (cutN n)).2 ∧ DStep p v M v' m' :=
  (cut_ok M p v d s n hs h.here (hb.ok hk)).mono fun r m' ⟨h1, v', h2, h3⟩ => ⟨h1, v', h.step h3 h2, h3⟩
theorem remove_in (h : DIn m0 M p v d) (hb : Bud d k) (hk : k ≤ 10000) (s : List UInt8) (hs : s.length ≤ 9223372036854775807) :
    RelC Try.prog 0 31 [.pointer (some ⟨p, 0, none⟩), .string ⟨s.toArray⟩] M fun r m' => r = .int .i64 (removeR d s).1 ∧ ∃ v', DIn m0 m' p v' (removeR d s).2 ∧ DStep p v M v' m' :=
  (remove_ok M p v d s hs h.here (hb.ok hk)).mono fun r m' ⟨h1, v', h2, h3⟩ => ⟨h1, v', h.step h3 h2, h3⟩
theorem read_in (h : DIn m0 M p v d) (hb : Bud d k) (hk : k ≤ 10000) (s : List UInt8) (hs : s.length ≤ 9223372036854775807) :
    RelC Try.prog 0 18 [.pointer (some ⟨p, 0, none⟩), .string ⟨s.toArray⟩] M fun r m' => ∃ b, r = .tuple #[b, .int .i64 (readR d s).1] ∧ DIn m0 m' p v d ∧ Old M m' ∧ Buf M m' b ((readR d s).2.map byteV) 5 (.int .u8 0) :=
  (read_ok M p v d s hs h.here (hb.ok hk)).mono fun r m' ⟨b, h1, h2, h3⟩ => ⟨b, h1, ⟨h.here.old h2, h.old.trans h2, h.ap, h.own⟩, h2, h3⟩
theorem crash_in (h : DIn m0 M p v d) : RelC Try.prog 0 16 [.pointer (some ⟨p, 0, none⟩)] M fun r m' => r = .tuple #[] ∧ ∃ v', DIn m0 m' p v' (crashR d) ∧ DStep p v M v' m' :=
  (DetC.rel (crash_ok M p h.here.lt h.here.get)).mono fun r m' ⟨h1, h2⟩ => by
    subst h1 h2
    have hs : DStep p v M v (Go.AM.mx (M.set p (.cells ((crashR d).cells v) 60 true .exact)) []) := ⟨(DStep.setp p v M _).1.mx _, fun _ h => .inl h⟩
    exact ⟨rfl, v, h.step hs (DAt.old (d := crashR d) (h.here.put rfl) (Old.here _ _)), hs⟩
theorem fail_in (h : DIn m0 M p v d) (n : Int) : RelC Try.prog 0 12 [.pointer (some ⟨p, 0, none⟩), .int .i64 n] M fun r m' => r = .tuple #[] ∧ ∃ v', DIn m0 m' p v' (failR d n) ∧ DStep p v M v' m' :=
  (DetC.rel (fail_ok M p n h.here.lt h.here.get)).mono fun r m' ⟨h1, h2⟩ => by
    subst h1 h2
    have hs : DStep p v M v (Go.AM.mx (M.set p (.cells ((failR d n).cells v) 60 true .exact)) []) := ⟨(DStep.setp p v M _).1.mx _, fun _ h => .inl h⟩
    exact ⟨rfl, v, h.step hs (DAt.old (d := failR d n) (h.here.put rfl) (Old.here _ _)), hs⟩
theorem on_in (h : DIn m0 M p v d) (hb : Bud d k) (hk : k ≤ 10000) (kv : Value) (keep : List Int) (hv : IntV M kv keep) (hkl : keep.length ≤ 9223372036854775807) (hk64 : ∀ x ∈ keep, -9223372036854775808 ≤ x ∧ x ≤ 9223372036854775807) (hkp : ∀ b o n c, kv = .slice (some ⟨b, o, none⟩) n c → b ≠ p) :
    RelC Try.prog 0 17 [.pointer (some ⟨p, 0, none⟩), kv] M fun r m' => r = .tuple #[] ∧ ∃ v', DIn m0 m' p v' (onR d keep) ∧ DStep p v M v' m' :=
  (on_ok M p v d kv keep hv hkl hk64 h.here (hb.ok hk) hkp).mono fun r m' ⟨h1, v', h2, h3⟩ => ⟨h1, v', h.step h3 h2, h3⟩
theorem used_in (h : DIn m0 M p v d) (hb : Bud d k) (hk : k ≤ 10000) : PureC Try.prog 0 24 [.pointer (some ⟨p, 0, none⟩)] M (.int .i64 (usedR d.files)) := by
  obtain ⟨a, cap, rfl⟩ := h.here.files.len
  have := (hb.ok hk).used; have := (hb.ok hk).few
  exact used_ok M p a cap d.files h.here.lt h.here.get h.here.files (by omega) (by omega)
theorem names_in (h : DIn m0 M p v d) (hb : Bud d k) (hk : k ≤ 10000) : RelC Try.prog 0 20 [.pointer (some ⟨p, 0, none⟩)] M fun r m' => Old M m' ∧ StrsV m' r (d.files.map FileR.name) := by
  obtain ⟨a, cap, rfl⟩ := h.here.files.len
  have := (hb.ok hk).few
  exact names_ok M p a cap d.files h.here.lt h.here.get h.here.files (by omega)

omit [Ex] in
theorem bsl_room (M : AMem) (l : List AObj) (k : Nat) {c : List UInt8} {e : TypeId} {w : Bool} {sp : Spare} (h : l[k]? = some (.cells (c.map byteV) e w sp)) (hs : sp.size = 1) : BSl (mx M l) (some ⟨M.size + k, 0, none⟩) openCap c := by
  have hk : k < l.length := (List.getElem?_eq_some_iff.1 h).1
  have hg : (mx M l).get (M.size + k) = .cells (c.map byteV) e w sp := by rw [mx_new]; simp [List.getD, h]
  exact .inr ⟨_, _, _, _, _, _, rfl, by rw [mx_size]; omega, hg, cutL_all (by simp), .inl ⟨rfl, hs⟩⟩
def W1 : DiskR := ⟨[⟨[97], [], [1, 2], false⟩], 100, 1, -1, false⟩
def W2 : DiskR := ⟨[⟨[97], [1, 2], [], true⟩], 100, 2, -1, false⟩
def W3 : DiskR := ⟨[⟨[97], [1, 2], [3, 4], true⟩], 100, 3, -1, false⟩
def W4 : DiskR := ⟨[⟨[97], [1, 2], [3, 4], true⟩], 100, 3, -1, true⟩
def W5 : DiskR := ⟨[⟨[97], [1, 2, 3], [], true⟩], 100, 3, -1, false⟩
def W6 : DiskR := ⟨[⟨[97], [], [1], false⟩], 9, 1, -1, false⟩
def W7 : DiskR := ⟨[⟨[97], [], [1], false⟩], 9, 1, -1, true⟩
def W8 : DiskR := ⟨[], 9, 1, -1, false⟩
theorem w1 : appendR (newR 100) [97] [1, 2] = (0, W1) := by rfl
theorem w2 : driesR W1 [97] [97] some = (0, W2) := by rfl
theorem w3 : appendR W2 [97] [3, 4] = (0, W3) := by rfl
theorem w4 : crashR W3 = W4 := rfl
theorem w5 : onR W4 [1] = W5 := by rfl
theorem w5r : readR W5 [97] = (0, [1, 2, 3]) := by rfl
theorem w6 : appendR (newR 9) [97] [1] = (0, W6) := by rfl
theorem w7 : crashR W6 = W7 := rfl
theorem w8 : onR W7 [] = W8 := by rfl
omit [Ex] in
theorem works_ok (m : AMem) : PureC Try.prog 0 10 [] m (.bool true) := by
  refine pure_of_W (fn := Try.f10) rfl rfl F10_ok (by simp [F10]) (.bool _) ?_
  letI : Ex := ⟨m.size⟩
  have k11 := DetC.known (new_ok m 100).start
  repeat first | simp (implicitDefEqProofs := false) (maxSteps := 1000000) (disch := first | omega | with_reducible assumption | (simp only [lenT, Nat.reduceAdd]; omega)) only [amT, cut, bnd, Nat.reduceBEq, reduceCtorEq, Nat.reduceEqDiff, Nat.reduceAdd, Nat.reduceMul, Nat.reduceSub, Int.reduceToNat, Int.reduceEq, Int.reduceLT, Int.reduceLE, Int.reduceAdd, Int.reduceSub, Int.reduceMul, reduceIte, resVs, resV, packV, initT, addr, F10, k11] | refine OrW.go ?_
  have o2 : (2 : Nat) < openCap := openCap_lt (by omega)
  have o1 : (1 : Nat) < openCap := openCap_lt (by omega)
  have b0 : Bud (newR 100) 0 := Bud.new (by omega)
  have h0 : DIn m (mx m ([.cells ((newR 100).cells (.slice none 0 0)) 60 true .exact] ++ [.cells [.int .u8 1, .int .u8 2] 5 true .exact])) m.size (.slice none 0 0) (newR 100) := by
    rw [← mx_mx]; exact (DIn.new (Old.refl m) (Nat.le_refl _) 100).mx _
  have b1 := b0.append [97] [1, 2] (by decide)
  have h1 := append_in h0 b0 (by omega) [97] _ 2 [1, 2] (by simp) (bsl_new m _ 1 rfl o2 (by decide)) (by simp)
  rw [w1] at h1 b1
  refine RelC.call h1 ?_
  rintro r M1 ⟨rfl, v1, h1, -⟩
  have b2 := b1.dries [97] [97] some (fun c c' h => by cases h; exact Nat.le_refl _)
  have h2 := (sync_in (h1.mx []) b1 (by omega) [97] (by simp))
  rw [w2] at h2 b2
  repeat first | simp (implicitDefEqProofs := false) (maxSteps := 1000000) (disch := first | omega | with_reducible assumption | (simp only [lenT, Nat.reduceAdd]; omega)) only [amT, cut, bnd, Nat.reduceBEq, reduceCtorEq, Nat.reduceEqDiff, Nat.reduceAdd, Nat.reduceMul, Nat.reduceSub, Int.reduceToNat, Int.reduceEq, Int.reduceLT, Int.reduceLE, Int.reduceAdd, Int.reduceSub, Int.reduceMul, reduceIte, resVs, resV, packV, initT, addr] | refine OrW.go ?_
  refine RelC.call h2 ?_
  rintro r M2 ⟨rfl, v2, h2, -⟩
  repeat first | simp (implicitDefEqProofs := false) (maxSteps := 1000000) (disch := first | omega | with_reducible assumption | (simp only [lenT, Nat.reduceAdd]; omega)) only [amT, cut, bnd, Nat.reduceBEq, reduceCtorEq, Nat.reduceEqDiff, Nat.reduceAdd, Nat.reduceMul, Nat.reduceSub, Int.reduceToNat, Int.reduceEq, Int.reduceLT, Int.reduceLE, Int.reduceAdd, Int.reduceSub, Int.reduceMul, reduceIte, resVs, resV, packV, initT, addr] | refine OrW.go ?_
  have b3 := b2.append [97] [3, 4] (by decide)
  have h3 := append_in (h2.mx [.cells [.int .u8 3, .int .u8 4] 5 true .exact]) b2 (by omega) [97] _ 2 [3, 4] (by simp) (bsl_new M2 _ 0 rfl o2 (by decide)) (by simp)
  rw [w3] at h3 b3
  refine RelC.call h3 ?_
  rintro r M3 ⟨rfl, v3, h3, -⟩
  repeat first | simp (implicitDefEqProofs := false) (maxSteps := 1000000) (disch := first | omega | with_reducible assumption | (simp only [lenT, Nat.reduceAdd]; omega)) only [amT, cut, bnd, Nat.reduceBEq, reduceCtorEq, Nat.reduceEqDiff, Nat.reduceAdd, Nat.reduceMul, Nat.reduceSub, Int.reduceToNat, Int.reduceEq, Int.reduceLT, Int.reduceLE, Int.reduceAdd, Int.reduceSub, Int.reduceMul, reduceIte, resVs, resV, packV, initT, addr] | refine OrW.go ?_
  have h4 := crash_in (h3.mx [])
  have b4 := b3.crash
  rw [w4] at h4 b4
  refine RelC.call h4 ?_
  rintro r M4 ⟨rfl, v4, h4, -⟩
  repeat first | simp (implicitDefEqProofs := false) (maxSteps := 1000000) (disch := first | omega | with_reducible assumption | (simp only [lenT, Nat.reduceAdd]; omega)) only [amT, cut, bnd, Nat.reduceBEq, reduceCtorEq, Nat.reduceEqDiff, Nat.reduceAdd, Nat.reduceMul, Nat.reduceSub, Int.reduceToNat, Int.reduceEq, Int.reduceLT, Int.reduceLE, Int.reduceAdd, Int.reduceSub, Int.reduceMul, reduceIte, resVs, resV, packV, initT, addr] | refine OrW.go ?_
  have h5 := on_in (h4.mx [.cells [.int .i64 1] 3 true .exact]) b4 (by omega) _ [1] (intv_new M4 _ 0 (cap := 1) rfl) (by simp) (by simp) (fun b o n c e => by have := h4.here.lt; cases e; omega)
  have b5 := b4.on [1]
  rw [w5] at h5 b5
  refine RelC.call h5 ?_
  rintro r M5 ⟨rfl, v5, h5, -⟩
  repeat first | simp (implicitDefEqProofs := false) (maxSteps := 1000000) (disch := first | omega | with_reducible assumption | (simp only [lenT, Nat.reduceAdd]; omega)) only [amT, cut, bnd, Nat.reduceBEq, reduceCtorEq, Nat.reduceEqDiff, Nat.reduceAdd, Nat.reduceMul, Nat.reduceSub, Int.reduceToNat, Int.reduceEq, Int.reduceLT, Int.reduceLE, Int.reduceAdd, Int.reduceSub, Int.reduceMul, reduceIte, resVs, resV, packV, initT, addr] | refine OrW.go ?_
  have h5r := read_in (h5.mx []) b5 (by omega) [97] (by simp)
  rw [w5r] at h5r
  refine RelC.call h5r ?_
  rintro r M6 ⟨b, rfl, h6, -, hB⟩
  obtain ⟨ab, cb, rfl, hbs⟩ := hB.bsl'
  have k11' := DetC.known (new_ok M6 9).start
  repeat first | simp (implicitDefEqProofs := false) (maxSteps := 1000000) (disch := first | omega | with_reducible assumption | (simp only [lenT, Nat.reduceAdd]; omega)) only [amT, cut, bnd, Nat.reduceBEq, reduceCtorEq, Nat.reduceEqDiff, Nat.reduceAdd, Nat.reduceMul, Nat.reduceSub, Int.reduceToNat, Int.reduceEq, Int.reduceLT, Int.reduceLE, Int.reduceAdd, Int.reduceSub, Int.reduceMul, reduceIte, resVs, resV, packV, initT, addr, k11'] | refine OrW.go ?_
  have c0 : Bud (newR 9) 0 := Bud.new (by omega)
  have g0 : DIn M6 (mx M6 ([.cells ((newR 9).cells (.slice none 0 0)) 60 true .exact] ++ [.cells [.int .u8 1] 5 true .exact])) M6.size (.slice none 0 0) (newR 9) := by
    rw [← mx_mx]; exact (DIn.new (Old.refl M6) (Nat.le_of_lt h6.here.ex) 9).mx _
  have c1 := c0.append [97] [1] (by decide)
  have g1 := append_in g0 c0 (by omega) [97] _ 1 [1] (by simp) (bsl_new M6 _ 1 rfl o1 (by decide)) (by simp)
  rw [w6] at g1 c1
  refine RelC.call g1 ?_
  rintro r M7 ⟨rfl, u1, g1, -⟩
  repeat first | simp (implicitDefEqProofs := false) (maxSteps := 1000000) (disch := first | omega | with_reducible assumption | (simp only [lenT, Nat.reduceAdd]; omega)) only [amT, cut, bnd, Nat.reduceBEq, reduceCtorEq, Nat.reduceEqDiff, Nat.reduceAdd, Nat.reduceMul, Nat.reduceSub, Int.reduceToNat, Int.reduceEq, Int.reduceLT, Int.reduceLE, Int.reduceAdd, Int.reduceSub, Int.reduceMul, reduceIte, resVs, resV, packV, initT, addr] | refine OrW.go ?_
  have g2 := crash_in (g1.mx [])
  have c2 := c1.crash
  rw [w7] at g2 c2
  refine RelC.call g2 ?_
  rintro r M8 ⟨rfl, u2, g2, -⟩
  repeat first | simp (implicitDefEqProofs := false) (maxSteps := 1000000) (disch := first | omega | with_reducible assumption | (simp only [lenT, Nat.reduceAdd]; omega)) only [amT, cut, bnd, Nat.reduceBEq, reduceCtorEq, Nat.reduceEqDiff, Nat.reduceAdd, Nat.reduceMul, Nat.reduceSub, Int.reduceToNat, Int.reduceEq, Int.reduceLT, Int.reduceLE, Int.reduceAdd, Int.reduceSub, Int.reduceMul, reduceIte, resVs, resV, packV, initT, addr] | refine OrW.go ?_
  have g3 := on_in (g2.mx []) c2 (by omega) (.slice none 0 0) [] ⟨none, 0, rfl, fun i hi => nomatch hi⟩ (by simp) (by simp) (fun b o n c e => by cases e)
  have c3 := c2.on []
  rw [w8] at g3 c3
  refine RelC.call g3 ?_
  rintro r M9 ⟨rfl, u3, g3, -⟩
  have hold := g3.old
  have h9 : DIn m M9 m.size v5 W5 := ⟨h6.here.old hold, h6.old.trans hold, h6.ap, h6.own⟩
  have k24 := DetC.known (used_in (h9.mx []) b5 (by omega))
  have hstr := ((hbs.old hold).old (Old.here M9 [])).str
  simp only [List.length_cons, List.length_nil] at hstr
  have hn := names_in (g3.mx []) c3 (by omega)
  repeat first | simp (implicitDefEqProofs := false) (maxSteps := 1000000) (disch := first | omega | with_reducible assumption | (simp only [lenT, Nat.reduceAdd]; omega)) only [amT, cut, bnd, Nat.reduceBEq, reduceCtorEq, Nat.reduceEqDiff, Nat.reduceAdd, Nat.reduceMul, Nat.reduceSub, Int.reduceToNat, Int.reduceEq, Int.reduceLT, Int.reduceLE, Int.reduceAdd, Int.reduceSub, Int.reduceMul, reduceIte, resVs, resV, packV, initT, addr, k24, stepOp_b2s_v, hstr, show usedR W5.files = 3 from rfl] | refine OrW.go ?_
  refine RelC.call hn ?_
  rintro r M10 ⟨hO, hS⟩
  obtain ⟨an, cn, rfl⟩ := hS.len
  have hlast : Old m (mx M10 []) := ((h9.mx []).old.trans hO).mx _
  repeat first | simp (implicitDefEqProofs := false) (maxSteps := 1000000) (disch := first | omega | with_reducible assumption | (simp only [lenT, Nat.reduceAdd]; omega)) only [amT, cut, bnd, Nat.reduceBEq, reduceCtorEq, Nat.reduceEqDiff, Nat.reduceAdd, Nat.reduceMul, Nat.reduceSub, Int.reduceToNat, Int.reduceEq, Int.reduceLT, Int.reduceLE, Int.reduceAdd, Int.reduceSub, Int.reduceMul, reduceIte, resVs, resV, packV, initT, addr, show (W8.files.map FileR.name).length = 0 from rfl] | refine OrW.go ?_
  exact hlast
end Go.Proofs.Ytbmjhiifinjieaa
namespace Go.Proofs.Ytbmjhiifinjieaa
open Go Go.AM
set_option linter.unusedVariables false
set_option linter.unusedSimpArgs false
set_option linter.unusedSectionVars false
set_option maxHeartbeats 2000000
set_option maxRecDepth 100000
variable [Ex]

def Aof (o : List UInt8) : FileR := ⟨[97], o, [], true⟩
theorem u1 {o : List UInt8} (h : o.length ≤ 200) : appendR (newR 1000) [97] o = (0, ⟨[⟨[97], [], o, false⟩], 1000, 1, -1, false⟩) := by
  have h1 : (fileOr (newR 1000).files [97]).size = 0 := rfl
  have h2 : (newR 1000).quota - usedR (newR 1000).files = 1000 := rfl
  unfold appendR
  rw [if_pos (by rfl), if_neg (by rw [h1]; omega), if_neg (by rw [h2]; omega)]; rfl
theorem u2 (o : List UInt8) : driesR ⟨[⟨[97], [], o, false⟩], 1000, 1, -1, false⟩ [97] [97] some = (0, ⟨[Aof o], 1000, 2, -1, false⟩) := by rfl
theorem u3 {o w : List UInt8} (ho : o.length ≤ 200) (hw : w.length ≤ 200) (n : Int) : appendR ⟨[Aof o], 1000, 2, n, false⟩ [98] w = (if n = 0 then 40 else 0, DiskR.step ⟨[Aof o, ⟨[98], [], w, false⟩], 1000, 2, n, false⟩) := by
  have h1 : (fileOr [Aof o] [98]).size = 0 := rfl
  have h2 : usedR [Aof o] = o.length := by simp [usedR, FileR.size, Aof]
  unfold appendR
  rw [if_pos (by rfl), if_neg (by simp only [h1]; omega), if_neg (by simp only [h2]; omega)]; rfl
theorem u4 (o w : List UInt8) (s n : Int) : driesR ⟨[Aof o, ⟨[98], [], w, false⟩], 1000, s, n, false⟩ [98] [98] some = if n = 0 then (40, DiskR.step ⟨[Aof o, ⟨[98], [], w, false⟩], 1000, s, n, false⟩) else (0, { DiskR.step ⟨[Aof o, ⟨[98], [], w, false⟩], 1000, s, n, false⟩ with files := [Aof o, ⟨[98], w, [], true⟩] }) := by rfl
theorem u5 (o x y : List UInt8) (b : Bool) (s n : Int) : driesR ⟨[Aof o, ⟨[98], x, y, b⟩], 1000, s, n, false⟩ [98] [97] some = if n = 0 then (40, DiskR.step ⟨[Aof o, ⟨[98], x, y, b⟩], 1000, s, n, false⟩) else (0, { DiskR.step ⟨[Aof o, ⟨[98], x, y, b⟩], 1000, s, n, false⟩ with files := [Aof (x ++ y)] }) := by rfl
theorem onA (keep : List Int) (i : Nat) (o : List UInt8) : onFile keep i (Aof o) = some (Aof o) := by simp [onFile, Aof]
theorem u6 (keep : List Int) {d : DiskR} {o : List UInt8} {B : FileR} (hd : d.files = [Aof o, B]) (hB : B.name = [98]) : readR (onR (crashR d) keep) [97] = (0, o) := by
  have e : (onR (crashR d) keep).files = Aof o :: (onFile keep 1 B).toList := by
    simp only [onR, crashR, if_true, hd, onS_eq, onS, onA]; simp
  have e2 : (onR (crashR d) keep).off = false := by simp [onR, crashR]
  unfold readR
  rw [e, e2, if_pos (by rfl), isAt_cons, fileAt_cons]
  simp [Aof, ltB_irrefl, FileR.all]
theorem u7 (keep : List Int) {d : DiskR} {w : List UInt8} (hd : d.files = [Aof w]) : readR (onR (crashR d) keep) [97] = (0, w) ∧ (readR (onR (crashR d) keep) [98]).1 = 5 := by
  have e : (onR (crashR d) keep).files = [Aof w] := by
    simp only [onR, crashR, if_true, hd, onS_eq, onS, onA]; simp
  have e2 : (onR (crashR d) keep).off = false := by simp [onR, crashR]
  unfold readR
  rw [e, e2, if_pos (by rfl), if_pos (by rfl), isAt_cons, fileAt_cons]
  simp [Aof, ltB_irrefl, FileR.all]
  rfl

theorem st0 (fs : List FileR) (q s : Int) : DiskR.step ⟨fs, q, s, 0, false⟩ = ⟨fs, q, s + 1, -1, true⟩ := rfl
theorem st1 (fs : List FileR) (q s : Int) {n : Int} (h : 0 < n) : DiskR.step ⟨fs, q, s, n, false⟩ = ⟨fs, q, s + 1, n - 1, false⟩ := by
  simp only [DiskR.step]; rw [if_neg (by omega), show max (-1) (n - 1) = n - 1 by omega]
def F4_r : ACode := F4.code.tl.tl.tl.tl.tl.tl.tl.tl
theorem F4_cut : F4.code = .seq F4.code.hd (.seq F4.code.tl.hd (.seq F4.code.tl.tl.hd (.seq F4.code.tl.tl.tl.hd (.seq F4.code.tl.tl.tl.tl.hd (.seq F4.code.tl.tl.tl.tl.tl.hd (.seq F4.code.tl.tl.tl.tl.tl.tl.hd (.seq F4.code.tl.tl.tl.tl.tl.tl.tl.hd F4_r))))))) := rfl
theorem upon_rest (m M : AMem) (p : Nat) (v : Value) (d : DiskR) (h : DIn m M p v d) (hb : Bud d 10) (kv : Value) (keep : List Int) (hk : IntV m kv keep) (hkl : keep.length ≤ 9223372036854775807) (hk64 : ∀ x ∈ keep, -9223372036854775808 ≤ x ∧ x ≤ 9223372036854775807)
    (hkb : ∀ b o n c, kv = .slice (some ⟨b, o, none⟩) n c → b < m.size) (o w : List UInt8) (e : Int)
    (he : (e = 0 ∧ readR (onR (crashR d) keep) [97] = (0, w) ∧ (readR (onR (crashR d) keep) [98]).1 = 5) ∨ (e = 40 ∧ readR (onR (crashR d) keep) [97] = (0, o)))
    (t : Tmps) (t0 : t 0 = .string ⟨o.toArray⟩) (t1 : t 1 = .string ⟨w.toArray⟩) (t3 : t 3 = kv) (t11 : t 11 = .pointer (some ⟨p, 0, none⟩)) (t12 : t 12 = .int .i64 e) :
    W Try.prog 0 F4_r (RetK F4.res fun r m' => r = .ret (.bool true) ∧ Old m m') ⟨t, mx M [], []⟩ := by
  have hc := crash_in (h.mx [])
  repeat first | simp (implicitDefEqProofs := false) (maxSteps := 1000000) (disch := first | omega | with_reducible assumption | (simp only [lenT, Nat.reduceAdd]; omega)) only [amT, cut, bnd, Nat.reduceBEq, reduceCtorEq, Nat.reduceEqDiff, Nat.reduceAdd, Nat.reduceMul, Nat.reduceSub, Int.reduceToNat, Int.reduceEq, Int.reduceLT, Int.reduceLE, Int.reduceAdd, Int.reduceSub, Int.reduceMul, reduceIte, resVs, resV, packV, initT, addr, F4_r, F4, hd_seq, tl_seq, t11] | refine OrW.go ?_
  refine RelC.call hc ?_
  rintro r M1 ⟨rfl, v1, h1, -⟩
  have ho := on_in (h1.mx []) hb.crash (by omega) kv keep (hk.old (h1.mx []).old) hkl hk64 (fun b o n c e => by have := hkb b o n c e; have := h.ap; omega)
  repeat first | simp (implicitDefEqProofs := false) (maxSteps := 1000000) (disch := first | omega | with_reducible assumption | (simp only [lenT, Nat.reduceAdd]; omega)) only [amT, cut, bnd, Nat.reduceBEq, reduceCtorEq, Nat.reduceEqDiff, Nat.reduceAdd, Nat.reduceMul, Nat.reduceSub, Int.reduceToNat, Int.reduceEq, Int.reduceLT, Int.reduceLE, Int.reduceAdd, Int.reduceSub, Int.reduceMul, reduceIte, resVs, resV, packV, initT, addr, t3, t11] | refine OrW.go ?_
  refine RelC.call ho ?_
  rintro r M2 ⟨rfl, v2, h2, -⟩
  have b2 := hb.crash.on keep
  have hr := read_in (h2.mx []) b2 (by omega) [97] (by simp)
  repeat first | simp (implicitDefEqProofs := false) (maxSteps := 1000000) (disch := first | omega | with_reducible assumption | (simp only [lenT, Nat.reduceAdd]; omega)) only [amT, cut, bnd, Nat.reduceBEq, reduceCtorEq, Nat.reduceEqDiff, Nat.reduceAdd, Nat.reduceMul, Nat.reduceSub, Int.reduceToNat, Int.reduceEq, Int.reduceLT, Int.reduceLE, Int.reduceAdd, Int.reduceSub, Int.reduceMul, reduceIte, resVs, resV, packV, initT, addr, t11] | refine OrW.go ?_
  refine RelC.call hr ?_
  rintro r M3 ⟨b, rfl, h3, -, hB⟩
  have hr2 := read_in (h3.mx []) b2 (by omega) [98] (by simp)
  repeat first | simp (implicitDefEqProofs := false) (maxSteps := 1000000) (disch := first | omega | with_reducible assumption | (simp only [lenT, Nat.reduceAdd]; omega)) only [amT, cut, bnd, Nat.reduceBEq, reduceCtorEq, Nat.reduceEqDiff, Nat.reduceAdd, Nat.reduceMul, Nat.reduceSub, Int.reduceToNat, Int.reduceEq, Int.reduceLT, Int.reduceLE, Int.reduceAdd, Int.reduceSub, Int.reduceMul, reduceIte, resVs, resV, packV, initT, addr, t11] | refine OrW.go ?_
  refine RelC.call hr2 ?_
  rintro r M4 ⟨b', rfl, h4, hO4, -⟩
  obtain ⟨ab, cb, rfl, hbs⟩ := hB.bsl'
  have hstr := ((hbs.old ((Old.here M3 []).trans hO4)).old (Old.here M4 [])).str
  have kW := DetC.known (works_ok (mx M4 []))
  have hlast := (h4.mx []).old
  rcases he with ⟨rfl, e1, e2⟩ | ⟨rfl, e1⟩
  · rw [e1] at hstr
    repeat first | simp (implicitDefEqProofs := false) (maxSteps := 1000000) (disch := first | omega | with_reducible assumption | (simp only [lenT, Nat.reduceAdd]; omega)) only [amT, cut, bnd, Nat.reduceBEq, reduceCtorEq, Nat.reduceEqDiff, Nat.reduceAdd, Nat.reduceMul, Nat.reduceSub, Int.reduceToNat, Int.reduceEq, Int.reduceLT, Int.reduceLE, Int.reduceAdd, Int.reduceSub, Int.reduceMul, reduceIte, resVs, resV, packV, initT, addr, t12, e1, e2, stepOp_b2s_v, hstr, t1, kW] | refine OrW.go ?_
    exact hlast
  · rw [e1] at hstr
    repeat first | simp (implicitDefEqProofs := false) (maxSteps := 1000000) (disch := first | omega | with_reducible assumption | (simp only [lenT, Nat.reduceAdd]; omega)) only [amT, cut, bnd, Nat.reduceBEq, reduceCtorEq, Nat.reduceEqDiff, Nat.reduceAdd, Nat.reduceMul, Nat.reduceSub, Int.reduceToNat, Int.reduceEq, Int.reduceLT, Int.reduceLE, Int.reduceAdd, Int.reduceSub, Int.reduceMul, reduceIte, resVs, resV, packV, initT, addr, t12, e1, stepOp_b2s_v, hstr, t0, kW] | refine OrW.go ?_
    exact hlast

omit [Ex] in
theorem lawUpon (m : AMem) (o w : List UInt8) (hol : o.length ≤ 9223372036854775807) (hwl : w.length ≤ 9223372036854775807) (f : Int) (hf : 0 ≤ f ∧ f < 256) (kv : Value) (keep : List Int) (hk : IntV m kv keep) (hkl : keep.length ≤ 9223372036854775807) (hk64 : ∀ x ∈ keep, -9223372036854775808 ≤ x ∧ x ≤ 9223372036854775807)
    (hkb : ∀ b o n c, kv = .slice (some ⟨b, o, none⟩) n c → b < m.size) (dr : Bool) :
    PureC Try.prog 0 4 [.string ⟨o.toArray⟩, .string ⟨w.toArray⟩, .int .u8 f, kv, .bool dr] m (.bool true) := by
  refine pure_of_W (fn := Try.f4) rfl rfl F4_ok (by simp [F4]) (.bool _) ?_
  letI : Ex := ⟨m.size⟩
  have kW := DetC.known (works_ok m).start
  rw [F4_cut]
  by_cases g1 : (200 : Int) < (o.length : Int)
  · repeat first | simp (implicitDefEqProofs := false) (maxSteps := 1000000) (disch := first | omega | with_reducible assumption | (simp only [lenT, Nat.reduceAdd]; omega)) only [amT, cut, bnd, Nat.reduceBEq, reduceCtorEq, Nat.reduceEqDiff, Nat.reduceAdd, Nat.reduceMul, Nat.reduceSub, Int.reduceToNat, Int.reduceEq, Int.reduceLT, Int.reduceLE, Int.reduceAdd, Int.reduceSub, Int.reduceMul, reduceIte, resVs, resV, packV, initT, addr, F4, hd_seq, tl_seq, g1, kW] | refine OrW.go ?_
    exact Old.refl m
  by_cases g2 : (200 : Int) < (w.length : Int)
  · repeat first | simp (implicitDefEqProofs := false) (maxSteps := 1000000) (disch := first | omega | with_reducible assumption | (simp only [lenT, Nat.reduceAdd]; omega)) only [amT, cut, bnd, Nat.reduceBEq, reduceCtorEq, Nat.reduceEqDiff, Nat.reduceAdd, Nat.reduceMul, Nat.reduceSub, Int.reduceToNat, Int.reduceEq, Int.reduceLT, Int.reduceLE, Int.reduceAdd, Int.reduceSub, Int.reduceMul, reduceIte, resVs, resV, packV, initT, addr, F4, hd_seq, tl_seq, g1, g2, kW] | refine OrW.go ?_
    exact Old.refl m
  have k11 := DetC.known (new_ok m 1000).start
  repeat first | simp (implicitDefEqProofs := false) (maxSteps := 1000000) (disch := first | omega | with_reducible assumption | (simp only [lenT, Nat.reduceAdd]; omega)) only [amT, cut, bnd, Nat.reduceBEq, reduceCtorEq, Nat.reduceEqDiff, Nat.reduceAdd, Nat.reduceMul, Nat.reduceSub, Int.reduceToNat, Int.reduceEq, Int.reduceLT, Int.reduceLE, Int.reduceAdd, Int.reduceSub, Int.reduceMul, reduceIte, resVs, resV, packV, initT, addr, F4, hd_seq, tl_seq, g1, g2, k11] | refine OrW.go ?_
  have b0 : Bud (newR 1000) 0 := Bud.new (by omega)
  have h0 : DIn m (mx m ([.cells ((newR 1000).cells (.slice none 0 0)) 60 true .exact] ++ [.cells (o.map byteV) 5 true (.room [.int .u8 0])])) m.size (.slice none 0 0) (newR 1000) := by
    rw [← mx_mx]; exact (DIn.new (Old.refl m) (Nat.le_refl _) 1000).mx _
  have b1 := b0.append [97] o (by omega)
  have h1 := append_in h0 b0 (by omega) [97] _ openCap o (by simp) (bsl_room m _ 1 rfl rfl) (by omega)
  rw [u1 (by omega)] at h1 b1
  refine RelC.call h1 ?_
  rintro r M1 ⟨rfl, v1, h1, -⟩
  have b2 := b1.dries [97] [97] some (fun c c' h => by cases h; exact Nat.le_refl _)
  have h2 := (sync_in (h1.mx []) b1 (by omega) [97] (by simp))
  rw [u2] at h2 b2
  repeat first | simp (implicitDefEqProofs := false) (maxSteps := 1000000) (disch := first | omega | with_reducible assumption | (simp only [lenT, Nat.reduceAdd]; omega)) only [amT, cut, bnd, Nat.reduceBEq, reduceCtorEq, Nat.reduceEqDiff, Nat.reduceAdd, Nat.reduceMul, Nat.reduceSub, Int.reduceToNat, Int.reduceEq, Int.reduceLT, Int.reduceLE, Int.reduceAdd, Int.reduceSub, Int.reduceMul, reduceIte, resVs, resV, packV, initT, addr] | refine OrW.go ?_
  refine RelC.call h2 ?_
  rintro r M2 ⟨rfl, v2, h2, -⟩
  have hn0 := Int.tmod_nonneg 5 hf.1
  have hn5 := Int.tmod_lt_of_pos f (show (0 : Int) < 5 by omega)
  have hw : IntKind.i64.wrap (f.tmod 5) = f.tmod 5 := wrap_i64 (by omega) (by omega)
  repeat first | simp (implicitDefEqProofs := false) (maxSteps := 1000000) (disch := first | omega | with_reducible assumption | (simp only [lenT, Nat.reduceAdd]; omega)) only [amT, cut, bnd, Nat.reduceBEq, reduceCtorEq, Nat.reduceEqDiff, Nat.reduceAdd, Nat.reduceMul, Nat.reduceSub, Int.reduceToNat, Int.reduceEq, Int.reduceLT, Int.reduceLE, Int.reduceAdd, Int.reduceSub, Int.reduceMul, reduceIte, resVs, resV, packV, initT, addr, hw] | refine OrW.go ?_
  generalize f.tmod 5 = n at hn0 hn5
  have h3 := fail_in (h2.mx []) n
  have b3 := b2.fail (n := n) (by omega)
  have e3 : failR ⟨[Aof o], 1000, 2, -1, false⟩ n = ⟨[Aof o], 1000, 2, n, false⟩ := by simp only [failR, show max (-1) n = n by omega]
  rw [e3] at h3 b3
  refine RelC.call h3 ?_
  rintro r M3 ⟨rfl, v3, h3, -⟩
  repeat first | simp (implicitDefEqProofs := false) (maxSteps := 1000000) (disch := first | omega | with_reducible assumption | (simp only [lenT, Nat.reduceAdd]; omega)) only [amT, cut, bnd, Nat.reduceBEq, reduceCtorEq, Nat.reduceEqDiff, Nat.reduceAdd, Nat.reduceMul, Nat.reduceSub, Int.reduceToNat, Int.reduceEq, Int.reduceLT, Int.reduceLE, Int.reduceAdd, Int.reduceSub, Int.reduceMul, reduceIte, resVs, resV, packV, initT, addr] | refine OrW.go ?_
  have b4 := b3.append [98] w (by omega)
  have h4 := append_in (h3.mx [.cells (w.map byteV) 5 true (.room [.int .u8 0])]) b3 (by omega) [98] _ openCap w (by simp) (bsl_room M3 _ 0 rfl rfl) (by omega)
  rw [u3 (by omega) (by omega)] at h4 b4
  refine RelC.call h4 ?_
  rintro r M4 ⟨rfl, v4, h4, -⟩
  have last := fun (M : AMem) (v : Value) (d : DiskR) (h : DIn m M m.size v d) (hb : Bud d 10) (e : Int) (he : (e = 0 ∧ readR (onR (crashR d) keep) [97] = (0, w) ∧ (readR (onR (crashR d) keep) [98]).1 = 5) ∨ (e = 40 ∧ readR (onR (crashR d) keep) [97] = (0, o))) => upon_rest m M m.size v d h hb kv keep hk hkl hk64 hkb o w e he
  by_cases n0 : n = 0
  · subst n0
    rw [st0] at h4 b4
    have k := last M4 _ _ h4 (b4.up (by omega)) 40 (.inr ⟨rfl, u6 keep rfl rfl⟩)
    cases dr
    · repeat first | simp (implicitDefEqProofs := false) (maxSteps := 1000000) (disch := first | omega | with_reducible assumption | (simp only [lenT, Nat.reduceAdd]; omega)) only [amT, cut, bnd, Nat.reduceBEq, reduceCtorEq, Nat.reduceEqDiff, Nat.reduceAdd, Nat.reduceMul, Nat.reduceSub, Int.reduceToNat, Int.reduceEq, Int.reduceLT, Int.reduceLE, Int.reduceAdd, Int.reduceSub, Int.reduceMul, reduceIte, resVs, resV, packV, initT, addr] | refine OrW.go ?_
      exact k _ (by simp (implicitDefEqProofs := false) (maxSteps := 1000000) (disch := first | omega | with_reducible assumption | (simp only [lenT, Nat.reduceAdd]; omega)) only [amT, cut, bnd, Nat.reduceBEq, reduceCtorEq, Nat.reduceEqDiff, Nat.reduceAdd, Nat.reduceMul, Nat.reduceSub, Int.reduceToNat, Int.reduceEq, Int.reduceLT, Int.reduceLE, Int.reduceAdd, Int.reduceSub, Int.reduceMul, reduceIte, resVs, resV, packV, initT, addr]) (by simp (implicitDefEqProofs := false) (maxSteps := 1000000) (disch := first | omega | with_reducible assumption | (simp only [lenT, Nat.reduceAdd]; omega)) only [amT, cut, bnd, Nat.reduceBEq, reduceCtorEq, Nat.reduceEqDiff, Nat.reduceAdd, Nat.reduceMul, Nat.reduceSub, Int.reduceToNat, Int.reduceEq, Int.reduceLT, Int.reduceLE, Int.reduceAdd, Int.reduceSub, Int.reduceMul, reduceIte, resVs, resV, packV, initT, addr]) (by simp (implicitDefEqProofs := false) (maxSteps := 1000000) (disch := first | omega | with_reducible assumption | (simp only [lenT, Nat.reduceAdd]; omega)) only [amT, cut, bnd, Nat.reduceBEq, reduceCtorEq, Nat.reduceEqDiff, Nat.reduceAdd, Nat.reduceMul, Nat.reduceSub, Int.reduceToNat, Int.reduceEq, Int.reduceLT, Int.reduceLE, Int.reduceAdd, Int.reduceSub, Int.reduceMul, reduceIte, resVs, resV, packV, initT, addr]) (by simp (implicitDefEqProofs := false) (maxSteps := 1000000) (disch := first | omega | with_reducible assumption | (simp only [lenT, Nat.reduceAdd]; omega)) only [amT, cut, bnd, Nat.reduceBEq, reduceCtorEq, Nat.reduceEqDiff, Nat.reduceAdd, Nat.reduceMul, Nat.reduceSub, Int.reduceToNat, Int.reduceEq, Int.reduceLT, Int.reduceLE, Int.reduceAdd, Int.reduceSub, Int.reduceMul, reduceIte, resVs, resV, packV, initT, addr]) (by simp (implicitDefEqProofs := false) (maxSteps := 1000000) (disch := first | omega | with_reducible assumption | (simp only [lenT, Nat.reduceAdd]; omega)) only [amT, cut, bnd, Nat.reduceBEq, reduceCtorEq, Nat.reduceEqDiff, Nat.reduceAdd, Nat.reduceMul, Nat.reduceSub, Int.reduceToNat, Int.reduceEq, Int.reduceLT, Int.reduceLE, Int.reduceAdd, Int.reduceSub, Int.reduceMul, reduceIte, resVs, resV, packV, initT, addr])
    · repeat first | simp (implicitDefEqProofs := false) (maxSteps := 1000000) (disch := first | omega | with_reducible assumption | (simp only [lenT, Nat.reduceAdd]; omega)) only [amT, cut, bnd, Nat.reduceBEq, reduceCtorEq, Nat.reduceEqDiff, Nat.reduceAdd, Nat.reduceMul, Nat.reduceSub, Int.reduceToNat, Int.reduceEq, Int.reduceLT, Int.reduceLE, Int.reduceAdd, Int.reduceSub, Int.reduceMul, reduceIte, resVs, resV, packV, initT, addr] | refine OrW.go ?_
      exact k _ (by simp (implicitDefEqProofs := false) (maxSteps := 1000000) (disch := first | omega | with_reducible assumption | (simp only [lenT, Nat.reduceAdd]; omega)) only [amT, cut, bnd, Nat.reduceBEq, reduceCtorEq, Nat.reduceEqDiff, Nat.reduceAdd, Nat.reduceMul, Nat.reduceSub, Int.reduceToNat, Int.reduceEq, Int.reduceLT, Int.reduceLE, Int.reduceAdd, Int.reduceSub, Int.reduceMul, reduceIte, resVs, resV, packV, initT, addr]) (by simp (implicitDefEqProofs := false) (maxSteps := 1000000) (disch := first | omega | with_reducible assumption | (simp only [lenT, Nat.reduceAdd]; omega)) only [amT, cut, bnd, Nat.reduceBEq, reduceCtorEq, Nat.reduceEqDiff, Nat.reduceAdd, Nat.reduceMul, Nat.reduceSub, Int.reduceToNat, Int.reduceEq, Int.reduceLT, Int.reduceLE, Int.reduceAdd, Int.reduceSub, Int.reduceMul, reduceIte, resVs, resV, packV, initT, addr]) (by simp (implicitDefEqProofs := false) (maxSteps := 1000000) (disch := first | omega | with_reducible assumption | (simp only [lenT, Nat.reduceAdd]; omega)) only [amT, cut, bnd, Nat.reduceBEq, reduceCtorEq, Nat.reduceEqDiff, Nat.reduceAdd, Nat.reduceMul, Nat.reduceSub, Int.reduceToNat, Int.reduceEq, Int.reduceLT, Int.reduceLE, Int.reduceAdd, Int.reduceSub, Int.reduceMul, reduceIte, resVs, resV, packV, initT, addr]) (by simp (implicitDefEqProofs := false) (maxSteps := 1000000) (disch := first | omega | with_reducible assumption | (simp only [lenT, Nat.reduceAdd]; omega)) only [amT, cut, bnd, Nat.reduceBEq, reduceCtorEq, Nat.reduceEqDiff, Nat.reduceAdd, Nat.reduceMul, Nat.reduceSub, Int.reduceToNat, Int.reduceEq, Int.reduceLT, Int.reduceLE, Int.reduceAdd, Int.reduceSub, Int.reduceMul, reduceIte, resVs, resV, packV, initT, addr]) (by simp (implicitDefEqProofs := false) (maxSteps := 1000000) (disch := first | omega | with_reducible assumption | (simp only [lenT, Nat.reduceAdd]; omega)) only [amT, cut, bnd, Nat.reduceBEq, reduceCtorEq, Nat.reduceEqDiff, Nat.reduceAdd, Nat.reduceMul, Nat.reduceSub, Int.reduceToNat, Int.reduceEq, Int.reduceLT, Int.reduceLE, Int.reduceAdd, Int.reduceSub, Int.reduceMul, reduceIte, resVs, resV, packV, initT, addr])
  · rw [if_neg n0]
    rw [st1 _ _ _ (by omega)] at h4 b4
    have h5 := rename_in (h4.mx []) b4 (by omega) [98] [97] (by simp) (by simp)
    have b5 := b4.dries [98] [97] some (fun c c' h => by cases h; exact Nat.le_refl _)
    have h6 := sync_in (h4.mx []) b4 (by omega) [98] (by simp)
    have b6 := b4.dries [98] [98] some (fun c c' h => by cases h; exact Nat.le_refl _)
    rw [u5] at h5 b5
    rw [u4] at h6 b6
    cases dr
    · repeat first | simp (implicitDefEqProofs := false) (maxSteps := 1000000) (disch := first | omega | with_reducible assumption | (simp only [lenT, Nat.reduceAdd]; omega)) only [amT, cut, bnd, Nat.reduceBEq, reduceCtorEq, Nat.reduceEqDiff, Nat.reduceAdd, Nat.reduceMul, Nat.reduceSub, Int.reduceToNat, Int.reduceEq, Int.reduceLT, Int.reduceLE, Int.reduceAdd, Int.reduceSub, Int.reduceMul, reduceIte, resVs, resV, packV, initT, addr] | refine OrW.go ?_
      refine RelC.call h5 ?_
      rintro r M5 ⟨rfl, v5, h5, -⟩
      by_cases n1 : n - 1 = 0
      · rw [if_pos n1] at h5 b5
        rw [n1, st0] at h5 b5
        have k := last M5 _ _ h5 (b5.up (by omega)) 40 (.inr ⟨rfl, u6 keep rfl rfl⟩)
        repeat first | simp (implicitDefEqProofs := false) (maxSteps := 1000000) (disch := first | omega | with_reducible assumption | (simp only [lenT, Nat.reduceAdd]; omega)) only [amT, cut, bnd, Nat.reduceBEq, reduceCtorEq, Nat.reduceEqDiff, Nat.reduceAdd, Nat.reduceMul, Nat.reduceSub, Int.reduceToNat, Int.reduceEq, Int.reduceLT, Int.reduceLE, Int.reduceAdd, Int.reduceSub, Int.reduceMul, reduceIte, resVs, resV, packV, initT, addr, n1] | refine OrW.go ?_
        exact k _ (by simp (implicitDefEqProofs := false) (maxSteps := 1000000) (disch := first | omega | with_reducible assumption | (simp only [lenT, Nat.reduceAdd]; omega)) only [amT, cut, bnd, Nat.reduceBEq, reduceCtorEq, Nat.reduceEqDiff, Nat.reduceAdd, Nat.reduceMul, Nat.reduceSub, Int.reduceToNat, Int.reduceEq, Int.reduceLT, Int.reduceLE, Int.reduceAdd, Int.reduceSub, Int.reduceMul, reduceIte, resVs, resV, packV, initT, addr]) (by simp (implicitDefEqProofs := false) (maxSteps := 1000000) (disch := first | omega | with_reducible assumption | (simp only [lenT, Nat.reduceAdd]; omega)) only [amT, cut, bnd, Nat.reduceBEq, reduceCtorEq, Nat.reduceEqDiff, Nat.reduceAdd, Nat.reduceMul, Nat.reduceSub, Int.reduceToNat, Int.reduceEq, Int.reduceLT, Int.reduceLE, Int.reduceAdd, Int.reduceSub, Int.reduceMul, reduceIte, resVs, resV, packV, initT, addr]) (by simp (implicitDefEqProofs := false) (maxSteps := 1000000) (disch := first | omega | with_reducible assumption | (simp only [lenT, Nat.reduceAdd]; omega)) only [amT, cut, bnd, Nat.reduceBEq, reduceCtorEq, Nat.reduceEqDiff, Nat.reduceAdd, Nat.reduceMul, Nat.reduceSub, Int.reduceToNat, Int.reduceEq, Int.reduceLT, Int.reduceLE, Int.reduceAdd, Int.reduceSub, Int.reduceMul, reduceIte, resVs, resV, packV, initT, addr]) (by simp (implicitDefEqProofs := false) (maxSteps := 1000000) (disch := first | omega | with_reducible assumption | (simp only [lenT, Nat.reduceAdd]; omega)) only [amT, cut, bnd, Nat.reduceBEq, reduceCtorEq, Nat.reduceEqDiff, Nat.reduceAdd, Nat.reduceMul, Nat.reduceSub, Int.reduceToNat, Int.reduceEq, Int.reduceLT, Int.reduceLE, Int.reduceAdd, Int.reduceSub, Int.reduceMul, reduceIte, resVs, resV, packV, initT, addr]) (by simp (implicitDefEqProofs := false) (maxSteps := 1000000) (disch := first | omega | with_reducible assumption | (simp only [lenT, Nat.reduceAdd]; omega)) only [amT, cut, bnd, Nat.reduceBEq, reduceCtorEq, Nat.reduceEqDiff, Nat.reduceAdd, Nat.reduceMul, Nat.reduceSub, Int.reduceToNat, Int.reduceEq, Int.reduceLT, Int.reduceLE, Int.reduceAdd, Int.reduceSub, Int.reduceMul, reduceIte, resVs, resV, packV, initT, addr])
      · rw [if_neg n1] at h5 b5
        have k := last M5 _ _ h5 (b5.up (by omega)) 0 (.inl ⟨rfl, u7 keep rfl⟩)
        repeat first | simp (implicitDefEqProofs := false) (maxSteps := 1000000) (disch := first | omega | with_reducible assumption | (simp only [lenT, Nat.reduceAdd]; omega)) only [amT, cut, bnd, Nat.reduceBEq, reduceCtorEq, Nat.reduceEqDiff, Nat.reduceAdd, Nat.reduceMul, Nat.reduceSub, Int.reduceToNat, Int.reduceEq, Int.reduceLT, Int.reduceLE, Int.reduceAdd, Int.reduceSub, Int.reduceMul, reduceIte, resVs, resV, packV, initT, addr, n1] | refine OrW.go ?_
        exact k _ (by simp (implicitDefEqProofs := false) (maxSteps := 1000000) (disch := first | omega | with_reducible assumption | (simp only [lenT, Nat.reduceAdd]; omega)) only [amT, cut, bnd, Nat.reduceBEq, reduceCtorEq, Nat.reduceEqDiff, Nat.reduceAdd, Nat.reduceMul, Nat.reduceSub, Int.reduceToNat, Int.reduceEq, Int.reduceLT, Int.reduceLE, Int.reduceAdd, Int.reduceSub, Int.reduceMul, reduceIte, resVs, resV, packV, initT, addr]) (by simp (implicitDefEqProofs := false) (maxSteps := 1000000) (disch := first | omega | with_reducible assumption | (simp only [lenT, Nat.reduceAdd]; omega)) only [amT, cut, bnd, Nat.reduceBEq, reduceCtorEq, Nat.reduceEqDiff, Nat.reduceAdd, Nat.reduceMul, Nat.reduceSub, Int.reduceToNat, Int.reduceEq, Int.reduceLT, Int.reduceLE, Int.reduceAdd, Int.reduceSub, Int.reduceMul, reduceIte, resVs, resV, packV, initT, addr]) (by simp (implicitDefEqProofs := false) (maxSteps := 1000000) (disch := first | omega | with_reducible assumption | (simp only [lenT, Nat.reduceAdd]; omega)) only [amT, cut, bnd, Nat.reduceBEq, reduceCtorEq, Nat.reduceEqDiff, Nat.reduceAdd, Nat.reduceMul, Nat.reduceSub, Int.reduceToNat, Int.reduceEq, Int.reduceLT, Int.reduceLE, Int.reduceAdd, Int.reduceSub, Int.reduceMul, reduceIte, resVs, resV, packV, initT, addr]) (by simp (implicitDefEqProofs := false) (maxSteps := 1000000) (disch := first | omega | with_reducible assumption | (simp only [lenT, Nat.reduceAdd]; omega)) only [amT, cut, bnd, Nat.reduceBEq, reduceCtorEq, Nat.reduceEqDiff, Nat.reduceAdd, Nat.reduceMul, Nat.reduceSub, Int.reduceToNat, Int.reduceEq, Int.reduceLT, Int.reduceLE, Int.reduceAdd, Int.reduceSub, Int.reduceMul, reduceIte, resVs, resV, packV, initT, addr]) (by simp (implicitDefEqProofs := false) (maxSteps := 1000000) (disch := first | omega | with_reducible assumption | (simp only [lenT, Nat.reduceAdd]; omega)) only [amT, cut, bnd, Nat.reduceBEq, reduceCtorEq, Nat.reduceEqDiff, Nat.reduceAdd, Nat.reduceMul, Nat.reduceSub, Int.reduceToNat, Int.reduceEq, Int.reduceLT, Int.reduceLE, Int.reduceAdd, Int.reduceSub, Int.reduceMul, reduceIte, resVs, resV, packV, initT, addr])
    · repeat first | simp (implicitDefEqProofs := false) (maxSteps := 1000000) (disch := first | omega | with_reducible assumption | (simp only [lenT, Nat.reduceAdd]; omega)) only [amT, cut, bnd, Nat.reduceBEq, reduceCtorEq, Nat.reduceEqDiff, Nat.reduceAdd, Nat.reduceMul, Nat.reduceSub, Int.reduceToNat, Int.reduceEq, Int.reduceLT, Int.reduceLE, Int.reduceAdd, Int.reduceSub, Int.reduceMul, reduceIte, resVs, resV, packV, initT, addr] | refine OrW.go ?_
      refine RelC.call h6 ?_
      rintro r M5 ⟨rfl, v5, h6, -⟩
      by_cases n1 : n - 1 = 0
      · rw [if_pos n1] at h6 b6
        rw [n1, st0] at h6 b6
        have k := last M5 _ _ h6 (b6.up (by omega)) 40 (.inr ⟨rfl, u6 keep rfl rfl⟩)
        repeat first | simp (implicitDefEqProofs := false) (maxSteps := 1000000) (disch := first | omega | with_reducible assumption | (simp only [lenT, Nat.reduceAdd]; omega)) only [amT, cut, bnd, Nat.reduceBEq, reduceCtorEq, Nat.reduceEqDiff, Nat.reduceAdd, Nat.reduceMul, Nat.reduceSub, Int.reduceToNat, Int.reduceEq, Int.reduceLT, Int.reduceLE, Int.reduceAdd, Int.reduceSub, Int.reduceMul, reduceIte, resVs, resV, packV, initT, addr, n1] | refine OrW.go ?_
        exact k _ (by simp (implicitDefEqProofs := false) (maxSteps := 1000000) (disch := first | omega | with_reducible assumption | (simp only [lenT, Nat.reduceAdd]; omega)) only [amT, cut, bnd, Nat.reduceBEq, reduceCtorEq, Nat.reduceEqDiff, Nat.reduceAdd, Nat.reduceMul, Nat.reduceSub, Int.reduceToNat, Int.reduceEq, Int.reduceLT, Int.reduceLE, Int.reduceAdd, Int.reduceSub, Int.reduceMul, reduceIte, resVs, resV, packV, initT, addr]) (by simp (implicitDefEqProofs := false) (maxSteps := 1000000) (disch := first | omega | with_reducible assumption | (simp only [lenT, Nat.reduceAdd]; omega)) only [amT, cut, bnd, Nat.reduceBEq, reduceCtorEq, Nat.reduceEqDiff, Nat.reduceAdd, Nat.reduceMul, Nat.reduceSub, Int.reduceToNat, Int.reduceEq, Int.reduceLT, Int.reduceLE, Int.reduceAdd, Int.reduceSub, Int.reduceMul, reduceIte, resVs, resV, packV, initT, addr]) (by simp (implicitDefEqProofs := false) (maxSteps := 1000000) (disch := first | omega | with_reducible assumption | (simp only [lenT, Nat.reduceAdd]; omega)) only [amT, cut, bnd, Nat.reduceBEq, reduceCtorEq, Nat.reduceEqDiff, Nat.reduceAdd, Nat.reduceMul, Nat.reduceSub, Int.reduceToNat, Int.reduceEq, Int.reduceLT, Int.reduceLE, Int.reduceAdd, Int.reduceSub, Int.reduceMul, reduceIte, resVs, resV, packV, initT, addr]) (by simp (implicitDefEqProofs := false) (maxSteps := 1000000) (disch := first | omega | with_reducible assumption | (simp only [lenT, Nat.reduceAdd]; omega)) only [amT, cut, bnd, Nat.reduceBEq, reduceCtorEq, Nat.reduceEqDiff, Nat.reduceAdd, Nat.reduceMul, Nat.reduceSub, Int.reduceToNat, Int.reduceEq, Int.reduceLT, Int.reduceLE, Int.reduceAdd, Int.reduceSub, Int.reduceMul, reduceIte, resVs, resV, packV, initT, addr]) (by simp (implicitDefEqProofs := false) (maxSteps := 1000000) (disch := first | omega | with_reducible assumption | (simp only [lenT, Nat.reduceAdd]; omega)) only [amT, cut, bnd, Nat.reduceBEq, reduceCtorEq, Nat.reduceEqDiff, Nat.reduceAdd, Nat.reduceMul, Nat.reduceSub, Int.reduceToNat, Int.reduceEq, Int.reduceLT, Int.reduceLE, Int.reduceAdd, Int.reduceSub, Int.reduceMul, reduceIte, resVs, resV, packV, initT, addr])
      · rw [if_neg n1] at h6 b6
        rw [st1 _ _ _ (by omega)] at h6 b6
        simp only [] at h6 b6
        have h7 := rename_in (h6.mx []) b6 (by omega) [98] [97] (by simp) (by simp)
        have b7 := b6.dries [98] [97] some (fun c c' h => by cases h; exact Nat.le_refl _)
        rw [u5] at h7 b7
        repeat first | simp (implicitDefEqProofs := false) (maxSteps := 1000000) (disch := first | omega | with_reducible assumption | (simp only [lenT, Nat.reduceAdd]; omega)) only [amT, cut, bnd, Nat.reduceBEq, reduceCtorEq, Nat.reduceEqDiff, Nat.reduceAdd, Nat.reduceMul, Nat.reduceSub, Int.reduceToNat, Int.reduceEq, Int.reduceLT, Int.reduceLE, Int.reduceAdd, Int.reduceSub, Int.reduceMul, reduceIte, resVs, resV, packV, initT, addr, n1] | refine OrW.go ?_
        refine RelC.call h7 ?_
        rintro r M6 ⟨rfl, v6, h7, -⟩
        by_cases n2 : n - 1 - 1 = 0
        · rw [if_pos n2] at h7 b7
          rw [n2, st0] at h7 b7
          have k := last M6 _ _ h7 (b7.up (by omega)) 40 (.inr ⟨rfl, u6 keep rfl rfl⟩)
          repeat first | simp (implicitDefEqProofs := false) (maxSteps := 1000000) (disch := first | omega | with_reducible assumption | (simp only [lenT, Nat.reduceAdd]; omega)) only [amT, cut, bnd, Nat.reduceBEq, reduceCtorEq, Nat.reduceEqDiff, Nat.reduceAdd, Nat.reduceMul, Nat.reduceSub, Int.reduceToNat, Int.reduceEq, Int.reduceLT, Int.reduceLE, Int.reduceAdd, Int.reduceSub, Int.reduceMul, reduceIte, resVs, resV, packV, initT, addr, n2] | refine OrW.go ?_
          exact k _ (by simp (implicitDefEqProofs := false) (maxSteps := 1000000) (disch := first | omega | with_reducible assumption | (simp only [lenT, Nat.reduceAdd]; omega)) only [amT, cut, bnd, Nat.reduceBEq, reduceCtorEq, Nat.reduceEqDiff, Nat.reduceAdd, Nat.reduceMul, Nat.reduceSub, Int.reduceToNat, Int.reduceEq, Int.reduceLT, Int.reduceLE, Int.reduceAdd, Int.reduceSub, Int.reduceMul, reduceIte, resVs, resV, packV, initT, addr]) (by simp (implicitDefEqProofs := false) (maxSteps := 1000000) (disch := first | omega | with_reducible assumption | (simp only [lenT, Nat.reduceAdd]; omega)) only [amT, cut, bnd, Nat.reduceBEq, reduceCtorEq, Nat.reduceEqDiff, Nat.reduceAdd, Nat.reduceMul, Nat.reduceSub, Int.reduceToNat, Int.reduceEq, Int.reduceLT, Int.reduceLE, Int.reduceAdd, Int.reduceSub, Int.reduceMul, reduceIte, resVs, resV, packV, initT, addr]) (by simp (implicitDefEqProofs := false) (maxSteps := 1000000) (disch := first | omega | with_reducible assumption | (simp only [lenT, Nat.reduceAdd]; omega)) only [amT, cut, bnd, Nat.reduceBEq, reduceCtorEq, Nat.reduceEqDiff, Nat.reduceAdd, Nat.reduceMul, Nat.reduceSub, Int.reduceToNat, Int.reduceEq, Int.reduceLT, Int.reduceLE, Int.reduceAdd, Int.reduceSub, Int.reduceMul, reduceIte, resVs, resV, packV, initT, addr]) (by simp (implicitDefEqProofs := false) (maxSteps := 1000000) (disch := first | omega | with_reducible assumption | (simp only [lenT, Nat.reduceAdd]; omega)) only [amT, cut, bnd, Nat.reduceBEq, reduceCtorEq, Nat.reduceEqDiff, Nat.reduceAdd, Nat.reduceMul, Nat.reduceSub, Int.reduceToNat, Int.reduceEq, Int.reduceLT, Int.reduceLE, Int.reduceAdd, Int.reduceSub, Int.reduceMul, reduceIte, resVs, resV, packV, initT, addr]) (by simp (implicitDefEqProofs := false) (maxSteps := 1000000) (disch := first | omega | with_reducible assumption | (simp only [lenT, Nat.reduceAdd]; omega)) only [amT, cut, bnd, Nat.reduceBEq, reduceCtorEq, Nat.reduceEqDiff, Nat.reduceAdd, Nat.reduceMul, Nat.reduceSub, Int.reduceToNat, Int.reduceEq, Int.reduceLT, Int.reduceLE, Int.reduceAdd, Int.reduceSub, Int.reduceMul, reduceIte, resVs, resV, packV, initT, addr])
        · rw [if_neg n2] at h7 b7
          have k := last M6 _ _ h7 (b7.up (by omega)) 0 (.inl ⟨rfl, u7 keep (by simp)⟩)
          repeat first | simp (implicitDefEqProofs := false) (maxSteps := 1000000) (disch := first | omega | with_reducible assumption | (simp only [lenT, Nat.reduceAdd]; omega)) only [amT, cut, bnd, Nat.reduceBEq, reduceCtorEq, Nat.reduceEqDiff, Nat.reduceAdd, Nat.reduceMul, Nat.reduceSub, Int.reduceToNat, Int.reduceEq, Int.reduceLT, Int.reduceLE, Int.reduceAdd, Int.reduceSub, Int.reduceMul, reduceIte, resVs, resV, packV, initT, addr, n2] | refine OrW.go ?_
          exact k _ (by simp (implicitDefEqProofs := false) (maxSteps := 1000000) (disch := first | omega | with_reducible assumption | (simp only [lenT, Nat.reduceAdd]; omega)) only [amT, cut, bnd, Nat.reduceBEq, reduceCtorEq, Nat.reduceEqDiff, Nat.reduceAdd, Nat.reduceMul, Nat.reduceSub, Int.reduceToNat, Int.reduceEq, Int.reduceLT, Int.reduceLE, Int.reduceAdd, Int.reduceSub, Int.reduceMul, reduceIte, resVs, resV, packV, initT, addr]) (by simp (implicitDefEqProofs := false) (maxSteps := 1000000) (disch := first | omega | with_reducible assumption | (simp only [lenT, Nat.reduceAdd]; omega)) only [amT, cut, bnd, Nat.reduceBEq, reduceCtorEq, Nat.reduceEqDiff, Nat.reduceAdd, Nat.reduceMul, Nat.reduceSub, Int.reduceToNat, Int.reduceEq, Int.reduceLT, Int.reduceLE, Int.reduceAdd, Int.reduceSub, Int.reduceMul, reduceIte, resVs, resV, packV, initT, addr]) (by simp (implicitDefEqProofs := false) (maxSteps := 1000000) (disch := first | omega | with_reducible assumption | (simp only [lenT, Nat.reduceAdd]; omega)) only [amT, cut, bnd, Nat.reduceBEq, reduceCtorEq, Nat.reduceEqDiff, Nat.reduceAdd, Nat.reduceMul, Nat.reduceSub, Int.reduceToNat, Int.reduceEq, Int.reduceLT, Int.reduceLE, Int.reduceAdd, Int.reduceSub, Int.reduceMul, reduceIte, resVs, resV, packV, initT, addr]) (by simp (implicitDefEqProofs := false) (maxSteps := 1000000) (disch := first | omega | with_reducible assumption | (simp only [lenT, Nat.reduceAdd]; omega)) only [amT, cut, bnd, Nat.reduceBEq, reduceCtorEq, Nat.reduceEqDiff, Nat.reduceAdd, Nat.reduceMul, Nat.reduceSub, Int.reduceToNat, Int.reduceEq, Int.reduceLT, Int.reduceLE, Int.reduceAdd, Int.reduceSub, Int.reduceMul, reduceIte, resVs, resV, packV, initT, addr]) (by simp (implicitDefEqProofs := false) (maxSteps := 1000000) (disch := first | omega | with_reducible assumption | (simp only [lenT, Nat.reduceAdd]; omega)) only [amT, cut, bnd, Nat.reduceBEq, reduceCtorEq, Nat.reduceEqDiff, Nat.reduceAdd, Nat.reduceMul, Nat.reduceSub, Int.reduceToNat, Int.reduceEq, Int.reduceLT, Int.reduceLE, Int.reduceAdd, Int.reduceSub, Int.reduceMul, reduceIte, resVs, resV, packV, initT, addr])
end Go.Proofs.Ytbmjhiifinjieaa
namespace Go.AM
theorem RowV.ints {m : AMem} {a : Option Addr} {l : List Int} (cap : Nat) (h : RowV m a (l.map fun n => .int .i64 n)) : IntV m (.slice a l.length cap) l := by
  refine ⟨a, cap, rfl, fun i hi => ?_⟩
  rcases h.2 with h0 | ⟨b, ty, rfl, hg⟩
  · obtain rfl : l = [] := by simpa using h0
    cases hi
  · refine ⟨b, 0, rfl, h.1 _ _ rfl, ?_⟩
    rw [rd_def, hg, rdO_cells, Nat.zero_add]
    unfold cutL
    rw [if_pos (by simp; omega)]
    simp [hi, List.drop_eq_getElem_cons]
theorem RowV.lt {m : AMem} {a : Option Addr} {c : List Value} {len cap : Nat} (h : RowV m a c) : ∀ b o n k, Value.slice a len cap = .slice (some ⟨b, o, none⟩) n k → b < m.size := fun b o n k e => by
  cases e; exact h.1 _ _ rfl
theorem wf_i64' {n : Int} (h : (Lit.int .i64 n).wf = true) : -9223372036854775808 ≤ n ∧ n ≤ 9223372036854775807 := by
  have h2 : IntKind.i64.min ≤ n ∧ n ≤ IntKind.i64.max := by simpa [Lit.wf] using h
  exact h2
theorem wf_u32' {n : Int} (h : (Lit.int .u32 n).wf = true) : 0 ≤ n ∧ n ≤ 4294967295 := by
  have h2 : IntKind.u32.min ≤ n ∧ n ≤ IntKind.u32.max := by simpa [Lit.wf] using h
  exact h2
end Go.AM
namespace Go.Proofs.Ytbmjhiifinjieaa
open Go Go.AM
set_option linter.unusedVariables false
set_option linter.unusedSimpArgs false
set_option linter.unusedSectionVars false
set_option maxHeartbeats 2000000
set_option maxRecDepth 100000
variable [Ex]

theorem stays_ok (m : AMem) (kv : Value) (keep : List Int) (hk : IntV m kv keep) (hkl : keep.length ≤ 9223372036854775807) (hk64 : ∀ x ∈ keep, -9223372036854775808 ≤ x ∧ x ≤ 9223372036854775807) (i w : Nat) (hi : i ≤ 1000000) (hw : w ≤ 1000000000) :
    PureC Try.prog 0 19 [kv, .int .i64 i, .int .i64 w] m (.int .i64 (staysR keep i w)) := by
  refine pure_of_W (fn := Try.f19) rfl rfl F19_ok (by simp [F19]) (.int _ _) ?_
  obtain ⟨ak, ck, rfl, hki⟩ := hk
  have hs := stays_int keep i w
  by_cases h1 : (keep.length : Int) ≤ (i : Int)
  · have e := stays_none (keep := keep) (i := i) (by omega) w
    repeat first | simp (implicitDefEqProofs := false) (maxSteps := 1000000) (disch := first | omega | with_reducible assumption | (simp only [lenT, Nat.reduceAdd]; omega)) only [amT, cut, bnd, Nat.reduceBEq, reduceCtorEq, Nat.reduceEqDiff, Nat.reduceAdd, Nat.reduceMul, Nat.reduceSub, Int.reduceToNat, Int.reduceEq, Int.reduceLT, Int.reduceLE, Int.reduceAdd, Int.reduceSub, Int.reduceMul, reduceIte, resVs, resV, packV, initT, addr, F19, h1] | refine OrW.go ?_
    rw [e]; rfl
  · obtain ⟨b, o, rfl, hb, hr⟩ := hki i (by omega)
    rw [rd_def] at hr
    have hil : i < keep.length := by omega
    have hx := hk64 keep[i] (List.getElem_mem hil)
    have hg : keep.getD i 0 = keep[i] := by simp [List.getD, hil]
    rw [hg] at hs
    have t1 := Int.lt_tmod_of_pos keep[i] (show 0 < (w : Int) + 1 by omega)
    have t2 := Int.tmod_lt_of_pos keep[i] (show 0 < (w : Int) + 1 by omega)
    by_cases h2 : keep[i].tmod ((w : Int) + 1) < 0
    · have e : (staysR keep i w : Int) = keep[i].tmod ((w : Int) + 1) + w + 1 := by
        rw [← hs, Int.tmod_eq_of_lt (by omega) (by omega)]; omega
      repeat first | simp (implicitDefEqProofs := false) (maxSteps := 1000000) (disch := first | omega | with_reducible assumption | (simp only [lenT, Nat.reduceAdd]; omega)) only [amT, cut, bnd, Nat.reduceBEq, reduceCtorEq, Nat.reduceEqDiff, Nat.reduceAdd, Nat.reduceMul, Nat.reduceSub, Int.reduceToNat, Int.reduceEq, Int.reduceLT, Int.reduceLE, Int.reduceAdd, Int.reduceSub, Int.reduceMul, reduceIte, resVs, resV, packV, initT, addr, F19, h1, hr, h2, binV_rem] | refine OrW.go ?_
      rw [e]
    · have e : (staysR keep i w : Int) = keep[i].tmod ((w : Int) + 1) := by
        rw [← hs]
        rw [Int.tmod_eq_emod_of_nonneg (a := keep[i].tmod ((w : Int) + 1) + ((w : Int) + 1)) (by omega), Int.add_emod_right]
        exact Int.emod_eq_of_lt (by omega) (by omega)
      repeat first | simp (implicitDefEqProofs := false) (maxSteps := 1000000) (disch := first | omega | with_reducible assumption | (simp only [lenT, Nat.reduceAdd]; omega)) only [amT, cut, bnd, Nat.reduceBEq, reduceCtorEq, Nat.reduceEqDiff, Nat.reduceAdd, Nat.reduceMul, Nat.reduceSub, Int.reduceToNat, Int.reduceEq, Int.reduceLT, Int.reduceLE, Int.reduceAdd, Int.reduceSub, Int.reduceMul, reduceIte, resVs, resV, packV, initT, addr, F19, h1, hr, h2, binV_rem] | refine OrW.go ?_
      rw [e]

end Go.Proofs.Ytbmjhiifinjieaa
