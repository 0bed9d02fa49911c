/- DiskQuota. -/
import Derived.Test.YtbmjhiifinjieaaB3
import Derived.Test.YtbmjhiifinjieaaA4
import Derived.Test.YtbmjhiifinjieaaB2
set_option linter.unusedVariables false
set_option linter.unusedSimpArgs false
set_option linter.unnecessarySimpa false
namespace Go.Proofs.Ytbmjhiifinjieaa
open Go Go.AM
set_option linter.unusedVariables false
set_option linter.unusedSimpArgs false
set_option linter.unusedSectionVars false
set_option maxHeartbeats 2000000
set_option maxRecDepth 100000

variable [Ex]
theorem step_steps (d : DiskR) : (DiskR.step d).steps = d.steps + 1 := by unfold DiskR.step; split <;> rfl
theorem step_quota' (d : DiskR) : (DiskR.step d).quota = d.quota := by unfold DiskR.step; split <;> rfl
/-- What all that is done keeps to. -/
structure Keeps (d : DiskR) (act : Int) (e : Int) (d' : DiskR) : Prop where
  quota : d'.quota = d.quota
  used : usedR d'.files ≤ d.quota
  s0 : d.steps ≤ d'.steps
  s1 : d'.steps ≤ d.steps + 1
  same : act < 7 → e ≠ 0 → e ≠ 40 → d' = d
theorem Keeps.refl {d : DiskR} (hu : usedR d.files ≤ d.quota) (a e : Int) : Keeps d a e d := ⟨rfl, hu, Int.le_refl _, by omega, fun _ _ _ => rfl⟩
theorem Keeps.dries {d : DiskR} (hS : Sorted d.files) (hu : usedR d.files ≤ d.quota) (act : Int) (a b : List UInt8) (L : List UInt8 → Option (List UInt8)) (hL : ∀ c c', L c = some c' → c'.length ≤ c.length) : Keeps d act (driesR d a b L).1 (driesR d a b L).2 := by
  unfold driesR
  split
  · split
    · rename_i hat
      split
      · exact .refl hu _ _
      · rename_i c hc
        split
        · exact ⟨step_quota' d, by rw [step_files]; exact hu, by rw [step_steps]; omega, by rw [step_steps]; omega, fun _ _ h => absurd rfl h⟩
        · have hs : Sorted (delR d.files a) := hS.erase _
          have h1 := used_del hS hat
          have h2 := used_lay hs ⟨b, c, [], true⟩
          have h3 := hL _ _ hc
          have e1 : (FileR.mk b c [] true).size = c.length := by simp [FileR.size]
          have e2 : (fileAt d.files a).all.length = (fileAt d.files a).size := by simp [FileR.all, FileR.size]
          refine ⟨step_quota' d, ?_, by simp only []; rw [step_steps]; omega, by simp only []; rw [step_steps]; omega, fun _ h => absurd rfl h⟩
          show ((usedR (layR (delR d.files a) ⟨b, c, [], true⟩) : Nat) : Int) ≤ d.quota
          omega
    · exact .refl hu _ _
  · exact .refl hu _ _
theorem Keeps.does {d : DiskR} (hS : Sorted d.files) (hu : usedR d.files ≤ d.quota) (x : ActR) : Keeps d (x.act.tmod 10) (doesR d x).1.1 (doesR d x).2 := by
  unfold doesR
  split
  · show Keeps d _ (appendR d x.name x.b).1 (appendR d x.name x.b).2
    unfold appendR
    split
    · split
      · exact .refl hu _ _
      · split
        · exact .refl hu _ _
        · rename_i hful
          have h1 := used_lay hS { fileOr d.files x.name with wet := (fileOr d.files x.name).wet ++ x.b }
          have hsz : sizeOf' (getF d.files x.name) = (fileOr d.files x.name).size := by rw [(isAt_get hS x.name).2]; cases getF d.files x.name <;> rfl
          simp only [fileOr_name] at h1
          rw [hsz] at h1
          have hs2 : (FileR.mk x.name (fileOr d.files x.name).dry ((fileOr d.files x.name).wet ++ x.b) (fileOr d.files x.name).born).size = (fileOr d.files x.name).size + x.b.length := by simp only [FileR.size, List.length_append]; omega
          rw [hs2] at h1
          have hn := fileOr_name d.files x.name
          refine ⟨by simp only []; rw [step_quota'], ?_, by simp only []; rw [step_steps]; simp only []; omega, by simp only []; rw [step_steps]; simp only []; omega, fun _ h1 h2 => by split at h1 <;> simp_all⟩
          simp only [step_files, hn]
          omega
    · exact .refl hu _ _
  split; · exact .dries hS hu _ _ _ _ (fun c c' h => by cases h; exact Nat.le_refl _)
  split; · exact .dries hS hu _ _ _ _ (cutN_le x.n)
  split; · exact .dries hS hu _ _ _ _ (fun c c' h => by cases h; exact Nat.le_refl _)
  split
  · show Keeps d _ (removeR d x.name).1 (removeR d x.name).2
    unfold removeR
    split
    · split
      · rename_i hat
        split
        · exact ⟨step_quota' d, by rw [step_files]; exact hu, by rw [step_steps]; omega, by rw [step_steps]; omega, fun _ _ h => absurd rfl h⟩
        · have h1 := used_del hS hat
          refine ⟨step_quota' d, ?_, by simp only []; rw [step_steps]; omega, by simp only []; rw [step_steps]; omega, fun _ h => absurd rfl h⟩
          show ((usedR (delR d.files x.name) : Nat) : Int) ≤ d.quota
          omega
      · exact .refl hu _ _
    · exact .refl hu _ _
  split; · exact .refl hu _ _
  split
  · exact ⟨rfl, hu, Int.le_refl _, by simp only [failR]; omega, fun h => by omega⟩
  split
  · exact ⟨rfl, hu, Int.le_refl _, by simp only [crashR]; omega, fun h => by omega⟩
  · have h2 := used_onS (keep := x.keep) d.files 0
    unfold onR
    split
    · refine ⟨rfl, ?_, Int.le_refl _, by simp only []; omega, fun _ h => absurd rfl h⟩
      rw [onS_eq]; simp only []; omega
    · exact ⟨rfl, hu, Int.le_refl _, by simp only []; omega, fun _ h => absurd rfl h⟩
theorem small_b {x : ActR} (h : smallA x = true) : x.b.length ≤ 200 := by simp [smallA] at h; omega
theorem few_all {l : List ActR} (h : fewB l = true) : l.length ≤ 50 ∧ ∀ x ∈ l, smallA x = true := by
  simp only [fewB, Bool.and_eq_true, decide_eq_true_eq] at h
  rw [List.take_of_length_le h.2] at h
  exact ⟨h.2, List.all_eq_true.1 h.1⟩
end Go.Proofs.Ytbmjhiifinjieaa
namespace Go.Proofs.Ytbmjhiifinjieaa
open Go Go.AM
set_option linter.unusedVariables false
set_option linter.unusedSimpArgs false
set_option linter.unusedSectionVars false
set_option maxHeartbeats 2000000
set_option maxRecDepth 100000

theorem RAt.dstep {M M' : AMem} {p p2 : Nat} {v v' v2 : Value} {d r : DiskR} (hR : RAt M p2 v2 r) (hD : @DAt ⟨p⟩ M p v d) (hs : DStep p v M v' M') : RAt M' p2 v2 r := by
  letI : Ex := ⟨p⟩
  have gA := @DAt.get ⟨p⟩ _ _ _ _ hD
  have fA := @DAt.files ⟨p⟩ _ _ _ _ hD
  have n1 : ∀ x X w sp e, e = 73 ∨ e = 91 → M.get x = .cells X e w sp → ¬ (x = p ∨ ownV v x) := fun x X w sp e he hx h => by
    rcases h with rfl | h
    · rw [gA] at hx; rcases he with rfl | rfl <;> cases hx
    · rcases he with rfl | rfl
      · exact @not_own ⟨p⟩ _ _ _ fA _ _ _ _ _ hx (by decide) h
      · exact @not_own ⟨p⟩ _ _ _ fA _ _ _ _ _ hx (by decide) h
  exact ⟨Nat.lt_of_lt_of_le hR.lt hs.1.1, by rw [hs.1.2 p2 hR.lt (n1 _ _ _ _ _ (.inl rfl) hR.get)]; exact hR.get, hR.files.keep hs.1 fun x X w sp hx => n1 x X w sp 91 (.inr rfl) hx⟩
theorem DIn.rstep {m0 M M' : AMem} {p p2 : Nat} {v v2 : Value} {d r : DiskR} (hD : @DIn ⟨p⟩ m0 M p v d) (hR : RAt M p2 v2 r) (h2 : m0.size ≤ p2) (hs : RStep p2 M M') : @DIn ⟨p⟩ m0 M' p v d := by
  letI : Ex := ⟨p⟩
  have hA := @DIn.here ⟨p⟩ _ _ _ _ _ hD
  have gA := @DAt.get ⟨p⟩ _ _ _ _ hA
  have lA := @DAt.lt ⟨p⟩ _ _ _ _ hA
  have fA := @DAt.files ⟨p⟩ _ _ _ _ hA
  have hne : p ≠ p2 := fun e => by subst e; rw [hR.get] at gA; exact absurd (AObj.cells.inj gA).2.1 (by decide)
  have hB' : @DAt ⟨p⟩ M' p v d := @DAt.mk ⟨p⟩ _ _ _ _ (Nat.lt_of_lt_of_le lA hs.1) (by rw [hs.2 p lA hne]; exact gA) (@FilesV.keep ⟨p⟩ _ _ _ _ fA _ hs (fun x X w sp hx e => by subst e; rw [hR.get] at hx; cases hx) (fun x hx e => by subst e; exact @not_own ⟨p⟩ _ _ _ fA _ _ _ _ _ hR.get (by decide) hx)) (Nat.lt_of_lt_of_le lA hs.1)
  have ho := @DIn.old ⟨p⟩ _ _ _ _ _ hD
  exact @DIn.mk ⟨p⟩ _ _ _ _ _ hB' ⟨Nat.le_trans ho.1 hs.1, fun x hx => by rw [hs.2 x (Nat.lt_of_lt_of_le hx ho.1) (by omega)]; exact ho.2 x hx⟩ (@DIn.ap ⟨p⟩ _ _ _ _ _ hD) (@DIn.own ⟨p⟩ _ _ _ _ _ hD)
theorem lawActs (m : AMem) (q : Int) (hq : -9223372036854775808 ≤ q ∧ q ≤ 9223372036854775807) (a1 : Option Addr) (cap1 : Nat) (l1 : List ActR) (hl1 : ActsV m a1 l1) (h1_64 : l1.length ≤ 9223372036854775807) :
    PureC Try.prog 0 7 [.int .i64 q, .slice a1 l1.length cap1] m (.bool true) := by
  refine pure_of_W (fn := Try.f7) rfl rfl F7_ok (by simp [F7]) (.bool _) ?_
  letI : Ex := ⟨m.size⟩
  have kW := DetC.known (works_ok (mx m []))
  have kF1 := DetC.known (few_ok (mx m []) a1 cap1 l1 (hl1.old (Old.here _ _)) h1_64)
  cases hfew1 : fewB l1 with
  | false =>
    rw [hfew1] at kF1
    repeat first | simp (implicitDefEqProofs := false) (maxSteps := 1000000) (disch := first | omega | with_reducible assumption | (simp only [lenT, Nat.reduceAdd]; omega)) only [amT, cut, bnd, Nat.reduceBEq, reduceCtorEq, Nat.reduceEqDiff, Nat.reduceAdd, Nat.reduceMul, Nat.reduceSub, Int.reduceToNat, Int.reduceEq, Int.reduceLT, Int.reduceLE, Int.reduceAdd, Int.reduceSub, Int.reduceMul, reduceIte, resVs, resV, packV, initT, addr, F7, kF1, kW] | refine OrW.go ?_
  | true =>
    rw [hfew1] at kF1
    obtain ⟨hl1_50, hsm1⟩ := few_all hfew1
    have k11 := DetC.known (new_ok (mx m []) q)
    rw [mx_nil_size, mx_mx, List.nil_append] at k11
    have k26 := DetC.known (rnew_ok (mx m [.cells ((newR q).cells (.slice none 0 0)) 60 true .exact]) q)
    rw [mx_size, mx_mx] at k26
    simp only [List.length_cons, List.length_nil, Nat.zero_add, List.cons_append, List.nil_append] at k26
    have h0 := (DIn.new (Old.refl m) (Nat.le_refl _) q).keep (Old.more m [_] [.cells ((newR q).cells (.slice none 0 0)) 73 true .exact])
    simp only [List.cons_append, List.nil_append] at h0
    have b0 : Bud (newR q) 0 := Bud.new hq.2
    have r0 : RAt (mx m [.cells ((newR q).cells (.slice none 0 0)) 60 true .exact, .cells ((newR q).cells (.slice none 0 0)) 73 true .exact]) (m.size + 1) (.slice none 0 0) (newR q) := ⟨by rw [mx_size]; simp, mx_new _ _ 1, .inl ⟨rfl, rfl⟩⟩
    repeat first | simp (implicitDefEqProofs := false) (maxSteps := 1000000) (disch := first | omega | with_reducible assumption | (simp only [lenT, Nat.reduceAdd]; omega)) only [amT, cut, bnd, Nat.reduceBEq, reduceCtorEq, Nat.reduceEqDiff, Nat.reduceAdd, Nat.reduceMul, Nat.reduceSub, Int.reduceToNat, Int.reduceEq, Int.reduceLT, Int.reduceLE, Int.reduceAdd, Int.reduceSub, Int.reduceMul, reduceIte, resVs, resV, packV, initT, addr, F7, kF1, k11, k26] | refine OrW.go ?_
    refine W_loop (fun N qs => ∃ (i : Nat) (M : AMem) (v : Value) (d : DiskR) (v2 : Value) (r : DiskR), N = l1.length - i ∧ qs.ds = [] ∧ qs.m = mx M [] ∧ qs.t 1 = .slice a1 l1.length cap1 ∧ qs.t 5 = .pointer (some ⟨m.size, 0, none⟩) ∧ qs.t 6 = .pointer (some ⟨m.size + 1, 0, none⟩) ∧ qs.t 7 = .int .i64 i ∧ i ≤ l1.length ∧ DIn m M m.size v d ∧ RAt M (m.size + 1) v2 r ∧ Same d r ∧ Bud d i ∧ GoodN r.files) (l1.length - (0)) ⟨0, mx m [.cells ((newR q).cells (.slice none 0 0)) 60 true .exact, .cells ((newR q).cells (.slice none 0 0)) 73 true .exact], .slice none 0 0, newR q, .slice none 0 0, newR q, rfl, rfl, ?qm, ?q1, ?q5, ?q6, ?q7, ?_⟩ ?_
    case qm | q1 | q5 | q6 | q7 => first | rfl | (simp (implicitDefEqProofs := false) (maxSteps := 1000000) (disch := first | omega | with_reducible assumption | (simp only [lenT, Nat.reduceAdd]; omega)) only [amT, cut, bnd, Nat.reduceBEq, reduceCtorEq, Nat.reduceEqDiff, Nat.reduceAdd, Nat.reduceMul, Nat.reduceSub, Int.reduceToNat, Int.reduceEq, Int.reduceLT, Int.reduceLE, Int.reduceAdd, Int.reduceSub, Int.reduceMul, reduceIte, resVs, resV, packV, initT, addr, mx_mx, List.append_nil]; first | done | rfl | (congr 1; omega))
    · exact ⟨by omega, h0, r0, Same.new q, b0, fun f hf => by cases hf⟩
    · rintro N t m1 ds ⟨i, M, v, d, v2, r, rfl, hds, hm, t1, t5, t6, t7, hp⟩
      simp only at hds hm t1 t5 t6 t7
      subst hds; replace hm := hm.symm; subst hm
      obtain ⟨hi, hI, hR, hS, hB, hN⟩ := hp
      by_cases hil : (i : Int) < (l1.length : Int)
      · have hil' : i < l1.length := by omega
        obtain ⟨b, o, ka, kc, rfl, hb, hr, hA, hok⟩ := hl1 i hil'
        have hxs := small_b (hsm1 _ (List.getElem_mem hil'))
        have hb1 : b < M.size := Nat.lt_of_lt_of_le hb hI.old.1
        have hr1 : rdO (M.get b) (o + i * 6) 6 = some (actRow l1[i] ka kc) := by rw [hI.old.2 b hb]; exact hr
        have hdo := does_ok m (mx M []) m.size v d (hI.mx []) i hB (by omega) l1[i] hok ka kc hA (by omega)
        have hB2 := hB.does l1[i] hok (by omega)
        obtain ⟨hSe, hS2⟩ := hS.does l1[i]
        have hN2 := hN.has l1[i]
        have hRO := ROk.of hS (hB.ok (by omega))
        have hhas := fun (M' : AMem) (hR' : RAt M' (m.size + 1) v2 r) (hA' : ActV M' l1[i] ka kc) => has_ok M' (m.size + 1) v2 r hR' hRO (fun j hj => look_sorted hS hj) l1[i] hok ka kc hA' (fun b o e => by have := hA.2 b o e; omega) (by omega)
        rw [← hSe] at hhas
        generalize doesR d l1[i] = D at hB2 hdo hSe hS2 hhas
        generalize hasR r l1[i] = H at hN2 hS2 hhas
        repeat first | simp (implicitDefEqProofs := false) (maxSteps := 1000000) (disch := first | omega | with_reducible assumption | (simp only [lenT, Nat.reduceAdd]; omega)) only [amT, cut, bnd, Nat.reduceBEq, reduceCtorEq, Nat.reduceEqDiff, Nat.reduceAdd, Nat.reduceMul, Nat.reduceSub, Int.reduceToNat, Int.reduceEq, Int.reduceLT, Int.reduceLE, Int.reduceAdd, Int.reduceSub, Int.reduceMul, reduceIte, resVs, resV, packV, initT, addr, F7_l0, t1, t5, t6, t7, hil, hr1] | refine OrW.go ?_
        refine RelC.call hdo ?_
        rintro w M2 ⟨rfl, v3, hI2, hst⟩
        have hR2 := (hR.old (Old.here M [])).dstep (hI.mx []).here hst
        have hb2 : b < M2.size := Nat.lt_of_lt_of_le hb hI2.old.1
        have hr2 : rdO (M2.get b) (o + i * 6) 6 = some (actRow l1[i] ka kc) := by rw [hI2.old.2 b hb]; exact hr
        repeat first | simp (implicitDefEqProofs := false) (maxSteps := 1000000) (disch := first | omega | with_reducible assumption | (simp only [lenT, Nat.reduceAdd]; omega)) only [amT, cut, bnd, Nat.reduceBEq, reduceCtorEq, Nat.reduceEqDiff, Nat.reduceAdd, Nat.reduceMul, Nat.reduceSub, Int.reduceToNat, Int.reduceEq, Int.reduceLT, Int.reduceLE, Int.reduceAdd, Int.reduceSub, Int.reduceMul, reduceIte, resVs, resV, packV, initT, addr, t1, t5, t6, t7, hr2] | refine OrW.go ?_
        refine RelC.call (hhas _ (hR2.old (Old.here _ [])) (hA.old (hI2.mx []).old)) ?_
        rintro w M3 ⟨rfl, v4, hR3, hst3⟩
        have hI3 := DIn.rstep (hI2.mx []) (hR2.old (Old.here _ [])) (by omega) hst3
        have hal := alike_ok (mx M3 []) m.size (m.size + 1) v3 v4 D.2 H.2 (hI3.mx []).here (hR3.old (Old.here _ [])) hS2 (hB2.ok (by omega)) hN2
        repeat first | simp (implicitDefEqProofs := false) (maxSteps := 1000000) (disch := first | omega | with_reducible assumption | (simp only [lenT, Nat.reduceAdd]; omega)) only [amT, cut, bnd, Nat.reduceBEq, reduceCtorEq, Nat.reduceEqDiff, Nat.reduceAdd, Nat.reduceMul, Nat.reduceSub, Int.reduceToNat, Int.reduceEq, Int.reduceLT, Int.reduceLE, Int.reduceAdd, Int.reduceSub, Int.reduceMul, reduceIte, resVs, resV, packV, initT, addr, t1, t5, t6, t7] | refine OrW.go ?_
        refine RelC.call hal ?_
        rintro w M4 ⟨rfl, hO4⟩
        repeat first | simp (implicitDefEqProofs := false) (maxSteps := 1000000) (disch := first | omega | with_reducible assumption | (simp only [lenT, Nat.reduceAdd]; omega)) only [amT, cut, bnd, Nat.reduceBEq, reduceCtorEq, Nat.reduceEqDiff, Nat.reduceAdd, Nat.reduceMul, Nat.reduceSub, Int.reduceToNat, Int.reduceEq, Int.reduceLT, Int.reduceLE, Int.reduceAdd, Int.reduceSub, Int.reduceMul, reduceIte, resVs, resV, packV, initT, addr, t1, t5, t6, t7] | refine OrW.go ?_
        rw [LoopK_normal]; refine ⟨_, ?_, i + 1, M4, v3, D.2, v4, H.2, rfl, rfl, ?qm, ?q1, ?q5, ?q6, ?q7, ?_⟩
        case qm | q1 | q5 | q6 | q7 => first | rfl | (simp (implicitDefEqProofs := false) (maxSteps := 1000000) (disch := first | omega | with_reducible assumption | (simp only [lenT, Nat.reduceAdd]; omega)) only [amT, cut, bnd, Nat.reduceBEq, reduceCtorEq, Nat.reduceEqDiff, Nat.reduceAdd, Nat.reduceMul, Nat.reduceSub, Int.reduceToNat, Int.reduceEq, Int.reduceLT, Int.reduceLE, Int.reduceAdd, Int.reduceSub, Int.reduceMul, reduceIte, resVs, resV, packV, initT, addr, t1, t5, t6, t7]; first | done | rfl | (congr 1; omega))
        · omega
        · exact ⟨by omega, (hI3.mx []).keep hO4, (hR3.old (Old.here _ [])).old hO4, hS2, hB2, hN2⟩
      · have kWn := DetC.known (works_ok (mx M []))
        repeat first | simp (implicitDefEqProofs := false) (maxSteps := 1000000) (disch := first | omega | with_reducible assumption | (simp only [lenT, Nat.reduceAdd]; omega)) only [amT, cut, bnd, Nat.reduceBEq, reduceCtorEq, Nat.reduceEqDiff, Nat.reduceAdd, Nat.reduceMul, Nat.reduceSub, Int.reduceToNat, Int.reduceEq, Int.reduceLT, Int.reduceLE, Int.reduceAdd, Int.reduceSub, Int.reduceMul, reduceIte, resVs, resV, packV, initT, addr, F7_l0, t1, t5, t6, t7, hil, kWn] | refine OrW.go ?_
        exact hI.old.mx []
end Go.Proofs.Ytbmjhiifinjieaa
namespace Go.AM
theorem RowV.ints {m : AMem} {a : Option Addr} {l : List Int} (cap : Nat) (h : RowV m a (l.map fun n => .int .i64 n)) : IntV m (.slice a l.length cap) l := by
  refine ⟨a, cap, rfl, fun i hi => ?_⟩
  rcases h.2 with h0 | ⟨b, ty, rfl, hg⟩
  · obtain rfl : l = [] := by simpa using h0
    cases hi
  · refine ⟨b, 0, rfl, h.1 _ _ rfl, ?_⟩
    rw [rd_def, hg, rdO_cells, Nat.zero_add]
    unfold cutL
    rw [if_pos (by simp; omega)]
    simp [hi, List.drop_eq_getElem_cons]
theorem RowV.lt {m : AMem} {a : Option Addr} {c : List Value} {len cap : Nat} (h : RowV m a c) : ∀ b o n k, Value.slice a len cap = .slice (some ⟨b, o, none⟩) n k → b < m.size := fun b o n k e => by
  cases e; exact h.1 _ _ rfl
theorem wf_i64' {n : Int} (h : (Lit.int .i64 n).wf = true) : -9223372036854775808 ≤ n ∧ n ≤ 9223372036854775807 := by
  have h2 : IntKind.i64.min ≤ n ∧ n ≤ IntKind.i64.max := by simpa [Lit.wf] using h
  exact h2
theorem wf_u32' {n : Int} (h : (Lit.int .u32 n).wf = true) : 0 ≤ n ∧ n ≤ 4294967295 := by
  have h2 : IntKind.u32.min ≤ n ∧ n ≤ IntKind.u32.max := by simpa [Lit.wf] using h
  exact h2
end Go.AM
namespace Go.Proofs.Ytbmjhiifinjieaa
open Go Go.AM
set_option linter.unusedVariables false
set_option maxRecDepth 100000
set_option maxHeartbeats 1000000

def actCells (x : ActR) (kv : Value) : List Value := [.int .u8 x.act, .string ⟨x.name.toArray⟩, .string ⟨x.to.toArray⟩, .string ⟨x.b.toArray⟩, .int .i64 x.n, kv]
/-- An act, in a world. -/
theorem open_act {H : Type} {enc : TypeId × Value → H} {w : World} {base : Nat} {hd : Bool} {cs : List Value} {y : DataW H × List MemPlace} {fuel : Nat}
    (h : DataW.trod enc Try.prog w base (fun _ => true) hd fuel 44 cs = some y) : ∃ z : ActR × Value, cs = actCells z.1 z.2 ∧ SlP w (z.1.keep.map fun n => .int .i64 n) z.2 ∧ z.1.ok := by
  cases fuel with
  | zero => simp [DataW.trod] at h
  | succ fuel =>
    simp only [DataW.trod, Try.underlying44] at h
    split at h <;> try (simp at h; done)
    rename_i hlen
    have h6 : Try.prog.cellsOf 44 = 6 := by kernel_rfl
    rw [h6] at hlen
    simp only [Option.map_eq_some_iff] at h
    obtain ⟨xs, hxs, _⟩ := h
    obtain ⟨c0, c1, c2, c3, c4, c5, rfl⟩ : ∃ a b c d e f, cs = [a, b, c, d, e, f] := by
      match cs, hlen with
      | [a, b, c, d, e, f], _ => exact ⟨a, b, c, d, e, f, rfl⟩
    have k5 : Try.prog.cellsOf 5 = 1 := by kernel_rfl
    have k9 : Try.prog.cellsOf 9 = 1 := by kernel_rfl
    have k3 : Try.prog.cellsOf 3 = 1 := by kernel_rfl
    have k33 : Try.prog.cellsOf 33 = 1 := by kernel_rfl
    obtain ⟨y0, e0⟩ := Go.AM.mapM_some_get hxs 0 (by decide)
    obtain ⟨y1, e1⟩ := Go.AM.mapM_some_get hxs 1 (by decide)
    obtain ⟨y2, e2⟩ := Go.AM.mapM_some_get hxs 2 (by decide)
    obtain ⟨y3, e3⟩ := Go.AM.mapM_some_get hxs 3 (by decide)
    obtain ⟨y4, e4⟩ := Go.AM.mapM_some_get hxs 4 (by decide)
    obtain ⟨y5, e5⟩ := Go.AM.mapM_some_get hxs 5 (by decide)
    simp only [List.getElem_cons_zero, List.getElem_cons_succ, k5, k9, k3, k33, List.drop_zero, List.drop_succ_cons, List.take_succ_cons, List.take_zero] at e0 e1 e2 e3 e4 e5
    obtain ⟨a, rfl, w0⟩ := trod_one Try.underlying5 e0
    obtain ⟨s1, rfl, w1⟩ := trod_str Try.underlying9 e1
    obtain ⟨s2, rfl, w2⟩ := trod_str Try.underlying9 e2
    obtain ⟨s3, rfl, w3⟩ := trod_str Try.underlying9 e3
    obtain ⟨n, rfl, w4⟩ := trod_one Try.underlying3 e4
    obtain ⟨v, l, ev, hs, hl, hl2⟩ := open_ints Try.underlying33 Try.underlying3 k3 e5
    cases ev
    exact ⟨(⟨a, s1, s2, s3, n, l⟩, _), rfl, hs, wf_u8 w0, w1, w2, w3, wf_i64' w4, hl2, hl⟩

/-- A slice of acts, in a world. -/
inductive SlA (w : World) (l : List (ActR × Value)) : Value → Prop
  | nil (h : l = []) : SlA w l (.slice none 0 0)
  | none (a : Addr) (h : l = []) : SlA w l (.slice (some a) 0 0)
  | some (b o cap : Nat) (carr : Array Value) (ty : TypeId) (frz : Nat × Nat) (hh : w.heap[b]? = some (.cells carr ty frz)) (hl : o + l.length * 6 ≤ carr.size)
      (hc : ∀ i (h : i < l.length) r, r < 6 → carr.getD (o + (i * 6 + r)) undef = (actCells l[i].1 l[i].2).getD r undef) (hcap : cap ≤ 9223372036854775807) (hle : l.length ≤ cap) : SlA w l (.slice (some ⟨b, o, Option.none⟩) l.length cap)
theorem cells_get {w : World} {base n : Nat} {a : Addr} {cs : List Value} (h : w.cells? base a n = some cs) : cs.length = n ∧ ∀ r (hr : r < n), w.cell? (a.add r) = cs[r]? := by
  unfold World.cells? at h
  split at h
  · have hlen : cs.length = n := by
      have : ∀ (l : List Nat) (cs : List Value), l.mapM (fun i => w.cell? (a.add i)) = some cs → cs.length = l.length := by
        intro l
        induction l with
        | nil => intro cs h; simp at h; subst h; rfl
        | cons x l ih =>
          intro cs h
          simp only [List.mapM_cons, Option.bind_eq_bind, Option.bind_eq_some_iff] at h
          obtain ⟨y, _, ys, h2, h3⟩ := h
          cases h3
          simp [ih ys h2]
      have := this _ _ h; simpa using this
    refine ⟨hlen, fun r hr => ?_⟩
    have : ∀ (l : List Nat) (cs : List Value), l.mapM (fun i => w.cell? (a.add i)) = some cs → ∀ r (hr : r < l.length), w.cell? (a.add l[r]) = cs[r]? := by
      intro l
      induction l with
      | nil => intro cs h r hr; cases hr
      | cons x l ih =>
        intro cs h r hr
        simp only [List.mapM_cons, Option.bind_eq_bind, Option.bind_eq_some_iff] at h
        obtain ⟨y, h1, ys, h2, h3⟩ := h
        cases h3
        cases r with
        | zero => simpa using h1
        | succ r => simpa using ih ys h2 r (by simpa using hr)
    have := this _ _ h r (by simpa using hr)
    simpa using this
  · cases h
instance : Inhabited (ActR × Value) := ⟨(default, .bool false)⟩
theorem open_acts {H : Type} {enc : TypeId × Value → H} {w : World} {base : Nat} {hd : Bool} {cs : List Value} {x : DataW H × List MemPlace} {fuel : Nat}
    (h : DataW.trod enc Try.prog w base (fun _ => true) hd fuel 41 cs = some x) : ∃ (v : Value) (l : List (ActR × Value)), cs = [v] ∧ SlA w l v ∧ (∀ z ∈ l, SlP w (z.1.keep.map fun n => .int .i64 n) z.2 ∧ z.1.ok) ∧ l.length ≤ 9223372036854775807 := by
  have h6 : Try.prog.cellsOf 44 = 6 := by kernel_rfl
  rcases Go.Deep.open_slice Try.underlying41 h with ⟨rfl, _⟩ | ⟨a, len, cap, m, n, D, Pl, rfl, _, hle, hmax, hm, _, hx⟩
  · exact ⟨_, [], rfl, .nil rfl, by simp, by simp⟩
  · simp only [if_true] at hm
    subst hm
    by_cases h0 : len = 0
    · subst h0
      by_cases hm0 : m = 0
      · subst hm0; exact ⟨_, [], rfl, .none a rfl, by simp, by simp⟩
      · obtain ⟨cs', hc', _⟩ := hx 0 (by omega)
        rw [h6] at hc'
        obtain ⟨hlc, hcr⟩ := cells_get hc'
        have hc0 := hcr 0 (by omega)
        obtain ⟨b, o, sp⟩ := a
        rw [List.getElem?_eq_getElem (by omega)] at hc0
        simp only [Nat.zero_mul, Addr.add, if_true, World.cell?] at hc0
        split at hc0 <;> try (simp at hc0; done)
        rename_i carr ty frz hh
        split at hc0 <;> try (simp at hc0; done)
        rename_i hsp
        obtain rfl : sp = Option.none := by cases sp <;> simp_all
        have := (Array.getElem?_eq_some_iff.1 hc0).1
        exact ⟨_, [], rfl, .some b o m carr ty frz hh (by simp; omega) (fun i hi => by cases hi) hmax (by simp), by simp, by simp⟩
    · obtain ⟨cs', hc', _⟩ := hx 0 (by omega)
      rw [h6] at hc'
      obtain ⟨hlc, hcr⟩ := cells_get hc'
      have hc0 := hcr 0 (by omega)
      obtain ⟨b, o, sp⟩ := a
      rw [List.getElem?_eq_getElem (by omega)] at hc0
      simp only [Nat.zero_mul, Addr.add, if_true, World.cell?] at hc0
      split at hc0 <;> try (simp at hc0; done)
      rename_i carr ty frz hh
      split at hc0 <;> try (simp at hc0; done)
      rename_i hsp
      obtain rfl : sp = Option.none := by cases sp <;> simp_all
      have key : ∀ i, i < len → ∃ z : ActR × Value, (SlP w (z.1.keep.map fun n => .int .i64 n) z.2 ∧ z.1.ok) ∧ ∀ r, r < 6 → carr[o + (i * 6 + r)]? = some ((actCells z.1 z.2).getD r undef) := fun i hi => by
        obtain ⟨cs2, hc2, ht2⟩ := hx i (by omega)
        rw [h6] at hc2
        obtain ⟨hl2, hr2⟩ := cells_get hc2
        obtain ⟨z, rfl, hz1, hz2⟩ := open_act ht2
        refine ⟨z, ⟨hz1, hz2⟩, fun r hr => ?_⟩
        have := hr2 r hr
        rw [List.getElem?_eq_getElem (by omega)] at this
        have e : ((⟨b, o, Option.none⟩ : Addr).add (i * 6)).add r = ⟨b, o + (i * 6 + r), Option.none⟩ := by
          simp only [Addr.add]
          split <;> split <;> simp_all <;> omega
        rw [e] at this
        simp only [World.cell?, hh] at this
        simp only [Option.isSome_none, Bool.false_eq_true, if_false] at this
        rw [this, List.getD_eq_getElem?_getD, List.getElem?_eq_getElem (by omega)]; rfl
      obtain ⟨f, hf⟩ := Go.Deep.choose_lt (α := ActR × Value) (n := len) key
      have hlen : ((List.range len).map f).length = len := by simp
      have hlast : o + len * 6 ≤ carr.size := by
        have := (Array.getElem?_eq_some_iff.1 ((hf (len - 1) (by omega)).2 5 (by omega))).1; omega
      have main : SlA w ((List.range len).map f) (.slice (some ⟨b, o, Option.none⟩) ((List.range len).map f).length m) :=
        .some b o m carr ty frz hh (by rw [hlen]; exact hlast) (fun i hi r hr => by
          have hi' : i < len := by rw [hlen] at hi; exact hi
          rw [Array.getD_eq_getD_getElem?, (hf i hi').2 r hr]; simp) hmax (by rw [hlen]; exact hle)
      rw [hlen] at main
      refine ⟨_, (List.range len).map f, rfl, main, fun z hz => ?_, by rw [hlen]; exact Nat.le_trans hle hmax⟩
      simp only [List.mem_map, List.mem_range] at hz
      obtain ⟨i, hi, rfl⟩ := hz
      exact (hf i hi).1

/-- A row of acts as an argument: its blocks are those from the k-th on. -/
theorem arg_acts {W : World} {l : List (ActR × Value)} {v : Value} (h : SlA W l v) (hl : ∀ z ∈ l, SlP W (z.1.keep.map fun n => .int .i64 n) z.2 ∧ z.1.ok) (k : Nat) : ∃ (L : List (AObj × AM.Loc)) (a : Option Addr) (cap : Nat), (∀ x ∈ L, x.1.wrt = false) ∧
    ∀ os : List (AObj × AM.Loc), (∀ j (h : j < L.length), os[k + j]? = some L[j]) → (∀ x ∈ L, ObjRel (renOf (os0 os)) x.1 x.2 W) ∧ ActsV (memOf (os0 os)) a (l.map (·.1)) ∧ VRel (renOf (os0 os)) (.slice a (l.map (·.1)).length cap) v := by
  cases h with
  | nil h => subst h; exact ⟨[], none, 0, by simp, fun os _ => ⟨by simp, fun i hi => by simp at hi, .nilSlice 0 0⟩⟩
  | none a h => subst h; exact ⟨[], some ⟨0, 0, none⟩, 0, by simp, fun os _ => ⟨by simp, fun i hi => by simp at hi, .sliceEnd (b := 0) (o := 0) (L := ⟨0, 0, 0, 1⟩) rfl (.inl rfl)⟩⟩
  | some b o cap carr ty frz hh hlen hc hcap hle =>
    haveI : Inhabited ((AObj × AM.Loc) × Option Addr × Nat) := ⟨((.dead, ⟨0, 0, 0, 1⟩), none, 0)⟩
    have each : ∀ i, i < l.length → ∃ y : (AObj × AM.Loc) × Option Addr × Nat, y.1.1.wrt = false ∧ (∀ ρ, ObjRel ρ y.1.1 y.1.2 W) ∧ ∀ os : List (AObj × AM.Loc), os[k + 1 + i]? = some y.1 →
        RowV (memOf (os0 os)) y.2.1 ((l.getD i default).1.keep.map fun n => .int .i64 n) ∧ VRel (renOf (os0 os)) (.slice y.2.1 (l.getD i default).1.keep.length y.2.2) (l.getD i default).2 := fun i hi => by
      have hz := (hl _ (List.getElem_mem hi)).1
      have e : l.getD i default = l[i] := by simp [List.getD, hi]
      obtain ⟨x, a, c, h1, h2, h3⟩ := arg_row (by intro v hv; simp only [List.mem_map] at hv; obtain ⟨y, _, rfl⟩ := hv; exact AM.Plain.int _ _) hz (k + 1 + i)
      refine ⟨(x, a, c), h1, h2, fun os hos => ?_⟩
      rw [e]
      have := h3 os hos
      rw [List.length_map] at this
      exact this
    obtain ⟨y, hy⟩ := Go.Deep.choose_lt (α := (AObj × AM.Loc) × Option Addr × Nat) (n := l.length) each
    let row : Nat → List Value := fun i => actRow (l.getD i default).1 (y i).2.1 (y i).2.2
    let X : List Value := (List.range (l.length * 6)).map fun j => (row (j / 6)).getD (j % 6) undef
    have hXl : X.length = l.length * 6 := by simp [X]
    have hXg : ∀ i r (hr : r < 6) (hi : i * 6 + r < X.length), X[i * 6 + r] = (row i).getD r undef := fun i r hr hi => by
      simp only [X, List.getElem_map, List.getElem_range]
      rw [show (i * 6 + r) / 6 = i by omega, show (i * 6 + r) % 6 = r by omega]
    refine ⟨(.cells X ty false (.full 6), ⟨b, o, l.length * 6, 6⟩) :: (List.range l.length).map fun i => (y i).1, some ⟨1 + k, 0, none⟩, cap, fun x hx => ?_, fun os hos => ?_⟩
    · simp only [List.mem_cons, List.mem_map, List.mem_range] at hx
      rcases hx with rfl | ⟨i, hi, rfl⟩
      · rfl
      · exact (hy i hi).1
    · have h0 : os[k]? = some (.cells X ty false (.full 6), ⟨b, o, l.length * 6, 6⟩) := by have := hos 0 (by simp); simpa using this
      have hi1 : ∀ i, i < l.length → os[k + 1 + i]? = some (y i).1 := fun i hi => by
        have := hos (i + 1) (by simp; omega)
        rw [show k + (i + 1) = k + 1 + i by omega] at this
        rw [this]; simp
      have hE := fun i hi => (hy i hi).2.2 os (hi1 i hi)
      have hget : ∀ i (hi : i < l.length), l.getD i default = l[i] := fun i hi => by simp [List.getD, hi]
      refine ⟨fun x hx => ?_, fun i hi => ?_, ?_⟩
      · simp only [List.mem_cons, List.mem_map, List.mem_range] at hx
        rcases hx with rfl | ⟨i, hi, rfl⟩
        · refine ⟨carr, frz, hh, hlen, by rw [hXl]; exact Nat.le_refl _, (fun h => by cases h), (fun k h => by cases h; exact ⟨hXl.symm, rfl, by omega⟩), (fun j hj => ?_), (fun z h => by cases h), (fun h => by cases h)⟩
          have hj6 : j / 6 < l.length := by rw [hXl] at hj; omega
          have hjr : j % 6 < 6 := by omega
          have ej : j / 6 * 6 + j % 6 = j := by omega
          have h1 := hXg (j / 6) (j % 6) hjr (by omega)
          have h2 := hc (j / 6) hj6 (j % 6) hjr
          simp only [ej] at h1 h2
          rw [h1, h2]
          have h3 := (hE (j / 6) hj6).2
          rw [hget _ hj6] at h3
          simp only [row]
          rw [hget _ hj6]
          have : j % 6 = 0 ∨ j % 6 = 1 ∨ j % 6 = 2 ∨ j % 6 = 3 ∨ j % 6 = 4 ∨ j % 6 = 5 := by omega
          rcases this with e | e | e | e | e | e <;> rw [e]
          · exact .int _ _
          · exact .string _
          · exact .string _
          · exact .string _
          · exact .int _ _
          · exact h3
        · exact (hy i hi).2.1 _
      · have hi' : i < l.length := by simpa using hi
        have hE' := (hE i hi')
        refine ⟨1 + k, 0, (y i).2.1, (y i).2.2, rfl, lt0_at h0, ?_, ?_, ?_⟩
        · rw [get0_at h0, rdO_cells]
          unfold cutL
          rw [if_pos (by omega)]
          congr 1
          refine List.ext_getElem (by simp [actRow]; omega) fun r h1 h2 => ?_
          have hr : r < 6 := by simpa [actRow] using h2
          rw [List.getElem_take, List.getElem_drop]
          have := hXg i r hr (by omega)
          simp only [Nat.zero_add]
          rw [this]
          simp only [row, hget i hi', List.getElem_map]
          rw [List.getD_eq_getElem?_getD, List.getElem?_eq_getElem (by simpa [actRow] using hr)]; simp
        · rw [hget i hi'] at hE'
          rw [List.getElem_map]
          exact ⟨AM.RowV.ints _ hE'.1, fun b o e => hE'.1.1 b o e⟩
        · rw [List.getElem_map]; exact (hl _ (List.getElem_mem hi')).2
      · rw [List.length_map]
        exact .slice (b := 1 + k) (o := 0) (L := ⟨b, o, l.length * 6, 6⟩) (ren0_at h0) (openCap_lt hcap)
end Go.Proofs.Ytbmjhiifinjieaa
