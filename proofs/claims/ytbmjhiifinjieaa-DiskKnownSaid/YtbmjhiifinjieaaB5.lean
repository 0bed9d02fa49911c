/- DiskActs. -/
import Derived.Test.YtbmjhiifinjieaaB4
import Derived.Test.YtbmjhiifinjieaaB3
import Derived.Test.YtbmjhiifinjieaaB2
set_option linter.unusedVariables false
set_option linter.unusedSimpArgs false
set_option linter.unnecessarySimpa false
namespace Go.Proofs.Ytbmjhiifinjieaa
open Go Go.AM
set_option linter.unusedVariables false
set_option linter.unusedSimpArgs false
set_option linter.unusedSectionVars false
set_option maxHeartbeats 2000000
set_option maxRecDepth 100000

theorem RAt.dstep {M M' : AMem} {p p2 : Nat} {v v' v2 : Value} {d r : DiskR} (hR : RAt M p2 v2 r) (hD : @DAt ⟨p⟩ M p v d) (hs : DStep p v M v' M') : RAt M' p2 v2 r := by
  letI : Ex := ⟨p⟩
  have gA := @DAt.get ⟨p⟩ _ _ _ _ hD
  have fA := @DAt.files ⟨p⟩ _ _ _ _ hD
  have n1 : ∀ x X w sp e, e = 73 ∨ e = 91 → M.get x = .cells X e w sp → ¬ (x = p ∨ ownV v x) := fun x X w sp e he hx h => by
    rcases h with rfl | h
    · rw [gA] at hx; rcases he with rfl | rfl <;> cases hx
    · rcases he with rfl | rfl
      · exact @not_own ⟨p⟩ _ _ _ fA _ _ _ _ _ hx (by decide) h
      · exact @not_own ⟨p⟩ _ _ _ fA _ _ _ _ _ hx (by decide) h
  exact ⟨Nat.lt_of_lt_of_le hR.lt hs.1.1, by rw [hs.1.2 p2 hR.lt (n1 _ _ _ _ _ (.inl rfl) hR.get)]; exact hR.get, hR.files.keep hs.1 fun x X w sp hx => n1 x X w sp 91 (.inr rfl) hx⟩
theorem DIn.rstep {m0 M M' : AMem} {p p2 : Nat} {v v2 : Value} {d r : DiskR} (hD : @DIn ⟨p⟩ m0 M p v d) (hR : RAt M p2 v2 r) (h2 : m0.size ≤ p2) (hs : RStep p2 M M') : @DIn ⟨p⟩ m0 M' p v d := by
  letI : Ex := ⟨p⟩
  have hA := @DIn.here ⟨p⟩ _ _ _ _ _ hD
  have gA := @DAt.get ⟨p⟩ _ _ _ _ hA
  have lA := @DAt.lt ⟨p⟩ _ _ _ _ hA
  have fA := @DAt.files ⟨p⟩ _ _ _ _ hA
  have hne : p ≠ p2 := fun e => by subst e; rw [hR.get] at gA; exact absurd (AObj.cells.inj gA).2.1 (by decide)
  have hB' : @DAt ⟨p⟩ M' p v d := @DAt.mk ⟨p⟩ _ _ _ _ (Nat.lt_of_lt_of_le lA hs.1) (by rw [hs.2 p lA hne]; exact gA) (@FilesV.keep ⟨p⟩ _ _ _ _ fA _ hs (fun x X w sp hx e => by subst e; rw [hR.get] at hx; cases hx) (fun x hx e => by subst e; exact @not_own ⟨p⟩ _ _ _ fA _ _ _ _ _ hR.get (by decide) hx)) (Nat.lt_of_lt_of_le lA hs.1)
  have ho := @DIn.old ⟨p⟩ _ _ _ _ _ hD
  exact @DIn.mk ⟨p⟩ _ _ _ _ _ hB' ⟨Nat.le_trans ho.1 hs.1, fun x hx => by rw [hs.2 x (Nat.lt_of_lt_of_le hx ho.1) (by omega)]; exact ho.2 x hx⟩ (@DIn.ap ⟨p⟩ _ _ _ _ _ hD) (@DIn.own ⟨p⟩ _ _ _ _ _ hD)
theorem lawActs (m : AMem) (q : Int) (hq : -9223372036854775808 ≤ q ∧ q ≤ 9223372036854775807) (a1 : Option Addr) (cap1 : Nat) (l1 : List ActR) (hl1 : ActsV m a1 l1) (h1_64 : l1.length ≤ 9223372036854775807) :
    PureC Try.prog 0 7 [.int .i64 q, .slice a1 l1.length cap1] m (.bool true) := by
  refine pure_of_W (fn := Try.f7) rfl rfl F7_ok (by simp [F7]) (.bool _) ?_
  letI : Ex := ⟨m.size⟩
  have kW := DetC.known (works_ok (mx m []))
  have kF1 := DetC.known (few_ok (mx m []) a1 cap1 l1 (hl1.old (Old.here _ _)) h1_64)
  cases hfew1 : fewB l1 with
  | false =>
    rw [hfew1] at kF1
    repeat first | simp (implicitDefEqProofs := false) (maxSteps := 1000000) (disch := first | omega | with_reducible assumption | (simp only [lenT, Nat.reduceAdd]; omega)) only [amT, cut, bnd, Nat.reduceBEq, reduceCtorEq, Nat.reduceEqDiff, Nat.reduceAdd, Nat.reduceMul, Nat.reduceSub, Int.reduceToNat, Int.reduceEq, Int.reduceLT, Int.reduceLE, Int.reduceAdd, Int.reduceSub, Int.reduceMul, reduceIte, resVs, resV, packV, initT, addr, F7, kF1, kW] | refine OrW.go ?_
  | true =>
    rw [hfew1] at kF1
    obtain ⟨hl1_50, hsm1⟩ := few_all hfew1
    have k11 := DetC.known (new_ok (mx m []) q)
    rw [mx_nil_size, mx_mx, List.nil_append] at k11
    have k26 := DetC.known (rnew_ok (mx m [.cells ((newR q).cells (.slice none 0 0)) 60 true .exact]) q)
    rw [mx_size, mx_mx] at k26
    simp only [List.length_cons, List.length_nil, Nat.zero_add, List.cons_append, List.nil_append] at k26
    have h0 := (DIn.new (Old.refl m) (Nat.le_refl _) q).keep (Old.more m [_] [.cells ((newR q).cells (.slice none 0 0)) 73 true .exact])
    simp only [List.cons_append, List.nil_append] at h0
    have b0 : Bud (newR q) 0 := Bud.new hq.2
    have r0 : RAt (mx m [.cells ((newR q).cells (.slice none 0 0)) 60 true .exact, .cells ((newR q).cells (.slice none 0 0)) 73 true .exact]) (m.size + 1) (.slice none 0 0) (newR q) := ⟨by rw [mx_size]; simp, mx_new _ _ 1, .inl ⟨rfl, rfl⟩⟩
    repeat first | simp (implicitDefEqProofs := false) (maxSteps := 1000000) (disch := first | omega | with_reducible assumption | (simp only [lenT, Nat.reduceAdd]; omega)) only [amT, cut, bnd, Nat.reduceBEq, reduceCtorEq, Nat.reduceEqDiff, Nat.reduceAdd, Nat.reduceMul, Nat.reduceSub, Int.reduceToNat, Int.reduceEq, Int.reduceLT, Int.reduceLE, Int.reduceAdd, Int.reduceSub, Int.reduceMul, reduceIte, resVs, resV, packV, initT, addr, F7, kF1, k11, k26] | refine OrW.go ?_
    refine W_loop (fun N qs => ∃ (i : Nat) (M : AMem) (v : Value) (d : DiskR) (v2 : Value) (r : DiskR), N = l1.length - i ∧ qs.ds = [] ∧ qs.m = mx M [] ∧ qs.t 1 = .slice a1 l1.length cap1 ∧ qs.t 5 = .pointer (some ⟨m.size, 0, none⟩) ∧ qs.t 6 = .pointer (some ⟨m.size + 1, 0, none⟩) ∧ qs.t 7 = .int .i64 i ∧ i ≤ l1.length ∧ DIn m M m.size v d ∧ RAt M (m.size + 1) v2 r ∧ Same d r ∧ Bud d i ∧ GoodN r.files) (l1.length - (0)) ⟨0, mx m [.cells ((newR q).cells (.slice none 0 0)) 60 true .exact, .cells ((newR q).cells (.slice none 0 0)) 73 true .exact], .slice none 0 0, newR q, .slice none 0 0, newR q, rfl, rfl, ?qm, ?q1, ?q5, ?q6, ?q7, ?_⟩ ?_
    case qm | q1 | q5 | q6 | q7 => first | rfl | (simp (implicitDefEqProofs := false) (maxSteps := 1000000) (disch := first | omega | with_reducible assumption | (simp only [lenT, Nat.reduceAdd]; omega)) only [amT, cut, bnd, Nat.reduceBEq, reduceCtorEq, Nat.reduceEqDiff, Nat.reduceAdd, Nat.reduceMul, Nat.reduceSub, Int.reduceToNat, Int.reduceEq, Int.reduceLT, Int.reduceLE, Int.reduceAdd, Int.reduceSub, Int.reduceMul, reduceIte, resVs, resV, packV, initT, addr, mx_mx, List.append_nil]; first | done | rfl | (congr 1; omega))
    · exact ⟨by omega, h0, r0, Same.new q, b0, fun f hf => by cases hf⟩
    · rintro N t m1 ds ⟨i, M, v, d, v2, r, rfl, hds, hm, t1, t5, t6, t7, hp⟩
      simp only at hds hm t1 t5 t6 t7
      subst hds; replace hm := hm.symm; subst hm
      obtain ⟨hi, hI, hR, hS, hB, hN⟩ := hp
      by_cases hil : (i : Int) < (l1.length : Int)
      · have hil' : i < l1.length := by omega
        obtain ⟨b, o, ka, kc, rfl, hb, hr, hA, hok⟩ := hl1 i hil'
        have hxs := small_b (hsm1 _ (List.getElem_mem hil'))
        have hb1 : b < M.size := Nat.lt_of_lt_of_le hb hI.old.1
        have hr1 : rdO (M.get b) (o + i * 6) 6 = some (actRow l1[i] ka kc) := by rw [hI.old.2 b hb]; exact hr
        have hdo := does_ok m (mx M []) m.size v d (hI.mx []) i hB (by omega) l1[i] hok ka kc hA (by omega)
        have hB2 := hB.does l1[i] hok (by omega)
        obtain ⟨hSe, hS2⟩ := hS.does l1[i]
        have hN2 := hN.has l1[i]
        have hRO := ROk.of hS (hB.ok (by omega))
        have hhas := fun (M' : AMem) (hR' : RAt M' (m.size + 1) v2 r) (hA' : ActV M' l1[i] ka kc) => has_ok M' (m.size + 1) v2 r hR' hRO (fun j hj => look_sorted hS hj) l1[i] hok ka kc hA' (fun b o e => by have := hA.2 b o e; omega) (by omega)
        rw [← hSe] at hhas
        generalize doesR d l1[i] = D at hB2 hdo hSe hS2 hhas
        generalize hasR r l1[i] = H at hN2 hS2 hhas
        repeat first | simp (implicitDefEqProofs := false) (maxSteps := 1000000) (disch := first | omega | with_reducible assumption | (simp only [lenT, Nat.reduceAdd]; omega)) only [amT, cut, bnd, Nat.reduceBEq, reduceCtorEq, Nat.reduceEqDiff, Nat.reduceAdd, Nat.reduceMul, Nat.reduceSub, Int.reduceToNat, Int.reduceEq, Int.reduceLT, Int.reduceLE, Int.reduceAdd, Int.reduceSub, Int.reduceMul, reduceIte, resVs, resV, packV, initT, addr, F7_l0, t1, t5, t6, t7, hil, hr1] | refine OrW.go ?_
        refine RelC.call hdo ?_
        rintro w M2 ⟨rfl, v3, hI2, hst⟩
        have hR2 := (hR.old (Old.here M [])).dstep (hI.mx []).here hst
        have hb2 : b < M2.size := Nat.lt_of_lt_of_le hb hI2.old.1
        have hr2 : rdO (M2.get b) (o + i * 6) 6 = some (actRow l1[i] ka kc) := by rw [hI2.old.2 b hb]; exact hr
        repeat first | simp (implicitDefEqProofs := false) (maxSteps := 1000000) (disch := first | omega | with_reducible assumption | (simp only [lenT, Nat.reduceAdd]; omega)) only [amT, cut, bnd, Nat.reduceBEq, reduceCtorEq, Nat.reduceEqDiff, Nat.reduceAdd, Nat.reduceMul, Nat.reduceSub, Int.reduceToNat, Int.reduceEq, Int.reduceLT, Int.reduceLE, Int.reduceAdd, Int.reduceSub, Int.reduceMul, reduceIte, resVs, resV, packV, initT, addr, t1, t5, t6, t7, hr2] | refine OrW.go ?_
        refine RelC.call (hhas _ (hR2.old (Old.here _ [])) (hA.old (hI2.mx []).old)) ?_
        rintro w M3 ⟨rfl, v4, hR3, hst3⟩
        have hI3 := DIn.rstep (hI2.mx []) (hR2.old (Old.here _ [])) (by omega) hst3
        have hal := alike_ok (mx M3 []) m.size (m.size + 1) v3 v4 D.2 H.2 (hI3.mx []).here (hR3.old (Old.here _ [])) hS2 (hB2.ok (by omega)) hN2
        repeat first | simp (implicitDefEqProofs := false) (maxSteps := 1000000) (disch := first | omega | with_reducible assumption | (simp only [lenT, Nat.reduceAdd]; omega)) only [amT, cut, bnd, Nat.reduceBEq, reduceCtorEq, Nat.reduceEqDiff, Nat.reduceAdd, Nat.reduceMul, Nat.reduceSub, Int.reduceToNat, Int.reduceEq, Int.reduceLT, Int.reduceLE, Int.reduceAdd, Int.reduceSub, Int.reduceMul, reduceIte, resVs, resV, packV, initT, addr, t1, t5, t6, t7] | refine OrW.go ?_
        refine RelC.call hal ?_
        rintro w M4 ⟨rfl, hO4⟩
        repeat first | simp (implicitDefEqProofs := false) (maxSteps := 1000000) (disch := first | omega | with_reducible assumption | (simp only [lenT, Nat.reduceAdd]; omega)) only [amT, cut, bnd, Nat.reduceBEq, reduceCtorEq, Nat.reduceEqDiff, Nat.reduceAdd, Nat.reduceMul, Nat.reduceSub, Int.reduceToNat, Int.reduceEq, Int.reduceLT, Int.reduceLE, Int.reduceAdd, Int.reduceSub, Int.reduceMul, reduceIte, resVs, resV, packV, initT, addr, t1, t5, t6, t7] | refine OrW.go ?_
        rw [LoopK_normal]; refine ⟨_, ?_, i + 1, M4, v3, D.2, v4, H.2, rfl, rfl, ?qm, ?q1, ?q5, ?q6, ?q7, ?_⟩
        case qm | q1 | q5 | q6 | q7 => first | rfl | (simp (implicitDefEqProofs := false) (maxSteps := 1000000) (disch := first | omega | with_reducible assumption | (simp only [lenT, Nat.reduceAdd]; omega)) only [amT, cut, bnd, Nat.reduceBEq, reduceCtorEq, Nat.reduceEqDiff, Nat.reduceAdd, Nat.reduceMul, Nat.reduceSub, Int.reduceToNat, Int.reduceEq, Int.reduceLT, Int.reduceLE, Int.reduceAdd, Int.reduceSub, Int.reduceMul, reduceIte, resVs, resV, packV, initT, addr, t1, t5, t6, t7]; first | done | rfl | (congr 1; omega))
        · omega
        · exact ⟨by omega, (hI3.mx []).keep hO4, (hR3.old (Old.here _ [])).old hO4, hS2, hB2, hN2⟩
      · have kWn := DetC.known (works_ok (mx M []))
        repeat first | simp (implicitDefEqProofs := false) (maxSteps := 1000000) (disch := first | omega | with_reducible assumption | (simp only [lenT, Nat.reduceAdd]; omega)) only [amT, cut, bnd, Nat.reduceBEq, reduceCtorEq, Nat.reduceEqDiff, Nat.reduceAdd, Nat.reduceMul, Nat.reduceSub, Int.reduceToNat, Int.reduceEq, Int.reduceLT, Int.reduceLE, Int.reduceAdd, Int.reduceSub, Int.reduceMul, reduceIte, resVs, resV, packV, initT, addr, F7_l0, t1, t5, t6, t7, hil, kWn] | refine OrW.go ?_
        exact hI.old.mx []
end Go.Proofs.Ytbmjhiifinjieaa
namespace Go.Proofs.Ytbmjhiifinjieaa
open Go Go.AM
set_option linter.unusedVariables false
set_option linter.unusedSimpArgs false
set_option linter.unusedSectionVars false
set_option maxHeartbeats 4000000
set_option maxRecDepth 100000

theorem ActsV.take {m : AMem} {a : Option Addr} {l : List ActR} (h : ActsV m a l) (n : Nat) : ActsV m a (l.take n) := fun i hi => by
  rw [List.length_take] at hi
  obtain ⟨b, o, ka, kc, h1, h2, h3, h4, h5⟩ := h i (by omega)
  exact ⟨b, o, ka, kc, h1, h2, by rw [List.getElem_take]; exact h3, by rw [List.getElem_take]; exact h4, by rw [List.getElem_take]; exact h5⟩
theorem ActsV.drop {m : AMem} {b o : Nat} {l : List ActR} (h : ActsV m (some ⟨b, o, none⟩) l) (n : Nat) : ActsV m (some ⟨b, o + n * 6, none⟩) (l.drop n) := fun i hi => by
  rw [List.length_drop] at hi
  obtain ⟨b', o', ka, kc, h1, h2, h3, h4, h5⟩ := h (n + i) (by omega)
  cases h1
  exact ⟨b, o + n * 6, ka, kc, rfl, h2, by rw [List.getElem_drop, show o + n * 6 + i * 6 = o + (n + i) * 6 by omega]; exact h3, by rw [List.getElem_drop]; exact h4, by rw [List.getElem_drop]; exact h5⟩
theorem ActsV.none (m : AMem) (a : Option Addr) : ActsV m a [] := fun i hi => by simp at hi
/-- Rows of acts, one after the other. -/
def aRows (zs : List (ActR × Option Addr × Nat)) : List Value := zs.flatMap fun z => actRow z.1 z.2.1 z.2.2
theorem aRows_len (zs : List (ActR × Option Addr × Nat)) : (aRows zs).length = 6 * zs.length := by
  induction zs with
  | nil => rfl
  | cons z zs ih => simp only [aRows, List.flatMap_cons, List.length_append] at ih ⊢; rw [ih]; simp [actRow]; omega
theorem aRows_cut : ∀ (zs : List (ActR × Option Addr × Nat)) (i : Nat) (h : i < zs.length), cutL (aRows zs) (i * 6) 6 = some (actRow zs[i].1 zs[i].2.1 zs[i].2.2)
  | z :: zs, 0, _ => by simp [aRows, actRow, cutL]
  | z :: zs, i + 1, h => by
    have hi : i < zs.length := by simpa using h
    have ih := aRows_cut zs i hi
    have hl := aRows_len zs
    have hl2 := aRows_len (z :: zs)
    unfold cutL at ih ⊢
    rw [if_pos (by omega)] at ih
    rw [if_pos (by rw [hl2, List.length_cons]; omega), show (i + 1) * 6 = 6 + i * 6 by omega, ← List.drop_drop]
    exact ih
theorem acts_rows {m : AMem} {b : Nat} {zs : List (ActR × Option Addr × Nat)} (hb : b < m.size) {e : TypeId} {w : Bool} {sp : Spare} (hg : m.get b = .cells (aRows zs) e w sp) (h : ∀ z ∈ zs, ActV m z.1 z.2.1 z.2.2 ∧ z.1.ok) : ActsV m (some ⟨b, 0, none⟩) (zs.map (·.1)) := fun i hi => by
  have hi' : i < zs.length := by simpa using hi
  refine ⟨b, 0, zs[i].2.1, zs[i].2.2, rfl, hb, ?_, ?_, ?_⟩
  · rw [hg, rdO_cells, Nat.zero_add, aRows_cut zs i hi', List.getElem_map]
  · rw [List.getElem_map]; exact (h _ (List.getElem_mem hi')).1
  · rw [List.getElem_map]; exact (h _ (List.getElem_mem hi')).2
def z29 (lg : List UInt8) (m : Nat) : List (ActR × Option Addr × Nat) := [(⟨0, [97], [], [49, 50], 0, []⟩, none, 0), (⟨7, [], [], [], 0, []⟩, none, 0), (⟨0, [97], [], [51], 0, []⟩, none, 0), (⟨6, [97], [], [], 0, []⟩, none, 0), (⟨9, [], [], [], 0, [6]⟩, some ⟨m, 0, none⟩, 1), (⟨6, [97], [], [], 0, []⟩, none, 0), (⟨0, lg, [], [52], 0, []⟩, none, 0), (⟨0, (lg ++ [120]), [], [52], 0, []⟩, none, 0), (⟨0, [], [], [52], 0, []⟩, none, 0), (⟨4, [97], lg, [], 0, []⟩, none, 0), (⟨2, [97], [], [], 0, []⟩, none, 0), (⟨4, lg, [], [], 0, []⟩, none, 0), (⟨4, lg, [98], [], 0, []⟩, none, 0), (⟨3, [98], [], [], -1, []⟩, none, 0), (⟨3, [98], [], [], 9, []⟩, none, 0), (⟨3, [98], [], [], 1, []⟩, none, 0), (⟨0, [99], [], [], 0, []⟩, none, 0), (⟨0, [98], [], [53, 54], 0, []⟩, none, 0), (⟨7, [], [], [], 1, []⟩, none, 0), (⟨2, [99], [], [], 0, []⟩, none, 0), (⟨5, [98], [], [], 0, []⟩, none, 0), (⟨2, [98], [], [], 0, []⟩, none, 0), (⟨9, [], [], [], 0, [-1, 0, 5]⟩, some ⟨m + 1, 0, none⟩, 3), (⟨5, [98], [], [], 0, []⟩, none, 0), (⟨4, [99], [99], [], 0, []⟩, none, 0), (⟨8, [], [], [], 0, []⟩, none, 0), (⟨7, [], [], [], -9, []⟩, none, 0), (⟨9, [], [], [], 0, []⟩, none, 0), (⟨6, [99], [], [], 0, []⟩, none, 0)]
def l29 (lg : List UInt8) : List ActR := [⟨0, [97], [], [49, 50], 0, []⟩, ⟨7, [], [], [], 0, []⟩, ⟨0, [97], [], [51], 0, []⟩, ⟨6, [97], [], [], 0, []⟩, ⟨9, [], [], [], 0, [6]⟩, ⟨6, [97], [], [], 0, []⟩, ⟨0, lg, [], [52], 0, []⟩, ⟨0, (lg ++ [120]), [], [52], 0, []⟩, ⟨0, [], [], [52], 0, []⟩, ⟨4, [97], lg, [], 0, []⟩, ⟨2, [97], [], [], 0, []⟩, ⟨4, lg, [], [], 0, []⟩, ⟨4, lg, [98], [], 0, []⟩, ⟨3, [98], [], [], -1, []⟩, ⟨3, [98], [], [], 9, []⟩, ⟨3, [98], [], [], 1, []⟩, ⟨0, [99], [], [], 0, []⟩, ⟨0, [98], [], [53, 54], 0, []⟩, ⟨7, [], [], [], 1, []⟩, ⟨2, [99], [], [], 0, []⟩, ⟨5, [98], [], [], 0, []⟩, ⟨2, [98], [], [], 0, []⟩, ⟨9, [], [], [], 0, [-1, 0, 5]⟩, ⟨5, [98], [], [], 0, []⟩, ⟨4, [99], [99], [], 0, []⟩, ⟨8, [], [], [], 0, []⟩, ⟨7, [], [], [], -9, []⟩, ⟨9, [], [], [], 0, []⟩, ⟨6, [99], [], [], 0, []⟩]
theorem z29_map (lg : List UInt8) (m : Nat) : (z29 lg m).map (·.1) = l29 lg := rfl
theorem l29_len (lg : List UInt8) : (l29 lg).length = 29 := rfl
theorem fill29 (u0 n0 : Int) (s0 t0 b0 : ByteArray) (a0 : Option Addr) (l0 c0 : Nat) (u1 n1 : Int) (s1 t1 b1 : ByteArray) (a1 : Option Addr) (l1 c1 : Nat) (u2 n2 : Int) (s2 t2 b2 : ByteArray) (a2 : Option Addr) (l2 c2 : Nat) (u3 n3 : Int) (s3 t3 b3 : ByteArray) (a3 : Option Addr) (l3 c3 : Nat) (u4 n4 : Int) (s4 t4 b4 : ByteArray) (a4 : Option Addr) (l4 c4 : Nat) (u5 n5 : Int) (s5 t5 b5 : ByteArray) (a5 : Option Addr) (l5 c5 : Nat) (u6 n6 : Int) (s6 t6 b6 : ByteArray) (a6 : Option Addr) (l6 c6 : Nat) (u7 n7 : Int) (s7 t7 b7 : ByteArray) (a7 : Option Addr) (l7 c7 : Nat) (u8 n8 : Int) (s8 t8 b8 : ByteArray) (a8 : Option Addr) (l8 c8 : Nat) (u9 n9 : Int) (s9 t9 b9 : ByteArray) (a9 : Option Addr) (l9 c9 : Nat) (u10 n10 : Int) (s10 t10 b10 : ByteArray) (a10 : Option Addr) (l10 c10 : Nat) (u11 n11 : Int) (s11 t11 b11 : ByteArray) (a11 : Option Addr) (l11 c11 : Nat) (u12 n12 : Int) (s12 t12 b12 : ByteArray) (a12 : Option Addr) (l12 c12 : Nat) (u13 n13 : Int) (s13 t13 b13 : ByteArray) (a13 : Option Addr) (l13 c13 : Nat) (u14 n14 : Int) (s14 t14 b14 : ByteArray) (a14 : Option Addr) (l14 c14 : Nat) (u15 n15 : Int) (s15 t15 b15 : ByteArray) (a15 : Option Addr) (l15 c15 : Nat) (u16 n16 : Int) (s16 t16 b16 : ByteArray) (a16 : Option Addr) (l16 c16 : Nat) (u17 n17 : Int) (s17 t17 b17 : ByteArray) (a17 : Option Addr) (l17 c17 : Nat) (u18 n18 : Int) (s18 t18 b18 : ByteArray) (a18 : Option Addr) (l18 c18 : Nat) (u19 n19 : Int) (s19 t19 b19 : ByteArray) (a19 : Option Addr) (l19 c19 : Nat) (u20 n20 : Int) (s20 t20 b20 : ByteArray) (a20 : Option Addr) (l20 c20 : Nat) (u21 n21 : Int) (s21 t21 b21 : ByteArray) (a21 : Option Addr) (l21 c21 : Nat) (u22 n22 : Int) (s22 t22 b22 : ByteArray) (a22 : Option Addr) (l22 c22 : Nat) (u23 n23 : Int) (s23 t23 b23 : ByteArray) (a23 : Option Addr) (l23 c23 : Nat) (u24 n24 : Int) (s24 t24 b24 : ByteArray) (a24 : Option Addr) (l24 c24 : Nat) (u25 n25 : Int) (s25 t25 b25 : ByteArray) (a25 : Option Addr) (l25 c25 : Nat) (u26 n26 : Int) (s26 t26 b26 : ByteArray) (a26 : Option Addr) (l26 c26 : Nat) (u27 n27 : Int) (s27 t27 b27 : ByteArray) (a27 : Option Addr) (l27 c27 : Nat) (u28 n28 : Int) (s28 t28 b28 : ByteArray) (a28 : Option Addr) (l28 c28 : Nat) : fill [.int .u8 0, .string (⟨#[]⟩), .string (⟨#[]⟩), .string (⟨#[]⟩), .int .i64 0, .slice none 0 0, .int .u8 0, .string (⟨#[]⟩), .string (⟨#[]⟩), .string (⟨#[]⟩), .int .i64 0, .slice none 0 0, .int .u8 0, .string (⟨#[]⟩), .string (⟨#[]⟩), .string (⟨#[]⟩), .int .i64 0, .slice none 0 0, .int .u8 0, .string (⟨#[]⟩), .string (⟨#[]⟩), .string (⟨#[]⟩), .int .i64 0, .slice none 0 0, .int .u8 0, .string (⟨#[]⟩), .string (⟨#[]⟩), .string (⟨#[]⟩), .int .i64 0, .slice none 0 0, .int .u8 0, .string (⟨#[]⟩), .string (⟨#[]⟩), .string (⟨#[]⟩), .int .i64 0, .slice none 0 0, .int .u8 0, .string (⟨#[]⟩), .string (⟨#[]⟩), .string (⟨#[]⟩), .int .i64 0, .slice none 0 0, .int .u8 0, .string (⟨#[]⟩), .string (⟨#[]⟩), .string (⟨#[]⟩), .int .i64 0, .slice none 0 0, .int .u8 0, .string (⟨#[]⟩), .string (⟨#[]⟩), .string (⟨#[]⟩), .int .i64 0, .slice none 0 0, .int .u8 0, .string (⟨#[]⟩), .string (⟨#[]⟩), .string (⟨#[]⟩), .int .i64 0, .slice none 0 0, .int .u8 0, .string (⟨#[]⟩), .string (⟨#[]⟩), .string (⟨#[]⟩), .int .i64 0, .slice none 0 0, .int .u8 0, .string (⟨#[]⟩), .string (⟨#[]⟩), .string (⟨#[]⟩), .int .i64 0, .slice none 0 0, .int .u8 0, .string (⟨#[]⟩), .string (⟨#[]⟩), .string (⟨#[]⟩), .int .i64 0, .slice none 0 0, .int .u8 0, .string (⟨#[]⟩), .string (⟨#[]⟩), .string (⟨#[]⟩), .int .i64 0, .slice none 0 0, .int .u8 0, .string (⟨#[]⟩), .string (⟨#[]⟩), .string (⟨#[]⟩), .int .i64 0, .slice none 0 0, .int .u8 0, .string (⟨#[]⟩), .string (⟨#[]⟩), .string (⟨#[]⟩), .int .i64 0, .slice none 0 0, .int .u8 0, .string (⟨#[]⟩), .string (⟨#[]⟩), .string (⟨#[]⟩), .int .i64 0, .slice none 0 0, .int .u8 0, .string (⟨#[]⟩), .string (⟨#[]⟩), .string (⟨#[]⟩), .int .i64 0, .slice none 0 0, .int .u8 0, .string (⟨#[]⟩), .string (⟨#[]⟩), .string (⟨#[]⟩), .int .i64 0, .slice none 0 0, .int .u8 0, .string (⟨#[]⟩), .string (⟨#[]⟩), .string (⟨#[]⟩), .int .i64 0, .slice none 0 0, .int .u8 0, .string (⟨#[]⟩), .string (⟨#[]⟩), .string (⟨#[]⟩), .int .i64 0, .slice none 0 0, .int .u8 0, .string (⟨#[]⟩), .string (⟨#[]⟩), .string (⟨#[]⟩), .int .i64 0, .slice none 0 0, .int .u8 0, .string (⟨#[]⟩), .string (⟨#[]⟩), .string (⟨#[]⟩), .int .i64 0, .slice none 0 0, .int .u8 0, .string (⟨#[]⟩), .string (⟨#[]⟩), .string (⟨#[]⟩), .int .i64 0, .slice none 0 0, .int .u8 0, .string (⟨#[]⟩), .string (⟨#[]⟩), .string (⟨#[]⟩), .int .i64 0, .slice none 0 0, .int .u8 0, .string (⟨#[]⟩), .string (⟨#[]⟩), .string (⟨#[]⟩), .int .i64 0, .slice none 0 0, .int .u8 0, .string (⟨#[]⟩), .string (⟨#[]⟩), .string (⟨#[]⟩), .int .i64 0, .slice none 0 0, .int .u8 0, .string (⟨#[]⟩), .string (⟨#[]⟩), .string (⟨#[]⟩), .int .i64 0, .slice none 0 0, .int .u8 0, .string (⟨#[]⟩), .string (⟨#[]⟩), .string (⟨#[]⟩), .int .i64 0, .slice none 0 0] [(0, 6, .agg [.int .u8 u0, .string s0, .string t0, .string b0, .int .i64 n0, .slice a0 l0 c0].toArray), (6, 6, .agg [.int .u8 u1, .string s1, .string t1, .string b1, .int .i64 n1, .slice a1 l1 c1].toArray), (12, 6, .agg [.int .u8 u2, .string s2, .string t2, .string b2, .int .i64 n2, .slice a2 l2 c2].toArray), (18, 6, .agg [.int .u8 u3, .string s3, .string t3, .string b3, .int .i64 n3, .slice a3 l3 c3].toArray), (24, 6, .agg [.int .u8 u4, .string s4, .string t4, .string b4, .int .i64 n4, .slice a4 l4 c4].toArray), (30, 6, .agg [.int .u8 u5, .string s5, .string t5, .string b5, .int .i64 n5, .slice a5 l5 c5].toArray), (36, 6, .agg [.int .u8 u6, .string s6, .string t6, .string b6, .int .i64 n6, .slice a6 l6 c6].toArray), (42, 6, .agg [.int .u8 u7, .string s7, .string t7, .string b7, .int .i64 n7, .slice a7 l7 c7].toArray), (48, 6, .agg [.int .u8 u8, .string s8, .string t8, .string b8, .int .i64 n8, .slice a8 l8 c8].toArray), (54, 6, .agg [.int .u8 u9, .string s9, .string t9, .string b9, .int .i64 n9, .slice a9 l9 c9].toArray), (60, 6, .agg [.int .u8 u10, .string s10, .string t10, .string b10, .int .i64 n10, .slice a10 l10 c10].toArray), (66, 6, .agg [.int .u8 u11, .string s11, .string t11, .string b11, .int .i64 n11, .slice a11 l11 c11].toArray), (72, 6, .agg [.int .u8 u12, .string s12, .string t12, .string b12, .int .i64 n12, .slice a12 l12 c12].toArray), (78, 6, .agg [.int .u8 u13, .string s13, .string t13, .string b13, .int .i64 n13, .slice a13 l13 c13].toArray), (84, 6, .agg [.int .u8 u14, .string s14, .string t14, .string b14, .int .i64 n14, .slice a14 l14 c14].toArray), (90, 6, .agg [.int .u8 u15, .string s15, .string t15, .string b15, .int .i64 n15, .slice a15 l15 c15].toArray), (96, 6, .agg [.int .u8 u16, .string s16, .string t16, .string b16, .int .i64 n16, .slice a16 l16 c16].toArray), (102, 6, .agg [.int .u8 u17, .string s17, .string t17, .string b17, .int .i64 n17, .slice a17 l17 c17].toArray), (108, 6, .agg [.int .u8 u18, .string s18, .string t18, .string b18, .int .i64 n18, .slice a18 l18 c18].toArray), (114, 6, .agg [.int .u8 u19, .string s19, .string t19, .string b19, .int .i64 n19, .slice a19 l19 c19].toArray), (120, 6, .agg [.int .u8 u20, .string s20, .string t20, .string b20, .int .i64 n20, .slice a20 l20 c20].toArray), (126, 6, .agg [.int .u8 u21, .string s21, .string t21, .string b21, .int .i64 n21, .slice a21 l21 c21].toArray), (132, 6, .agg [.int .u8 u22, .string s22, .string t22, .string b22, .int .i64 n22, .slice a22 l22 c22].toArray), (138, 6, .agg [.int .u8 u23, .string s23, .string t23, .string b23, .int .i64 n23, .slice a23 l23 c23].toArray), (144, 6, .agg [.int .u8 u24, .string s24, .string t24, .string b24, .int .i64 n24, .slice a24 l24 c24].toArray), (150, 6, .agg [.int .u8 u25, .string s25, .string t25, .string b25, .int .i64 n25, .slice a25 l25 c25].toArray), (156, 6, .agg [.int .u8 u26, .string s26, .string t26, .string b26, .int .i64 n26, .slice a26 l26 c26].toArray), (162, 6, .agg [.int .u8 u27, .string s27, .string t27, .string b27, .int .i64 n27, .slice a27 l27 c27].toArray), (168, 6, .agg [.int .u8 u28, .string s28, .string t28, .string b28, .int .i64 n28, .slice a28 l28 c28].toArray)] = some [.int .u8 u0, .string s0, .string t0, .string b0, .int .i64 n0, .slice a0 l0 c0, .int .u8 u1, .string s1, .string t1, .string b1, .int .i64 n1, .slice a1 l1 c1, .int .u8 u2, .string s2, .string t2, .string b2, .int .i64 n2, .slice a2 l2 c2, .int .u8 u3, .string s3, .string t3, .string b3, .int .i64 n3, .slice a3 l3 c3, .int .u8 u4, .string s4, .string t4, .string b4, .int .i64 n4, .slice a4 l4 c4, .int .u8 u5, .string s5, .string t5, .string b5, .int .i64 n5, .slice a5 l5 c5, .int .u8 u6, .string s6, .string t6, .string b6, .int .i64 n6, .slice a6 l6 c6, .int .u8 u7, .string s7, .string t7, .string b7, .int .i64 n7, .slice a7 l7 c7, .int .u8 u8, .string s8, .string t8, .string b8, .int .i64 n8, .slice a8 l8 c8, .int .u8 u9, .string s9, .string t9, .string b9, .int .i64 n9, .slice a9 l9 c9, .int .u8 u10, .string s10, .string t10, .string b10, .int .i64 n10, .slice a10 l10 c10, .int .u8 u11, .string s11, .string t11, .string b11, .int .i64 n11, .slice a11 l11 c11, .int .u8 u12, .string s12, .string t12, .string b12, .int .i64 n12, .slice a12 l12 c12, .int .u8 u13, .string s13, .string t13, .string b13, .int .i64 n13, .slice a13 l13 c13, .int .u8 u14, .string s14, .string t14, .string b14, .int .i64 n14, .slice a14 l14 c14, .int .u8 u15, .string s15, .string t15, .string b15, .int .i64 n15, .slice a15 l15 c15, .int .u8 u16, .string s16, .string t16, .string b16, .int .i64 n16, .slice a16 l16 c16, .int .u8 u17, .string s17, .string t17, .string b17, .int .i64 n17, .slice a17 l17 c17, .int .u8 u18, .string s18, .string t18, .string b18, .int .i64 n18, .slice a18 l18 c18, .int .u8 u19, .string s19, .string t19, .string b19, .int .i64 n19, .slice a19 l19 c19, .int .u8 u20, .string s20, .string t20, .string b20, .int .i64 n20, .slice a20 l20 c20, .int .u8 u21, .string s21, .string t21, .string b21, .int .i64 n21, .slice a21 l21 c21, .int .u8 u22, .string s22, .string t22, .string b22, .int .i64 n22, .slice a22 l22 c22, .int .u8 u23, .string s23, .string t23, .string b23, .int .i64 n23, .slice a23 l23 c23, .int .u8 u24, .string s24, .string t24, .string b24, .int .i64 n24, .slice a24 l24 c24, .int .u8 u25, .string s25, .string t25, .string b25, .int .i64 n25, .slice a25 l25 c25, .int .u8 u26, .string s26, .string t26, .string b26, .int .i64 n26, .slice a26 l26 c26, .int .u8 u27, .string s27, .string t27, .string b27, .int .i64 n27, .slice a27 l27 c27, .int .u8 u28, .string s28, .string t28, .string b28, .int .i64 n28, .slice a28 l28 c28] := by kernel_rfl
theorem actV_nil (m : AMem) (a : Int) (n t b : List UInt8) (k : Int) : ActV m ⟨a, n, t, b, k, []⟩ none 0 := ⟨⟨none, 0, rfl, fun i h => by simp at h⟩, fun b o e => by cases e⟩
theorem intv_row {m : AMem} {b : Nat} {l : List Int} (hb : b < m.size) {e : TypeId} {w : Bool} {sp : Spare} (hg : m.get b = .cells (l.map fun x => .int .i64 x) e w sp) (cap : Nat) : IntV m (.slice (some ⟨b, 0, none⟩) l.length cap) l :=
  ⟨_, _, rfl, fun i hi => ⟨b, 0, rfl, hb, by
    rw [rd_def, hg, rdO_cells, Nat.zero_add]
    unfold cutL
    rw [if_pos (by rw [List.length_map]; omega), List.drop_eq_getElem_cons (by rw [List.length_map]; exact hi), List.getElem_map]; rfl⟩⟩
theorem acts29 {m M : AMem} {lg : List UInt8} (hlg : lg.length = 128) (ho : Old (mx m [.cells [.int .i64 6] 3 true .exact, .cells [.int .i64 (-1), .int .i64 0, .int .i64 5] 3 true .exact, .cells (aRows (z29 lg m.size)) 44 true .exact]) M) : ActsV M (some ⟨m.size + 2, 0, none⟩) (l29 lg) := by
  letI : Ex := ⟨m.size⟩
  refine ActsV.old ?_ ho
  rw [← z29_map lg m.size]
  have g0 := mx_new m [.cells [.int .i64 6] 3 true .exact, .cells [.int .i64 (-1), .int .i64 0, .int .i64 5] 3 true .exact, .cells (aRows (z29 lg m.size)) 44 true .exact] 0
  have g1 := mx_new m [.cells [.int .i64 6] 3 true .exact, .cells [.int .i64 (-1), .int .i64 0, .int .i64 5] 3 true .exact, .cells (aRows (z29 lg m.size)) 44 true .exact] 1
  have gz : (mx m [.cells [.int .i64 6] 3 true .exact, .cells [.int .i64 (-1), .int .i64 0, .int .i64 5] 3 true .exact, .cells (aRows (z29 lg m.size)) 44 true .exact]).size = m.size + 3 := by rw [mx_size]; rfl
  refine acts_rows (by rw [gz]; omega) (mx_new m _ 2) ?_
  have k6 := intv_row (b := m.size) (l := [6]) (by rw [gz]; omega) g0 1
  have k3 := intv_row (b := m.size + 1) (l := [-1, 0, 5]) (by rw [gz]; omega) g1 3
  have p6 : ∀ b o, (some ⟨m.size, 0, none⟩ : Option Addr) = some ⟨b, o, none⟩ → b < (mx m [.cells [.int .i64 6] 3 true .exact, .cells [.int .i64 (-1), .int .i64 0, .int .i64 5] 3 true .exact, .cells (aRows (z29 lg m.size)) 44 true .exact]).size := fun b o e => by cases e; rw [gz]; omega
  have p3 : ∀ b o, (some ⟨m.size + 1, 0, none⟩ : Option Addr) = some ⟨b, o, none⟩ → b < (mx m [.cells [.int .i64 6] 3 true .exact, .cells [.int .i64 (-1), .int .i64 0, .int .i64 5] 3 true .exact, .cells (aRows (z29 lg m.size)) 44 true .exact]).size := fun b o e => by cases e; rw [gz]; omega
  have ok : ∀ (a : Int) (n t b : List UInt8) (k : Int) (kp : List Int), 0 ≤ a ∧ a ≤ 9 → n.length ≤ 129 → t.length ≤ 129 → b.length ≤ 129 → -9 ≤ k ∧ k ≤ 9 → kp.length ≤ 3 → (∀ y ∈ kp, -9 ≤ y ∧ y ≤ 9) → (⟨a, n, t, b, k, kp⟩ : ActR).ok := fun a n t b k kp h1 h2 h3 h4 h5 h6 h7 =>
    ⟨⟨h1.1, by show a ≤ 255; omega⟩, by show n.length ≤ 9223372036854775807; omega, by show t.length ≤ 9223372036854775807; omega, by show b.length ≤ 9223372036854775807; omega, by show -9223372036854775808 ≤ k ∧ k ≤ 9223372036854775807; omega, by show kp.length ≤ 9223372036854775807; omega, fun y hy => by have := h7 y hy; omega⟩
  intro z hz
  simp only [z29, List.mem_cons, List.not_mem_nil, or_false] at hz
  rcases hz with rfl | rfl | rfl | rfl | rfl | rfl | rfl | rfl | rfl | rfl | rfl | rfl | rfl | rfl | rfl | rfl | rfl | rfl | rfl | rfl | rfl | rfl | rfl | rfl | rfl | rfl | rfl | rfl | rfl
  all_goals refine ⟨?_, ok _ _ _ _ _ _ (by decide) (by simp [hlg]) (by simp [hlg]) (by simp) (by decide) (by simp) (by decide)⟩
  all_goals first | exact actV_nil _ _ _ _ _ _ | exact ⟨k6, p6⟩ | exact ⟨k3, p3⟩
end Go.Proofs.Ytbmjhiifinjieaa
namespace Go.Proofs.Ytbmjhiifinjieaa
open Go Go.AM
set_option linter.unusedVariables false
set_option linter.unusedSimpArgs false
set_option linter.unusedSectionVars false
set_option maxHeartbeats 400000
set_option maxRecDepth 100000

def F9_B : ACode := F9.code.tl.tl.tl.hd
def insOf : ACode → List AIns | .reg l => l | _ => []
theorem blds (m : AMem) (lg : List UInt8) (hlg : lg.length = 128) (t : Tmps) (h1 : t 1 = .string ⟨lg.toArray⟩) (K : AExit → ASt → Prop)
    (h : ∀ t' : Tmps, t' 3 = .slice (some ⟨m.size + 2, 0, none⟩) 29 29 → K .normal { t := t', m := mx m [.cells [.int .i64 6] 3 true .exact, .cells [.int .i64 (-1), .int .i64 0, .int .i64 5] 3 true .exact, .cells (aRows (z29 lg m.size)) 44 true .exact], ds := [] }) :
    W Try.prog 0 F9_B K { t := t, m := mx m [], ds := [] } := by
  simp only [aRows, z29, List.flatMap_cons, List.flatMap_nil, actRow, List.cons_append, List.nil_append, List.append_nil, List.length_nil, List.length_cons, Nat.zero_add, Nat.reduceAdd] at h
  simp (implicitDefEqProofs := false) (maxSteps := 1000000) (disch := first | omega | with_reducible assumption | (simp only [lenT, Nat.reduceAdd]; omega)) only [amT, cut, bnd, Nat.reduceBEq, reduceCtorEq, Nat.reduceEqDiff, Nat.reduceAdd, Nat.reduceMul, Nat.reduceSub, Int.reduceToNat, Int.reduceEq, Int.reduceLT, Int.reduceLE, Int.reduceAdd, Int.reduceSub, Int.reduceMul, reduceIte, resVs, resV, packV, initT, addr, F9_B, F9, hd_seq, tl_seq, h1, fill29]
  exact h _ (by simp (implicitDefEqProofs := false) (maxSteps := 1000000) (disch := first | omega | with_reducible assumption | (simp only [lenT, Nat.reduceAdd]; omega)) only [amT, cut, bnd, Nat.reduceBEq, reduceCtorEq, Nat.reduceEqDiff, Nat.reduceAdd, Nat.reduceMul, Nat.reduceSub, Int.reduceToNat, Int.reduceEq, Int.reduceLT, Int.reduceLE, Int.reduceAdd, Int.reduceSub, Int.reduceMul, reduceIte, resVs, resV, packV, initT, addr])
/-- The statement's code, cut. -/
def F9_R : ACode := F9.code.tl.tl.tl.tl
theorem F9_cut : F9.code = .seq F9.code.hd (.seq F9.code.tl.hd (.seq F9.code.tl.tl.hd (.seq F9_B F9_R))) := rfl
def F9_S : ACode := F9_R.tl.tl
theorem F9_R_cut : F9_R = .seq F9_R.hd (.seq F9_R.tl.hd F9_S) := rfl
theorem slV6_hi {M : AMem} {b n : Nat} (hn : n ≤ 29) : slVv 6 (.slice (some ⟨b, 0, none⟩) 29 29) none (some (.int .i64 (n : Int))) none M = some (.slice (some ⟨b, 0, none⟩) n 29, M) := by
  letI : Ex := ⟨0⟩
  simp only [slVv, if_neg (Nat.ne_of_lt (openCap_lt (c := 29) (by omega)))]
  rw [cut4hi hn]
  simp
theorem slV6_lo {M : AMem} {b n : Nat} (hn : n ≤ 29) : slVv 6 (.slice (some ⟨b, 0, none⟩) 29 29) (some (.int .i64 (n : Int))) none none M = some (.slice (some ⟨b, if 29 = n then 0 else n * 6, none⟩) (29 - n) (29 - n), M) := by
  letI : Ex := ⟨0⟩
  simp only [slVv, if_neg (Nat.ne_of_lt (openCap_lt (c := 29) (by omega)))]
  rw [cut4lo hn (Nat.le_refl _)]
  simp only [Nat.zero_add]
theorem acts_lo {M : AMem} {b : Nat} {lg : List UInt8} (h : ActsV M (some ⟨b, 0, none⟩) (l29 lg)) {n : Nat} (hn : n ≤ 29) : ActsV M (some ⟨b, if 29 = n then 0 else n * 6, none⟩) ((l29 lg).drop n) := by
  by_cases e : 29 = n
  · rw [List.drop_of_length_le (by rw [l29_len]; omega)]; exact ActsV.none _ _
  · rw [if_neg e]; have := h.drop n; rwa [Nat.zero_add] at this
theorem loop1 (m M : AMem) (lg : List UInt8) (hlg : lg.length = 128) (t : Tmps) (h3 : t 3 = .slice (some ⟨m.size + 2, 0, none⟩) 29 29) (ho : Old (mx m [.cells [.int .i64 6] 3 true .exact, .cells [.int .i64 (-1), .int .i64 0, .int .i64 5] 3 true .exact, .cells (aRows (z29 lg m.size)) 44 true .exact]) M) (K : AExit → ASt → Prop)
    (h : ∀ t' M', Old M M' → K .normal { t := t', m := mx M' [], ds := [] }) :
    W Try.prog 0 F9_R.hd K { t := t, m := mx M [], ds := [] } := by
  simp (implicitDefEqProofs := false) (maxSteps := 1000000) (disch := first | omega | with_reducible assumption | (simp only [lenT, Nat.reduceAdd]; omega)) only [amT, cut, bnd, Nat.reduceBEq, reduceCtorEq, Nat.reduceEqDiff, Nat.reduceAdd, Nat.reduceMul, Nat.reduceSub, Int.reduceToNat, Int.reduceEq, Int.reduceLT, Int.reduceLE, Int.reduceAdd, Int.reduceSub, Int.reduceMul, reduceIte, resVs, resV, packV, initT, addr, F9_R, F9, hd_seq, tl_seq]
  refine W_loop (fun N qs => ∃ (n : Nat) (M2 : AMem), N = 30 - n ∧ qs.ds = [] ∧ qs.m = mx M2 [] ∧ qs.t 3 = .slice (some ⟨m.size + 2, 0, none⟩) 29 29 ∧ qs.t 4 = .int .i64 n ∧ n ≤ 30 ∧ Old M M2) (30 - (0)) ⟨0, M, rfl, rfl, ?qm, ?q3, ?q4, ?_⟩ ?_
  case qm | q3 | q4 => first | rfl | (simp (implicitDefEqProofs := false) (maxSteps := 1000000) (disch := first | omega | with_reducible assumption | (simp only [lenT, Nat.reduceAdd]; omega)) only [amT, cut, bnd, Nat.reduceBEq, reduceCtorEq, Nat.reduceEqDiff, Nat.reduceAdd, Nat.reduceMul, Nat.reduceSub, Int.reduceToNat, Int.reduceEq, Int.reduceLT, Int.reduceLE, Int.reduceAdd, Int.reduceSub, Int.reduceMul, reduceIte, resVs, resV, packV, initT, addr, h3]; first | done | rfl | (congr 1; omega))
  · exact ⟨by omega, .refl _⟩
  · rintro N t m1 ds ⟨n, M2, rfl, hds, hm, t3, t4, hp⟩
    simp only at hds hm t3 t4
    subst hds; replace hm := hm.symm; subst hm
    obtain ⟨hn, hO⟩ := hp
    by_cases h1 : (n : Int) ≤ 29
    · have hA := acts29 hlg ((ho.trans hO).mx [])
      have hn' : n ≤ 29 := by omega
      have hn2 : n / 2 ≤ 29 := by omega
      have k7a := DetC.known (lawActs (mx M2 []) ((n : Int) - 2) (by omega) _ 29 _ (hA.take n) (by rw [List.length_take, l29_len]; omega))
      have k7b := DetC.known (lawActs (mx M2 []) 1000 (by omega) _ (29 - n) _ (acts_lo hA hn') (by rw [List.length_drop, l29_len]; omega))
      have k6 := DetC.known (lawQuota (mx M2 []) n (by omega) _ 29 _ hA (by rw [l29_len]; omega))
      have k8 := DetC.known (lawTwins (mx M2 []) 40 (by omega) _ 29 _ (hA.take n) (by rw [List.length_take, l29_len]; omega) _ (29 - n) _ (acts_lo hA hn') (by rw [List.length_drop, l29_len]; omega) _ (29 - n / 2) _ (acts_lo hA hn2) (by rw [List.length_drop, l29_len]; omega))
      have hA2 := acts29 hlg ((ho.trans hO).mx [.cells [.int .i64 n] 3 true .exact])
      have k5 := DetC.known (lawApart (mx M2 [.cells [.int .i64 n] 3 true .exact]) [100, 114, 121] [119, 101, 116] (by simp) (by simp) _ (29 - n) _ (acts_lo hA2 hn') (by rw [List.length_drop, l29_len]; omega)
        _ [(n : Int)] (intv_row (b := M2.size) (l := [(n : Int)]) (by rw [mx_size]; simp) (mx_new0 _ _) 1) (by simp) (by intro x hx; rw [List.mem_singleton] at hx; omega) (fun b o k c e => by cases e; rw [mx_size]; simp))
      rw [List.length_take, l29_len, Nat.min_eq_left hn'] at k7a k8
      rw [List.length_drop, l29_len] at k7b k5 k8
      rw [List.length_drop, l29_len] at k8
      rw [l29_len] at k6
      have q1 := slV6_hi (M := mx M2 []) (b := m.size + 2) hn'
      have q2 := slV6_lo (M := mx M2 []) (b := m.size + 2) hn'
      have q3 := slV6_lo (M := mx M2 []) (b := m.size + 2) hn2
      rw [if_neg (show ¬ 29 = n / 2 by omega)] at q3 k8
      have q4 := slV6_lo (M := mx M2 [.cells [.int .i64 n] 3 true .exact]) (b := m.size + 2) hn'
      simp only [List.length_cons, List.length_nil, Nat.zero_add] at k5
      have hdiv : IntKind.i64.wrap ((n : Int).tdiv 2) = ((n / 2 : Nat) : Int) := by
        rw [Int.tdiv_eq_ediv_of_nonneg (by omega), wrap_i64 (by omega) (by omega)]; omega
      repeat first | simp (implicitDefEqProofs := false) (maxSteps := 1000000) (disch := first | omega | with_reducible assumption | (simp only [lenT, Nat.reduceAdd]; omega)) only [amT, cut, bnd, Nat.reduceBEq, reduceCtorEq, Nat.reduceEqDiff, Nat.reduceAdd, Nat.reduceMul, Nat.reduceSub, Int.reduceToNat, Int.reduceEq, Int.reduceLT, Int.reduceLE, Int.reduceAdd, Int.reduceSub, Int.reduceMul, reduceIte, resVs, resV, packV, initT, addr, F9_l1, t3, t4, h1, hdiv, stepOp_slV_v, q1, q2, q3, q4, k7a, k7b, k6, k8, k5] | refine OrW.go ?_
      rw [LoopK_normal]; refine ⟨_, ?_, n + 1, mx M2 [.cells [.int .i64 n] 3 true .exact], rfl, rfl, ?qm, ?q3, ?q4, ?_⟩
      case qm | q3 | q4 => first | rfl | (simp (implicitDefEqProofs := false) (maxSteps := 1000000) (disch := first | omega | with_reducible assumption | (simp only [lenT, Nat.reduceAdd]; omega)) only [amT, cut, bnd, Nat.reduceBEq, reduceCtorEq, Nat.reduceEqDiff, Nat.reduceAdd, Nat.reduceMul, Nat.reduceSub, Int.reduceToNat, Int.reduceEq, Int.reduceLT, Int.reduceLE, Int.reduceAdd, Int.reduceSub, Int.reduceMul, reduceIte, resVs, resV, packV, initT, addr, t3, t4]; first | done | rfl | (congr 1; omega))
      · omega
      · exact ⟨by omega, hO.mx _⟩
    · repeat first | simp (implicitDefEqProofs := false) (maxSteps := 1000000) (disch := first | omega | with_reducible assumption | (simp only [lenT, Nat.reduceAdd]; omega)) only [amT, cut, bnd, Nat.reduceBEq, reduceCtorEq, Nat.reduceEqDiff, Nat.reduceAdd, Nat.reduceMul, Nat.reduceSub, Int.reduceToNat, Int.reduceEq, Int.reduceLT, Int.reduceLE, Int.reduceAdd, Int.reduceSub, Int.reduceMul, reduceIte, resVs, resV, packV, initT, addr, F9_l1, t3, t4, h1] | refine OrW.go ?_
      exact h _ _ hO
theorem wrap32 (x : Int) : 0 ≤ IntKind.u32.wrap x ∧ IntKind.u32.wrap x ≤ 4294967295 := by
  simp [IntKind.wrap, IntKind.bits, IntKind.signed]; omega
theorem str_row {m : AMem} {b : Nat} {l : List (List UInt8)} (hb : b < m.size) {e : TypeId} {w : Bool} {sp : Spare} (hg : m.get b = .cells (l.map strV) e w sp) : ∀ i (h : i < l.length), ∃ bb, (some ⟨b, 0, none⟩ : Option Addr) = some ⟨bb, 0, none⟩ ∧ bb < m.size ∧ rdO (m.get bb) i 1 = some [.string ⟨l[i].toArray⟩] := fun i h =>
  ⟨b, rfl, hb, by
    rw [hg, rdO_cells]
    unfold cutL
    rw [if_pos (by rw [List.length_map]; omega), List.drop_eq_getElem_cons (by rw [List.length_map]; exact h), List.getElem_map]; rfl⟩
theorem loop2 (M : AMem) (t : Tmps) (K : AExit → ASt → Prop)
    (h : ∀ t' M', Old M M' → K .normal { t := t', m := mx M' [], ds := [] }) :
    W Try.prog 0 F9_R.tl.hd K { t := t, m := mx M [], ds := [] } := by
  simp (implicitDefEqProofs := false) (maxSteps := 1000000) (disch := first | omega | with_reducible assumption | (simp only [lenT, Nat.reduceAdd]; omega)) only [amT, cut, bnd, Nat.reduceBEq, reduceCtorEq, Nat.reduceEqDiff, Nat.reduceAdd, Nat.reduceMul, Nat.reduceSub, Int.reduceToNat, Int.reduceEq, Int.reduceLT, Int.reduceLE, Int.reduceAdd, Int.reduceSub, Int.reduceMul, reduceIte, resVs, resV, packV, initT, addr, F9_R, F9, hd_seq, tl_seq]
  refine W_loop (fun N qs => ∃ (n : Int) (M2 : AMem), N = (15 - n).toNat ∧ qs.ds = [] ∧ qs.m = mx M2 [] ∧ qs.t 5 = .int .i64 n ∧ -7 ≤ n ∧ n ≤ 15 ∧ Old M M2) ((15 - (-7)).toNat) ⟨-7, M, rfl, rfl, ?qm, ?q5, ?_⟩ ?_
  case qm | q5 => first | rfl | (simp (implicitDefEqProofs := false) (maxSteps := 1000000) (disch := first | omega | with_reducible assumption | (simp only [lenT, Nat.reduceAdd]; omega)) only [amT, cut, bnd, Nat.reduceBEq, reduceCtorEq, Nat.reduceEqDiff, Nat.reduceAdd, Nat.reduceMul, Nat.reduceSub, Int.reduceToNat, Int.reduceEq, Int.reduceLT, Int.reduceLE, Int.reduceAdd, Int.reduceSub, Int.reduceMul, reduceIte, resVs, resV, packV, initT, addr]; first | done | rfl | (congr 1; omega))
  · exact ⟨by omega, by omega, .refl _⟩
  · rintro N t m1 ds ⟨n, M2, rfl, hds, hm, t5, hp⟩
    simp only at hds hm t5
    subst hds; replace hm := hm.symm; subst hm
    obtain ⟨hn, hn2, hO⟩ := hp
    by_cases h1 : n < 15
    · have hw := wrap32 (ibits .and .i64 n 7)
      generalize hx : IntKind.u32.wrap (ibits .and .i64 n 7) = x at hw
      have k3a := DetC.known (lawDry' (mx M2 [.cells [.string ⟨#[97, 98]⟩, .string ⟨#[]⟩, .string ⟨#[99, 100, 101]⟩, .string ⟨#[102]⟩] 9 true .exact]) (some ⟨M2.size, 0, none⟩) 4 [[97, 98], [], [99, 100, 101], [102]] (str_row (by rw [mx_size]; simp) (mx_new0 _ _)) (by simp) (by simp) x hw n (n * 3) n (by omega) (by omega) (by omega))
      have k3b := DetC.known (lawDry' (mx M2 [.cells [.string ⟨#[97, 98]⟩, .string ⟨#[]⟩, .string ⟨#[99, 100, 101]⟩, .string ⟨#[102]⟩] 9 true .exact, .cells [.string ⟨#[]⟩, .string ⟨#[]⟩] 9 true .exact]) (some ⟨M2.size + 1, 0, none⟩) 2 [[], []] (str_row (by rw [mx_size]; simp) (mx_new _ _ 1)) (by simp) (by simp) 0 (by omega) n 1 1 (by omega) (by omega) (by omega))
      have k4 := fun b => DetC.known (lawUpon (mx M2 [.cells [.string ⟨#[97, 98]⟩, .string ⟨#[]⟩, .string ⟨#[99, 100, 101]⟩, .string ⟨#[102]⟩] 9 true .exact, .cells [.string ⟨#[]⟩, .string ⟨#[]⟩] 9 true .exact, .cells [.int .i64 n, .int .i64 n] 3 true .exact]) [111, 108, 100] [110, 101, 119, 32, 111, 110, 101] (by simp) (by simp) (n + 7) (by omega)
        _ [n, n] (intv_row (b := M2.size + 2) (l := [n, n]) (by rw [mx_size]; simp) (mx_new _ _ 2) 2) (by simp) (by intro x hx; simp at hx; omega) (fun b o k c e => by cases e; rw [mx_size]; simp) b)
      simp only [List.length_cons, List.length_nil, Nat.zero_add, Nat.reduceAdd] at k3a k3b k4
      repeat first | simp (implicitDefEqProofs := false) (maxSteps := 1000000) (disch := first | omega | with_reducible assumption | (simp only [lenT, Nat.reduceAdd]; omega)) only [amT, cut, bnd, Nat.reduceBEq, reduceCtorEq, Nat.reduceEqDiff, Nat.reduceAdd, Nat.reduceMul, Nat.reduceSub, Int.reduceToNat, Int.reduceEq, Int.reduceLT, Int.reduceLE, Int.reduceAdd, Int.reduceSub, Int.reduceMul, reduceIte, resVs, resV, packV, initT, addr, F9_l2, t5, h1, hx, k3a, k3b, k4, binV_rem] | refine OrW.go ?_
      rw [LoopK_normal]; refine ⟨_, ?_, n + 1, mx M2 [.cells [.string ⟨#[97, 98]⟩, .string ⟨#[]⟩, .string ⟨#[99, 100, 101]⟩, .string ⟨#[102]⟩] 9 true .exact, .cells [.string ⟨#[]⟩, .string ⟨#[]⟩] 9 true .exact, .cells [.int .i64 n, .int .i64 n] 3 true .exact], rfl, rfl, ?qm, ?q5, ?_⟩
      case qm | q5 => first | rfl | (simp (implicitDefEqProofs := false) (maxSteps := 1000000) (disch := first | omega | with_reducible assumption | (simp only [lenT, Nat.reduceAdd]; omega)) only [amT, cut, bnd, Nat.reduceBEq, reduceCtorEq, Nat.reduceEqDiff, Nat.reduceAdd, Nat.reduceMul, Nat.reduceSub, Int.reduceToNat, Int.reduceEq, Int.reduceLT, Int.reduceLE, Int.reduceAdd, Int.reduceSub, Int.reduceMul, reduceIte, resVs, resV, packV, initT, addr, t5]; first | done | rfl | (congr 1; omega))
      · omega
      · exact ⟨by omega, by omega, hO.mx _⟩
    · repeat first | simp (implicitDefEqProofs := false) (maxSteps := 1000000) (disch := first | omega | with_reducible assumption | (simp only [lenT, Nat.reduceAdd]; omega)) only [amT, cut, bnd, Nat.reduceBEq, reduceCtorEq, Nat.reduceEqDiff, Nat.reduceAdd, Nat.reduceMul, Nat.reduceSub, Int.reduceToNat, Int.reduceEq, Int.reduceLT, Int.reduceLE, Int.reduceAdd, Int.reduceSub, Int.reduceMul, reduceIte, resVs, resV, packV, initT, addr, F9_l2, t5, h1] | refine OrW.go ?_
      exact h _ _ hO
end Go.Proofs.Ytbmjhiifinjieaa
namespace Go.Proofs.Ytbmjhiifinjieaa
open Go Go.AM
set_option linter.unusedVariables false
set_option linter.unusedSimpArgs false
set_option linter.unusedSectionVars false
set_option maxHeartbeats 1000000
set_option maxRecDepth 100000

theorem append_noD (m : AMem) (s : ByteArray) : PureC Try.prog 0 14 [.pointer none, .string s, .slice none 0 0] m (.int .i64 1) := by
  refine pure_of_W (fn := Try.f14) rfl rfl F14_ok (by simp [F14]) (.int _ _) ?_
  have kb := fun M x => DetC.known (bars_nil M x)
  repeat first | simp (implicitDefEqProofs := false) (maxSteps := 1000000) (disch := first | omega | with_reducible assumption | (simp only [lenT, Nat.reduceAdd]; omega)) only [amT, cut, bnd, Nat.reduceBEq, reduceCtorEq, Nat.reduceEqDiff, Nat.reduceAdd, Nat.reduceMul, Nat.reduceSub, Int.reduceToNat, Int.reduceEq, Int.reduceLT, Int.reduceLE, Int.reduceAdd, Int.reduceSub, Int.reduceMul, reduceIte, resVs, resV, packV, initT, addr, F14, kb] | refine OrW.go ?_
  done
theorem read_noD (m : AMem) (s : ByteArray) : PureC Try.prog 0 18 [.pointer none, .string s] m (.tuple #[.slice none 0 0, .int .i64 1]) := by
  refine pure_of_W (fn := Try.f18) rfl rfl F18_ok (by simp [F18]) (.tuple2 (.nilSlice _ _) (.int _ _)) ?_
  have kb := fun M x => DetC.known (bars_nil M x)
  repeat first | simp (implicitDefEqProofs := false) (maxSteps := 1000000) (disch := first | omega | with_reducible assumption | (simp only [lenT, Nat.reduceAdd]; omega)) only [amT, cut, bnd, Nat.reduceBEq, reduceCtorEq, Nat.reduceEqDiff, Nat.reduceAdd, Nat.reduceMul, Nat.reduceSub, Int.reduceToNat, Int.reduceEq, Int.reduceLT, Int.reduceLE, Int.reduceAdd, Int.reduceSub, Int.reduceMul, reduceIte, resVs, resV, packV, initT, addr, F18, kb] | refine OrW.go ?_
  done
theorem remove_noD (m : AMem) (s : ByteArray) : PureC Try.prog 0 31 [.pointer none, .string s] m (.int .i64 1) := by
  refine pure_of_W (fn := Try.f31) rfl rfl F31_ok (by simp [F31]) (.int _ _) ?_
  have kb := fun M x => DetC.known (bars_nil M x)
  repeat first | simp (implicitDefEqProofs := false) (maxSteps := 1000000) (disch := first | omega | with_reducible assumption | (simp only [lenT, Nat.reduceAdd]; omega)) only [amT, cut, bnd, Nat.reduceBEq, reduceCtorEq, Nat.reduceEqDiff, Nat.reduceAdd, Nat.reduceMul, Nat.reduceSub, Int.reduceToNat, Int.reduceEq, Int.reduceLT, Int.reduceLE, Int.reduceAdd, Int.reduceSub, Int.reduceMul, reduceIte, resVs, resV, packV, initT, addr, F31, kb] | refine OrW.go ?_
  done
theorem dries_noD (m : AMem) (s t : ByteArray) (f : Value) : PureC Try.prog 0 38 [.pointer none, .string s, .string t, f] m (.int .i64 1) := by
  refine pure_of_W (fn := Try.f38) rfl rfl F38_ok (by simp [F38]) (.int _ _) ?_
  have kb := fun M x => DetC.known (bars_nil M x)
  repeat first | simp (implicitDefEqProofs := false) (maxSteps := 1000000) (disch := first | omega | with_reducible assumption | (simp only [lenT, Nat.reduceAdd]; omega)) only [amT, cut, bnd, Nat.reduceBEq, reduceCtorEq, Nat.reduceEqDiff, Nat.reduceAdd, Nat.reduceMul, Nat.reduceSub, Int.reduceToNat, Int.reduceEq, Int.reduceLT, Int.reduceLE, Int.reduceAdd, Int.reduceSub, Int.reduceMul, reduceIte, resVs, resV, packV, initT, addr, F38, kb] | refine OrW.go ?_
  done
theorem sync_noD (m : AMem) (s : ByteArray) : PureC Try.prog 0 15 [.pointer none, .string s] m (.int .i64 1) := by
  refine pure_of_W (fn := Try.f15) rfl rfl F15_ok (by simp [F15]) (.int _ _) ?_
  have kb := fun M s t f => DetC.known (dries_noD M s t f)
  repeat first | simp (implicitDefEqProofs := false) (maxSteps := 1000000) (disch := first | omega | with_reducible assumption | (simp only [lenT, Nat.reduceAdd]; omega)) only [amT, cut, bnd, Nat.reduceBEq, reduceCtorEq, Nat.reduceEqDiff, Nat.reduceAdd, Nat.reduceMul, Nat.reduceSub, Int.reduceToNat, Int.reduceEq, Int.reduceLT, Int.reduceLE, Int.reduceAdd, Int.reduceSub, Int.reduceMul, reduceIte, resVs, resV, packV, initT, addr, F15, kb] | refine OrW.go ?_
  done
theorem rename_noD (m : AMem) (s t : ByteArray) : PureC Try.prog 0 21 [.pointer none, .string s, .string t] m (.int .i64 1) := by
  refine pure_of_W (fn := Try.f21) rfl rfl F21_ok (by simp [F21]) (.int _ _) ?_
  have kb := fun M s t f => DetC.known (dries_noD M s t f)
  repeat first | simp (implicitDefEqProofs := false) (maxSteps := 1000000) (disch := first | omega | with_reducible assumption | (simp only [lenT, Nat.reduceAdd]; omega)) only [amT, cut, bnd, Nat.reduceBEq, reduceCtorEq, Nat.reduceEqDiff, Nat.reduceAdd, Nat.reduceMul, Nat.reduceSub, Int.reduceToNat, Int.reduceEq, Int.reduceLT, Int.reduceLE, Int.reduceAdd, Int.reduceSub, Int.reduceMul, reduceIte, resVs, resV, packV, initT, addr, F21, kb] | refine OrW.go ?_
  done
theorem cut_noD (m : AMem) (s : ByteArray) (n : Int) : PureC Try.prog 0 30 [.pointer none, .string s, .int .i64 n] m (.int .i64 1) := by
  refine pure_of_W (fn := Try.f30) rfl rfl F30_ok (by simp [F30]) (.int _ _) ?_
  have kb := fun M s t f => DetC.known (dries_noD M s t f)
  repeat first | simp (implicitDefEqProofs := false) (maxSteps := 1000000) (disch := first | omega | with_reducible assumption | (simp only [lenT, Nat.reduceAdd]; omega)) only [amT, cut, bnd, Nat.reduceBEq, reduceCtorEq, Nat.reduceEqDiff, Nat.reduceAdd, Nat.reduceMul, Nat.reduceSub, Int.reduceToNat, Int.reduceEq, Int.reduceLT, Int.reduceLE, Int.reduceAdd, Int.reduceSub, Int.reduceMul, reduceIte, resVs, resV, packV, initT, addr, F30, kb] | refine OrW.go ?_
  done
theorem rep_bytes (n : Nat) : rep [.int .u8 0] n = (List.replicate n (0 : UInt8)).map byteV := by
  induction n with
  | zero => rfl
  | succ n ih => simp only [rep, List.replicate_succ, List.flatten_cons, List.map_cons] at ih ⊢; rw [ih]; rfl
/-- The disk with a great file. -/
def gD (c : List UInt8) : DiskR := ⟨[⟨[103], [], c, false⟩], 1099511627776, 1, -1, false⟩
theorem gD1 (c : List UInt8) (hl : c.length = 8388608) : appendR (newR 1099511627776) [103] c = (0, gD c) := by
  unfold appendR
  rw [if_pos (show barsE (newR 1099511627776).off [[103]] = 0 by rfl), if_neg (show ¬ (8388608 : Int) - (fileOr (newR 1099511627776).files [103]).size < c.length by rw [hl]; decide), if_neg (show ¬ (newR 1099511627776).quota - usedR (newR 1099511627776).files < c.length by rw [hl]; decide)]
  rfl
theorem gD2 (c : List UInt8) (hl : c.length = 8388608) : appendR (gD c) [103] [1] = (3, gD c) := by
  have hf : fileOr (gD c).files [103] = ⟨[103], [], c, false⟩ := rfl
  unfold appendR
  rw [if_pos (show barsE (gD c).off [[103]] = 0 by rfl), hf, if_pos]
  simp [FileR.size, hl]
theorem gD3 (c b : List UInt8) (hb : b.length = 8388609) : appendR (gD c) [104] b = (3, gD c) := by
  have hf : fileOr (gD c).files [104] = ⟨[104], [], [], false⟩ := rfl
  unfold appendR
  rw [if_pos (show barsE (gD c).off [[104]] = 0 by rfl), hf, if_pos]
  simp [FileR.size, hb]
theorem gD_used (c : List UInt8) : usedR (gD c).files = c.length := by simp [gD, usedR, FileR.size]
theorem gD_ok (c : List UInt8) (hl : c.length = 8388608) : DOk (gD c) :=
  ⟨List.pairwise_singleton _ _, by simp [gD], by rw [gD_used, hl]; omega, by simp [gD], by simp [gD], by simp [gD], by simp [gD], by simp [gD], by simp [gD]⟩
theorem newR_ok : DOk (newR 1099511627776) := ⟨.nil, by simp [newR], by simp [newR, usedR], by decide, by decide, by simp [newR], by simp [newR], by simp [newR], by simp [newR]⟩
theorem DStep.below {p : Nat} {v v' : Value} {M M' : AMem} (h : DStep p v M v' M') {b : Nat} (hp : b ≤ p) (ho : ∀ x, ownV v x → b ≤ x) (hs : b ≤ M.size) : (∀ y, y < b → M'.get y = M.get y) ∧ b ≤ M'.size ∧ ∀ x, ownV v' x → b ≤ x :=
  ⟨fun y hy => h.1.2 y (by omega) (fun e => e.elim (by omega) (fun e => by have := ho y e; omega)), Nat.le_trans hs h.1.1, fun x hx => (h.2 x hx).elim (ho x) (Nat.le_trans hs)⟩
theorem known_end (m M : AMem) (hO : Old m M) (t : Tmps) : W Try.prog 0 F9_S (RetK F9.res fun r m' => r = .ret (.bool true) ∧ Old m m') { t := t, m := mx M [], ds := [] } := by
  letI : Ex := ⟨M.size⟩
  obtain ⟨c, hc, hl⟩ : ∃ c : List UInt8, rep [.int .u8 0] 8388608 = c.map byteV ∧ c.length = 8388608 := ⟨_, rep_bytes _, List.length_replicate⟩
  have k11 := DetC.known (new_ok (mx M []) 1099511627776)
  rw [mx_nil_size, mx_mx, List.nil_append] at k11
  have h0 := (DIn.new (Old.refl M) (Nat.le_refl _) 1099511627776).keep (Old.more M [_] [.cells (c.map byteV) 5 true .exact])
  simp only [List.cons_append, List.nil_append] at h0
  have hb0 : BSl (mx M [.cells ((newR 1099511627776).cells (.slice none 0 0)) 60 true .exact, .cells (c.map byteV) 5 true .exact]) (some ⟨M.size + 1, 0, none⟩) 8388608 c := .inr ⟨_, _, _, _, _, _, rfl, by rw [mx_size]; simp, mx_new _ _ 1, cutL_all (by simp), .inr ⟨openCap_lt (by omega), by omega⟩⟩
  have a1 := append_ok _ M.size _ _ [103] _ _ c (by simp) hb0 (by omega) h0.here newR_ok
  rw [gD1 c hl, hl] at a1
  repeat first | simp (implicitDefEqProofs := false) (maxSteps := 1000000) (disch := first | omega | with_reducible assumption | (simp only [lenT, Nat.reduceAdd]; omega)) only [amT, cut, bnd, Nat.reduceBEq, reduceCtorEq, Nat.reduceEqDiff, Nat.reduceAdd, Nat.reduceMul, Nat.reduceSub, Int.reduceToNat, Int.reduceEq, Int.reduceLT, Int.reduceLE, Int.reduceAdd, Int.reduceSub, Int.reduceMul, reduceIte, resVs, resV, packV, initT, addr, F9_S, F9_R, F9, hd_seq, tl_seq, k11, hc] | refine OrW.go ?_
  refine RelC.call a1 ?_
  rintro r M1 ⟨rfl, v1, hD1, hst1⟩
  obtain ⟨b1, s1, o1⟩ := hst1.below (b := M.size) (Nat.le_refl _) (fun x ⟨o, l, c, h⟩ => by cases h) (by rw [mx_size]; omega)
  have w1 : ∀ x, ownV v1 x → M.size + 2 ≤ x := fun x hx => (hst1.2 x hx).elim (fun ⟨o, l, c, h⟩ => by cases h) (fun h => by rw [mx_size] at h; exact h)
  have hg1 : M1.get (M.size + 1) = .cells (c.map byteV) 5 true .exact := by
    rw [hst1.1.2 _ (by rw [mx_size]; simp) (fun e => e.elim (by omega) (fun ⟨o, l, c, h⟩ => by cases h))]; exact mx_new _ _ 1
  have z1 : M.size + 2 ≤ M1.size := by have := hst1.1.1; rw [mx_size] at this; exact this
  have a2 := append_ok (mx M1 [.cells [.int .u8 1] 5 true .exact]) M.size v1 (gD c) [103] (some ⟨M1.size, 0, none⟩) 1 [1] (by simp) (.inr ⟨_, _, _, _, _, _, rfl, by rw [mx_size]; simp, mx_new0 _ _, rfl, .inr ⟨openCap_lt (by omega), by simp⟩⟩) (by simp) (hD1.old (Old.here _ _)) (gD_ok c hl)
  rw [gD2 c hl] at a2
  simp only [List.length_cons, List.length_nil, Nat.zero_add] at a2
  repeat first | simp (implicitDefEqProofs := false) (maxSteps := 1000000) (disch := first | omega | with_reducible assumption | (simp only [lenT, Nat.reduceAdd]; omega)) only [amT, cut, bnd, Nat.reduceBEq, reduceCtorEq, Nat.reduceEqDiff, Nat.reduceAdd, Nat.reduceMul, Nat.reduceSub, Int.reduceToNat, Int.reduceEq, Int.reduceLT, Int.reduceLE, Int.reduceAdd, Int.reduceSub, Int.reduceMul, reduceIte, resVs, resV, packV, initT, addr] | refine OrW.go ?_
  refine RelC.call a2 ?_
  rintro r M2 ⟨rfl, v2, hD2, hst2⟩
  obtain ⟨b2, s2, o2⟩ := hst2.below (b := M.size) (Nat.le_refl _) o1 (by rw [mx_size]; omega)
  have hg2 : M2.get (M.size + 1) = .cells (c.map byteV) 5 true .exact := by
    rw [hst2.1.2 _ (by rw [mx_size]; simp; omega) (fun e => e.elim (by omega) (fun e => by have := w1 _ e; omega)), mx_old (by omega)]; exact hg1
  have z2 : M.size + 2 ≤ M2.size := by have := hst2.1.1; rw [mx_size] at this; simp at this; omega
  have hsrc : srcCells 1 1 (.slice (some ⟨M2.size, 0, none⟩) 1 1) (mx M2 [.cells [.int .u8 1] 5 true .exact]) = some [.int .u8 1] := by rw [srcCells_slice (Nat.le_refl _), rd_def, mx_new0]; rfl
  have happ : appV 5 1 1 [.int .u8 0] (.slice (some ⟨M.size + 1, 0, none⟩) 8388608 8388608) (.slice (some ⟨M2.size, 0, none⟩) 1 1) (mx M2 [.cells [.int .u8 1] 5 true .exact]) = some (.slice (some ⟨M2.size + 1, 0, none⟩) 8388609 openCap, mx M2 [.cells [.int .u8 1] 5 true .exact, .cells ((c ++ [1]).map byteV) 5 true (.room [.int .u8 0])]) := by
    simp only [appV, srcLen_slice, hsrc]
    rw [if_pos ⟨rfl, by omega, rfl, rfl⟩]
    simp only [appendTo]
    rw [if_neg (openCap_ne (by omega)), if_neg (by omega), rd_def, mx_old (by omega), hg2, rdO_cells, Nat.mul_one, cutL_all (by simp [hl])]
    simp only []
    rw [if_pos ⟨by omega, by omega⟩, mx_push, mx_size]; simp [byteV]
  have hcl : (c ++ [1]).length = 8388609 := by simp [hl]
  generalize hc2 : c ++ [1] = c2 at happ hcl
  have a3 := append_ok (mx M2 [.cells [.int .u8 1] 5 true .exact, .cells (c2.map byteV) 5 true (.room [.int .u8 0])]) M.size v2 (gD c) [104] _ openCap c2 (by simp) (bsl_room M2 _ 1 rfl rfl) (by omega) (hD2.old (Old.here _ _)) (gD_ok c hl)
  rw [gD3 c c2 hcl, hcl] at a3
  repeat first | simp (implicitDefEqProofs := false) (maxSteps := 1000000) (disch := first | omega | with_reducible assumption | (simp only [lenT, Nat.reduceAdd]; omega)) only [amT, cut, bnd, Nat.reduceBEq, reduceCtorEq, Nat.reduceEqDiff, Nat.reduceAdd, Nat.reduceMul, Nat.reduceSub, Int.reduceToNat, Int.reduceEq, Int.reduceLT, Int.reduceLE, Int.reduceAdd, Int.reduceSub, Int.reduceMul, reduceIte, resVs, resV, packV, initT, addr, stepOp_app_v, happ] | refine OrW.go ?_
  refine RelC.call a3 ?_
  rintro r M3 ⟨rfl, v3, hD3, hst3⟩
  obtain ⟨b3, s3, o3⟩ := hst3.below (b := M.size) (Nat.le_refl _) o2 (by rw [mx_size]; omega)
  obtain ⟨av, cv, rfl⟩ := hD3.files.len
  have ku := DetC.known (used_ok (mx M3 []) M.size av cv _ (hD3.old (Old.here _ [])).lt (hD3.old (Old.here _ [])).get (hD3.old (Old.here _ [])).files (by simp [gD]) (by rw [gD_used, hl]; omega))
  rw [gD_used, hl] at ku
  have kf := DetC.known (fail_nil (mx M3 []) 1)
  have kc := DetC.known (crash_nil (mx M3 []))
  have ko := fun v => DetC.known (on_nil (mx M3 []) v)
  have k1 := fun s => DetC.known (read_noD (mx M3 []) s)
  have k2 := fun s => DetC.known (append_noD (mx M3 []) s)
  have k3 := fun s => DetC.known (sync_noD (mx M3 []) s)
  have k4 := fun s n => DetC.known (cut_noD (mx M3 []) s n)
  have k5 := fun s t => DetC.known (rename_noD (mx M3 []) s t)
  have k6 := fun s => DetC.known (remove_noD (mx M3 []) s)
  have k7 := DetC.known (names_nil (mx M3 []))
  have k8 := DetC.known (used_nil (mx M3 []))
  have k9 := DetC.known (steps_nil (mx M3 []))
  have k10 := DetC.known (off_nil (mx M3 []))
  have k12 := DetC.known (copy_nil (mx M3 []))
  have kW := DetC.known (works_ok (mx M3 []))
  repeat first | simp (implicitDefEqProofs := false) (maxSteps := 1000000) (disch := first | omega | with_reducible assumption | (simp only [lenT, Nat.reduceAdd]; omega)) only [amT, cut, bnd, Nat.reduceBEq, reduceCtorEq, Nat.reduceEqDiff, Nat.reduceAdd, Nat.reduceMul, Nat.reduceSub, Int.reduceToNat, Int.reduceEq, Int.reduceLT, Int.reduceLE, Int.reduceAdd, Int.reduceSub, Int.reduceMul, reduceIte, resVs, resV, packV, initT, addr, ku, kf, kc, ko, k1, k2, k3, k4, k5, k6, k7, k8, k9, k10, k12, kW, eqV_nn] | refine OrW.go ?_
  refine (hO.trans ⟨s3, fun y hy => ?_⟩).mx []
  rw [b3 y hy, mx_old (by omega), b2 y hy, mx_old (by omega), b1 y hy, mx_old hy]
theorem lawKnown (m : AMem) : PureC Try.prog 0 9 [] m (.bool true) := by
  refine pure_of_W (fn := Try.f9) rfl rfl F9_ok (by simp [F9]) (.bool _) ?_
  rw [F9_cut]
  simp (implicitDefEqProofs := false) (maxSteps := 1000000) (disch := first | omega | with_reducible assumption | (simp only [lenT, Nat.reduceAdd]; omega)) only [amT, cut, bnd, Nat.reduceBEq, reduceCtorEq, Nat.reduceEqDiff, Nat.reduceAdd, Nat.reduceMul, Nat.reduceSub, Int.reduceToNat, Int.reduceEq, Int.reduceLT, Int.reduceLE, Int.reduceAdd, Int.reduceSub, Int.reduceMul, reduceIte, resVs, resV, packV, initT, addr, F9, hd_seq, tl_seq]
  refine W_loop (fun N qs => ∃ (i : Nat), N = 128 - i ∧ qs.ds = [] ∧ qs.m = mx m [] ∧ qs.t 1 = .string ⟨(List.replicate i 120).toArray⟩ ∧ qs.t 2 = .int .i64 i ∧ i ≤ 128) (128 - (0)) ⟨0, rfl, rfl, ?qm, ?q1, ?q2, ?_⟩ ?_
  case qm | q1 | q2 => first | rfl | (simp (implicitDefEqProofs := false) (maxSteps := 1000000) (disch := first | omega | with_reducible assumption | (simp only [lenT, Nat.reduceAdd]; omega)) only [amT, cut, bnd, Nat.reduceBEq, reduceCtorEq, Nat.reduceEqDiff, Nat.reduceAdd, Nat.reduceMul, Nat.reduceSub, Int.reduceToNat, Int.reduceEq, Int.reduceLT, Int.reduceLE, Int.reduceAdd, Int.reduceSub, Int.reduceMul, reduceIte, resVs, resV, packV, initT, addr, List.replicate]; first | done | rfl | (congr 1; omega))
  · omega
  · rintro N t m1 ds ⟨i, rfl, hds, hm, t1, t2, hp⟩
    simp only at hds hm t1 t2
    subst hds; replace hm := hm.symm; subst hm
    by_cases h1 : (i : Int) < 128
    · have hr : List.replicate i 120 ++ [120] = List.replicate (i + 1) (120 : UInt8) := List.replicate_succ'.symm
      repeat first | simp (implicitDefEqProofs := false) (maxSteps := 1000000) (disch := first | omega | with_reducible assumption | (simp only [lenT, Nat.reduceAdd]; omega)) only [amT, cut, bnd, Nat.reduceBEq, reduceCtorEq, Nat.reduceEqDiff, Nat.reduceAdd, Nat.reduceMul, Nat.reduceSub, Int.reduceToNat, Int.reduceEq, Int.reduceLT, Int.reduceLE, Int.reduceAdd, Int.reduceSub, Int.reduceMul, reduceIte, resVs, resV, packV, initT, addr, F9_l0, t1, t2, h1] | refine OrW.go ?_
      rw [LoopK_normal]; refine ⟨_, ?_, i + 1, rfl, rfl, ?qm, ?q1, ?q2, ?_⟩
      case qm | q1 | q2 => first | rfl | (simp (implicitDefEqProofs := false) (maxSteps := 1000000) (disch := first | omega | with_reducible assumption | (simp only [lenT, Nat.reduceAdd]; omega)) only [amT, cut, bnd, Nat.reduceBEq, reduceCtorEq, Nat.reduceEqDiff, Nat.reduceAdd, Nat.reduceMul, Nat.reduceSub, Int.reduceToNat, Int.reduceEq, Int.reduceLT, Int.reduceLE, Int.reduceAdd, Int.reduceSub, Int.reduceMul, reduceIte, resVs, resV, packV, initT, addr, t1, t2, hr]; first | done | rfl | (congr 1; omega))
      · omega
      · omega
    · obtain rfl : i = 128 := by omega
      have hlg : (List.replicate 128 (120 : UInt8)).length = 128 := List.length_replicate
      generalize List.replicate 128 (120 : UInt8) = lg at hlg t1
      repeat first | simp (implicitDefEqProofs := false) (maxSteps := 1000000) (disch := first | omega | with_reducible assumption | (simp only [lenT, Nat.reduceAdd]; omega)) only [amT, cut, bnd, Nat.reduceBEq, reduceCtorEq, Nat.reduceEqDiff, Nat.reduceAdd, Nat.reduceMul, Nat.reduceSub, Int.reduceToNat, Int.reduceEq, Int.reduceLT, Int.reduceLE, Int.reduceAdd, Int.reduceSub, Int.reduceMul, reduceIte, resVs, resV, packV, initT, addr, F9_l0, t1, t2] | refine OrW.go ?_
      refine blds m lg hlg _ (by simp (implicitDefEqProofs := false) (maxSteps := 1000000) (disch := first | omega | with_reducible assumption | (simp only [lenT, Nat.reduceAdd]; omega)) only [amT, cut, bnd, Nat.reduceBEq, reduceCtorEq, Nat.reduceEqDiff, Nat.reduceAdd, Nat.reduceMul, Nat.reduceSub, Int.reduceToNat, Int.reduceEq, Int.reduceLT, Int.reduceLE, Int.reduceAdd, Int.reduceSub, Int.reduceMul, reduceIte, resVs, resV, packV, initT, addr, t1]) _ fun t' h3 => ?_
      rw [SeqK_normal, F9_R_cut, W_seq]
      generalize hX : mx m [.cells [.int .i64 6] 3 true .exact, .cells [.int .i64 (-1), .int .i64 0, .int .i64 5] 3 true .exact, .cells (aRows (z29 lg m.size)) 44 true .exact] = X
      have hmX : Old m X := by rw [← hX]; exact Old.here _ _
      rw [show ({ t := t', m := X, ds := [] } : ASt) = { t := t', m := mx X [], ds := [] } from by rw [← hX, mx_mx, List.append_nil]]
      refine loop1 m X lg hlg t' h3 (by rw [hX]; exact Old.refl _) _ fun t'' M1 hO1 => ?_
      rw [SeqK_normal, W_seq]
      refine loop2 M1 t'' _ fun t3 M2 hO2 => ?_
      rw [SeqK_normal]
      exact known_end m M2 ((hmX.trans hO1).trans hO2) t3
end Go.Proofs.Ytbmjhiifinjieaa
