/- DiskTwins. -/
import Derived.Test.YtbmjhiifinjieaaB4
import Derived.Test.YtbmjhiifinjieaaA4
import Derived.Test.YtbmjhiifinjieaaB2
set_option linter.unusedVariables false
set_option linter.unusedSimpArgs false
set_option linter.unnecessarySimpa false
namespace Go.Proofs.Ytbmjhiifinjieaa
open Go Go.AM
set_option linter.unusedVariables false
set_option linter.unusedSimpArgs false
set_option linter.unusedSectionVars false
set_option maxHeartbeats 2000000
set_option maxRecDepth 100000

/-- Two disks that share nothing that changes. -/
structure Two (m0 M : AMem) (p1 : Nat) (v1 : Value) (d1 : DiskR) (p2 : Nat) (v2 : Value) (d2 : DiskR) : Prop where
  a : @DIn ⟨p1⟩ m0 M p1 v1 d1
  b : @DIn ⟨p2⟩ m0 M p2 v2 d2
  ne : p1 ≠ p2
  sep : ∀ x, ownV v1 x → ¬ ownV v2 x
theorem Two.symm {m0 M : AMem} {p1 p2 : Nat} {v1 v2 : Value} {d1 d2 : DiskR} (h : Two m0 M p1 v1 d1 p2 v2 d2) : Two m0 M p2 v2 d2 p1 v1 d1 := ⟨h.b, h.a, h.ne.symm, fun x h1 h2 => h.sep x h2 h1⟩
theorem Two.old {m0 M M' : AMem} {p1 p2 : Nat} {v1 v2 : Value} {d1 d2 : DiskR} (h : Two m0 M p1 v1 d1 p2 v2 d2) (ho : Old M M') : Two m0 M' p1 v1 d1 p2 v2 d2 :=
  ⟨@DIn.keep ⟨p1⟩ _ _ _ _ _ _ h.a ho, @DIn.keep ⟨p2⟩ _ _ _ _ _ _ h.b ho, h.ne, h.sep⟩
theorem Two.left {m0 M M' : AMem} {p1 p2 : Nat} {v1 v1' v2 : Value} {d1 d1' d2 : DiskR} (h : Two m0 M p1 v1 d1 p2 v2 d2) (ha : @DIn ⟨p1⟩ m0 M' p1 v1' d1') (hs : DStep p1 v1 M v1' M') : Two m0 M' p1 v1' d1' p2 v2 d2 := by
  have hA := @DIn.here ⟨p1⟩ _ _ _ _ _ h.a
  have hB := @DIn.here ⟨p2⟩ _ _ _ _ _ h.b
  have gA := @DAt.get ⟨p1⟩ _ _ _ _ hA
  have gB := @DAt.get ⟨p2⟩ _ _ _ _ hB
  have lB := @DAt.lt ⟨p2⟩ _ _ _ _ hB
  have fA := @DAt.files ⟨p1⟩ _ _ _ _ hA
  have fB := @DAt.files ⟨p2⟩ _ _ _ _ hB
  have n1 : ¬ (p2 = p1 ∨ ownV v1 p2) := fun e => e.elim (fun e => h.ne e.symm) (@not_own ⟨p1⟩ _ _ _ fA _ _ _ _ _ gB (by decide))
  have h5 : ∀ x X w sp, M.get x = .cells X 5 w sp → ¬ (x = p1 ∨ ownV v1 x) := fun x X w sp hx e => e.elim (fun e => by subst e; rw [gA] at hx; cases hx) (@no5 ⟨p1⟩ _ _ _ fA x X w sp hx)
  have hv : ∀ x, ownV v2 x → ¬ (x = p1 ∨ ownV v1 x) := fun x hx e => e.elim (fun e => by subst e; exact @not_own ⟨p2⟩ _ _ _ fB _ _ _ _ _ gA (by decide) hx) (fun e => h.sep x e hx)
  have hB' : @DAt ⟨p2⟩ M' p2 v2 d2 := @DAt.mk ⟨p2⟩ _ _ _ _ (Nat.lt_of_lt_of_le lB hs.1.1) (by rw [hs.1.2 p2 lB n1]; exact gB) (@FilesV.keep ⟨p2⟩ _ _ _ _ fB _ hs.1 h5 hv) (Nat.lt_of_lt_of_le lB hs.1.1)
  refine ⟨ha, @DIn.mk ⟨p2⟩ _ _ _ _ _ hB' (@DIn.old ⟨p1⟩ _ _ _ _ _ ha) (@DIn.ap ⟨p2⟩ _ _ _ _ _ h.b) (@DIn.own ⟨p2⟩ _ _ _ _ _ h.b), h.ne, fun x h1 h2 => ?_⟩
  rcases hs.2 x h1 with h3 | h3
  · exact h.sep x h3 h2
  · have := @own_lt ⟨p2⟩ _ _ _ fB x h2; omega
/-- A copy, apart from all that was. -/
theorem copy_in {m0 M : AMem} {p : Nat} {v : Value} {d : DiskR} {k : Nat} (h : @DIn ⟨p⟩ m0 M p v d) (hb : Bud d k) (hk : k ≤ 10000) :
    RelC Try.prog 0 29 [.pointer (some ⟨p, 0, none⟩)] M fun r m' => ∃ p' v', r = .pointer (some ⟨p', 0, none⟩) ∧ @DIn ⟨p'⟩ M m' p' v' d := by
  have hf := hb.few
  refine RelC.mono (@copy_ok ⟨p⟩ M p v d (@DIn.here ⟨p⟩ _ _ _ _ _ h) (by omega)) ?_
  rintro r m' ⟨p', v', h1, h2, h3, h4, h5⟩
  have g := @DAt.get ⟨p⟩ _ _ _ _ h3
  have l := @DAt.lt ⟨p⟩ _ _ _ _ h3
  exact ⟨p', v', h1, @DIn.mk ⟨p'⟩ _ _ _ _ _ (DAt.swap (x := p) (y := p') h3 (Old.refl m') (fun X w sp hy e => by rw [g] at e; cases e) l) h5 h2 h4⟩
theorem Two.make {m0 M M' : AMem} {p p' : Nat} {v v' : Value} {d d' : DiskR} (h : @DIn ⟨p⟩ m0 M p v d) (h' : @DIn ⟨p'⟩ M M' p' v' d') : Two m0 M' p v d p' v' d' := by
  have ho := @DIn.old ⟨p'⟩ _ _ _ _ _ h'
  have hm := (@DIn.old ⟨p⟩ _ _ _ _ _ h).1
  have hap := @DIn.ap ⟨p'⟩ _ _ _ _ _ h'
  have hown := @DIn.own ⟨p'⟩ _ _ _ _ _ h'
  have hl := @DAt.lt ⟨p⟩ _ _ _ _ (@DIn.here ⟨p⟩ _ _ _ _ _ h)
  have hf := @DAt.files ⟨p⟩ _ _ _ _ (@DIn.here ⟨p⟩ _ _ _ _ _ h)
  refine ⟨@DIn.keep ⟨p⟩ _ _ _ _ _ _ h ho, @DIn.mk ⟨p'⟩ _ _ _ _ _ (@DIn.here ⟨p'⟩ _ _ _ _ _ h') ((@DIn.old ⟨p⟩ _ _ _ _ _ h).trans ho) (Nat.le_trans hm hap) (fun x hx => Nat.le_trans hm (hown x hx)), by omega, fun x h1 h2 => ?_⟩
  have := @own_lt ⟨p⟩ _ _ _ hf x h1
  have := hown x h2
  omega

theorem lawTwins (m : AMem) (q : Int) (hq : -9223372036854775808 ≤ q ∧ q ≤ 9223372036854775807) (a1 : Option Addr) (cap1 : Nat) (l1 : List ActR) (hl1 : ActsV m a1 l1) (h1_64 : l1.length ≤ 9223372036854775807)
    (a2 : Option Addr) (cap2 : Nat) (l2 : List ActR) (hl2 : ActsV m a2 l2) (h2_64 : l2.length ≤ 9223372036854775807) (a3 : Option Addr) (cap3 : Nat) (l3 : List ActR) (hl3 : ActsV m a3 l3) (h3_64 : l3.length ≤ 9223372036854775807) :
    PureC Try.prog 0 8 [.int .i64 q, .slice a1 l1.length cap1, .slice a2 l2.length cap2, .slice a3 l3.length cap3] m (.bool true) := by
  refine pure_of_W (fn := Try.f8) rfl rfl F8_ok (by simp [F8]) (.bool _) ?_
  letI : Ex := ⟨m.size⟩
  have kW := DetC.known (works_ok (mx m []))
  have kF1 := DetC.known (few_ok (mx m []) a1 cap1 l1 (hl1.old (Old.here _ _)) h1_64)
  have kF2 := DetC.known (few_ok (mx m []) a2 cap2 l2 (hl2.old (Old.here _ _)) h2_64)
  have kF3 := DetC.known (few_ok (mx m []) a3 cap3 l3 (hl3.old (Old.here _ _)) h3_64)
  cases hfew1 : fewB l1 with
  | false =>
    rw [hfew1] at kF1
    simp (implicitDefEqProofs := false) (maxSteps := 1000000) (disch := first | omega | with_reducible assumption | (simp only [List.length_map, List.length_cons, List.length_nil, List.length_set, List.length_append, List.length_replicate, List.length_take, List.length_drop, mk_size, AMem.size_set, Nat.reduceAdd]; omega)) only [amT, cut, bnd, Nat.reduceBEq, reduceCtorEq, Nat.reduceEqDiff, Nat.reduceAdd, Nat.reduceMul, Nat.reduceSub, Int.reduceToNat, Int.reduceEq, Int.reduceLT, Int.reduceLE, Int.reduceAdd, Int.reduceSub, Int.reduceMul, reduceIte, resVs, resV, packV, initT, addr, F8, kF1, kW]; repeat (refine OrW.go ?_; try simp (implicitDefEqProofs := false) (maxSteps := 1000000) (disch := first | omega | with_reducible assumption | (simp only [List.length_map, List.length_cons, List.length_nil, List.length_set, List.length_append, List.length_replicate, List.length_take, List.length_drop, mk_size, AMem.size_set, Nat.reduceAdd]; omega)) only [amT, cut, bnd, Nat.reduceBEq, reduceCtorEq, Nat.reduceEqDiff, Nat.reduceAdd, Nat.reduceMul, Nat.reduceSub, Int.reduceToNat, Int.reduceEq, Int.reduceLT, Int.reduceLE, Int.reduceAdd, Int.reduceSub, Int.reduceMul, reduceIte, resVs, resV, packV, initT, addr, F8, kF1, kW])
  | true =>
  cases hfew2 : fewB l2 with
  | false =>
    rw [hfew1] at kF1; rw [hfew2] at kF2
    simp (implicitDefEqProofs := false) (maxSteps := 1000000) (disch := first | omega | with_reducible assumption | (simp only [List.length_map, List.length_cons, List.length_nil, List.length_set, List.length_append, List.length_replicate, List.length_take, List.length_drop, mk_size, AMem.size_set, Nat.reduceAdd]; omega)) only [amT, cut, bnd, Nat.reduceBEq, reduceCtorEq, Nat.reduceEqDiff, Nat.reduceAdd, Nat.reduceMul, Nat.reduceSub, Int.reduceToNat, Int.reduceEq, Int.reduceLT, Int.reduceLE, Int.reduceAdd, Int.reduceSub, Int.reduceMul, reduceIte, resVs, resV, packV, initT, addr, F8, kF1, kF2, kW]; repeat (refine OrW.go ?_; try simp (implicitDefEqProofs := false) (maxSteps := 1000000) (disch := first | omega | with_reducible assumption | (simp only [List.length_map, List.length_cons, List.length_nil, List.length_set, List.length_append, List.length_replicate, List.length_take, List.length_drop, mk_size, AMem.size_set, Nat.reduceAdd]; omega)) only [amT, cut, bnd, Nat.reduceBEq, reduceCtorEq, Nat.reduceEqDiff, Nat.reduceAdd, Nat.reduceMul, Nat.reduceSub, Int.reduceToNat, Int.reduceEq, Int.reduceLT, Int.reduceLE, Int.reduceAdd, Int.reduceSub, Int.reduceMul, reduceIte, resVs, resV, packV, initT, addr, F8, kF1, kF2, kW])
  | true =>
  cases hfew3 : fewB l3 with
  | false =>
    rw [hfew1] at kF1; rw [hfew2] at kF2; rw [hfew3] at kF3
    simp (implicitDefEqProofs := false) (maxSteps := 1000000) (disch := first | omega | with_reducible assumption | (simp only [List.length_map, List.length_cons, List.length_nil, List.length_set, List.length_append, List.length_replicate, List.length_take, List.length_drop, mk_size, AMem.size_set, Nat.reduceAdd]; omega)) only [amT, cut, bnd, Nat.reduceBEq, reduceCtorEq, Nat.reduceEqDiff, Nat.reduceAdd, Nat.reduceMul, Nat.reduceSub, Int.reduceToNat, Int.reduceEq, Int.reduceLT, Int.reduceLE, Int.reduceAdd, Int.reduceSub, Int.reduceMul, reduceIte, resVs, resV, packV, initT, addr, F8, kF1, kF2, kF3, kW]; repeat (refine OrW.go ?_; try simp (implicitDefEqProofs := false) (maxSteps := 1000000) (disch := first | omega | with_reducible assumption | (simp only [List.length_map, List.length_cons, List.length_nil, List.length_set, List.length_append, List.length_replicate, List.length_take, List.length_drop, mk_size, AMem.size_set, Nat.reduceAdd]; omega)) only [amT, cut, bnd, Nat.reduceBEq, reduceCtorEq, Nat.reduceEqDiff, Nat.reduceAdd, Nat.reduceMul, Nat.reduceSub, Int.reduceToNat, Int.reduceEq, Int.reduceLT, Int.reduceLE, Int.reduceAdd, Int.reduceSub, Int.reduceMul, reduceIte, resVs, resV, packV, initT, addr, F8, kF1, kF2, kF3, kW])
  | true =>
    rw [hfew1] at kF1; rw [hfew2] at kF2; rw [hfew3] at kF3
    obtain ⟨hl1_50, hsm1⟩ := few_all hfew1
    obtain ⟨hl2_50, hsm2⟩ := few_all hfew2
    obtain ⟨hl3_50, hsm3⟩ := few_all hfew3
    have k11 := DetC.known (new_ok (mx m []) q)
    rw [mx_nil_size, mx_mx, List.nil_append] at k11
    have h0 := DIn.new (Old.refl m) (Nat.le_refl _) q
    have b0 : Bud (newR q) 0 := Bud.new hq.2
    simp (implicitDefEqProofs := false) (maxSteps := 1000000) (disch := first | omega | with_reducible assumption | (simp only [List.length_map, List.length_cons, List.length_nil, List.length_set, List.length_append, List.length_replicate, List.length_take, List.length_drop, mk_size, AMem.size_set, Nat.reduceAdd]; omega)) only [amT, cut, bnd, Nat.reduceBEq, reduceCtorEq, Nat.reduceEqDiff, Nat.reduceAdd, Nat.reduceMul, Nat.reduceSub, Int.reduceToNat, Int.reduceEq, Int.reduceLT, Int.reduceLE, Int.reduceAdd, Int.reduceSub, Int.reduceMul, reduceIte, resVs, resV, packV, initT, addr, F8, kF1, kF2, kF3, k11]; repeat (refine OrW.go ?_; try simp (implicitDefEqProofs := false) (maxSteps := 1000000) (disch := first | omega | with_reducible assumption | (simp only [List.length_map, List.length_cons, List.length_nil, List.length_set, List.length_append, List.length_replicate, List.length_take, List.length_drop, mk_size, AMem.size_set, Nat.reduceAdd]; omega)) only [amT, cut, bnd, Nat.reduceBEq, reduceCtorEq, Nat.reduceEqDiff, Nat.reduceAdd, Nat.reduceMul, Nat.reduceSub, Int.reduceToNat, Int.reduceEq, Int.reduceLT, Int.reduceLE, Int.reduceAdd, Int.reduceSub, Int.reduceMul, reduceIte, resVs, resV, packV, initT, addr, F8, kF1, kF2, kF3, k11])
    refine W_loop (fun N qs => ∃ (i : Nat) (M : AMem) (v : Value) (d : DiskR), N = l1.length - i ∧ qs.ds = [] ∧ qs.m = mx M [] ∧ qs.t 1 = .slice a1 l1.length cap1 ∧ qs.t 2 = .slice a2 l2.length cap2 ∧ qs.t 3 = .slice a3 l3.length cap3 ∧ qs.t 9 = .pointer (some ⟨m.size, 0, none⟩) ∧ qs.t 10 = .int .i64 i ∧ i ≤ l1.length ∧ DIn m M m.size v d ∧ Bud d i) (l1.length - (0)) ⟨0, mx m [.cells ((newR q).cells (.slice none 0 0)) 60 true .exact], .slice none 0 0, newR q, rfl, rfl, by first | rfl | (simp (implicitDefEqProofs := false) (maxSteps := 1000000) (disch := first | omega | with_reducible assumption | (simp only [List.length_map, List.length_cons, List.length_nil, List.length_set, List.length_append, List.length_replicate, List.length_take, List.length_drop, mk_size, AMem.size_set, Nat.reduceAdd]; omega)) only [amT, cut, bnd, Nat.reduceBEq, reduceCtorEq, Nat.reduceEqDiff, Nat.reduceAdd, Nat.reduceMul, Nat.reduceSub, Int.reduceToNat, Int.reduceEq, Int.reduceLT, Int.reduceLE, Int.reduceAdd, Int.reduceSub, Int.reduceMul, reduceIte, resVs, resV, packV, initT, addr, mx_mx, List.append_nil]; first | done | rfl | (congr 1; omega)), by first | rfl | (simp (implicitDefEqProofs := false) (maxSteps := 1000000) (disch := first | omega | with_reducible assumption | (simp only [List.length_map, List.length_cons, List.length_nil, List.length_set, List.length_append, List.length_replicate, List.length_take, List.length_drop, mk_size, AMem.size_set, Nat.reduceAdd]; omega)) only [amT, cut, bnd, Nat.reduceBEq, reduceCtorEq, Nat.reduceEqDiff, Nat.reduceAdd, Nat.reduceMul, Nat.reduceSub, Int.reduceToNat, Int.reduceEq, Int.reduceLT, Int.reduceLE, Int.reduceAdd, Int.reduceSub, Int.reduceMul, reduceIte, resVs, resV, packV, initT, addr, mx_mx, List.append_nil]; first | done | rfl | (congr 1; omega)), by first | rfl | (simp (implicitDefEqProofs := false) (maxSteps := 1000000) (disch := first | omega | with_reducible assumption | (simp only [List.length_map, List.length_cons, List.length_nil, List.length_set, List.length_append, List.length_replicate, List.length_take, List.length_drop, mk_size, AMem.size_set, Nat.reduceAdd]; omega)) only [amT, cut, bnd, Nat.reduceBEq, reduceCtorEq, Nat.reduceEqDiff, Nat.reduceAdd, Nat.reduceMul, Nat.reduceSub, Int.reduceToNat, Int.reduceEq, Int.reduceLT, Int.reduceLE, Int.reduceAdd, Int.reduceSub, Int.reduceMul, reduceIte, resVs, resV, packV, initT, addr, mx_mx, List.append_nil]; first | done | rfl | (congr 1; omega)), by first | rfl | (simp (implicitDefEqProofs := false) (maxSteps := 1000000) (disch := first | omega | with_reducible assumption | (simp only [List.length_map, List.length_cons, List.length_nil, List.length_set, List.length_append, List.length_replicate, List.length_take, List.length_drop, mk_size, AMem.size_set, Nat.reduceAdd]; omega)) only [amT, cut, bnd, Nat.reduceBEq, reduceCtorEq, Nat.reduceEqDiff, Nat.reduceAdd, Nat.reduceMul, Nat.reduceSub, Int.reduceToNat, Int.reduceEq, Int.reduceLT, Int.reduceLE, Int.reduceAdd, Int.reduceSub, Int.reduceMul, reduceIte, resVs, resV, packV, initT, addr, mx_mx, List.append_nil]; first | done | rfl | (congr 1; omega)), by first | rfl | (simp (implicitDefEqProofs := false) (maxSteps := 1000000) (disch := first | omega | with_reducible assumption | (simp only [List.length_map, List.length_cons, List.length_nil, List.length_set, List.length_append, List.length_replicate, List.length_take, List.length_drop, mk_size, AMem.size_set, Nat.reduceAdd]; omega)) only [amT, cut, bnd, Nat.reduceBEq, reduceCtorEq, Nat.reduceEqDiff, Nat.reduceAdd, Nat.reduceMul, Nat.reduceSub, Int.reduceToNat, Int.reduceEq, Int.reduceLT, Int.reduceLE, Int.reduceAdd, Int.reduceSub, Int.reduceMul, reduceIte, resVs, resV, packV, initT, addr, mx_mx, List.append_nil]; first | done | rfl | (congr 1; omega)), by first | rfl | (simp (implicitDefEqProofs := false) (maxSteps := 1000000) (disch := first | omega | with_reducible assumption | (simp only [List.length_map, List.length_cons, List.length_nil, List.length_set, List.length_append, List.length_replicate, List.length_take, List.length_drop, mk_size, AMem.size_set, Nat.reduceAdd]; omega)) only [amT, cut, bnd, Nat.reduceBEq, reduceCtorEq, Nat.reduceEqDiff, Nat.reduceAdd, Nat.reduceMul, Nat.reduceSub, Int.reduceToNat, Int.reduceEq, Int.reduceLT, Int.reduceLE, Int.reduceAdd, Int.reduceSub, Int.reduceMul, reduceIte, resVs, resV, packV, initT, addr, mx_mx, List.append_nil]; first | done | rfl | (congr 1; omega)), ?_⟩ ?_
    · exact ⟨by omega, h0, b0⟩
    · rintro N t m1 ds ⟨i, M, v, d, rfl, hds, hm, t1, t2, t3, t9, t10, hp⟩
      simp only at hds hm t1 t2 t3 t9 t10
      subst hds; replace hm := hm.symm; subst hm
      obtain ⟨hi, hI, hB⟩ := hp
      by_cases hil : (i : Int) < (l1.length : Int)
      · have hil' : i < l1.length := by omega
        obtain ⟨b, o, ka, kc, rfl, hb, hr, hA, hok⟩ := hl1 i hil'
        have hxs := small_b (hsm1 _ (List.getElem_mem hil'))
        have hb1 : b < M.size := Nat.lt_of_lt_of_le hb hI.old.1
        have hr1 : rdO (M.get b) (o + i * 6) 6 = some (actRow l1[i] ka kc) := by rw [hI.old.2 b hb]; exact hr
        have hdo := does_ok m (mx M []) m.size v d (hI.mx []) i hB (by omega) l1[i] hok ka kc hA (by omega)
        have hB2 := hB.does l1[i] hok (by omega)
        generalize doesR d l1[i] = R at hB2 hdo
        simp (implicitDefEqProofs := false) (maxSteps := 1000000) (disch := first | omega | with_reducible assumption | (simp only [List.length_map, List.length_cons, List.length_nil, List.length_set, List.length_append, List.length_replicate, List.length_take, List.length_drop, mk_size, AMem.size_set, Nat.reduceAdd]; omega)) only [amT, cut, bnd, Nat.reduceBEq, reduceCtorEq, Nat.reduceEqDiff, Nat.reduceAdd, Nat.reduceMul, Nat.reduceSub, Int.reduceToNat, Int.reduceEq, Int.reduceLT, Int.reduceLE, Int.reduceAdd, Int.reduceSub, Int.reduceMul, reduceIte, resVs, resV, packV, initT, addr, F8_l0, t1, t2, t3, t9, t10, hil, hr1]; repeat (refine OrW.go ?_; try simp (implicitDefEqProofs := false) (maxSteps := 1000000) (disch := first | omega | with_reducible assumption | (simp only [List.length_map, List.length_cons, List.length_nil, List.length_set, List.length_append, List.length_replicate, List.length_take, List.length_drop, mk_size, AMem.size_set, Nat.reduceAdd]; omega)) only [amT, cut, bnd, Nat.reduceBEq, reduceCtorEq, Nat.reduceEqDiff, Nat.reduceAdd, Nat.reduceMul, Nat.reduceSub, Int.reduceToNat, Int.reduceEq, Int.reduceLT, Int.reduceLE, Int.reduceAdd, Int.reduceSub, Int.reduceMul, reduceIte, resVs, resV, packV, initT, addr, F8_l0, t1, t2, t3, t9, t10, hil, hr1])
        refine RelC.call hdo ?_
        rintro r M2 ⟨rfl, v2, hI2, -⟩
        simp (implicitDefEqProofs := false) (maxSteps := 1000000) (disch := first | omega | with_reducible assumption | (simp only [List.length_map, List.length_cons, List.length_nil, List.length_set, List.length_append, List.length_replicate, List.length_take, List.length_drop, mk_size, AMem.size_set, Nat.reduceAdd]; omega)) only [amT, cut, bnd, Nat.reduceBEq, reduceCtorEq, Nat.reduceEqDiff, Nat.reduceAdd, Nat.reduceMul, Nat.reduceSub, Int.reduceToNat, Int.reduceEq, Int.reduceLT, Int.reduceLE, Int.reduceAdd, Int.reduceSub, Int.reduceMul, reduceIte, resVs, resV, packV, initT, addr, t1, t2, t3, t9, t10]; repeat (refine OrW.go ?_; try simp (implicitDefEqProofs := false) (maxSteps := 1000000) (disch := first | omega | with_reducible assumption | (simp only [List.length_map, List.length_cons, List.length_nil, List.length_set, List.length_append, List.length_replicate, List.length_take, List.length_drop, mk_size, AMem.size_set, Nat.reduceAdd]; omega)) only [amT, cut, bnd, Nat.reduceBEq, reduceCtorEq, Nat.reduceEqDiff, Nat.reduceAdd, Nat.reduceMul, Nat.reduceSub, Int.reduceToNat, Int.reduceEq, Int.reduceLT, Int.reduceLE, Int.reduceAdd, Int.reduceSub, Int.reduceMul, reduceIte, resVs, resV, packV, initT, addr, t1, t2, t3, t9, t10])
        rw [LoopK_normal]; refine ⟨_, ?_, i + 1, M2, v2, R.2, rfl, rfl, by first | rfl | (simp (implicitDefEqProofs := false) (maxSteps := 1000000) (disch := first | omega | with_reducible assumption | (simp only [List.length_map, List.length_cons, List.length_nil, List.length_set, List.length_append, List.length_replicate, List.length_take, List.length_drop, mk_size, AMem.size_set, Nat.reduceAdd]; omega)) only [amT, cut, bnd, Nat.reduceBEq, reduceCtorEq, Nat.reduceEqDiff, Nat.reduceAdd, Nat.reduceMul, Nat.reduceSub, Int.reduceToNat, Int.reduceEq, Int.reduceLT, Int.reduceLE, Int.reduceAdd, Int.reduceSub, Int.reduceMul, reduceIte, resVs, resV, packV, initT, addr, t1, t2, t3, t9, t10]; first | done | rfl | (congr 1; omega)), by first | rfl | (simp (implicitDefEqProofs := false) (maxSteps := 1000000) (disch := first | omega | with_reducible assumption | (simp only [List.length_map, List.length_cons, List.length_nil, List.length_set, List.length_append, List.length_replicate, List.length_take, List.length_drop, mk_size, AMem.size_set, Nat.reduceAdd]; omega)) only [amT, cut, bnd, Nat.reduceBEq, reduceCtorEq, Nat.reduceEqDiff, Nat.reduceAdd, Nat.reduceMul, Nat.reduceSub, Int.reduceToNat, Int.reduceEq, Int.reduceLT, Int.reduceLE, Int.reduceAdd, Int.reduceSub, Int.reduceMul, reduceIte, resVs, resV, packV, initT, addr, t1, t2, t3, t9, t10]; first | done | rfl | (congr 1; omega)), by first | rfl | (simp (implicitDefEqProofs := false) (maxSteps := 1000000) (disch := first | omega | with_reducible assumption | (simp only [List.length_map, List.length_cons, List.length_nil, List.length_set, List.length_append, List.length_replicate, List.length_take, List.length_drop, mk_size, AMem.size_set, Nat.reduceAdd]; omega)) only [amT, cut, bnd, Nat.reduceBEq, reduceCtorEq, Nat.reduceEqDiff, Nat.reduceAdd, Nat.reduceMul, Nat.reduceSub, Int.reduceToNat, Int.reduceEq, Int.reduceLT, Int.reduceLE, Int.reduceAdd, Int.reduceSub, Int.reduceMul, reduceIte, resVs, resV, packV, initT, addr, t1, t2, t3, t9, t10]; first | done | rfl | (congr 1; omega)), by first | rfl | (simp (implicitDefEqProofs := false) (maxSteps := 1000000) (disch := first | omega | with_reducible assumption | (simp only [List.length_map, List.length_cons, List.length_nil, List.length_set, List.length_append, List.length_replicate, List.length_take, List.length_drop, mk_size, AMem.size_set, Nat.reduceAdd]; omega)) only [amT, cut, bnd, Nat.reduceBEq, reduceCtorEq, Nat.reduceEqDiff, Nat.reduceAdd, Nat.reduceMul, Nat.reduceSub, Int.reduceToNat, Int.reduceEq, Int.reduceLT, Int.reduceLE, Int.reduceAdd, Int.reduceSub, Int.reduceMul, reduceIte, resVs, resV, packV, initT, addr, t1, t2, t3, t9, t10]; first | done | rfl | (congr 1; omega)), by first | rfl | (simp (implicitDefEqProofs := false) (maxSteps := 1000000) (disch := first | omega | with_reducible assumption | (simp only [List.length_map, List.length_cons, List.length_nil, List.length_set, List.length_append, List.length_replicate, List.length_take, List.length_drop, mk_size, AMem.size_set, Nat.reduceAdd]; omega)) only [amT, cut, bnd, Nat.reduceBEq, reduceCtorEq, Nat.reduceEqDiff, Nat.reduceAdd, Nat.reduceMul, Nat.reduceSub, Int.reduceToNat, Int.reduceEq, Int.reduceLT, Int.reduceLE, Int.reduceAdd, Int.reduceSub, Int.reduceMul, reduceIte, resVs, resV, packV, initT, addr, t1, t2, t3, t9, t10]; first | done | rfl | (congr 1; omega)), by first | rfl | (simp (implicitDefEqProofs := false) (maxSteps := 1000000) (disch := first | omega | with_reducible assumption | (simp only [List.length_map, List.length_cons, List.length_nil, List.length_set, List.length_append, List.length_replicate, List.length_take, List.length_drop, mk_size, AMem.size_set, Nat.reduceAdd]; omega)) only [amT, cut, bnd, Nat.reduceBEq, reduceCtorEq, Nat.reduceEqDiff, Nat.reduceAdd, Nat.reduceMul, Nat.reduceSub, Int.reduceToNat, Int.reduceEq, Int.reduceLT, Int.reduceLE, Int.reduceAdd, Int.reduceSub, Int.reduceMul, reduceIte, resVs, resV, packV, initT, addr, t1, t2, t3, t9, t10]; first | done | rfl | (congr 1; omega)), ?_⟩
        · omega
        · exact ⟨by omega, hI2, hB2⟩
      · have hc1 := copy_in (hI.mx []) hB (by omega)
        simp (implicitDefEqProofs := false) (maxSteps := 1000000) (disch := first | omega | with_reducible assumption | (simp only [List.length_map, List.length_cons, List.length_nil, List.length_set, List.length_append, List.length_replicate, List.length_take, List.length_drop, mk_size, AMem.size_set, Nat.reduceAdd]; omega)) only [amT, cut, bnd, Nat.reduceBEq, reduceCtorEq, Nat.reduceEqDiff, Nat.reduceAdd, Nat.reduceMul, Nat.reduceSub, Int.reduceToNat, Int.reduceEq, Int.reduceLT, Int.reduceLE, Int.reduceAdd, Int.reduceSub, Int.reduceMul, reduceIte, resVs, resV, packV, initT, addr, F8_l0, t1, t2, t3, t9, t10, hil]; repeat (refine OrW.go ?_; try simp (implicitDefEqProofs := false) (maxSteps := 1000000) (disch := first | omega | with_reducible assumption | (simp only [List.length_map, List.length_cons, List.length_nil, List.length_set, List.length_append, List.length_replicate, List.length_take, List.length_drop, mk_size, AMem.size_set, Nat.reduceAdd]; omega)) only [amT, cut, bnd, Nat.reduceBEq, reduceCtorEq, Nat.reduceEqDiff, Nat.reduceAdd, Nat.reduceMul, Nat.reduceSub, Int.reduceToNat, Int.reduceEq, Int.reduceLT, Int.reduceLE, Int.reduceAdd, Int.reduceSub, Int.reduceMul, reduceIte, resVs, resV, packV, initT, addr, F8_l0, t1, t2, t3, t9, t10, hil])
        refine RelC.call hc1 ?_
        rintro r Mx ⟨px, vx, rfl, hx⟩
        have hT := Two.make (hI.mx []) hx
        have hc2 := copy_in (@DIn.mx ⟨m.size⟩ _ _ _ _ _ hT.a []) hB (by omega)
        simp (implicitDefEqProofs := false) (maxSteps := 1000000) (disch := first | omega | with_reducible assumption | (simp only [List.length_map, List.length_cons, List.length_nil, List.length_set, List.length_append, List.length_replicate, List.length_take, List.length_drop, mk_size, AMem.size_set, Nat.reduceAdd]; omega)) only [amT, cut, bnd, Nat.reduceBEq, reduceCtorEq, Nat.reduceEqDiff, Nat.reduceAdd, Nat.reduceMul, Nat.reduceSub, Int.reduceToNat, Int.reduceEq, Int.reduceLT, Int.reduceLE, Int.reduceAdd, Int.reduceSub, Int.reduceMul, reduceIte, resVs, resV, packV, initT, addr, t1, t2, t3, t9, t10]; repeat (refine OrW.go ?_; try simp (implicitDefEqProofs := false) (maxSteps := 1000000) (disch := first | omega | with_reducible assumption | (simp only [List.length_map, List.length_cons, List.length_nil, List.length_set, List.length_append, List.length_replicate, List.length_take, List.length_drop, mk_size, AMem.size_set, Nat.reduceAdd]; omega)) only [amT, cut, bnd, Nat.reduceBEq, reduceCtorEq, Nat.reduceEqDiff, Nat.reduceAdd, Nat.reduceMul, Nat.reduceSub, Int.reduceToNat, Int.reduceEq, Int.reduceLT, Int.reduceLE, Int.reduceAdd, Int.reduceSub, Int.reduceMul, reduceIte, resVs, resV, packV, initT, addr, t1, t2, t3, t9, t10])
        refine RelC.call hc2 ?_
        rintro r My ⟨py, vy, rfl, hy⟩
        have hTy := (hT.old (Old.here Mx [])).old (@DIn.old ⟨py⟩ _ _ _ _ _ hy)
        have hdB : Bud d 50 := hB.up (by omega)
        have hOx : Old m (mx Mx []) := (@DIn.old ⟨m.size⟩ _ _ _ _ _ hT.a).mx []
        simp (implicitDefEqProofs := false) (maxSteps := 1000000) (disch := first | omega | with_reducible assumption | (simp only [List.length_map, List.length_cons, List.length_nil, List.length_set, List.length_append, List.length_replicate, List.length_take, List.length_drop, mk_size, AMem.size_set, Nat.reduceAdd]; omega)) only [amT, cut, bnd, Nat.reduceBEq, reduceCtorEq, Nat.reduceEqDiff, Nat.reduceAdd, Nat.reduceMul, Nat.reduceSub, Int.reduceToNat, Int.reduceEq, Int.reduceLT, Int.reduceLE, Int.reduceAdd, Int.reduceSub, Int.reduceMul, reduceIte, resVs, resV, packV, initT, addr, t1, t2, t3, t9, t10, eqV_pn]; repeat (refine OrW.go ?_; try simp (implicitDefEqProofs := false) (maxSteps := 1000000) (disch := first | omega | with_reducible assumption | (simp only [List.length_map, List.length_cons, List.length_nil, List.length_set, List.length_append, List.length_replicate, List.length_take, List.length_drop, mk_size, AMem.size_set, Nat.reduceAdd]; omega)) only [amT, cut, bnd, Nat.reduceBEq, reduceCtorEq, Nat.reduceEqDiff, Nat.reduceAdd, Nat.reduceMul, Nat.reduceSub, Int.reduceToNat, Int.reduceEq, Int.reduceLT, Int.reduceLE, Int.reduceAdd, Int.reduceSub, Int.reduceMul, reduceIte, resVs, resV, packV, initT, addr, t1, t2, t3, t9, t10, eqV_pn])
        refine W_loop (fun N qs => ∃ (j : Nat) (M3 : AMem) (v3 : Value) (d3 : DiskR), N = l3.length - j ∧ qs.ds = [] ∧ qs.m = mx M3 [] ∧ qs.t 2 = .slice a2 l2.length cap2 ∧ qs.t 3 = .slice a3 l3.length cap3 ∧ qs.t 9 = .pointer (some ⟨m.size, 0, none⟩) ∧ qs.t 11 = .pointer (some ⟨px, 0, none⟩) ∧ qs.t 12 = .pointer (some ⟨py, 0, none⟩) ∧ qs.t 13 = .int .i64 j ∧ j ≤ l3.length ∧ @DIn ⟨py⟩ (mx Mx []) M3 py v3 d3 ∧ Bud d3 (50 + j)) (l3.length - (0)) ⟨0, My, vy, d, rfl, rfl, by first | rfl | (simp (implicitDefEqProofs := false) (maxSteps := 1000000) (disch := first | omega | with_reducible assumption | (simp only [List.length_map, List.length_cons, List.length_nil, List.length_set, List.length_append, List.length_replicate, List.length_take, List.length_drop, mk_size, AMem.size_set, Nat.reduceAdd]; omega)) only [amT, cut, bnd, Nat.reduceBEq, reduceCtorEq, Nat.reduceEqDiff, Nat.reduceAdd, Nat.reduceMul, Nat.reduceSub, Int.reduceToNat, Int.reduceEq, Int.reduceLT, Int.reduceLE, Int.reduceAdd, Int.reduceSub, Int.reduceMul, reduceIte, resVs, resV, packV, initT, addr, t1, t2, t3, t9, t10]; first | done | rfl | (congr 1; omega)), by first | rfl | (simp (implicitDefEqProofs := false) (maxSteps := 1000000) (disch := first | omega | with_reducible assumption | (simp only [List.length_map, List.length_cons, List.length_nil, List.length_set, List.length_append, List.length_replicate, List.length_take, List.length_drop, mk_size, AMem.size_set, Nat.reduceAdd]; omega)) only [amT, cut, bnd, Nat.reduceBEq, reduceCtorEq, Nat.reduceEqDiff, Nat.reduceAdd, Nat.reduceMul, Nat.reduceSub, Int.reduceToNat, Int.reduceEq, Int.reduceLT, Int.reduceLE, Int.reduceAdd, Int.reduceSub, Int.reduceMul, reduceIte, resVs, resV, packV, initT, addr, t1, t2, t3, t9, t10]; first | done | rfl | (congr 1; omega)), by first | rfl | (simp (implicitDefEqProofs := false) (maxSteps := 1000000) (disch := first | omega | with_reducible assumption | (simp only [List.length_map, List.length_cons, List.length_nil, List.length_set, List.length_append, List.length_replicate, List.length_take, List.length_drop, mk_size, AMem.size_set, Nat.reduceAdd]; omega)) only [amT, cut, bnd, Nat.reduceBEq, reduceCtorEq, Nat.reduceEqDiff, Nat.reduceAdd, Nat.reduceMul, Nat.reduceSub, Int.reduceToNat, Int.reduceEq, Int.reduceLT, Int.reduceLE, Int.reduceAdd, Int.reduceSub, Int.reduceMul, reduceIte, resVs, resV, packV, initT, addr, t1, t2, t3, t9, t10]; first | done | rfl | (congr 1; omega)), by first | rfl | (simp (implicitDefEqProofs := false) (maxSteps := 1000000) (disch := first | omega | with_reducible assumption | (simp only [List.length_map, List.length_cons, List.length_nil, List.length_set, List.length_append, List.length_replicate, List.length_take, List.length_drop, mk_size, AMem.size_set, Nat.reduceAdd]; omega)) only [amT, cut, bnd, Nat.reduceBEq, reduceCtorEq, Nat.reduceEqDiff, Nat.reduceAdd, Nat.reduceMul, Nat.reduceSub, Int.reduceToNat, Int.reduceEq, Int.reduceLT, Int.reduceLE, Int.reduceAdd, Int.reduceSub, Int.reduceMul, reduceIte, resVs, resV, packV, initT, addr, t1, t2, t3, t9, t10]; first | done | rfl | (congr 1; omega)), by first | rfl | (simp (implicitDefEqProofs := false) (maxSteps := 1000000) (disch := first | omega | with_reducible assumption | (simp only [List.length_map, List.length_cons, List.length_nil, List.length_set, List.length_append, List.length_replicate, List.length_take, List.length_drop, mk_size, AMem.size_set, Nat.reduceAdd]; omega)) only [amT, cut, bnd, Nat.reduceBEq, reduceCtorEq, Nat.reduceEqDiff, Nat.reduceAdd, Nat.reduceMul, Nat.reduceSub, Int.reduceToNat, Int.reduceEq, Int.reduceLT, Int.reduceLE, Int.reduceAdd, Int.reduceSub, Int.reduceMul, reduceIte, resVs, resV, packV, initT, addr, t1, t2, t3, t9, t10]; first | done | rfl | (congr 1; omega)), by first | rfl | (simp (implicitDefEqProofs := false) (maxSteps := 1000000) (disch := first | omega | with_reducible assumption | (simp only [List.length_map, List.length_cons, List.length_nil, List.length_set, List.length_append, List.length_replicate, List.length_take, List.length_drop, mk_size, AMem.size_set, Nat.reduceAdd]; omega)) only [amT, cut, bnd, Nat.reduceBEq, reduceCtorEq, Nat.reduceEqDiff, Nat.reduceAdd, Nat.reduceMul, Nat.reduceSub, Int.reduceToNat, Int.reduceEq, Int.reduceLT, Int.reduceLE, Int.reduceAdd, Int.reduceSub, Int.reduceMul, reduceIte, resVs, resV, packV, initT, addr, t1, t2, t3, t9, t10]; first | done | rfl | (congr 1; omega)), by first | rfl | (simp (implicitDefEqProofs := false) (maxSteps := 1000000) (disch := first | omega | with_reducible assumption | (simp only [List.length_map, List.length_cons, List.length_nil, List.length_set, List.length_append, List.length_replicate, List.length_take, List.length_drop, mk_size, AMem.size_set, Nat.reduceAdd]; omega)) only [amT, cut, bnd, Nat.reduceBEq, reduceCtorEq, Nat.reduceEqDiff, Nat.reduceAdd, Nat.reduceMul, Nat.reduceSub, Int.reduceToNat, Int.reduceEq, Int.reduceLT, Int.reduceLE, Int.reduceAdd, Int.reduceSub, Int.reduceMul, reduceIte, resVs, resV, packV, initT, addr, t1, t2, t3, t9, t10]; first | done | rfl | (congr 1; omega)), ?_⟩ ?_
        · exact ⟨by omega, hy, hdB⟩
        · rintro N t m1 ds ⟨j, M3, v3, d3, rfl, hds, hm, t2, t3, t9, t11, t12, t13, hp⟩
          simp only at hds hm t2 t3 t9 t11 t12 t13
          subst hds; replace hm := hm.symm; subst hm
          obtain ⟨hj, hJ, hBj⟩ := hp
          by_cases hjl : (j : Int) < (l3.length : Int)
          · have hjl' : j < l3.length := by omega
            obtain ⟨b, o, ka, kc, rfl, hb, hr, hA, hok⟩ := hl3 j hjl'
            have hxs := small_b (hsm3 _ (List.getElem_mem hjl'))
            have hOj := hOx.trans (@DIn.old ⟨py⟩ _ _ _ _ _ hJ)
            have hb1 : b < M3.size := Nat.lt_of_lt_of_le hb hOj.1
            have hr1 : rdO (M3.get b) (o + j * 6) 6 = some (actRow l3[j] ka kc) := by rw [hOj.2 b hb]; exact hr
            have hdo := does_ok (mx Mx []) (mx M3 []) py v3 d3 (@DIn.mx ⟨py⟩ _ _ _ _ _ hJ []) (50 + j) hBj (by omega) l3[j] hok ka kc (hA.old hOx) (by omega)
            have hB2 := hBj.does l3[j] hok (by omega)
            generalize doesR d3 l3[j] = R at hB2 hdo
            simp (implicitDefEqProofs := false) (maxSteps := 1000000) (disch := first | omega | with_reducible assumption | (simp only [List.length_map, List.length_cons, List.length_nil, List.length_set, List.length_append, List.length_replicate, List.length_take, List.length_drop, mk_size, AMem.size_set, Nat.reduceAdd]; omega)) only [amT, cut, bnd, Nat.reduceBEq, reduceCtorEq, Nat.reduceEqDiff, Nat.reduceAdd, Nat.reduceMul, Nat.reduceSub, Int.reduceToNat, Int.reduceEq, Int.reduceLT, Int.reduceLE, Int.reduceAdd, Int.reduceSub, Int.reduceMul, reduceIte, resVs, resV, packV, initT, addr, F8_l1, t2, t3, t9, t11, t12, t13, hjl, hr1]; repeat (refine OrW.go ?_; try simp (implicitDefEqProofs := false) (maxSteps := 1000000) (disch := first | omega | with_reducible assumption | (simp only [List.length_map, List.length_cons, List.length_nil, List.length_set, List.length_append, List.length_replicate, List.length_take, List.length_drop, mk_size, AMem.size_set, Nat.reduceAdd]; omega)) only [amT, cut, bnd, Nat.reduceBEq, reduceCtorEq, Nat.reduceEqDiff, Nat.reduceAdd, Nat.reduceMul, Nat.reduceSub, Int.reduceToNat, Int.reduceEq, Int.reduceLT, Int.reduceLE, Int.reduceAdd, Int.reduceSub, Int.reduceMul, reduceIte, resVs, resV, packV, initT, addr, F8_l1, t2, t3, t9, t11, t12, t13, hjl, hr1])
            refine RelC.call hdo ?_
            rintro r M4 ⟨rfl, v4, hI4, -⟩
            simp (implicitDefEqProofs := false) (maxSteps := 1000000) (disch := first | omega | with_reducible assumption | (simp only [List.length_map, List.length_cons, List.length_nil, List.length_set, List.length_append, List.length_replicate, List.length_take, List.length_drop, mk_size, AMem.size_set, Nat.reduceAdd]; omega)) only [amT, cut, bnd, Nat.reduceBEq, reduceCtorEq, Nat.reduceEqDiff, Nat.reduceAdd, Nat.reduceMul, Nat.reduceSub, Int.reduceToNat, Int.reduceEq, Int.reduceLT, Int.reduceLE, Int.reduceAdd, Int.reduceSub, Int.reduceMul, reduceIte, resVs, resV, packV, initT, addr, t2, t3, t9, t11, t12, t13]; repeat (refine OrW.go ?_; try simp (implicitDefEqProofs := false) (maxSteps := 1000000) (disch := first | omega | with_reducible assumption | (simp only [List.length_map, List.length_cons, List.length_nil, List.length_set, List.length_append, List.length_replicate, List.length_take, List.length_drop, mk_size, AMem.size_set, Nat.reduceAdd]; omega)) only [amT, cut, bnd, Nat.reduceBEq, reduceCtorEq, Nat.reduceEqDiff, Nat.reduceAdd, Nat.reduceMul, Nat.reduceSub, Int.reduceToNat, Int.reduceEq, Int.reduceLT, Int.reduceLE, Int.reduceAdd, Int.reduceSub, Int.reduceMul, reduceIte, resVs, resV, packV, initT, addr, t2, t3, t9, t11, t12, t13])
            rw [LoopK_normal]; refine ⟨_, ?_, j + 1, M4, v4, R.2, rfl, rfl, by first | rfl | (simp (implicitDefEqProofs := false) (maxSteps := 1000000) (disch := first | omega | with_reducible assumption | (simp only [List.length_map, List.length_cons, List.length_nil, List.length_set, List.length_append, List.length_replicate, List.length_take, List.length_drop, mk_size, AMem.size_set, Nat.reduceAdd]; omega)) only [amT, cut, bnd, Nat.reduceBEq, reduceCtorEq, Nat.reduceEqDiff, Nat.reduceAdd, Nat.reduceMul, Nat.reduceSub, Int.reduceToNat, Int.reduceEq, Int.reduceLT, Int.reduceLE, Int.reduceAdd, Int.reduceSub, Int.reduceMul, reduceIte, resVs, resV, packV, initT, addr, t2, t3, t9, t11, t12, t13]; first | done | rfl | (congr 1; omega)), by first | rfl | (simp (implicitDefEqProofs := false) (maxSteps := 1000000) (disch := first | omega | with_reducible assumption | (simp only [List.length_map, List.length_cons, List.length_nil, List.length_set, List.length_append, List.length_replicate, List.length_take, List.length_drop, mk_size, AMem.size_set, Nat.reduceAdd]; omega)) only [amT, cut, bnd, Nat.reduceBEq, reduceCtorEq, Nat.reduceEqDiff, Nat.reduceAdd, Nat.reduceMul, Nat.reduceSub, Int.reduceToNat, Int.reduceEq, Int.reduceLT, Int.reduceLE, Int.reduceAdd, Int.reduceSub, Int.reduceMul, reduceIte, resVs, resV, packV, initT, addr, t2, t3, t9, t11, t12, t13]; first | done | rfl | (congr 1; omega)), by first | rfl | (simp (implicitDefEqProofs := false) (maxSteps := 1000000) (disch := first | omega | with_reducible assumption | (simp only [List.length_map, List.length_cons, List.length_nil, List.length_set, List.length_append, List.length_replicate, List.length_take, List.length_drop, mk_size, AMem.size_set, Nat.reduceAdd]; omega)) only [amT, cut, bnd, Nat.reduceBEq, reduceCtorEq, Nat.reduceEqDiff, Nat.reduceAdd, Nat.reduceMul, Nat.reduceSub, Int.reduceToNat, Int.reduceEq, Int.reduceLT, Int.reduceLE, Int.reduceAdd, Int.reduceSub, Int.reduceMul, reduceIte, resVs, resV, packV, initT, addr, t2, t3, t9, t11, t12, t13]; first | done | rfl | (congr 1; omega)), by first | rfl | (simp (implicitDefEqProofs := false) (maxSteps := 1000000) (disch := first | omega | with_reducible assumption | (simp only [List.length_map, List.length_cons, List.length_nil, List.length_set, List.length_append, List.length_replicate, List.length_take, List.length_drop, mk_size, AMem.size_set, Nat.reduceAdd]; omega)) only [amT, cut, bnd, Nat.reduceBEq, reduceCtorEq, Nat.reduceEqDiff, Nat.reduceAdd, Nat.reduceMul, Nat.reduceSub, Int.reduceToNat, Int.reduceEq, Int.reduceLT, Int.reduceLE, Int.reduceAdd, Int.reduceSub, Int.reduceMul, reduceIte, resVs, resV, packV, initT, addr, t2, t3, t9, t11, t12, t13]; first | done | rfl | (congr 1; omega)), by first | rfl | (simp (implicitDefEqProofs := false) (maxSteps := 1000000) (disch := first | omega | with_reducible assumption | (simp only [List.length_map, List.length_cons, List.length_nil, List.length_set, List.length_append, List.length_replicate, List.length_take, List.length_drop, mk_size, AMem.size_set, Nat.reduceAdd]; omega)) only [amT, cut, bnd, Nat.reduceBEq, reduceCtorEq, Nat.reduceEqDiff, Nat.reduceAdd, Nat.reduceMul, Nat.reduceSub, Int.reduceToNat, Int.reduceEq, Int.reduceLT, Int.reduceLE, Int.reduceAdd, Int.reduceSub, Int.reduceMul, reduceIte, resVs, resV, packV, initT, addr, t2, t3, t9, t11, t12, t13]; first | done | rfl | (congr 1; omega)), by first | rfl | (simp (implicitDefEqProofs := false) (maxSteps := 1000000) (disch := first | omega | with_reducible assumption | (simp only [List.length_map, List.length_cons, List.length_nil, List.length_set, List.length_append, List.length_replicate, List.length_take, List.length_drop, mk_size, AMem.size_set, Nat.reduceAdd]; omega)) only [amT, cut, bnd, Nat.reduceBEq, reduceCtorEq, Nat.reduceEqDiff, Nat.reduceAdd, Nat.reduceMul, Nat.reduceSub, Int.reduceToNat, Int.reduceEq, Int.reduceLT, Int.reduceLE, Int.reduceAdd, Int.reduceSub, Int.reduceMul, reduceIte, resVs, resV, packV, initT, addr, t2, t3, t9, t11, t12, t13]; first | done | rfl | (congr 1; omega)), by first | rfl | (simp (implicitDefEqProofs := false) (maxSteps := 1000000) (disch := first | omega | with_reducible assumption | (simp only [List.length_map, List.length_cons, List.length_nil, List.length_set, List.length_append, List.length_replicate, List.length_take, List.length_drop, mk_size, AMem.size_set, Nat.reduceAdd]; omega)) only [amT, cut, bnd, Nat.reduceBEq, reduceCtorEq, Nat.reduceEqDiff, Nat.reduceAdd, Nat.reduceMul, Nat.reduceSub, Int.reduceToNat, Int.reduceEq, Int.reduceLT, Int.reduceLE, Int.reduceAdd, Int.reduceSub, Int.reduceMul, reduceIte, resVs, resV, packV, initT, addr, t2, t3, t9, t11, t12, t13]; first | done | rfl | (congr 1; omega)), ?_⟩
            · omega
            · exact ⟨by omega, hI4, hB2⟩
          · have hT2 := (hT.old (Old.here Mx [])).old (@DIn.old ⟨py⟩ _ _ _ _ _ hJ)
            simp (implicitDefEqProofs := false) (maxSteps := 1000000) (disch := first | omega | with_reducible assumption | (simp only [List.length_map, List.length_cons, List.length_nil, List.length_set, List.length_append, List.length_replicate, List.length_take, List.length_drop, mk_size, AMem.size_set, Nat.reduceAdd]; omega)) only [amT, cut, bnd, Nat.reduceBEq, reduceCtorEq, Nat.reduceEqDiff, Nat.reduceAdd, Nat.reduceMul, Nat.reduceSub, Int.reduceToNat, Int.reduceEq, Int.reduceLT, Int.reduceLE, Int.reduceAdd, Int.reduceSub, Int.reduceMul, reduceIte, resVs, resV, packV, initT, addr, F8_l1, t2, t3, t9, t11, t12, t13, hjl]; repeat (refine OrW.go ?_; try simp (implicitDefEqProofs := false) (maxSteps := 1000000) (disch := first | omega | with_reducible assumption | (simp only [List.length_map, List.length_cons, List.length_nil, List.length_set, List.length_append, List.length_replicate, List.length_take, List.length_drop, mk_size, AMem.size_set, Nat.reduceAdd]; omega)) only [amT, cut, bnd, Nat.reduceBEq, reduceCtorEq, Nat.reduceEqDiff, Nat.reduceAdd, Nat.reduceMul, Nat.reduceSub, Int.reduceToNat, Int.reduceEq, Int.reduceLT, Int.reduceLE, Int.reduceAdd, Int.reduceSub, Int.reduceMul, reduceIte, resVs, resV, packV, initT, addr, F8_l1, t2, t3, t9, t11, t12, t13, hjl])
            refine W_loop (fun N qs => ∃ (n : Nat) (M5 : AMem) (v5 : Value) (v6 : Value) (d5 : DiskR), N = l2.length - n ∧ qs.ds = [] ∧ qs.m = mx M5 [] ∧ qs.t 2 = .slice a2 l2.length cap2 ∧ qs.t 9 = .pointer (some ⟨m.size, 0, none⟩) ∧ qs.t 11 = .pointer (some ⟨px, 0, none⟩) ∧ qs.t 14 = .int .i64 n ∧ n ≤ l2.length ∧ Two m M5 m.size v5 d5 px v6 d5 ∧ Bud d5 (50 + n)) (l2.length - (0)) ⟨0, M3, v, vx, d, rfl, rfl, by first | rfl | (simp (implicitDefEqProofs := false) (maxSteps := 1000000) (disch := first | omega | with_reducible assumption | (simp only [List.length_map, List.length_cons, List.length_nil, List.length_set, List.length_append, List.length_replicate, List.length_take, List.length_drop, mk_size, AMem.size_set, Nat.reduceAdd]; omega)) only [amT, cut, bnd, Nat.reduceBEq, reduceCtorEq, Nat.reduceEqDiff, Nat.reduceAdd, Nat.reduceMul, Nat.reduceSub, Int.reduceToNat, Int.reduceEq, Int.reduceLT, Int.reduceLE, Int.reduceAdd, Int.reduceSub, Int.reduceMul, reduceIte, resVs, resV, packV, initT, addr, t2, t3, t9, t11, t12, t13]; first | done | rfl | (congr 1; omega)), by first | rfl | (simp (implicitDefEqProofs := false) (maxSteps := 1000000) (disch := first | omega | with_reducible assumption | (simp only [List.length_map, List.length_cons, List.length_nil, List.length_set, List.length_append, List.length_replicate, List.length_take, List.length_drop, mk_size, AMem.size_set, Nat.reduceAdd]; omega)) only [amT, cut, bnd, Nat.reduceBEq, reduceCtorEq, Nat.reduceEqDiff, Nat.reduceAdd, Nat.reduceMul, Nat.reduceSub, Int.reduceToNat, Int.reduceEq, Int.reduceLT, Int.reduceLE, Int.reduceAdd, Int.reduceSub, Int.reduceMul, reduceIte, resVs, resV, packV, initT, addr, t2, t3, t9, t11, t12, t13]; first | done | rfl | (congr 1; omega)), by first | rfl | (simp (implicitDefEqProofs := false) (maxSteps := 1000000) (disch := first | omega | with_reducible assumption | (simp only [List.length_map, List.length_cons, List.length_nil, List.length_set, List.length_append, List.length_replicate, List.length_take, List.length_drop, mk_size, AMem.size_set, Nat.reduceAdd]; omega)) only [amT, cut, bnd, Nat.reduceBEq, reduceCtorEq, Nat.reduceEqDiff, Nat.reduceAdd, Nat.reduceMul, Nat.reduceSub, Int.reduceToNat, Int.reduceEq, Int.reduceLT, Int.reduceLE, Int.reduceAdd, Int.reduceSub, Int.reduceMul, reduceIte, resVs, resV, packV, initT, addr, t2, t3, t9, t11, t12, t13]; first | done | rfl | (congr 1; omega)), by first | rfl | (simp (implicitDefEqProofs := false) (maxSteps := 1000000) (disch := first | omega | with_reducible assumption | (simp only [List.length_map, List.length_cons, List.length_nil, List.length_set, List.length_append, List.length_replicate, List.length_take, List.length_drop, mk_size, AMem.size_set, Nat.reduceAdd]; omega)) only [amT, cut, bnd, Nat.reduceBEq, reduceCtorEq, Nat.reduceEqDiff, Nat.reduceAdd, Nat.reduceMul, Nat.reduceSub, Int.reduceToNat, Int.reduceEq, Int.reduceLT, Int.reduceLE, Int.reduceAdd, Int.reduceSub, Int.reduceMul, reduceIte, resVs, resV, packV, initT, addr, t2, t3, t9, t11, t12, t13]; first | done | rfl | (congr 1; omega)), by first | rfl | (simp (implicitDefEqProofs := false) (maxSteps := 1000000) (disch := first | omega | with_reducible assumption | (simp only [List.length_map, List.length_cons, List.length_nil, List.length_set, List.length_append, List.length_replicate, List.length_take, List.length_drop, mk_size, AMem.size_set, Nat.reduceAdd]; omega)) only [amT, cut, bnd, Nat.reduceBEq, reduceCtorEq, Nat.reduceEqDiff, Nat.reduceAdd, Nat.reduceMul, Nat.reduceSub, Int.reduceToNat, Int.reduceEq, Int.reduceLT, Int.reduceLE, Int.reduceAdd, Int.reduceSub, Int.reduceMul, reduceIte, resVs, resV, packV, initT, addr, t2, t3, t9, t11, t12, t13]; first | done | rfl | (congr 1; omega)), ?_⟩ ?_
            · exact ⟨by omega, hT2, hdB⟩
            · rintro N t m1 ds ⟨n, M5, v5, v6, d5, rfl, hds, hm, t2, t9, t11, t14, hp⟩
              simp only at hds hm t2 t9 t11 t14
              subst hds; replace hm := hm.symm; subst hm
              obtain ⟨hn, hW, hBn⟩ := hp
              by_cases hnl : (n : Int) < (l2.length : Int)
              · have hnl' : n < l2.length := by omega
                obtain ⟨b, o, ka, kc, rfl, hb, hr, hA, hok⟩ := hl2 n hnl'
                have hxs := small_b (hsm2 _ (List.getElem_mem hnl'))
                have hOn := @DIn.old ⟨m.size⟩ _ _ _ _ _ hW.a
                have hb1 : b < M5.size := Nat.lt_of_lt_of_le hb hOn.1
                have hr1 : rdO (M5.get b) (o + n * 6) 6 = some (actRow l2[n] ka kc) := by rw [hOn.2 b hb]; exact hr
                have hW0 := hW.old (Old.here M5 [])
                have hdo := does_ok m (mx M5 []) m.size v5 d5 hW0.a (50 + n) hBn (by omega) l2[n] hok ka kc hA (by omega)
                have hdo2 := fun (M : AMem) (v : Value) (h : @DIn ⟨px⟩ m M px v d5) => does_ok m M px v d5 h (50 + n) hBn (by omega) l2[n] hok ka kc hA (by omega)
                have hB2 := hBn.does l2[n] hok (by omega)
                generalize doesR d5 l2[n] = R at hB2 hdo hdo2
                simp (implicitDefEqProofs := false) (maxSteps := 1000000) (disch := first | omega | with_reducible assumption | (simp only [List.length_map, List.length_cons, List.length_nil, List.length_set, List.length_append, List.length_replicate, List.length_take, List.length_drop, mk_size, AMem.size_set, Nat.reduceAdd]; omega)) only [amT, cut, bnd, Nat.reduceBEq, reduceCtorEq, Nat.reduceEqDiff, Nat.reduceAdd, Nat.reduceMul, Nat.reduceSub, Int.reduceToNat, Int.reduceEq, Int.reduceLT, Int.reduceLE, Int.reduceAdd, Int.reduceSub, Int.reduceMul, reduceIte, resVs, resV, packV, initT, addr, F8_l2, t2, t9, t11, t14, hnl, hr1]; repeat (refine OrW.go ?_; try simp (implicitDefEqProofs := false) (maxSteps := 1000000) (disch := first | omega | with_reducible assumption | (simp only [List.length_map, List.length_cons, List.length_nil, List.length_set, List.length_append, List.length_replicate, List.length_take, List.length_drop, mk_size, AMem.size_set, Nat.reduceAdd]; omega)) only [amT, cut, bnd, Nat.reduceBEq, reduceCtorEq, Nat.reduceEqDiff, Nat.reduceAdd, Nat.reduceMul, Nat.reduceSub, Int.reduceToNat, Int.reduceEq, Int.reduceLT, Int.reduceLE, Int.reduceAdd, Int.reduceSub, Int.reduceMul, reduceIte, resVs, resV, packV, initT, addr, F8_l2, t2, t9, t11, t14, hnl, hr1])
                refine RelC.call hdo ?_
                rintro r M6 ⟨rfl, v7, hI6, hst6⟩
                have hW1 := (hW0.left hI6 hst6).old (Old.here M6 [])
                have hO6 := @DIn.old ⟨m.size⟩ _ _ _ _ _ hI6
                have hb2 : b < M6.size := Nat.lt_of_lt_of_le hb hO6.1
                have hr2 : rdO (M6.get b) (o + n * 6) 6 = some (actRow l2[n] ka kc) := by rw [hO6.2 b hb]; exact hr
                simp (implicitDefEqProofs := false) (maxSteps := 1000000) (disch := first | omega | with_reducible assumption | (simp only [List.length_map, List.length_cons, List.length_nil, List.length_set, List.length_append, List.length_replicate, List.length_take, List.length_drop, mk_size, AMem.size_set, Nat.reduceAdd]; omega)) only [amT, cut, bnd, Nat.reduceBEq, reduceCtorEq, Nat.reduceEqDiff, Nat.reduceAdd, Nat.reduceMul, Nat.reduceSub, Int.reduceToNat, Int.reduceEq, Int.reduceLT, Int.reduceLE, Int.reduceAdd, Int.reduceSub, Int.reduceMul, reduceIte, resVs, resV, packV, initT, addr, t2, t9, t11, t14, hr2]; repeat (refine OrW.go ?_; try simp (implicitDefEqProofs := false) (maxSteps := 1000000) (disch := first | omega | with_reducible assumption | (simp only [List.length_map, List.length_cons, List.length_nil, List.length_set, List.length_append, List.length_replicate, List.length_take, List.length_drop, mk_size, AMem.size_set, Nat.reduceAdd]; omega)) only [amT, cut, bnd, Nat.reduceBEq, reduceCtorEq, Nat.reduceEqDiff, Nat.reduceAdd, Nat.reduceMul, Nat.reduceSub, Int.reduceToNat, Int.reduceEq, Int.reduceLT, Int.reduceLE, Int.reduceAdd, Int.reduceSub, Int.reduceMul, reduceIte, resVs, resV, packV, initT, addr, t2, t9, t11, t14, hr2])
                refine RelC.call (hdo2 _ _ hW1.b) ?_
                rintro r M7 ⟨rfl, v8, hI7, hst7⟩
                have hW2 := ((hW1.symm.left hI7 hst7).symm).old (Old.here M7 [])
                have hA7 := @DIn.here ⟨m.size⟩ _ _ _ _ _ hW2.a
                have hB7 := @DIn.here ⟨px⟩ _ _ _ _ _ hW2.b
                have kua := DetC.known (@used_in ⟨m.size⟩ _ _ _ _ _ _ hW2.a hB2 (by omega))
                have kub := DetC.known (@used_in ⟨px⟩ _ _ _ _ _ _ hW2.b hB2 (by omega))
                have ksa := DetC.known (steps_ok (mx M7 []) m.size (@DAt.lt ⟨m.size⟩ _ _ _ _ hA7) (@DAt.get ⟨m.size⟩ _ _ _ _ hA7))
                have ksb := DetC.known (steps_ok (mx M7 []) px (@DAt.lt ⟨px⟩ _ _ _ _ hB7) (@DAt.get ⟨px⟩ _ _ _ _ hB7))
                have koa := DetC.known (off_ok (mx M7 []) m.size (@DAt.lt ⟨m.size⟩ _ _ _ _ hA7) (@DAt.get ⟨m.size⟩ _ _ _ _ hA7))
                have kob := DetC.known (off_ok (mx M7 []) px (@DAt.lt ⟨px⟩ _ _ _ _ hB7) (@DAt.get ⟨px⟩ _ _ _ _ hB7))
                have hNa := @names_in ⟨m.size⟩ _ _ _ _ _ _ hW2.a hB2 (by omega)
                simp (implicitDefEqProofs := false) (maxSteps := 1000000) (disch := first | omega | with_reducible assumption | (simp only [List.length_map, List.length_cons, List.length_nil, List.length_set, List.length_append, List.length_replicate, List.length_take, List.length_drop, mk_size, AMem.size_set, Nat.reduceAdd]; omega)) only [amT, cut, bnd, Nat.reduceBEq, reduceCtorEq, Nat.reduceEqDiff, Nat.reduceAdd, Nat.reduceMul, Nat.reduceSub, Int.reduceToNat, Int.reduceEq, Int.reduceLT, Int.reduceLE, Int.reduceAdd, Int.reduceSub, Int.reduceMul, reduceIte, resVs, resV, packV, initT, addr, t2, t9, t11, t14, kua, kub, ksa, ksb, koa, kob]; repeat (refine OrW.go ?_; try simp (implicitDefEqProofs := false) (maxSteps := 1000000) (disch := first | omega | with_reducible assumption | (simp only [List.length_map, List.length_cons, List.length_nil, List.length_set, List.length_append, List.length_replicate, List.length_take, List.length_drop, mk_size, AMem.size_set, Nat.reduceAdd]; omega)) only [amT, cut, bnd, Nat.reduceBEq, reduceCtorEq, Nat.reduceEqDiff, Nat.reduceAdd, Nat.reduceMul, Nat.reduceSub, Int.reduceToNat, Int.reduceEq, Int.reduceLT, Int.reduceLE, Int.reduceAdd, Int.reduceSub, Int.reduceMul, reduceIte, resVs, resV, packV, initT, addr, t2, t9, t11, t14, kua, kub, ksa, ksb, koa, kob])
                refine RelC.call hNa ?_
                rintro r M8 ⟨hO8, hS8⟩
                obtain ⟨an, cn, rfl⟩ := hS8.len
                have hW3 := (hW2.old hO8).old (Old.here M8 [])
                have hNb := @names_in ⟨px⟩ _ _ _ _ _ _ hW3.b hB2 (by omega)
                simp (implicitDefEqProofs := false) (maxSteps := 1000000) (disch := first | omega | with_reducible assumption | (simp only [List.length_map, List.length_cons, List.length_nil, List.length_set, List.length_append, List.length_replicate, List.length_take, List.length_drop, mk_size, AMem.size_set, Nat.reduceAdd]; omega)) only [amT, cut, bnd, Nat.reduceBEq, reduceCtorEq, Nat.reduceEqDiff, Nat.reduceAdd, Nat.reduceMul, Nat.reduceSub, Int.reduceToNat, Int.reduceEq, Int.reduceLT, Int.reduceLE, Int.reduceAdd, Int.reduceSub, Int.reduceMul, reduceIte, resVs, resV, packV, initT, addr, t2, t9, t11, t14]; repeat (refine OrW.go ?_; try simp (implicitDefEqProofs := false) (maxSteps := 1000000) (disch := first | omega | with_reducible assumption | (simp only [List.length_map, List.length_cons, List.length_nil, List.length_set, List.length_append, List.length_replicate, List.length_take, List.length_drop, mk_size, AMem.size_set, Nat.reduceAdd]; omega)) only [amT, cut, bnd, Nat.reduceBEq, reduceCtorEq, Nat.reduceEqDiff, Nat.reduceAdd, Nat.reduceMul, Nat.reduceSub, Int.reduceToNat, Int.reduceEq, Int.reduceLT, Int.reduceLE, Int.reduceAdd, Int.reduceSub, Int.reduceMul, reduceIte, resVs, resV, packV, initT, addr, t2, t9, t11, t14])
                refine RelC.call hNb ?_
                rintro r M9 ⟨hO9, hS9⟩
                obtain ⟨an9, cn9, rfl⟩ := hS9.len
                have hW4 := hW3.old hO9
                simp (implicitDefEqProofs := false) (maxSteps := 1000000) (disch := first | omega | with_reducible assumption | (simp only [List.length_map, List.length_cons, List.length_nil, List.length_set, List.length_append, List.length_replicate, List.length_take, List.length_drop, mk_size, AMem.size_set, Nat.reduceAdd]; omega)) only [amT, cut, bnd, Nat.reduceBEq, reduceCtorEq, Nat.reduceEqDiff, Nat.reduceAdd, Nat.reduceMul, Nat.reduceSub, Int.reduceToNat, Int.reduceEq, Int.reduceLT, Int.reduceLE, Int.reduceAdd, Int.reduceSub, Int.reduceMul, reduceIte, resVs, resV, packV, initT, addr, t2, t9, t11, t14]; repeat (refine OrW.go ?_; try simp (implicitDefEqProofs := false) (maxSteps := 1000000) (disch := first | omega | with_reducible assumption | (simp only [List.length_map, List.length_cons, List.length_nil, List.length_set, List.length_append, List.length_replicate, List.length_take, List.length_drop, mk_size, AMem.size_set, Nat.reduceAdd]; omega)) only [amT, cut, bnd, Nat.reduceBEq, reduceCtorEq, Nat.reduceEqDiff, Nat.reduceAdd, Nat.reduceMul, Nat.reduceSub, Int.reduceToNat, Int.reduceEq, Int.reduceLT, Int.reduceLE, Int.reduceAdd, Int.reduceSub, Int.reduceMul, reduceIte, resVs, resV, packV, initT, addr, t2, t9, t11, t14])
                rw [LoopK_normal]; refine ⟨_, ?_, n + 1, M9, v7, v8, R.2, rfl, rfl, by first | rfl | (simp (implicitDefEqProofs := false) (maxSteps := 1000000) (disch := first | omega | with_reducible assumption | (simp only [List.length_map, List.length_cons, List.length_nil, List.length_set, List.length_append, List.length_replicate, List.length_take, List.length_drop, mk_size, AMem.size_set, Nat.reduceAdd]; omega)) only [amT, cut, bnd, Nat.reduceBEq, reduceCtorEq, Nat.reduceEqDiff, Nat.reduceAdd, Nat.reduceMul, Nat.reduceSub, Int.reduceToNat, Int.reduceEq, Int.reduceLT, Int.reduceLE, Int.reduceAdd, Int.reduceSub, Int.reduceMul, reduceIte, resVs, resV, packV, initT, addr, t2, t9, t11, t14]; first | done | rfl | (congr 1; omega)), by first | rfl | (simp (implicitDefEqProofs := false) (maxSteps := 1000000) (disch := first | omega | with_reducible assumption | (simp only [List.length_map, List.length_cons, List.length_nil, List.length_set, List.length_append, List.length_replicate, List.length_take, List.length_drop, mk_size, AMem.size_set, Nat.reduceAdd]; omega)) only [amT, cut, bnd, Nat.reduceBEq, reduceCtorEq, Nat.reduceEqDiff, Nat.reduceAdd, Nat.reduceMul, Nat.reduceSub, Int.reduceToNat, Int.reduceEq, Int.reduceLT, Int.reduceLE, Int.reduceAdd, Int.reduceSub, Int.reduceMul, reduceIte, resVs, resV, packV, initT, addr, t2, t9, t11, t14]; first | done | rfl | (congr 1; omega)), by first | rfl | (simp (implicitDefEqProofs := false) (maxSteps := 1000000) (disch := first | omega | with_reducible assumption | (simp only [List.length_map, List.length_cons, List.length_nil, List.length_set, List.length_append, List.length_replicate, List.length_take, List.length_drop, mk_size, AMem.size_set, Nat.reduceAdd]; omega)) only [amT, cut, bnd, Nat.reduceBEq, reduceCtorEq, Nat.reduceEqDiff, Nat.reduceAdd, Nat.reduceMul, Nat.reduceSub, Int.reduceToNat, Int.reduceEq, Int.reduceLT, Int.reduceLE, Int.reduceAdd, Int.reduceSub, Int.reduceMul, reduceIte, resVs, resV, packV, initT, addr, t2, t9, t11, t14]; first | done | rfl | (congr 1; omega)), by first | rfl | (simp (implicitDefEqProofs := false) (maxSteps := 1000000) (disch := first | omega | with_reducible assumption | (simp only [List.length_map, List.length_cons, List.length_nil, List.length_set, List.length_append, List.length_replicate, List.length_take, List.length_drop, mk_size, AMem.size_set, Nat.reduceAdd]; omega)) only [amT, cut, bnd, Nat.reduceBEq, reduceCtorEq, Nat.reduceEqDiff, Nat.reduceAdd, Nat.reduceMul, Nat.reduceSub, Int.reduceToNat, Int.reduceEq, Int.reduceLT, Int.reduceLE, Int.reduceAdd, Int.reduceSub, Int.reduceMul, reduceIte, resVs, resV, packV, initT, addr, t2, t9, t11, t14]; first | done | rfl | (congr 1; omega)), by first | rfl | (simp (implicitDefEqProofs := false) (maxSteps := 1000000) (disch := first | omega | with_reducible assumption | (simp only [List.length_map, List.length_cons, List.length_nil, List.length_set, List.length_append, List.length_replicate, List.length_take, List.length_drop, mk_size, AMem.size_set, Nat.reduceAdd]; omega)) only [amT, cut, bnd, Nat.reduceBEq, reduceCtorEq, Nat.reduceEqDiff, Nat.reduceAdd, Nat.reduceMul, Nat.reduceSub, Int.reduceToNat, Int.reduceEq, Int.reduceLT, Int.reduceLE, Int.reduceAdd, Int.reduceSub, Int.reduceMul, reduceIte, resVs, resV, packV, initT, addr, t2, t9, t11, t14]; first | done | rfl | (congr 1; omega)), ?_⟩
                · omega
                · exact ⟨by omega, hW4, hB2⟩
              · have hOn := @DIn.old ⟨m.size⟩ _ _ _ _ _ hW.a
                have kWn := DetC.known (works_ok (mx M5 []))
                simp (implicitDefEqProofs := false) (maxSteps := 1000000) (disch := first | omega | with_reducible assumption | (simp only [List.length_map, List.length_cons, List.length_nil, List.length_set, List.length_append, List.length_replicate, List.length_take, List.length_drop, mk_size, AMem.size_set, Nat.reduceAdd]; omega)) only [amT, cut, bnd, Nat.reduceBEq, reduceCtorEq, Nat.reduceEqDiff, Nat.reduceAdd, Nat.reduceMul, Nat.reduceSub, Int.reduceToNat, Int.reduceEq, Int.reduceLT, Int.reduceLE, Int.reduceAdd, Int.reduceSub, Int.reduceMul, reduceIte, resVs, resV, packV, initT, addr, F8_l2, t2, t9, t11, t14, hnl, kWn]; repeat (refine OrW.go ?_; try simp (implicitDefEqProofs := false) (maxSteps := 1000000) (disch := first | omega | with_reducible assumption | (simp only [List.length_map, List.length_cons, List.length_nil, List.length_set, List.length_append, List.length_replicate, List.length_take, List.length_drop, mk_size, AMem.size_set, Nat.reduceAdd]; omega)) only [amT, cut, bnd, Nat.reduceBEq, reduceCtorEq, Nat.reduceEqDiff, Nat.reduceAdd, Nat.reduceMul, Nat.reduceSub, Int.reduceToNat, Int.reduceEq, Int.reduceLT, Int.reduceLE, Int.reduceAdd, Int.reduceSub, Int.reduceMul, reduceIte, resVs, resV, packV, initT, addr, F8_l2, t2, t9, t11, t14, hnl, kWn])
                exact hOn.mx []
end Go.Proofs.Ytbmjhiifinjieaa
namespace Go.AM
theorem RowV.ints {m : AMem} {a : Option Addr} {l : List Int} (cap : Nat) (h : RowV m a (l.map fun n => .int .i64 n)) : IntV m (.slice a l.length cap) l := by
  refine ⟨a, cap, rfl, fun i hi => ?_⟩
  rcases h.2 with h0 | ⟨b, ty, rfl, hg⟩
  · obtain rfl : l = [] := by simpa using h0
    cases hi
  · refine ⟨b, 0, rfl, h.1 _ _ rfl, ?_⟩
    rw [rd_def, hg, rdO_cells, Nat.zero_add]
    unfold cutL
    rw [if_pos (by simp; omega)]
    simp [hi, List.drop_eq_getElem_cons]
theorem RowV.lt {m : AMem} {a : Option Addr} {c : List Value} {len cap : Nat} (h : RowV m a c) : ∀ b o n k, Value.slice a len cap = .slice (some ⟨b, o, none⟩) n k → b < m.size := fun b o n k e => by
  cases e; exact h.1 _ _ rfl
theorem wf_i64' {n : Int} (h : (Lit.int .i64 n).wf = true) : -9223372036854775808 ≤ n ∧ n ≤ 9223372036854775807 := by
  have h2 : IntKind.i64.min ≤ n ∧ n ≤ IntKind.i64.max := by simpa [Lit.wf] using h
  exact h2
theorem wf_u32' {n : Int} (h : (Lit.int .u32 n).wf = true) : 0 ≤ n ∧ n ≤ 4294967295 := by
  have h2 : IntKind.u32.min ≤ n ∧ n ≤ IntKind.u32.max := by simpa [Lit.wf] using h
  exact h2
end Go.AM
namespace Go.Proofs.Ytbmjhiifinjieaa
open Go Go.AM
set_option linter.unusedVariables false
set_option maxRecDepth 100000
set_option maxHeartbeats 1000000

def actCells (x : ActR) (kv : Value) : List Value := [.int .u8 x.act, .string ⟨x.name.toArray⟩, .string ⟨x.to.toArray⟩, .string ⟨x.b.toArray⟩, .int .i64 x.n, kv]
/-- An act, in a world. -/
theorem open_act {H : Type} {enc : TypeId × Value → H} {w : World} {base : Nat} {hd : Bool} {cs : List Value} {y : DataW H × List MemPlace} {fuel : Nat}
    (h : DataW.trod enc Try.prog w base (fun _ => true) hd fuel 44 cs = some y) : ∃ z : ActR × Value, cs = actCells z.1 z.2 ∧ SlP w (z.1.keep.map fun n => .int .i64 n) z.2 ∧ z.1.ok := by
  cases fuel with
  | zero => simp [DataW.trod] at h
  | succ fuel =>
    simp only [DataW.trod, Try.underlying44] at h
    split at h <;> try (simp at h; done)
    rename_i hlen
    have h6 : Try.prog.cellsOf 44 = 6 := by kernel_rfl
    rw [h6] at hlen
    simp only [Option.map_eq_some_iff] at h
    obtain ⟨xs, hxs, _⟩ := h
    obtain ⟨c0, c1, c2, c3, c4, c5, rfl⟩ : ∃ a b c d e f, cs = [a, b, c, d, e, f] := by
      match cs, hlen with
      | [a, b, c, d, e, f], _ => exact ⟨a, b, c, d, e, f, rfl⟩
    have k5 : Try.prog.cellsOf 5 = 1 := by kernel_rfl
    have k9 : Try.prog.cellsOf 9 = 1 := by kernel_rfl
    have k3 : Try.prog.cellsOf 3 = 1 := by kernel_rfl
    have k33 : Try.prog.cellsOf 33 = 1 := by kernel_rfl
    obtain ⟨y0, e0⟩ := Go.AM.mapM_some_get hxs 0 (by decide)
    obtain ⟨y1, e1⟩ := Go.AM.mapM_some_get hxs 1 (by decide)
    obtain ⟨y2, e2⟩ := Go.AM.mapM_some_get hxs 2 (by decide)
    obtain ⟨y3, e3⟩ := Go.AM.mapM_some_get hxs 3 (by decide)
    obtain ⟨y4, e4⟩ := Go.AM.mapM_some_get hxs 4 (by decide)
    obtain ⟨y5, e5⟩ := Go.AM.mapM_some_get hxs 5 (by decide)
    simp only [List.getElem_cons_zero, List.getElem_cons_succ, k5, k9, k3, k33, List.drop_zero, List.drop_succ_cons, List.take_succ_cons, List.take_zero] at e0 e1 e2 e3 e4 e5
    obtain ⟨a, rfl, w0⟩ := trod_one Try.underlying5 e0
    obtain ⟨s1, rfl, w1⟩ := trod_str Try.underlying9 e1
    obtain ⟨s2, rfl, w2⟩ := trod_str Try.underlying9 e2
    obtain ⟨s3, rfl, w3⟩ := trod_str Try.underlying9 e3
    obtain ⟨n, rfl, w4⟩ := trod_one Try.underlying3 e4
    obtain ⟨v, l, ev, hs, hl, hl2⟩ := open_ints Try.underlying33 Try.underlying3 k3 e5
    cases ev
    exact ⟨(⟨a, s1, s2, s3, n, l⟩, _), rfl, hs, wf_u8 w0, w1, w2, w3, wf_i64' w4, hl2, hl⟩

/-- A slice of acts, in a world. -/
inductive SlA (w : World) (l : List (ActR × Value)) : Value → Prop
  | nil (h : l = []) : SlA w l (.slice none 0 0)
  | none (a : Addr) (h : l = []) : SlA w l (.slice (some a) 0 0)
  | some (b o cap : Nat) (carr : Array Value) (ty : TypeId) (frz : Nat × Nat) (hh : w.heap[b]? = some (.cells carr ty frz)) (hl : o + l.length * 6 ≤ carr.size)
      (hc : ∀ i (h : i < l.length) r, r < 6 → carr.getD (o + (i * 6 + r)) undef = (actCells l[i].1 l[i].2).getD r undef) (hcap : cap ≤ 9223372036854775807) (hle : l.length ≤ cap) : SlA w l (.slice (some ⟨b, o, Option.none⟩) l.length cap)
theorem cells_get {w : World} {base n : Nat} {a : Addr} {cs : List Value} (h : w.cells? base a n = some cs) : cs.length = n ∧ ∀ r (hr : r < n), w.cell? (a.add r) = cs[r]? := by
  unfold World.cells? at h
  split at h
  · have hlen : cs.length = n := by
      have : ∀ (l : List Nat) (cs : List Value), l.mapM (fun i => w.cell? (a.add i)) = some cs → cs.length = l.length := by
        intro l
        induction l with
        | nil => intro cs h; simp at h; subst h; rfl
        | cons x l ih =>
          intro cs h
          simp only [List.mapM_cons, Option.bind_eq_bind, Option.bind_eq_some_iff] at h
          obtain ⟨y, _, ys, h2, h3⟩ := h
          cases h3
          simp [ih ys h2]
      have := this _ _ h; simpa using this
    refine ⟨hlen, fun r hr => ?_⟩
    have : ∀ (l : List Nat) (cs : List Value), l.mapM (fun i => w.cell? (a.add i)) = some cs → ∀ r (hr : r < l.length), w.cell? (a.add l[r]) = cs[r]? := by
      intro l
      induction l with
      | nil => intro cs h r hr; cases hr
      | cons x l ih =>
        intro cs h r hr
        simp only [List.mapM_cons, Option.bind_eq_bind, Option.bind_eq_some_iff] at h
        obtain ⟨y, h1, ys, h2, h3⟩ := h
        cases h3
        cases r with
        | zero => simpa using h1
        | succ r => simpa using ih ys h2 r (by simpa using hr)
    have := this _ _ h r (by simpa using hr)
    simpa using this
  · cases h
instance : Inhabited (ActR × Value) := ⟨(default, .bool false)⟩
theorem open_acts {H : Type} {enc : TypeId × Value → H} {w : World} {base : Nat} {hd : Bool} {cs : List Value} {x : DataW H × List MemPlace} {fuel : Nat}
    (h : DataW.trod enc Try.prog w base (fun _ => true) hd fuel 41 cs = some x) : ∃ (v : Value) (l : List (ActR × Value)), cs = [v] ∧ SlA w l v ∧ (∀ z ∈ l, SlP w (z.1.keep.map fun n => .int .i64 n) z.2 ∧ z.1.ok) ∧ l.length ≤ 9223372036854775807 := by
  have h6 : Try.prog.cellsOf 44 = 6 := by kernel_rfl
  rcases Go.Deep.open_slice Try.underlying41 h with ⟨rfl, _⟩ | ⟨a, len, cap, m, n, D, Pl, rfl, _, hle, hmax, hm, _, hx⟩
  · exact ⟨_, [], rfl, .nil rfl, by simp, by simp⟩
  · simp only [if_true] at hm
    subst hm
    by_cases h0 : len = 0
    · subst h0
      by_cases hm0 : m = 0
      · subst hm0; exact ⟨_, [], rfl, .none a rfl, by simp, by simp⟩
      · obtain ⟨cs', hc', _⟩ := hx 0 (by omega)
        rw [h6] at hc'
        obtain ⟨hlc, hcr⟩ := cells_get hc'
        have hc0 := hcr 0 (by omega)
        obtain ⟨b, o, sp⟩ := a
        rw [List.getElem?_eq_getElem (by omega)] at hc0
        simp only [Nat.zero_mul, Addr.add, if_true, World.cell?] at hc0
        split at hc0 <;> try (simp at hc0; done)
        rename_i carr ty frz hh
        split at hc0 <;> try (simp at hc0; done)
        rename_i hsp
        obtain rfl : sp = Option.none := by cases sp <;> simp_all
        have := (Array.getElem?_eq_some_iff.1 hc0).1
        exact ⟨_, [], rfl, .some b o m carr ty frz hh (by simp; omega) (fun i hi => by cases hi) hmax (by simp), by simp, by simp⟩
    · obtain ⟨cs', hc', _⟩ := hx 0 (by omega)
      rw [h6] at hc'
      obtain ⟨hlc, hcr⟩ := cells_get hc'
      have hc0 := hcr 0 (by omega)
      obtain ⟨b, o, sp⟩ := a
      rw [List.getElem?_eq_getElem (by omega)] at hc0
      simp only [Nat.zero_mul, Addr.add, if_true, World.cell?] at hc0
      split at hc0 <;> try (simp at hc0; done)
      rename_i carr ty frz hh
      split at hc0 <;> try (simp at hc0; done)
      rename_i hsp
      obtain rfl : sp = Option.none := by cases sp <;> simp_all
      have key : ∀ i, i < len → ∃ z : ActR × Value, (SlP w (z.1.keep.map fun n => .int .i64 n) z.2 ∧ z.1.ok) ∧ ∀ r, r < 6 → carr[o + (i * 6 + r)]? = some ((actCells z.1 z.2).getD r undef) := fun i hi => by
        obtain ⟨cs2, hc2, ht2⟩ := hx i (by omega)
        rw [h6] at hc2
        obtain ⟨hl2, hr2⟩ := cells_get hc2
        obtain ⟨z, rfl, hz1, hz2⟩ := open_act ht2
        refine ⟨z, ⟨hz1, hz2⟩, fun r hr => ?_⟩
        have := hr2 r hr
        rw [List.getElem?_eq_getElem (by omega)] at this
        have e : ((⟨b, o, Option.none⟩ : Addr).add (i * 6)).add r = ⟨b, o + (i * 6 + r), Option.none⟩ := by
          simp only [Addr.add]
          split <;> split <;> simp_all <;> omega
        rw [e] at this
        simp only [World.cell?, hh] at this
        simp only [Option.isSome_none, Bool.false_eq_true, if_false] at this
        rw [this, List.getD_eq_getElem?_getD, List.getElem?_eq_getElem (by omega)]; rfl
      obtain ⟨f, hf⟩ := Go.Deep.choose_lt (α := ActR × Value) (n := len) key
      have hlen : ((List.range len).map f).length = len := by simp
      have hlast : o + len * 6 ≤ carr.size := by
        have := (Array.getElem?_eq_some_iff.1 ((hf (len - 1) (by omega)).2 5 (by omega))).1; omega
      have main : SlA w ((List.range len).map f) (.slice (some ⟨b, o, Option.none⟩) ((List.range len).map f).length m) :=
        .some b o m carr ty frz hh (by rw [hlen]; exact hlast) (fun i hi r hr => by
          have hi' : i < len := by rw [hlen] at hi; exact hi
          rw [Array.getD_eq_getD_getElem?, (hf i hi').2 r hr]; simp) hmax (by rw [hlen]; exact hle)
      rw [hlen] at main
      refine ⟨_, (List.range len).map f, rfl, main, fun z hz => ?_, by rw [hlen]; exact Nat.le_trans hle hmax⟩
      simp only [List.mem_map, List.mem_range] at hz
      obtain ⟨i, hi, rfl⟩ := hz
      exact (hf i hi).1

/-- A row of acts as an argument: its blocks are those from the k-th on. -/
theorem arg_acts {W : World} {l : List (ActR × Value)} {v : Value} (h : SlA W l v) (hl : ∀ z ∈ l, SlP W (z.1.keep.map fun n => .int .i64 n) z.2 ∧ z.1.ok) (k : Nat) : ∃ (L : List (AObj × AM.Loc)) (a : Option Addr) (cap : Nat), (∀ x ∈ L, x.1.wrt = false) ∧
    ∀ os : List (AObj × AM.Loc), (∀ j (h : j < L.length), os[k + j]? = some L[j]) → (∀ x ∈ L, ObjRel (renOf (os0 os)) x.1 x.2 W) ∧ ActsV (memOf (os0 os)) a (l.map (·.1)) ∧ VRel (renOf (os0 os)) (.slice a (l.map (·.1)).length cap) v := by
  cases h with
  | nil h => subst h; exact ⟨[], none, 0, by simp, fun os _ => ⟨by simp, fun i hi => by simp at hi, .nilSlice 0 0⟩⟩
  | none a h => subst h; exact ⟨[], some ⟨0, 0, none⟩, 0, by simp, fun os _ => ⟨by simp, fun i hi => by simp at hi, .sliceEnd (b := 0) (o := 0) (L := ⟨0, 0, 0, 1⟩) rfl (.inl rfl)⟩⟩
  | some b o cap carr ty frz hh hlen hc hcap hle =>
    haveI : Inhabited ((AObj × AM.Loc) × Option Addr × Nat) := ⟨((.dead, ⟨0, 0, 0, 1⟩), none, 0)⟩
    have each : ∀ i, i < l.length → ∃ y : (AObj × AM.Loc) × Option Addr × Nat, y.1.1.wrt = false ∧ (∀ ρ, ObjRel ρ y.1.1 y.1.2 W) ∧ ∀ os : List (AObj × AM.Loc), os[k + 1 + i]? = some y.1 →
        RowV (memOf (os0 os)) y.2.1 ((l.getD i default).1.keep.map fun n => .int .i64 n) ∧ VRel (renOf (os0 os)) (.slice y.2.1 (l.getD i default).1.keep.length y.2.2) (l.getD i default).2 := fun i hi => by
      have hz := (hl _ (List.getElem_mem hi)).1
      have e : l.getD i default = l[i] := by simp [List.getD, hi]
      obtain ⟨x, a, c, h1, h2, h3⟩ := arg_row (by intro v hv; simp only [List.mem_map] at hv; obtain ⟨y, _, rfl⟩ := hv; exact AM.Plain.int _ _) hz (k + 1 + i)
      refine ⟨(x, a, c), h1, h2, fun os hos => ?_⟩
      rw [e]
      have := h3 os hos
      rw [List.length_map] at this
      exact this
    obtain ⟨y, hy⟩ := Go.Deep.choose_lt (α := (AObj × AM.Loc) × Option Addr × Nat) (n := l.length) each
    let row : Nat → List Value := fun i => actRow (l.getD i default).1 (y i).2.1 (y i).2.2
    let X : List Value := (List.range (l.length * 6)).map fun j => (row (j / 6)).getD (j % 6) undef
    have hXl : X.length = l.length * 6 := by simp [X]
    have hXg : ∀ i r (hr : r < 6) (hi : i * 6 + r < X.length), X[i * 6 + r] = (row i).getD r undef := fun i r hr hi => by
      simp only [X, List.getElem_map, List.getElem_range]
      rw [show (i * 6 + r) / 6 = i by omega, show (i * 6 + r) % 6 = r by omega]
    refine ⟨(.cells X ty false (.full 6), ⟨b, o, l.length * 6, 6⟩) :: (List.range l.length).map fun i => (y i).1, some ⟨1 + k, 0, none⟩, cap, fun x hx => ?_, fun os hos => ?_⟩
    · simp only [List.mem_cons, List.mem_map, List.mem_range] at hx
      rcases hx with rfl | ⟨i, hi, rfl⟩
      · rfl
      · exact (hy i hi).1
    · have h0 : os[k]? = some (.cells X ty false (.full 6), ⟨b, o, l.length * 6, 6⟩) := by have := hos 0 (by simp); simpa using this
      have hi1 : ∀ i, i < l.length → os[k + 1 + i]? = some (y i).1 := fun i hi => by
        have := hos (i + 1) (by simp; omega)
        rw [show k + (i + 1) = k + 1 + i by omega] at this
        rw [this]; simp
      have hE := fun i hi => (hy i hi).2.2 os (hi1 i hi)
      have hget : ∀ i (hi : i < l.length), l.getD i default = l[i] := fun i hi => by simp [List.getD, hi]
      refine ⟨fun x hx => ?_, fun i hi => ?_, ?_⟩
      · simp only [List.mem_cons, List.mem_map, List.mem_range] at hx
        rcases hx with rfl | ⟨i, hi, rfl⟩
        · refine ⟨carr, frz, hh, hlen, by rw [hXl]; exact Nat.le_refl _, (fun h => by cases h), (fun k h => by cases h; exact ⟨hXl.symm, rfl, by omega⟩), (fun j hj => ?_), (fun z h => by cases h), (fun h => by cases h)⟩
          have hj6 : j / 6 < l.length := by rw [hXl] at hj; omega
          have hjr : j % 6 < 6 := by omega
          have ej : j / 6 * 6 + j % 6 = j := by omega
          have h1 := hXg (j / 6) (j % 6) hjr (by omega)
          have h2 := hc (j / 6) hj6 (j % 6) hjr
          simp only [ej] at h1 h2
          rw [h1, h2]
          have h3 := (hE (j / 6) hj6).2
          rw [hget _ hj6] at h3
          simp only [row]
          rw [hget _ hj6]
          have : j % 6 = 0 ∨ j % 6 = 1 ∨ j % 6 = 2 ∨ j % 6 = 3 ∨ j % 6 = 4 ∨ j % 6 = 5 := by omega
          rcases this with e | e | e | e | e | e <;> rw [e]
          · exact .int _ _
          · exact .string _
          · exact .string _
          · exact .string _
          · exact .int _ _
          · exact h3
        · exact (hy i hi).2.1 _
      · have hi' : i < l.length := by simpa using hi
        have hE' := (hE i hi')
        refine ⟨1 + k, 0, (y i).2.1, (y i).2.2, rfl, lt0_at h0, ?_, ?_, ?_⟩
        · rw [get0_at h0, rdO_cells]
          unfold cutL
          rw [if_pos (by omega)]
          congr 1
          refine List.ext_getElem (by simp [actRow]; omega) fun r h1 h2 => ?_
          have hr : r < 6 := by simpa [actRow] using h2
          rw [List.getElem_take, List.getElem_drop]
          have := hXg i r hr (by omega)
          simp only [Nat.zero_add]
          rw [this]
          simp only [row, hget i hi', List.getElem_map]
          rw [List.getD_eq_getElem?_getD, List.getElem?_eq_getElem (by simpa [actRow] using hr)]; simp
        · rw [hget i hi'] at hE'
          rw [List.getElem_map]
          exact ⟨AM.RowV.ints _ hE'.1, fun b o e => hE'.1.1 b o e⟩
        · rw [List.getElem_map]; exact (hl _ (List.getElem_mem hi')).2
      · rw [List.length_map]
        exact .slice (b := 1 + k) (o := 0) (L := ⟨b, o, l.length * 6, 6⟩) (ren0_at h0) (openCap_lt hcap)
end Go.Proofs.Ytbmjhiifinjieaa
