/- Things that are done. -/
import Derived.Test.YtbmjhiifinjieaaB3
import Derived.Test.YtbmjhiifinjieaaA4
import Derived.Test.YtbmjhiifinjieaaB2
set_option linter.unusedVariables false
set_option linter.unusedSimpArgs false
set_option linter.unnecessarySimpa false
namespace Go.Proofs.Ytbmjhiifinjieaa
open Go Go.AM
set_option linter.unusedVariables false
set_option linter.unusedSimpArgs false
set_option linter.unusedSectionVars false
set_option maxHeartbeats 2000000
set_option maxRecDepth 100000

variable [Ex]
structure ActR where
  act : Int
  name : List UInt8
  to : List UInt8
  b : List UInt8
  n : Int
  keep : List Int
instance : Inhabited ActR := ⟨⟨0, [], [], [], 0, []⟩⟩
structure ActR.ok (x : ActR) : Prop where
  act : 0 ≤ x.act ∧ x.act ≤ 255
  name : x.name.length ≤ 9223372036854775807
  to : x.to.length ≤ 9223372036854775807
  b : x.b.length ≤ 9223372036854775807
  n : -9223372036854775808 ≤ x.n ∧ x.n ≤ 9223372036854775807
  keep : x.keep.length ≤ 9223372036854775807
  k64 : ∀ y ∈ x.keep, -9223372036854775808 ≤ y ∧ y ≤ 9223372036854775807
def actRow (x : ActR) (ka : Option Addr) (kc : Nat) : List Value := [.int .u8 x.act, .string ⟨x.name.toArray⟩, .string ⟨x.to.toArray⟩, .string ⟨x.b.toArray⟩, .int .i64 x.n, .slice ka x.keep.length kc]
/-- An act's cells. -/
def ActV (m : AMem) (x : ActR) (ka : Option Addr) (kc : Nat) : Prop := IntV m (.slice ka x.keep.length kc) x.keep ∧ ∀ b o, ka = some ⟨b, o, none⟩ → b < m.size
theorem ActV.old {m m' : AMem} {x : ActR} {ka : Option Addr} {kc : Nat} (h : ActV m x ka kc) (ho : Old m m') : ActV m' x ka kc := ⟨h.1.old ho, fun b o e => Nat.lt_of_lt_of_le (h.2 b o e) ho.1⟩
/-- A slice of acts. -/
def ActsV (m : AMem) (a : Option Addr) (l : List ActR) : Prop :=
  ∀ i (h : i < l.length), ∃ b o ka kc, a = some ⟨b, o, none⟩ ∧ b < m.size ∧ rdO (m.get b) (o + i * 6) 6 = some (actRow l[i] ka kc) ∧ ActV m l[i] ka kc ∧ l[i].ok
theorem ActsV.old {m m' : AMem} {a : Option Addr} {l : List ActR} (h : ActsV m a l) (ho : Old m m') : ActsV m' a l := fun i hi => by
  obtain ⟨b, o, ka, kc, h1, h2, h3, h4, h5⟩ := h i hi
  exact ⟨b, o, ka, kc, h1, Nat.lt_of_lt_of_le h2 ho.1, by rw [ho.2 b h2]; exact h3, h4.old ho, h5⟩
theorem rdO_sub {o : AObj} {k n : Nat} {r : List Value} (h : rdO o k n = some r) {j : Nat} (hj : j < n) : ∃ x, r[j]? = some x ∧ rdO o (k + j) 1 = some [x] := by
  cases o with
  | cells X e w sp =>
    rw [rdO_cells] at h
    have hl := cutL_le h
    unfold cutL at h
    rw [if_pos hl] at h
    cases h
    refine ⟨X[k + j], ?_, ?_⟩
    · rw [List.getElem?_take, if_pos hj, List.getElem?_drop, List.getElem?_eq_getElem (by omega)]
    · rw [rdO_cells]
      unfold cutL
      rw [if_pos (by omega), List.drop_eq_getElem_cons (by omega)]; rfl
  | _ => cases h
theorem act_fields {o : AObj} {k : Nat} {x : ActR} {ka : Option Addr} {kc : Nat} (h : rdO o k 6 = some (actRow x ka kc)) :
    rdO o (k + 1) 1 = some [.string ⟨x.name.toArray⟩] ∧ rdO o (k + 2) 1 = some [.string ⟨x.to.toArray⟩] ∧ rdO o (k + 3) 1 = some [.string ⟨x.b.toArray⟩] ∧ rdO o (k + 5) 1 = some [.slice ka x.keep.length kc] ∧ rdO o k 1 = some [.int .u8 x.act] := by
  have f : ∀ j (hj : j < 6) (y : Value), (actRow x ka kc)[j]? = some y → rdO o (k + j) 1 = some [y] := fun j hj y hy => by
    obtain ⟨z, h1, h2⟩ := rdO_sub h hj
    rw [hy] at h1; cases h1; exact h2
  exact ⟨f 1 (by omega) _ rfl, f 2 (by omega) _ rfl, f 3 (by omega) _ rfl, f 5 (by omega) _ rfl, f 0 (by omega) _ rfl⟩
def smallA (x : ActR) : Bool := !(decide (200 < x.name.length) || decide (200 < x.to.length) || decide (200 < x.b.length) || decide (200 < x.keep.length))
def fewB (l : List ActR) : Bool := (l.take 50).all smallA && decide (l.length ≤ 50)
theorem few_ok (m : AMem) (a : Option Addr) (cap : Nat) (l : List ActR) (hl : ActsV m a l) (h64 : l.length ≤ 9223372036854775807) :
    PureC Try.prog 0 22 [.slice a l.length cap] m (.bool (fewB l)) := by
  refine pure_of_W (fn := Try.f22) rfl rfl F22_ok (by simp [F22]) (.bool _) ?_
  simp (implicitDefEqProofs := false) (maxSteps := 1000000) (disch := first | omega | with_reducible assumption | (simp only [List.length_map, List.length_cons, List.length_nil, List.length_set, List.length_append, List.length_replicate, List.length_take, List.length_drop, mk_size, AMem.size_set, Nat.reduceAdd]; omega)) only [amT, cut, bnd, Nat.reduceBEq, reduceCtorEq, Nat.reduceEqDiff, Nat.reduceAdd, Nat.reduceMul, Nat.reduceSub, Int.reduceToNat, Int.reduceEq, Int.reduceLT, Int.reduceLE, Int.reduceAdd, Int.reduceSub, Int.reduceMul, reduceIte, resVs, resV, packV, initT, addr, F22]
  refine W_loop (fun N qs => ∃ (i : Nat), N = l.length - i ∧ qs.ds = [] ∧ qs.m = mx m [] ∧ qs.t 0 = .slice a l.length cap ∧ qs.t 3 = .int .i64 i ∧ i ≤ l.length ∧ i ≤ 50 ∧ (l.take i).all smallA = true) (l.length - (0)) ⟨0, rfl, rfl, by first | rfl | (simp (implicitDefEqProofs := false) (maxSteps := 1000000) (disch := first | omega | with_reducible assumption | (simp only [List.length_map, List.length_cons, List.length_nil, List.length_set, List.length_append, List.length_replicate, List.length_take, List.length_drop, mk_size, AMem.size_set, Nat.reduceAdd]; omega)) only [amT, cut, bnd, Nat.reduceBEq, reduceCtorEq, Nat.reduceEqDiff, Nat.reduceAdd, Nat.reduceMul, Nat.reduceSub, Int.reduceToNat, Int.reduceEq, Int.reduceLT, Int.reduceLE, Int.reduceAdd, Int.reduceSub, Int.reduceMul, reduceIte, resVs, resV, packV, initT, addr, List.take_zero]; first | done | rfl | (congr 1; omega)), by first | rfl | (simp (implicitDefEqProofs := false) (maxSteps := 1000000) (disch := first | omega | with_reducible assumption | (simp only [List.length_map, List.length_cons, List.length_nil, List.length_set, List.length_append, List.length_replicate, List.length_take, List.length_drop, mk_size, AMem.size_set, Nat.reduceAdd]; omega)) only [amT, cut, bnd, Nat.reduceBEq, reduceCtorEq, Nat.reduceEqDiff, Nat.reduceAdd, Nat.reduceMul, Nat.reduceSub, Int.reduceToNat, Int.reduceEq, Int.reduceLT, Int.reduceLE, Int.reduceAdd, Int.reduceSub, Int.reduceMul, reduceIte, resVs, resV, packV, initT, addr, List.take_zero]; first | done | rfl | (congr 1; omega)), by first | rfl | (simp (implicitDefEqProofs := false) (maxSteps := 1000000) (disch := first | omega | with_reducible assumption | (simp only [List.length_map, List.length_cons, List.length_nil, List.length_set, List.length_append, List.length_replicate, List.length_take, List.length_drop, mk_size, AMem.size_set, Nat.reduceAdd]; omega)) only [amT, cut, bnd, Nat.reduceBEq, reduceCtorEq, Nat.reduceEqDiff, Nat.reduceAdd, Nat.reduceMul, Nat.reduceSub, Int.reduceToNat, Int.reduceEq, Int.reduceLT, Int.reduceLE, Int.reduceAdd, Int.reduceSub, Int.reduceMul, reduceIte, resVs, resV, packV, initT, addr, List.take_zero]; first | done | rfl | (congr 1; omega)), ?_⟩ ?_
  · exact ⟨by omega, by omega, rfl⟩
  · rintro N t m1 ds ⟨i, rfl, hds, hm, t0, t3, hp⟩
    simp only at hds hm t0 t3
    subst hds; replace hm := hm.symm; subst hm
    obtain ⟨hi, hi50, hp⟩ := hp
    by_cases h1 : (i : Int) < (l.length : Int)
    · by_cases h2 : (i : Int) < 50
      · have hil : i < l.length := by omega
        obtain ⟨b, o, ka, kc, rfl, hb, hr, hA, hok⟩ := hl i hil
        obtain ⟨f1, f2, f3, f5, f0⟩ := act_fields hr
        have hsucc : (l.take (i + 1)).all smallA = smallA l[i] := by
          rw [List.take_succ_eq_append_getElem hil, List.all_append, hp]; simp
        have hmem : l[i] ∈ l.take 50 := by rw [List.mem_iff_getElem]; exact ⟨i, by rw [List.length_take]; omega, by rw [List.getElem_take]⟩
        have bad : smallA l[i] = false → fewB l = false := fun h => by
          have : (l.take 50).all smallA = false := by rw [List.all_eq_false]; exact ⟨_, hmem, by simp [h]⟩
          simp [fewB, this]
        by_cases g1 : (200 : Int) < (l[i].name.length : Int)
        · have e := bad (by simp [smallA]; omega)
          simp (implicitDefEqProofs := false) (maxSteps := 1000000) (disch := first | omega | with_reducible assumption | (simp only [List.length_map, List.length_cons, List.length_nil, List.length_set, List.length_append, List.length_replicate, List.length_take, List.length_drop, mk_size, AMem.size_set, Nat.reduceAdd]; omega)) only [amT, cut, bnd, Nat.reduceBEq, reduceCtorEq, Nat.reduceEqDiff, Nat.reduceAdd, Nat.reduceMul, Nat.reduceSub, Int.reduceToNat, Int.reduceEq, Int.reduceLT, Int.reduceLE, Int.reduceAdd, Int.reduceSub, Int.reduceMul, reduceIte, resVs, resV, packV, initT, addr, F22_l0, t0, t3, h1, h2, f1, g1]; repeat (refine OrW.go ?_; try simp (implicitDefEqProofs := false) (maxSteps := 1000000) (disch := first | omega | with_reducible assumption | (simp only [List.length_map, List.length_cons, List.length_nil, List.length_set, List.length_append, List.length_replicate, List.length_take, List.length_drop, mk_size, AMem.size_set, Nat.reduceAdd]; omega)) only [amT, cut, bnd, Nat.reduceBEq, reduceCtorEq, Nat.reduceEqDiff, Nat.reduceAdd, Nat.reduceMul, Nat.reduceSub, Int.reduceToNat, Int.reduceEq, Int.reduceLT, Int.reduceLE, Int.reduceAdd, Int.reduceSub, Int.reduceMul, reduceIte, resVs, resV, packV, initT, addr, F22_l0, t0, t3, h1, h2, f1, g1])
          rw [e]
        by_cases g2 : (200 : Int) < (l[i].to.length : Int)
        · have e := bad (by simp [smallA]; omega)
          simp (implicitDefEqProofs := false) (maxSteps := 1000000) (disch := first | omega | with_reducible assumption | (simp only [List.length_map, List.length_cons, List.length_nil, List.length_set, List.length_append, List.length_replicate, List.length_take, List.length_drop, mk_size, AMem.size_set, Nat.reduceAdd]; omega)) only [amT, cut, bnd, Nat.reduceBEq, reduceCtorEq, Nat.reduceEqDiff, Nat.reduceAdd, Nat.reduceMul, Nat.reduceSub, Int.reduceToNat, Int.reduceEq, Int.reduceLT, Int.reduceLE, Int.reduceAdd, Int.reduceSub, Int.reduceMul, reduceIte, resVs, resV, packV, initT, addr, F22_l0, t0, t3, h1, h2, f1, g1, f2, g2]; repeat (refine OrW.go ?_; try simp (implicitDefEqProofs := false) (maxSteps := 1000000) (disch := first | omega | with_reducible assumption | (simp only [List.length_map, List.length_cons, List.length_nil, List.length_set, List.length_append, List.length_replicate, List.length_take, List.length_drop, mk_size, AMem.size_set, Nat.reduceAdd]; omega)) only [amT, cut, bnd, Nat.reduceBEq, reduceCtorEq, Nat.reduceEqDiff, Nat.reduceAdd, Nat.reduceMul, Nat.reduceSub, Int.reduceToNat, Int.reduceEq, Int.reduceLT, Int.reduceLE, Int.reduceAdd, Int.reduceSub, Int.reduceMul, reduceIte, resVs, resV, packV, initT, addr, F22_l0, t0, t3, h1, h2, f1, g1, f2, g2])
          rw [e]
        by_cases g3 : (200 : Int) < (l[i].b.length : Int)
        · have e := bad (by simp [smallA]; omega)
          simp (implicitDefEqProofs := false) (maxSteps := 1000000) (disch := first | omega | with_reducible assumption | (simp only [List.length_map, List.length_cons, List.length_nil, List.length_set, List.length_append, List.length_replicate, List.length_take, List.length_drop, mk_size, AMem.size_set, Nat.reduceAdd]; omega)) only [amT, cut, bnd, Nat.reduceBEq, reduceCtorEq, Nat.reduceEqDiff, Nat.reduceAdd, Nat.reduceMul, Nat.reduceSub, Int.reduceToNat, Int.reduceEq, Int.reduceLT, Int.reduceLE, Int.reduceAdd, Int.reduceSub, Int.reduceMul, reduceIte, resVs, resV, packV, initT, addr, F22_l0, t0, t3, h1, h2, f1, g1, f2, g2, f3, g3]; repeat (refine OrW.go ?_; try simp (implicitDefEqProofs := false) (maxSteps := 1000000) (disch := first | omega | with_reducible assumption | (simp only [List.length_map, List.length_cons, List.length_nil, List.length_set, List.length_append, List.length_replicate, List.length_take, List.length_drop, mk_size, AMem.size_set, Nat.reduceAdd]; omega)) only [amT, cut, bnd, Nat.reduceBEq, reduceCtorEq, Nat.reduceEqDiff, Nat.reduceAdd, Nat.reduceMul, Nat.reduceSub, Int.reduceToNat, Int.reduceEq, Int.reduceLT, Int.reduceLE, Int.reduceAdd, Int.reduceSub, Int.reduceMul, reduceIte, resVs, resV, packV, initT, addr, F22_l0, t0, t3, h1, h2, f1, g1, f2, g2, f3, g3])
          rw [e]
        by_cases g4 : (200 : Int) < (l[i].keep.length : Int)
        · have e := bad (by simp [smallA]; omega)
          simp (implicitDefEqProofs := false) (maxSteps := 1000000) (disch := first | omega | with_reducible assumption | (simp only [List.length_map, List.length_cons, List.length_nil, List.length_set, List.length_append, List.length_replicate, List.length_take, List.length_drop, mk_size, AMem.size_set, Nat.reduceAdd]; omega)) only [amT, cut, bnd, Nat.reduceBEq, reduceCtorEq, Nat.reduceEqDiff, Nat.reduceAdd, Nat.reduceMul, Nat.reduceSub, Int.reduceToNat, Int.reduceEq, Int.reduceLT, Int.reduceLE, Int.reduceAdd, Int.reduceSub, Int.reduceMul, reduceIte, resVs, resV, packV, initT, addr, F22_l0, t0, t3, h1, h2, f1, g1, f2, g2, f3, g3, f5, g4]; repeat (refine OrW.go ?_; try simp (implicitDefEqProofs := false) (maxSteps := 1000000) (disch := first | omega | with_reducible assumption | (simp only [List.length_map, List.length_cons, List.length_nil, List.length_set, List.length_append, List.length_replicate, List.length_take, List.length_drop, mk_size, AMem.size_set, Nat.reduceAdd]; omega)) only [amT, cut, bnd, Nat.reduceBEq, reduceCtorEq, Nat.reduceEqDiff, Nat.reduceAdd, Nat.reduceMul, Nat.reduceSub, Int.reduceToNat, Int.reduceEq, Int.reduceLT, Int.reduceLE, Int.reduceAdd, Int.reduceSub, Int.reduceMul, reduceIte, resVs, resV, packV, initT, addr, F22_l0, t0, t3, h1, h2, f1, g1, f2, g2, f3, g3, f5, g4])
          rw [e]
        simp (implicitDefEqProofs := false) (maxSteps := 1000000) (disch := first | omega | with_reducible assumption | (simp only [List.length_map, List.length_cons, List.length_nil, List.length_set, List.length_append, List.length_replicate, List.length_take, List.length_drop, mk_size, AMem.size_set, Nat.reduceAdd]; omega)) only [amT, cut, bnd, Nat.reduceBEq, reduceCtorEq, Nat.reduceEqDiff, Nat.reduceAdd, Nat.reduceMul, Nat.reduceSub, Int.reduceToNat, Int.reduceEq, Int.reduceLT, Int.reduceLE, Int.reduceAdd, Int.reduceSub, Int.reduceMul, reduceIte, resVs, resV, packV, initT, addr, F22_l0, t0, t3, h1, h2, f1, g1, f2, g2, f3, g3, f5, g4]; repeat (refine OrW.go ?_; try simp (implicitDefEqProofs := false) (maxSteps := 1000000) (disch := first | omega | with_reducible assumption | (simp only [List.length_map, List.length_cons, List.length_nil, List.length_set, List.length_append, List.length_replicate, List.length_take, List.length_drop, mk_size, AMem.size_set, Nat.reduceAdd]; omega)) only [amT, cut, bnd, Nat.reduceBEq, reduceCtorEq, Nat.reduceEqDiff, Nat.reduceAdd, Nat.reduceMul, Nat.reduceSub, Int.reduceToNat, Int.reduceEq, Int.reduceLT, Int.reduceLE, Int.reduceAdd, Int.reduceSub, Int.reduceMul, reduceIte, resVs, resV, packV, initT, addr, F22_l0, t0, t3, h1, h2, f1, g1, f2, g2, f3, g3, f5, g4])
        rw [LoopK_normal]; refine ⟨_, ?_, i + 1, rfl, rfl, by first | rfl | (simp (implicitDefEqProofs := false) (maxSteps := 1000000) (disch := first | omega | with_reducible assumption | (simp only [List.length_map, List.length_cons, List.length_nil, List.length_set, List.length_append, List.length_replicate, List.length_take, List.length_drop, mk_size, AMem.size_set, Nat.reduceAdd]; omega)) only [amT, cut, bnd, Nat.reduceBEq, reduceCtorEq, Nat.reduceEqDiff, Nat.reduceAdd, Nat.reduceMul, Nat.reduceSub, Int.reduceToNat, Int.reduceEq, Int.reduceLT, Int.reduceLE, Int.reduceAdd, Int.reduceSub, Int.reduceMul, reduceIte, resVs, resV, packV, initT, addr, t0, t3]; first | done | rfl | (congr 1; omega)), by first | rfl | (simp (implicitDefEqProofs := false) (maxSteps := 1000000) (disch := first | omega | with_reducible assumption | (simp only [List.length_map, List.length_cons, List.length_nil, List.length_set, List.length_append, List.length_replicate, List.length_take, List.length_drop, mk_size, AMem.size_set, Nat.reduceAdd]; omega)) only [amT, cut, bnd, Nat.reduceBEq, reduceCtorEq, Nat.reduceEqDiff, Nat.reduceAdd, Nat.reduceMul, Nat.reduceSub, Int.reduceToNat, Int.reduceEq, Int.reduceLT, Int.reduceLE, Int.reduceAdd, Int.reduceSub, Int.reduceMul, reduceIte, resVs, resV, packV, initT, addr, t0, t3]; first | done | rfl | (congr 1; omega)), by first | rfl | (simp (implicitDefEqProofs := false) (maxSteps := 1000000) (disch := first | omega | with_reducible assumption | (simp only [List.length_map, List.length_cons, List.length_nil, List.length_set, List.length_append, List.length_replicate, List.length_take, List.length_drop, mk_size, AMem.size_set, Nat.reduceAdd]; omega)) only [amT, cut, bnd, Nat.reduceBEq, reduceCtorEq, Nat.reduceEqDiff, Nat.reduceAdd, Nat.reduceMul, Nat.reduceSub, Int.reduceToNat, Int.reduceEq, Int.reduceLT, Int.reduceLE, Int.reduceAdd, Int.reduceSub, Int.reduceMul, reduceIte, resVs, resV, packV, initT, addr, t0, t3]; first | done | rfl | (congr 1; omega)), ?_⟩
        · omega
        · exact ⟨by omega, by omega, by rw [hsucc]; simp [smallA]; omega⟩
      · obtain rfl : i = 50 := by omega
        have h1' : (50 : Int) < (l.length : Int) := by omega
        have h3 : ¬ (l.length : Int) ≤ 50 := by omega
        have h4 : ¬ l.length ≤ 50 := by omega
        simp (implicitDefEqProofs := false) (maxSteps := 1000000) (disch := first | omega | with_reducible assumption | (simp only [List.length_map, List.length_cons, List.length_nil, List.length_set, List.length_append, List.length_replicate, List.length_take, List.length_drop, mk_size, AMem.size_set, Nat.reduceAdd]; omega)) only [amT, cut, bnd, Nat.reduceBEq, reduceCtorEq, Nat.reduceEqDiff, Nat.reduceAdd, Nat.reduceMul, Nat.reduceSub, Int.reduceToNat, Int.reduceEq, Int.reduceLT, Int.reduceLE, Int.reduceAdd, Int.reduceSub, Int.reduceMul, reduceIte, resVs, resV, packV, initT, addr, F22_l0, t0, t3, h1', h3]; repeat (refine OrW.go ?_; try simp (implicitDefEqProofs := false) (maxSteps := 1000000) (disch := first | omega | with_reducible assumption | (simp only [List.length_map, List.length_cons, List.length_nil, List.length_set, List.length_append, List.length_replicate, List.length_take, List.length_drop, mk_size, AMem.size_set, Nat.reduceAdd]; omega)) only [amT, cut, bnd, Nat.reduceBEq, reduceCtorEq, Nat.reduceEqDiff, Nat.reduceAdd, Nat.reduceMul, Nat.reduceSub, Int.reduceToNat, Int.reduceEq, Int.reduceLT, Int.reduceLE, Int.reduceAdd, Int.reduceSub, Int.reduceMul, reduceIte, resVs, resV, packV, initT, addr, F22_l0, t0, t3, h1', h3])
        simp [fewB, h4]
    · have e : l.take i = l := List.take_of_length_le (by omega)
      have h3 : (l.length : Int) ≤ 50 := by omega
      have h5 : l.take 50 = l := List.take_of_length_le (by omega)
      rw [e] at hp
      simp (implicitDefEqProofs := false) (maxSteps := 1000000) (disch := first | omega | with_reducible assumption | (simp only [List.length_map, List.length_cons, List.length_nil, List.length_set, List.length_append, List.length_replicate, List.length_take, List.length_drop, mk_size, AMem.size_set, Nat.reduceAdd]; omega)) only [amT, cut, bnd, Nat.reduceBEq, reduceCtorEq, Nat.reduceEqDiff, Nat.reduceAdd, Nat.reduceMul, Nat.reduceSub, Int.reduceToNat, Int.reduceEq, Int.reduceLT, Int.reduceLE, Int.reduceAdd, Int.reduceSub, Int.reduceMul, reduceIte, resVs, resV, packV, initT, addr, F22_l0, t0, t3, h1, h3]; repeat (refine OrW.go ?_; try simp (implicitDefEqProofs := false) (maxSteps := 1000000) (disch := first | omega | with_reducible assumption | (simp only [List.length_map, List.length_cons, List.length_nil, List.length_set, List.length_append, List.length_replicate, List.length_take, List.length_drop, mk_size, AMem.size_set, Nat.reduceAdd]; omega)) only [amT, cut, bnd, Nat.reduceBEq, reduceCtorEq, Nat.reduceEqDiff, Nat.reduceAdd, Nat.reduceMul, Nat.reduceSub, Int.reduceToNat, Int.reduceEq, Int.reduceLT, Int.reduceLE, Int.reduceAdd, Int.reduceSub, Int.reduceMul, reduceIte, resVs, resV, packV, initT, addr, F22_l0, t0, t3, h1, h3])
      simp [fewB, h5, hp]; omega

/-- What is done, its answer and what is read. -/
def doesR (d : DiskR) (x : ActR) : (Int × List UInt8) × DiskR :=
  if x.act.tmod 10 = 0 ∨ x.act.tmod 10 = 1 then (((appendR d x.name x.b).1, []), (appendR d x.name x.b).2)
  else if x.act.tmod 10 = 2 then (((driesR d x.name x.name some).1, []), (driesR d x.name x.name some).2)
  else if x.act.tmod 10 = 3 then (((driesR d x.name x.name (cutN x.n)).1, []), (driesR d x.name x.name (cutN x.n)).2)
  else if x.act.tmod 10 = 4 then (((driesR d x.name x.to some).1, []), (driesR d x.name x.to some).2)
  else if x.act.tmod 10 = 5 then (((removeR d x.name).1, []), (removeR d x.name).2)
  else if x.act.tmod 10 = 6 then (readR d x.name, d)
  else if x.act.tmod 10 = 7 then ((0, []), failR d x.n)
  else if x.act.tmod 10 = 8 then ((0, []), crashR d)
  else ((0, []), onR d x.keep)
theorem cellsOf6 (u : Int) (s t w : ByteArray) (n : Int) (ka : Option Addr) (l c : Nat) : cellsOf (.agg [.int .u8 u, .string s, .string t, .string w, .int .i64 n, .slice ka l c].toArray) = some [.int .u8 u, .string s, .string t, .string w, .int .i64 n, .slice ka l c] := rfl
theorem cutN_le (n : Int) (c c' : List UInt8) (h : cutN n c = some c') : c'.length ≤ c.length := by
  unfold cutN at h; split at h
  · cases h
  · cases h; rw [List.length_take]; omega
theorem Bud.does {d : DiskR} {k : Nat} (h : Bud d k) (x : ActR) (hx : x.ok) (hb : x.b.length ≤ 1000) : Bud (doesR d x).2 (k + 1) := by
  unfold doesR
  split; · exact h.append _ _ hb
  split; · exact h.dries _ _ _ (fun c c' h => by cases h; exact Nat.le_refl _)
  split; · exact h.dries _ _ _ (cutN_le x.n)
  split; · exact h.dries _ _ _ (fun c c' h => by cases h; exact Nat.le_refl _)
  split; · exact h.remove _
  split; · exact h.up (by omega)
  split; · exact (h.fail hx.n.2).up (by omega)
  split; · exact h.crash.up (by omega)
  · exact (h.on _).up (by omega)
theorem ByV.offx {m m' : AMem} {v : Value} {c : List UInt8} (h : ByV 5 m v c) (hs : m.size ≤ m'.size) (hg : ∀ y, y ≠ Ex.x → m'.get y = m.get y) : ByV 5 m' v c := by
  rcases h with h | ⟨b, o, cap, X, w, sp, h0, h1, h2, h3, h4, h5⟩
  · exact .inl h
  · exact .inr ⟨b, o, cap, X, w, sp, h0, Nat.lt_of_lt_of_le h1 hs, by rw [hg b h5]; exact h2, h3, h4, h5⟩
theorem FilesV.offx {m m' : AMem} {v : Value} {fs : List FileR} (h : FilesV m v fs) {X : List Value} {w : Bool} {sp : Spare} (hx : m.get Ex.x = .cells X 5 w sp) (hs : m.size ≤ m'.size) (hg : ∀ y, y ≠ Ex.x → m'.get y = m.get y) : FilesV m' v fs := by
  rcases h with ⟨h, h' | ⟨b, rfl, h1, h2⟩⟩ | ⟨b, Y, sp', rfl, h1, h2, h3, h4, h5, h6⟩
  · exact .inl ⟨h, .inl h'⟩
  · exact .inl ⟨h, .inr ⟨b, rfl, Nat.lt_of_lt_of_le h1 hs, by rw [hg b (fun e => by rw [← e, h2] at hx; cases hx)]; exact h2⟩⟩
  · refine .inr ⟨b, Y, sp', rfl, Nat.lt_of_lt_of_le h1 hs, by rw [hg b (fun e => by rw [← e, h2] at hx; cases hx)]; exact h2, h3, h4, h5, fun k hk => ?_⟩
    obtain ⟨a1, c1, a2, c2, e1, e2, e3⟩ := h6 k hk
    exact ⟨a1, c1, a2, c2, e1, ByV.offx e2 hs hg, ByV.offx e3 hs hg⟩
theorem DIn.offx {m0 M M' : AMem} {p : Nat} {v : Value} {d : DiskR} (h : DIn m0 M p v d) {X : List Value} {w : Bool} {sp : Spare} (hx : M.get Ex.x = .cells X 5 w sp) (hs : M.size ≤ M'.size) (hg : ∀ y, y ≠ Ex.x → M'.get y = M.get y) (h0 : m0.size ≤ Ex.x) : DIn m0 M' p v d :=
  ⟨⟨Nat.lt_of_lt_of_le h.here.lt hs, by rw [hg p (fun e => by have := h.here.get; rw [e, hx] at this; cases this)]; exact h.here.get, h.here.files.offx hx hs hg, Nat.lt_of_lt_of_le h.here.ex hs⟩,
   ⟨Nat.le_trans h.old.1 hs, fun y hy => by rw [hg y (by omega)]; exact h.old.2 y hy⟩, h.ap, h.own⟩
theorem DIn.keep {m0 M M' : AMem} {p : Nat} {v : Value} {d : DiskR} (h : DIn m0 M p v d) (ho : Old M M') : DIn m0 M' p v d := ⟨h.here.old ho, h.old.trans ho, h.ap, h.own⟩
theorem read_len (d : DiskR) (s : List UInt8) : (readR d s).2.length ≤ usedR d.files := by
  unfold readR
  split
  · split
    · rename_i h
      obtain ⟨hl, _⟩ := isAt_lt h
      rw [fileAt_eq hl]
      have := size_le hl
      simp only [FileR.all, FileR.size, List.length_append] at this ⊢
      omega
    · simp
  · simp
theorem u8s_set {X : List Value} (h : ∀ y ∈ X, ∃ z, y = Value.int .u8 z) (i : Nat) (n : Int) : ∀ y ∈ X.set i (.int .u8 n), ∃ z, y = Value.int .u8 z := fun y hy => by
  rcases List.mem_or_eq_of_mem_set hy with h1 | rfl
  · exact h y h1
  · exact ⟨_, rfl⟩
theorem rdO_one {X : List Value} {e : TypeId} {w : Bool} {sp : Spare} {i : Nat} (hi : i < X.length) : rdO (.cells X e w sp) i 1 = some [X[i]] := by
  rw [rdO_cells]
  unfold cutL
  rw [if_pos (by omega), List.drop_eq_getElem_cons (by omega)]; rfl
theorem dstep_off {M M1 M2 : AMem} {p : Nat} {v v1 : Value} (hs : DStep p v M v1 M1) (e1 : M2.size = M1.size) (e2 : ∀ y, y ≠ M.size + 1 → M2.get y = M1.get y) : DStep p v M v1 (mx M2 []) :=
  have h : Keep (fun x => x = p ∨ ownV v x) M M2 := ⟨by rw [e1]; exact hs.1.1, fun y hy ho => by rw [e2 y (by omega)]; exact hs.1.2 y hy ho⟩
  ⟨h.mx _, hs.2⟩
omit [Ex] in
theorem does_ok (m0 M : AMem) (p : Nat) (v : Value) (d : DiskR) (h : @DIn ⟨p⟩ m0 M p v d) (k : Nat) (hb : Bud d k) (hk : k ≤ 5000) (x : ActR) (hx : x.ok) (ka : Option Addr) (kc : Nat) (hA : ActV m0 x ka kc) (hs : x.b.length ≤ 1000) :
    RelC Try.prog 0 23 [.pointer (some ⟨p, 0, none⟩), .agg (actRow x ka kc).toArray] M fun r m' => r = .tuple #[.int .i64 (doesR d x).1.1, .string ⟨(doesR d x).1.2.toArray⟩] ∧ ∃ v', @DIn ⟨p⟩ m0 m' p v' (doesR d x).2 ∧ DStep p v M v' m' := by
  refine rel_of_W (fn := Try.f23) rfl rfl F23_ok (by simp [F23]) ?_
  letI : Ex := ⟨p⟩
  have hn0 := Int.tmod_nonneg 10 hx.act.1
  have hn9 := Int.tmod_lt_of_pos x.act (show (0 : Int) < 10 by omega)
  have hI := h.mx [.cells (actRow x ka kc) 44 true .exact]
  have hO1 := Old.here M [.cells (actRow x ka kc) 44 true .exact]
  simp only [actRow] at hI hO1
  generalize hq : x.act.tmod 10 = q at hn0 hn9
  have fin : ∀ (r : Int) (s : List UInt8) (d' : DiskR) (m' : AMem) (v' : Value), doesR d x = ((r, s), d') → DIn m0 m' p v' d' → DStep p v M v' m' →
      (.tuple #[.int .i64 r, .string ⟨s.toArray⟩] : Value) = .tuple #[.int .i64 (doesR d x).1.1, .string ⟨(doesR d x).1.2.toArray⟩] ∧ ∃ v', DIn m0 m' p v' (doesR d x).2 ∧ DStep p v M v' m' := by
    rintro r s d' m' v' e h1 h2
    rw [e]; exact ⟨rfl, v', h1, h2⟩
  have stp : ∀ {v' : Value} {m' : AMem}, DStep p v (mx M [.cells (actRow x ka kc) 44 true .exact]) v' m' → DStep p v M v' (mx m' []) := fun hs => ⟨(hs.old (Old.here _ _)).1.mx _, (hs.old (Old.here _ _)).2⟩
  simp only [actRow] at stp
  by_cases q2 : q = 2
  · subst q2
    have hc := sync_in hI hb (by omega) x.name hx.name
    simp (implicitDefEqProofs := false) (maxSteps := 1000000) (disch := first | omega | with_reducible assumption | (simp only [List.length_map, List.length_cons, List.length_nil, List.length_set, List.length_append, List.length_replicate, List.length_take, List.length_drop, mk_size, AMem.size_set, Nat.reduceAdd]; omega)) only [amT, cut, bnd, Nat.reduceBEq, reduceCtorEq, Nat.reduceEqDiff, Nat.reduceAdd, Nat.reduceMul, Nat.reduceSub, Int.reduceToNat, Int.reduceEq, Int.reduceLT, Int.reduceLE, Int.reduceAdd, Int.reduceSub, Int.reduceMul, reduceIte, resVs, resV, packV, initT, addr, F23, actRow, cellsOf6, hq]; repeat (refine OrW.go ?_; try simp (implicitDefEqProofs := false) (maxSteps := 1000000) (disch := first | omega | with_reducible assumption | (simp only [List.length_map, List.length_cons, List.length_nil, List.length_set, List.length_append, List.length_replicate, List.length_take, List.length_drop, mk_size, AMem.size_set, Nat.reduceAdd]; omega)) only [amT, cut, bnd, Nat.reduceBEq, reduceCtorEq, Nat.reduceEqDiff, Nat.reduceAdd, Nat.reduceMul, Nat.reduceSub, Int.reduceToNat, Int.reduceEq, Int.reduceLT, Int.reduceLE, Int.reduceAdd, Int.reduceSub, Int.reduceMul, reduceIte, resVs, resV, packV, initT, addr, F23, actRow, cellsOf6, hq])
    refine RelC.call hc ?_
    rintro r M1 ⟨rfl, v1, h1, hst⟩
    simp (implicitDefEqProofs := false) (maxSteps := 1000000) (disch := first | omega | with_reducible assumption | (simp only [List.length_map, List.length_cons, List.length_nil, List.length_set, List.length_append, List.length_replicate, List.length_take, List.length_drop, mk_size, AMem.size_set, Nat.reduceAdd]; omega)) only [amT, cut, bnd, Nat.reduceBEq, reduceCtorEq, Nat.reduceEqDiff, Nat.reduceAdd, Nat.reduceMul, Nat.reduceSub, Int.reduceToNat, Int.reduceEq, Int.reduceLT, Int.reduceLE, Int.reduceAdd, Int.reduceSub, Int.reduceMul, reduceIte, resVs, resV, packV, initT, addr]; repeat (refine OrW.go ?_; try simp (implicitDefEqProofs := false) (maxSteps := 1000000) (disch := first | omega | with_reducible assumption | (simp only [List.length_map, List.length_cons, List.length_nil, List.length_set, List.length_append, List.length_replicate, List.length_take, List.length_drop, mk_size, AMem.size_set, Nat.reduceAdd]; omega)) only [amT, cut, bnd, Nat.reduceBEq, reduceCtorEq, Nat.reduceEqDiff, Nat.reduceAdd, Nat.reduceMul, Nat.reduceSub, Int.reduceToNat, Int.reduceEq, Int.reduceLT, Int.reduceLE, Int.reduceAdd, Int.reduceSub, Int.reduceMul, reduceIte, resVs, resV, packV, initT, addr])
    exact ⟨_, rfl, fun _ => fin _ _ _ _ _ (by simp [doesR, hq]) (h1.mx []) (stp hst)⟩
  by_cases q3 : q = 3
  · subst q3
    have hc := cut_in hI hb (by omega) x.name x.n hx.name
    simp (implicitDefEqProofs := false) (maxSteps := 1000000) (disch := first | omega | with_reducible assumption | (simp only [List.length_map, List.length_cons, List.length_nil, List.length_set, List.length_append, List.length_replicate, List.length_take, List.length_drop, mk_size, AMem.size_set, Nat.reduceAdd]; omega)) only [amT, cut, bnd, Nat.reduceBEq, reduceCtorEq, Nat.reduceEqDiff, Nat.reduceAdd, Nat.reduceMul, Nat.reduceSub, Int.reduceToNat, Int.reduceEq, Int.reduceLT, Int.reduceLE, Int.reduceAdd, Int.reduceSub, Int.reduceMul, reduceIte, resVs, resV, packV, initT, addr, F23, actRow, cellsOf6, hq]; repeat (refine OrW.go ?_; try simp (implicitDefEqProofs := false) (maxSteps := 1000000) (disch := first | omega | with_reducible assumption | (simp only [List.length_map, List.length_cons, List.length_nil, List.length_set, List.length_append, List.length_replicate, List.length_take, List.length_drop, mk_size, AMem.size_set, Nat.reduceAdd]; omega)) only [amT, cut, bnd, Nat.reduceBEq, reduceCtorEq, Nat.reduceEqDiff, Nat.reduceAdd, Nat.reduceMul, Nat.reduceSub, Int.reduceToNat, Int.reduceEq, Int.reduceLT, Int.reduceLE, Int.reduceAdd, Int.reduceSub, Int.reduceMul, reduceIte, resVs, resV, packV, initT, addr, F23, actRow, cellsOf6, hq])
    refine RelC.call hc ?_
    rintro r M1 ⟨rfl, v1, h1, hst⟩
    simp (implicitDefEqProofs := false) (maxSteps := 1000000) (disch := first | omega | with_reducible assumption | (simp only [List.length_map, List.length_cons, List.length_nil, List.length_set, List.length_append, List.length_replicate, List.length_take, List.length_drop, mk_size, AMem.size_set, Nat.reduceAdd]; omega)) only [amT, cut, bnd, Nat.reduceBEq, reduceCtorEq, Nat.reduceEqDiff, Nat.reduceAdd, Nat.reduceMul, Nat.reduceSub, Int.reduceToNat, Int.reduceEq, Int.reduceLT, Int.reduceLE, Int.reduceAdd, Int.reduceSub, Int.reduceMul, reduceIte, resVs, resV, packV, initT, addr]; repeat (refine OrW.go ?_; try simp (implicitDefEqProofs := false) (maxSteps := 1000000) (disch := first | omega | with_reducible assumption | (simp only [List.length_map, List.length_cons, List.length_nil, List.length_set, List.length_append, List.length_replicate, List.length_take, List.length_drop, mk_size, AMem.size_set, Nat.reduceAdd]; omega)) only [amT, cut, bnd, Nat.reduceBEq, reduceCtorEq, Nat.reduceEqDiff, Nat.reduceAdd, Nat.reduceMul, Nat.reduceSub, Int.reduceToNat, Int.reduceEq, Int.reduceLT, Int.reduceLE, Int.reduceAdd, Int.reduceSub, Int.reduceMul, reduceIte, resVs, resV, packV, initT, addr])
    exact ⟨_, rfl, fun _ => fin _ _ _ _ _ (by simp [doesR, hq]) (h1.mx []) (stp hst)⟩
  by_cases q4 : q = 4
  · subst q4
    have hc := rename_in hI hb (by omega) x.name x.to hx.name hx.to
    simp (implicitDefEqProofs := false) (maxSteps := 1000000) (disch := first | omega | with_reducible assumption | (simp only [List.length_map, List.length_cons, List.length_nil, List.length_set, List.length_append, List.length_replicate, List.length_take, List.length_drop, mk_size, AMem.size_set, Nat.reduceAdd]; omega)) only [amT, cut, bnd, Nat.reduceBEq, reduceCtorEq, Nat.reduceEqDiff, Nat.reduceAdd, Nat.reduceMul, Nat.reduceSub, Int.reduceToNat, Int.reduceEq, Int.reduceLT, Int.reduceLE, Int.reduceAdd, Int.reduceSub, Int.reduceMul, reduceIte, resVs, resV, packV, initT, addr, F23, actRow, cellsOf6, hq]; repeat (refine OrW.go ?_; try simp (implicitDefEqProofs := false) (maxSteps := 1000000) (disch := first | omega | with_reducible assumption | (simp only [List.length_map, List.length_cons, List.length_nil, List.length_set, List.length_append, List.length_replicate, List.length_take, List.length_drop, mk_size, AMem.size_set, Nat.reduceAdd]; omega)) only [amT, cut, bnd, Nat.reduceBEq, reduceCtorEq, Nat.reduceEqDiff, Nat.reduceAdd, Nat.reduceMul, Nat.reduceSub, Int.reduceToNat, Int.reduceEq, Int.reduceLT, Int.reduceLE, Int.reduceAdd, Int.reduceSub, Int.reduceMul, reduceIte, resVs, resV, packV, initT, addr, F23, actRow, cellsOf6, hq])
    refine RelC.call hc ?_
    rintro r M1 ⟨rfl, v1, h1, hst⟩
    simp (implicitDefEqProofs := false) (maxSteps := 1000000) (disch := first | omega | with_reducible assumption | (simp only [List.length_map, List.length_cons, List.length_nil, List.length_set, List.length_append, List.length_replicate, List.length_take, List.length_drop, mk_size, AMem.size_set, Nat.reduceAdd]; omega)) only [amT, cut, bnd, Nat.reduceBEq, reduceCtorEq, Nat.reduceEqDiff, Nat.reduceAdd, Nat.reduceMul, Nat.reduceSub, Int.reduceToNat, Int.reduceEq, Int.reduceLT, Int.reduceLE, Int.reduceAdd, Int.reduceSub, Int.reduceMul, reduceIte, resVs, resV, packV, initT, addr]; repeat (refine OrW.go ?_; try simp (implicitDefEqProofs := false) (maxSteps := 1000000) (disch := first | omega | with_reducible assumption | (simp only [List.length_map, List.length_cons, List.length_nil, List.length_set, List.length_append, List.length_replicate, List.length_take, List.length_drop, mk_size, AMem.size_set, Nat.reduceAdd]; omega)) only [amT, cut, bnd, Nat.reduceBEq, reduceCtorEq, Nat.reduceEqDiff, Nat.reduceAdd, Nat.reduceMul, Nat.reduceSub, Int.reduceToNat, Int.reduceEq, Int.reduceLT, Int.reduceLE, Int.reduceAdd, Int.reduceSub, Int.reduceMul, reduceIte, resVs, resV, packV, initT, addr])
    exact ⟨_, rfl, fun _ => fin _ _ _ _ _ (by simp [doesR, hq]) (h1.mx []) (stp hst)⟩
  by_cases q5 : q = 5
  · subst q5
    have hc := remove_in hI hb (by omega) x.name hx.name
    simp (implicitDefEqProofs := false) (maxSteps := 1000000) (disch := first | omega | with_reducible assumption | (simp only [List.length_map, List.length_cons, List.length_nil, List.length_set, List.length_append, List.length_replicate, List.length_take, List.length_drop, mk_size, AMem.size_set, Nat.reduceAdd]; omega)) only [amT, cut, bnd, Nat.reduceBEq, reduceCtorEq, Nat.reduceEqDiff, Nat.reduceAdd, Nat.reduceMul, Nat.reduceSub, Int.reduceToNat, Int.reduceEq, Int.reduceLT, Int.reduceLE, Int.reduceAdd, Int.reduceSub, Int.reduceMul, reduceIte, resVs, resV, packV, initT, addr, F23, actRow, cellsOf6, hq]; repeat (refine OrW.go ?_; try simp (implicitDefEqProofs := false) (maxSteps := 1000000) (disch := first | omega | with_reducible assumption | (simp only [List.length_map, List.length_cons, List.length_nil, List.length_set, List.length_append, List.length_replicate, List.length_take, List.length_drop, mk_size, AMem.size_set, Nat.reduceAdd]; omega)) only [amT, cut, bnd, Nat.reduceBEq, reduceCtorEq, Nat.reduceEqDiff, Nat.reduceAdd, Nat.reduceMul, Nat.reduceSub, Int.reduceToNat, Int.reduceEq, Int.reduceLT, Int.reduceLE, Int.reduceAdd, Int.reduceSub, Int.reduceMul, reduceIte, resVs, resV, packV, initT, addr, F23, actRow, cellsOf6, hq])
    refine RelC.call hc ?_
    rintro r M1 ⟨rfl, v1, h1, hst⟩
    simp (implicitDefEqProofs := false) (maxSteps := 1000000) (disch := first | omega | with_reducible assumption | (simp only [List.length_map, List.length_cons, List.length_nil, List.length_set, List.length_append, List.length_replicate, List.length_take, List.length_drop, mk_size, AMem.size_set, Nat.reduceAdd]; omega)) only [amT, cut, bnd, Nat.reduceBEq, reduceCtorEq, Nat.reduceEqDiff, Nat.reduceAdd, Nat.reduceMul, Nat.reduceSub, Int.reduceToNat, Int.reduceEq, Int.reduceLT, Int.reduceLE, Int.reduceAdd, Int.reduceSub, Int.reduceMul, reduceIte, resVs, resV, packV, initT, addr]; repeat (refine OrW.go ?_; try simp (implicitDefEqProofs := false) (maxSteps := 1000000) (disch := first | omega | with_reducible assumption | (simp only [List.length_map, List.length_cons, List.length_nil, List.length_set, List.length_append, List.length_replicate, List.length_take, List.length_drop, mk_size, AMem.size_set, Nat.reduceAdd]; omega)) only [amT, cut, bnd, Nat.reduceBEq, reduceCtorEq, Nat.reduceEqDiff, Nat.reduceAdd, Nat.reduceMul, Nat.reduceSub, Int.reduceToNat, Int.reduceEq, Int.reduceLT, Int.reduceLE, Int.reduceAdd, Int.reduceSub, Int.reduceMul, reduceIte, resVs, resV, packV, initT, addr])
    exact ⟨_, rfl, fun _ => fin _ _ _ _ _ (by simp [doesR, hq]) (h1.mx []) (stp hst)⟩
  by_cases q7 : q = 7
  · subst q7
    have hc := fail_in hI x.n
    simp (implicitDefEqProofs := false) (maxSteps := 1000000) (disch := first | omega | with_reducible assumption | (simp only [List.length_map, List.length_cons, List.length_nil, List.length_set, List.length_append, List.length_replicate, List.length_take, List.length_drop, mk_size, AMem.size_set, Nat.reduceAdd]; omega)) only [amT, cut, bnd, Nat.reduceBEq, reduceCtorEq, Nat.reduceEqDiff, Nat.reduceAdd, Nat.reduceMul, Nat.reduceSub, Int.reduceToNat, Int.reduceEq, Int.reduceLT, Int.reduceLE, Int.reduceAdd, Int.reduceSub, Int.reduceMul, reduceIte, resVs, resV, packV, initT, addr, F23, actRow, cellsOf6, hq]; repeat (refine OrW.go ?_; try simp (implicitDefEqProofs := false) (maxSteps := 1000000) (disch := first | omega | with_reducible assumption | (simp only [List.length_map, List.length_cons, List.length_nil, List.length_set, List.length_append, List.length_replicate, List.length_take, List.length_drop, mk_size, AMem.size_set, Nat.reduceAdd]; omega)) only [amT, cut, bnd, Nat.reduceBEq, reduceCtorEq, Nat.reduceEqDiff, Nat.reduceAdd, Nat.reduceMul, Nat.reduceSub, Int.reduceToNat, Int.reduceEq, Int.reduceLT, Int.reduceLE, Int.reduceAdd, Int.reduceSub, Int.reduceMul, reduceIte, resVs, resV, packV, initT, addr, F23, actRow, cellsOf6, hq])
    refine RelC.call hc ?_
    rintro r M1 ⟨rfl, v1, h1, hst⟩
    simp (implicitDefEqProofs := false) (maxSteps := 1000000) (disch := first | omega | with_reducible assumption | (simp only [List.length_map, List.length_cons, List.length_nil, List.length_set, List.length_append, List.length_replicate, List.length_take, List.length_drop, mk_size, AMem.size_set, Nat.reduceAdd]; omega)) only [amT, cut, bnd, Nat.reduceBEq, reduceCtorEq, Nat.reduceEqDiff, Nat.reduceAdd, Nat.reduceMul, Nat.reduceSub, Int.reduceToNat, Int.reduceEq, Int.reduceLT, Int.reduceLE, Int.reduceAdd, Int.reduceSub, Int.reduceMul, reduceIte, resVs, resV, packV, initT, addr]; repeat (refine OrW.go ?_; try simp (implicitDefEqProofs := false) (maxSteps := 1000000) (disch := first | omega | with_reducible assumption | (simp only [List.length_map, List.length_cons, List.length_nil, List.length_set, List.length_append, List.length_replicate, List.length_take, List.length_drop, mk_size, AMem.size_set, Nat.reduceAdd]; omega)) only [amT, cut, bnd, Nat.reduceBEq, reduceCtorEq, Nat.reduceEqDiff, Nat.reduceAdd, Nat.reduceMul, Nat.reduceSub, Int.reduceToNat, Int.reduceEq, Int.reduceLT, Int.reduceLE, Int.reduceAdd, Int.reduceSub, Int.reduceMul, reduceIte, resVs, resV, packV, initT, addr])
    exact ⟨_, rfl, fun _ => fin _ _ _ _ _ (by simp [doesR, hq]) (h1.mx []) (stp hst)⟩
  by_cases q8 : q = 8
  · subst q8
    have hc := crash_in hI
    simp (implicitDefEqProofs := false) (maxSteps := 1000000) (disch := first | omega | with_reducible assumption | (simp only [List.length_map, List.length_cons, List.length_nil, List.length_set, List.length_append, List.length_replicate, List.length_take, List.length_drop, mk_size, AMem.size_set, Nat.reduceAdd]; omega)) only [amT, cut, bnd, Nat.reduceBEq, reduceCtorEq, Nat.reduceEqDiff, Nat.reduceAdd, Nat.reduceMul, Nat.reduceSub, Int.reduceToNat, Int.reduceEq, Int.reduceLT, Int.reduceLE, Int.reduceAdd, Int.reduceSub, Int.reduceMul, reduceIte, resVs, resV, packV, initT, addr, F23, actRow, cellsOf6, hq]; repeat (refine OrW.go ?_; try simp (implicitDefEqProofs := false) (maxSteps := 1000000) (disch := first | omega | with_reducible assumption | (simp only [List.length_map, List.length_cons, List.length_nil, List.length_set, List.length_append, List.length_replicate, List.length_take, List.length_drop, mk_size, AMem.size_set, Nat.reduceAdd]; omega)) only [amT, cut, bnd, Nat.reduceBEq, reduceCtorEq, Nat.reduceEqDiff, Nat.reduceAdd, Nat.reduceMul, Nat.reduceSub, Int.reduceToNat, Int.reduceEq, Int.reduceLT, Int.reduceLE, Int.reduceAdd, Int.reduceSub, Int.reduceMul, reduceIte, resVs, resV, packV, initT, addr, F23, actRow, cellsOf6, hq])
    refine RelC.call hc ?_
    rintro r M1 ⟨rfl, v1, h1, hst⟩
    simp (implicitDefEqProofs := false) (maxSteps := 1000000) (disch := first | omega | with_reducible assumption | (simp only [List.length_map, List.length_cons, List.length_nil, List.length_set, List.length_append, List.length_replicate, List.length_take, List.length_drop, mk_size, AMem.size_set, Nat.reduceAdd]; omega)) only [amT, cut, bnd, Nat.reduceBEq, reduceCtorEq, Nat.reduceEqDiff, Nat.reduceAdd, Nat.reduceMul, Nat.reduceSub, Int.reduceToNat, Int.reduceEq, Int.reduceLT, Int.reduceLE, Int.reduceAdd, Int.reduceSub, Int.reduceMul, reduceIte, resVs, resV, packV, initT, addr]; repeat (refine OrW.go ?_; try simp (implicitDefEqProofs := false) (maxSteps := 1000000) (disch := first | omega | with_reducible assumption | (simp only [List.length_map, List.length_cons, List.length_nil, List.length_set, List.length_append, List.length_replicate, List.length_take, List.length_drop, mk_size, AMem.size_set, Nat.reduceAdd]; omega)) only [amT, cut, bnd, Nat.reduceBEq, reduceCtorEq, Nat.reduceEqDiff, Nat.reduceAdd, Nat.reduceMul, Nat.reduceSub, Int.reduceToNat, Int.reduceEq, Int.reduceLT, Int.reduceLE, Int.reduceAdd, Int.reduceSub, Int.reduceMul, reduceIte, resVs, resV, packV, initT, addr])
    exact ⟨_, rfl, fun _ => fin _ _ _ _ _ (by simp [doesR, hq]) (h1.mx []) (stp hst)⟩
  by_cases q9 : q = 9
  · subst q9
    have hc := on_in hI hb (by omega) (.slice ka x.keep.length kc) x.keep (hA.1.old hI.old) hx.keep hx.k64 (fun b o n c e => by cases e; have := hA.2 b o rfl; have := hI.ap; omega)
    simp (implicitDefEqProofs := false) (maxSteps := 1000000) (disch := first | omega | with_reducible assumption | (simp only [List.length_map, List.length_cons, List.length_nil, List.length_set, List.length_append, List.length_replicate, List.length_take, List.length_drop, mk_size, AMem.size_set, Nat.reduceAdd]; omega)) only [amT, cut, bnd, Nat.reduceBEq, reduceCtorEq, Nat.reduceEqDiff, Nat.reduceAdd, Nat.reduceMul, Nat.reduceSub, Int.reduceToNat, Int.reduceEq, Int.reduceLT, Int.reduceLE, Int.reduceAdd, Int.reduceSub, Int.reduceMul, reduceIte, resVs, resV, packV, initT, addr, F23, actRow, cellsOf6, hq]; repeat (refine OrW.go ?_; try simp (implicitDefEqProofs := false) (maxSteps := 1000000) (disch := first | omega | with_reducible assumption | (simp only [List.length_map, List.length_cons, List.length_nil, List.length_set, List.length_append, List.length_replicate, List.length_take, List.length_drop, mk_size, AMem.size_set, Nat.reduceAdd]; omega)) only [amT, cut, bnd, Nat.reduceBEq, reduceCtorEq, Nat.reduceEqDiff, Nat.reduceAdd, Nat.reduceMul, Nat.reduceSub, Int.reduceToNat, Int.reduceEq, Int.reduceLT, Int.reduceLE, Int.reduceAdd, Int.reduceSub, Int.reduceMul, reduceIte, resVs, resV, packV, initT, addr, F23, actRow, cellsOf6, hq])
    refine RelC.call hc ?_
    rintro r M1 ⟨rfl, v1, h1, hst⟩
    simp (implicitDefEqProofs := false) (maxSteps := 1000000) (disch := first | omega | with_reducible assumption | (simp only [List.length_map, List.length_cons, List.length_nil, List.length_set, List.length_append, List.length_replicate, List.length_take, List.length_drop, mk_size, AMem.size_set, Nat.reduceAdd]; omega)) only [amT, cut, bnd, Nat.reduceBEq, reduceCtorEq, Nat.reduceEqDiff, Nat.reduceAdd, Nat.reduceMul, Nat.reduceSub, Int.reduceToNat, Int.reduceEq, Int.reduceLT, Int.reduceLE, Int.reduceAdd, Int.reduceSub, Int.reduceMul, reduceIte, resVs, resV, packV, initT, addr]; repeat (refine OrW.go ?_; try simp (implicitDefEqProofs := false) (maxSteps := 1000000) (disch := first | omega | with_reducible assumption | (simp only [List.length_map, List.length_cons, List.length_nil, List.length_set, List.length_append, List.length_replicate, List.length_take, List.length_drop, mk_size, AMem.size_set, Nat.reduceAdd]; omega)) only [amT, cut, bnd, Nat.reduceBEq, reduceCtorEq, Nat.reduceEqDiff, Nat.reduceAdd, Nat.reduceMul, Nat.reduceSub, Int.reduceToNat, Int.reduceEq, Int.reduceLT, Int.reduceLE, Int.reduceAdd, Int.reduceSub, Int.reduceMul, reduceIte, resVs, resV, packV, initT, addr])
    exact ⟨_, rfl, fun _ => fin _ _ _ _ _ (by simp [doesR, hq]) (h1.mx []) (stp hst)⟩
  by_cases q6 : q = 6
  · subst q6
    have hc := read_in hI hb (by omega) x.name hx.name
    simp (implicitDefEqProofs := false) (maxSteps := 1000000) (disch := first | omega | with_reducible assumption | (simp only [List.length_map, List.length_cons, List.length_nil, List.length_set, List.length_append, List.length_replicate, List.length_take, List.length_drop, mk_size, AMem.size_set, Nat.reduceAdd]; omega)) only [amT, cut, bnd, Nat.reduceBEq, reduceCtorEq, Nat.reduceEqDiff, Nat.reduceAdd, Nat.reduceMul, Nat.reduceSub, Int.reduceToNat, Int.reduceEq, Int.reduceLT, Int.reduceLE, Int.reduceAdd, Int.reduceSub, Int.reduceMul, reduceIte, resVs, resV, packV, initT, addr, F23, actRow, cellsOf6, hq]; repeat (refine OrW.go ?_; try simp (implicitDefEqProofs := false) (maxSteps := 1000000) (disch := first | omega | with_reducible assumption | (simp only [List.length_map, List.length_cons, List.length_nil, List.length_set, List.length_append, List.length_replicate, List.length_take, List.length_drop, mk_size, AMem.size_set, Nat.reduceAdd]; omega)) only [amT, cut, bnd, Nat.reduceBEq, reduceCtorEq, Nat.reduceEqDiff, Nat.reduceAdd, Nat.reduceMul, Nat.reduceSub, Int.reduceToNat, Int.reduceEq, Int.reduceLT, Int.reduceLE, Int.reduceAdd, Int.reduceSub, Int.reduceMul, reduceIte, resVs, resV, packV, initT, addr, F23, actRow, cellsOf6, hq])
    refine RelC.call hc ?_
    rintro r M1 ⟨b, rfl, h1, hO, hB⟩
    have hOM : Old M M1 := hO1.trans hO
    have hB0 := hB
    obtain ⟨ab, cb, rfl, hbs⟩ := hB0.bsl'
    have hstr := (hbs.old (Old.here M1 [])).str
    have hrl := read_len d x.name
    have hus := hb.used
    generalize hread : readR d x.name = rd at *
    obtain ⟨re, rs⟩ := rd
    simp only [] at hB hbs hstr hrl
    simp (implicitDefEqProofs := false) (maxSteps := 1000000) (disch := first | omega | with_reducible assumption | (simp only [List.length_map, List.length_cons, List.length_nil, List.length_set, List.length_append, List.length_replicate, List.length_take, List.length_drop, mk_size, AMem.size_set, Nat.reduceAdd]; omega)) only [amT, cut, bnd, Nat.reduceBEq, reduceCtorEq, Nat.reduceEqDiff, Nat.reduceAdd, Nat.reduceMul, Nat.reduceSub, Int.reduceToNat, Int.reduceEq, Int.reduceLT, Int.reduceLE, Int.reduceAdd, Int.reduceSub, Int.reduceMul, reduceIte, resVs, resV, packV, initT, addr, stepOp_b2s_v, hstr]; repeat (refine OrW.go ?_; try simp (implicitDefEqProofs := false) (maxSteps := 1000000) (disch := first | omega | with_reducible assumption | (simp only [List.length_map, List.length_cons, List.length_nil, List.length_set, List.length_append, List.length_replicate, List.length_take, List.length_drop, mk_size, AMem.size_set, Nat.reduceAdd]; omega)) only [amT, cut, bnd, Nat.reduceBEq, reduceCtorEq, Nat.reduceEqDiff, Nat.reduceAdd, Nat.reduceMul, Nat.reduceSub, Int.reduceToNat, Int.reduceEq, Int.reduceLT, Int.reduceLE, Int.reduceAdd, Int.reduceSub, Int.reduceMul, reduceIte, resVs, resV, packV, initT, addr, stepOp_b2s_v, hstr])
    refine W_loop (fun N qs => ∃ (i : Nat) (M2 : AMem), N = rs.length - i ∧ qs.ds = [] ∧ qs.m = mx M2 [] ∧ qs.t 9 = .slice ab rs.length cb ∧ qs.t 10 = .int .i64 re ∧ qs.t 11 = .string ⟨rs.toArray⟩ ∧ qs.t 12 = .int .i64 i ∧ i ≤ rs.length ∧ Old (mx M [.cells (actRow x ka kc) 44 true .exact]) M2 ∧ (rs = [] ∨ ∃ bb X, ab = some ⟨bb, 0, none⟩ ∧ (mx M [.cells (actRow x ka kc) 44 true .exact]).size ≤ bb ∧ bb < M2.size ∧ M2.get bb = .cells X 5 true (.room [.int .u8 0]) ∧ X.length = rs.length ∧ ∀ y ∈ X, ∃ z, y = Value.int .u8 z)) (rs.length - (0)) ⟨0, M1, rfl, rfl, by first | rfl | (simp (implicitDefEqProofs := false) (maxSteps := 1000000) (disch := first | omega | with_reducible assumption | (simp only [List.length_map, List.length_cons, List.length_nil, List.length_set, List.length_append, List.length_replicate, List.length_take, List.length_drop, mk_size, AMem.size_set, Nat.reduceAdd]; omega)) only [amT, cut, bnd, Nat.reduceBEq, reduceCtorEq, Nat.reduceEqDiff, Nat.reduceAdd, Nat.reduceMul, Nat.reduceSub, Int.reduceToNat, Int.reduceEq, Int.reduceLT, Int.reduceLE, Int.reduceAdd, Int.reduceSub, Int.reduceMul, reduceIte, resVs, resV, packV, initT, addr]; first | done | rfl | (congr 1; omega)), by first | rfl | (simp (implicitDefEqProofs := false) (maxSteps := 1000000) (disch := first | omega | with_reducible assumption | (simp only [List.length_map, List.length_cons, List.length_nil, List.length_set, List.length_append, List.length_replicate, List.length_take, List.length_drop, mk_size, AMem.size_set, Nat.reduceAdd]; omega)) only [amT, cut, bnd, Nat.reduceBEq, reduceCtorEq, Nat.reduceEqDiff, Nat.reduceAdd, Nat.reduceMul, Nat.reduceSub, Int.reduceToNat, Int.reduceEq, Int.reduceLT, Int.reduceLE, Int.reduceAdd, Int.reduceSub, Int.reduceMul, reduceIte, resVs, resV, packV, initT, addr]; first | done | rfl | (congr 1; omega)), by first | rfl | (simp (implicitDefEqProofs := false) (maxSteps := 1000000) (disch := first | omega | with_reducible assumption | (simp only [List.length_map, List.length_cons, List.length_nil, List.length_set, List.length_append, List.length_replicate, List.length_take, List.length_drop, mk_size, AMem.size_set, Nat.reduceAdd]; omega)) only [amT, cut, bnd, Nat.reduceBEq, reduceCtorEq, Nat.reduceEqDiff, Nat.reduceAdd, Nat.reduceMul, Nat.reduceSub, Int.reduceToNat, Int.reduceEq, Int.reduceLT, Int.reduceLE, Int.reduceAdd, Int.reduceSub, Int.reduceMul, reduceIte, resVs, resV, packV, initT, addr]; first | done | rfl | (congr 1; omega)), by first | rfl | (simp (implicitDefEqProofs := false) (maxSteps := 1000000) (disch := first | omega | with_reducible assumption | (simp only [List.length_map, List.length_cons, List.length_nil, List.length_set, List.length_append, List.length_replicate, List.length_take, List.length_drop, mk_size, AMem.size_set, Nat.reduceAdd]; omega)) only [amT, cut, bnd, Nat.reduceBEq, reduceCtorEq, Nat.reduceEqDiff, Nat.reduceAdd, Nat.reduceMul, Nat.reduceSub, Int.reduceToNat, Int.reduceEq, Int.reduceLT, Int.reduceLE, Int.reduceAdd, Int.reduceSub, Int.reduceMul, reduceIte, resVs, resV, packV, initT, addr]; first | done | rfl | (congr 1; omega)), by first | rfl | (simp (implicitDefEqProofs := false) (maxSteps := 1000000) (disch := first | omega | with_reducible assumption | (simp only [List.length_map, List.length_cons, List.length_nil, List.length_set, List.length_append, List.length_replicate, List.length_take, List.length_drop, mk_size, AMem.size_set, Nat.reduceAdd]; omega)) only [amT, cut, bnd, Nat.reduceBEq, reduceCtorEq, Nat.reduceEqDiff, Nat.reduceAdd, Nat.reduceMul, Nat.reduceSub, Int.reduceToNat, Int.reduceEq, Int.reduceLT, Int.reduceLE, Int.reduceAdd, Int.reduceSub, Int.reduceMul, reduceIte, resVs, resV, packV, initT, addr]; first | done | rfl | (congr 1; omega)), ?_⟩ ?_
    · refine ⟨by omega, hO, ?_⟩
      rcases hB with ⟨h, _⟩ | ⟨bb, g1, g2, g3, g4⟩
      · exact .inl (by simpa using h)
      · rw [List.length_map] at g3
        cases g3
        exact .inr ⟨bb, _, rfl, g1, g2, g4, by simp, fun y hy => by simp only [List.mem_map] at hy; obtain ⟨z, _, rfl⟩ := hy; exact ⟨_, rfl⟩⟩
    · rintro N t m1 ds ⟨i, M2, rfl, hds, hm, t9, t10, t11, t12, hp⟩
      simp only at hds hm t9 t10 t11 t12
      subst hds; replace hm := hm.symm; subst hm
      obtain ⟨hi, hO2, hX⟩ := hp
      by_cases hil : (i : Int) < (rs.length : Int)
      · rcases hX with rfl | ⟨bb, X, rfl, g1, g2, g3, g4, g5⟩
        · simp at hil; omega
        · have hiX : i < X.length := by omega
          obtain ⟨z, hz⟩ := g5 _ (List.getElem_mem hiX)
          have hXi : X[i]? = some (.int .u8 z) := by rw [List.getElem?_eq_getElem hiX, hz]
          simp (implicitDefEqProofs := false) (maxSteps := 1000000) (disch := first | omega | with_reducible assumption | (simp only [List.length_map, List.length_cons, List.length_nil, List.length_set, List.length_append, List.length_replicate, List.length_take, List.length_drop, mk_size, AMem.size_set, Nat.reduceAdd]; omega)) only [amT, cut, bnd, Nat.reduceBEq, reduceCtorEq, Nat.reduceEqDiff, Nat.reduceAdd, Nat.reduceMul, Nat.reduceSub, Int.reduceToNat, Int.reduceEq, Int.reduceLT, Int.reduceLE, Int.reduceAdd, Int.reduceSub, Int.reduceMul, reduceIte, resVs, resV, packV, initT, addr, F23_l1, t9, t10, t11, t12, hil, hXi, g3]; repeat (refine OrW.go ?_; try simp (implicitDefEqProofs := false) (maxSteps := 1000000) (disch := first | omega | with_reducible assumption | (simp only [List.length_map, List.length_cons, List.length_nil, List.length_set, List.length_append, List.length_replicate, List.length_take, List.length_drop, mk_size, AMem.size_set, Nat.reduceAdd]; omega)) only [amT, cut, bnd, Nat.reduceBEq, reduceCtorEq, Nat.reduceEqDiff, Nat.reduceAdd, Nat.reduceMul, Nat.reduceSub, Int.reduceToNat, Int.reduceEq, Int.reduceLT, Int.reduceLE, Int.reduceAdd, Int.reduceSub, Int.reduceMul, reduceIte, resVs, resV, packV, initT, addr, F23_l1, t9, t10, t11, t12, hil, hXi, g3])
          rw [LoopK_normal]; refine ⟨_, ?_, i + 1, M2.set bb (.cells (X.set i (.int .u8 (ibits .xor .u8 z 255))) 5 true (.room [.int .u8 0])), rfl, rfl, by first | rfl | (simp (implicitDefEqProofs := false) (maxSteps := 1000000) (disch := first | omega | with_reducible assumption | (simp only [List.length_map, List.length_cons, List.length_nil, List.length_set, List.length_append, List.length_replicate, List.length_take, List.length_drop, mk_size, AMem.size_set, Nat.reduceAdd]; omega)) only [amT, cut, bnd, Nat.reduceBEq, reduceCtorEq, Nat.reduceEqDiff, Nat.reduceAdd, Nat.reduceMul, Nat.reduceSub, Int.reduceToNat, Int.reduceEq, Int.reduceLT, Int.reduceLE, Int.reduceAdd, Int.reduceSub, Int.reduceMul, reduceIte, resVs, resV, packV, initT, addr, t9, t10, t11, t12]; first | done | rfl | (congr 1; omega)), by first | rfl | (simp (implicitDefEqProofs := false) (maxSteps := 1000000) (disch := first | omega | with_reducible assumption | (simp only [List.length_map, List.length_cons, List.length_nil, List.length_set, List.length_append, List.length_replicate, List.length_take, List.length_drop, mk_size, AMem.size_set, Nat.reduceAdd]; omega)) only [amT, cut, bnd, Nat.reduceBEq, reduceCtorEq, Nat.reduceEqDiff, Nat.reduceAdd, Nat.reduceMul, Nat.reduceSub, Int.reduceToNat, Int.reduceEq, Int.reduceLT, Int.reduceLE, Int.reduceAdd, Int.reduceSub, Int.reduceMul, reduceIte, resVs, resV, packV, initT, addr, t9, t10, t11, t12]; first | done | rfl | (congr 1; omega)), by first | rfl | (simp (implicitDefEqProofs := false) (maxSteps := 1000000) (disch := first | omega | with_reducible assumption | (simp only [List.length_map, List.length_cons, List.length_nil, List.length_set, List.length_append, List.length_replicate, List.length_take, List.length_drop, mk_size, AMem.size_set, Nat.reduceAdd]; omega)) only [amT, cut, bnd, Nat.reduceBEq, reduceCtorEq, Nat.reduceEqDiff, Nat.reduceAdd, Nat.reduceMul, Nat.reduceSub, Int.reduceToNat, Int.reduceEq, Int.reduceLT, Int.reduceLE, Int.reduceAdd, Int.reduceSub, Int.reduceMul, reduceIte, resVs, resV, packV, initT, addr, t9, t10, t11, t12]; first | done | rfl | (congr 1; omega)), by first | rfl | (simp (implicitDefEqProofs := false) (maxSteps := 1000000) (disch := first | omega | with_reducible assumption | (simp only [List.length_map, List.length_cons, List.length_nil, List.length_set, List.length_append, List.length_replicate, List.length_take, List.length_drop, mk_size, AMem.size_set, Nat.reduceAdd]; omega)) only [amT, cut, bnd, Nat.reduceBEq, reduceCtorEq, Nat.reduceEqDiff, Nat.reduceAdd, Nat.reduceMul, Nat.reduceSub, Int.reduceToNat, Int.reduceEq, Int.reduceLT, Int.reduceLE, Int.reduceAdd, Int.reduceSub, Int.reduceMul, reduceIte, resVs, resV, packV, initT, addr, t9, t10, t11, t12]; first | done | rfl | (congr 1; omega)), by first | rfl | (simp (implicitDefEqProofs := false) (maxSteps := 1000000) (disch := first | omega | with_reducible assumption | (simp only [List.length_map, List.length_cons, List.length_nil, List.length_set, List.length_append, List.length_replicate, List.length_take, List.length_drop, mk_size, AMem.size_set, Nat.reduceAdd]; omega)) only [amT, cut, bnd, Nat.reduceBEq, reduceCtorEq, Nat.reduceEqDiff, Nat.reduceAdd, Nat.reduceMul, Nat.reduceSub, Int.reduceToNat, Int.reduceEq, Int.reduceLT, Int.reduceLE, Int.reduceAdd, Int.reduceSub, Int.reduceMul, reduceIte, resVs, resV, packV, initT, addr, t9, t10, t11, t12]; first | done | rfl | (congr 1; omega)), ?_⟩
          · omega
          · refine ⟨by omega, hO2.set g1 _, .inr ⟨bb, _, rfl, g1, by rw [AMem.size_set]; exact g2, AMem.get_set_self _ _ _, by rw [List.length_set]; exact g4, u8s_set g5 _ _⟩⟩
      · simp (implicitDefEqProofs := false) (maxSteps := 1000000) (disch := first | omega | with_reducible assumption | (simp only [List.length_map, List.length_cons, List.length_nil, List.length_set, List.length_append, List.length_replicate, List.length_take, List.length_drop, mk_size, AMem.size_set, Nat.reduceAdd]; omega)) only [amT, cut, bnd, Nat.reduceBEq, reduceCtorEq, Nat.reduceEqDiff, Nat.reduceAdd, Nat.reduceMul, Nat.reduceSub, Int.reduceToNat, Int.reduceEq, Int.reduceLT, Int.reduceLE, Int.reduceAdd, Int.reduceSub, Int.reduceMul, reduceIte, resVs, resV, packV, initT, addr, F23_l1, t9, t10, t11, t12, hil]; repeat (refine OrW.go ?_; try simp (implicitDefEqProofs := false) (maxSteps := 1000000) (disch := first | omega | with_reducible assumption | (simp only [List.length_map, List.length_cons, List.length_nil, List.length_set, List.length_append, List.length_replicate, List.length_take, List.length_drop, mk_size, AMem.size_set, Nat.reduceAdd]; omega)) only [amT, cut, bnd, Nat.reduceBEq, reduceCtorEq, Nat.reduceEqDiff, Nat.reduceAdd, Nat.reduceMul, Nat.reduceSub, Int.reduceToNat, Int.reduceEq, Int.reduceLT, Int.reduceLE, Int.reduceAdd, Int.reduceSub, Int.reduceMul, reduceIte, resVs, resV, packV, initT, addr, F23_l1, t9, t10, t11, t12, hil])
        exact ⟨_, rfl, fun _ => fin _ _ _ _ _ (by simp [doesR, hq, hread]) ((hI.keep hO2).mx []) ⟨((hO1.trans hO2).mx []).keep _, fun _ h => .inl h⟩⟩
  have q01 : q = 0 ∨ q = 1 := by omega
  have hbb : (mx M [.cells (actRow x ka kc) 44 true .exact, .cells (x.b.map byteV) 5 true (.room [.int .u8 0])]).size = M.size + 2 := by rw [mx_size]; rfl
  have hDb : @DIn ⟨M.size + 1⟩ m0 (mx M [.cells (actRow x ka kc) 44 true .exact, .cells (x.b.map byteV) 5 true (.room [.int .u8 0])]) p v d :=
    @DIn.mk ⟨M.size + 1⟩ _ _ _ _ _ (DAt.swap (x := p) h.here (Old.here _ _) (fun X w sp hy => by omega) (by rw [hbb]; omega)) (h.old.mx _) h.ap h.own
  have hown : ¬ ownV v (M.size + 1) := fun e => by have := own_lt h.here.files e; omega
  have hlt := h.here.lt
  have hms := h.old.1
  have hc := @append_in ⟨M.size + 1⟩ m0 _ p v d k hDb hb (by omega) x.name _ openCap x.b hx.name (bsl_room M _ 1 rfl rfl) hx.b
  have fin2 : ∀ (M1 M2 : AMem) (v1 : Value) (X : List Value), @DIn ⟨M.size + 1⟩ m0 M1 p v1 (appendR d x.name x.b).2 → DStep p v (mx M [.cells (actRow x ka kc) 44 true .exact, .cells (x.b.map byteV) 5 true (.room [.int .u8 0])]) v1 M1 →
      M2.size = M1.size → (∀ y, y ≠ M.size + 1 → M2.get y = M1.get y) → M1.get (M.size + 1) = .cells X 5 true (.room [.int .u8 0]) →
      DIn m0 (mx M2 []) p v1 (appendR d x.name x.b).2 ∧ DStep p v M v1 (mx M2 []) := by
    intro M1 M2 v1 X h1 hs e1 e2 e3
    have h2 : @DIn ⟨M.size + 1⟩ m0 M2 p v1 (appendR d x.name x.b).2 := @DIn.offx ⟨M.size + 1⟩ _ _ _ _ _ _ h1 _ _ _ e3 (Nat.le_of_eq e1.symm) e2 (by show m0.size ≤ M.size + 1; omega)
    have hA2 := @DIn.here ⟨M.size + 1⟩ _ _ _ _ _ h2
    have hg2 := @DAt.get ⟨M.size + 1⟩ _ _ _ _ hA2
    have hl2 := @DAt.lt ⟨M.size + 1⟩ _ _ _ _ hA2
    have h3 : DIn m0 M2 p v1 (appendR d x.name x.b).2 := @DIn.mk ⟨p⟩ _ _ _ _ _ (DAt.swap (x := M.size + 1) (y := p) hA2 (Old.refl M2) (fun X w sp hy e => by rw [hg2] at e; cases e) hl2) (@DIn.old ⟨M.size + 1⟩ _ _ _ _ _ h2) (@DIn.ap ⟨M.size + 1⟩ _ _ _ _ _ h2) (@DIn.own ⟨M.size + 1⟩ _ _ _ _ _ h2)
    have hs1 := hs.old (Old.here M _)
    refine ⟨h3.mx _, dstep_off hs1 e1 e2⟩
  rcases q01 with rfl | rfl
  · simp (implicitDefEqProofs := false) (maxSteps := 1000000) (disch := first | omega | with_reducible assumption | (simp only [List.length_map, List.length_cons, List.length_nil, List.length_set, List.length_append, List.length_replicate, List.length_take, List.length_drop, mk_size, AMem.size_set, Nat.reduceAdd]; omega)) only [amT, cut, bnd, Nat.reduceBEq, reduceCtorEq, Nat.reduceEqDiff, Nat.reduceAdd, Nat.reduceMul, Nat.reduceSub, Int.reduceToNat, Int.reduceEq, Int.reduceLT, Int.reduceLE, Int.reduceAdd, Int.reduceSub, Int.reduceMul, reduceIte, resVs, resV, packV, initT, addr, F23, actRow, cellsOf6, hq]; repeat (refine OrW.go ?_; try simp (implicitDefEqProofs := false) (maxSteps := 1000000) (disch := first | omega | with_reducible assumption | (simp only [List.length_map, List.length_cons, List.length_nil, List.length_set, List.length_append, List.length_replicate, List.length_take, List.length_drop, mk_size, AMem.size_set, Nat.reduceAdd]; omega)) only [amT, cut, bnd, Nat.reduceBEq, reduceCtorEq, Nat.reduceEqDiff, Nat.reduceAdd, Nat.reduceMul, Nat.reduceSub, Int.reduceToNat, Int.reduceEq, Int.reduceLT, Int.reduceLE, Int.reduceAdd, Int.reduceSub, Int.reduceMul, reduceIte, resVs, resV, packV, initT, addr, F23, actRow, cellsOf6, hq])
    refine RelC.call hc ?_
    rintro r M1 ⟨rfl, v1, h1, hst⟩
    have hbM1 : M1.get (M.size + 1) = .cells (x.b.map byteV) 5 true (.room [.int .u8 0]) := by
      rw [hst.1.2 _ (by rw [hbb]; omega) (fun e => by rcases e with e | e; omega; exact hown e)]
      exact mx_new _ _ 1
    have hM1s : M.size + 2 ≤ M1.size := by have := hst.1.1; rw [hbb] at this; exact this
    simp (implicitDefEqProofs := false) (maxSteps := 1000000) (disch := first | omega | with_reducible assumption | (simp only [List.length_map, List.length_cons, List.length_nil, List.length_set, List.length_append, List.length_replicate, List.length_take, List.length_drop, mk_size, AMem.size_set, Nat.reduceAdd]; omega)) only [amT, cut, bnd, Nat.reduceBEq, reduceCtorEq, Nat.reduceEqDiff, Nat.reduceAdd, Nat.reduceMul, Nat.reduceSub, Int.reduceToNat, Int.reduceEq, Int.reduceLT, Int.reduceLE, Int.reduceAdd, Int.reduceSub, Int.reduceMul, reduceIte, resVs, resV, packV, initT, addr]; repeat (refine OrW.go ?_; try simp (implicitDefEqProofs := false) (maxSteps := 1000000) (disch := first | omega | with_reducible assumption | (simp only [List.length_map, List.length_cons, List.length_nil, List.length_set, List.length_append, List.length_replicate, List.length_take, List.length_drop, mk_size, AMem.size_set, Nat.reduceAdd]; omega)) only [amT, cut, bnd, Nat.reduceBEq, reduceCtorEq, Nat.reduceEqDiff, Nat.reduceAdd, Nat.reduceMul, Nat.reduceSub, Int.reduceToNat, Int.reduceEq, Int.reduceLT, Int.reduceLE, Int.reduceAdd, Int.reduceSub, Int.reduceMul, reduceIte, resVs, resV, packV, initT, addr])
    refine W_loop (fun N qs => ∃ (i : Nat) (M2 : AMem) (X : List Value), N = x.b.length - i ∧ qs.ds = [] ∧ qs.m = mx M2 [] ∧ qs.t 6 = .slice (some ⟨M.size + 1, 0, none⟩) x.b.length openCap ∧ qs.t 7 = .int .i64 (appendR d x.name x.b).1 ∧ qs.t 8 = .int .i64 i ∧ i ≤ x.b.length ∧ M2.size = M1.size ∧ (∀ y, y ≠ M.size + 1 → M2.get y = M1.get y) ∧ M2.get (M.size + 1) = .cells X 5 true (.room [.int .u8 0]) ∧ X.length = x.b.length ∧ ∀ y ∈ X, ∃ z, y = Value.int .u8 z) (x.b.length - (0)) ⟨0, M1, x.b.map byteV, rfl, rfl, by first | rfl | (simp (implicitDefEqProofs := false) (maxSteps := 1000000) (disch := first | omega | with_reducible assumption | (simp only [List.length_map, List.length_cons, List.length_nil, List.length_set, List.length_append, List.length_replicate, List.length_take, List.length_drop, mk_size, AMem.size_set, Nat.reduceAdd]; omega)) only [amT, cut, bnd, Nat.reduceBEq, reduceCtorEq, Nat.reduceEqDiff, Nat.reduceAdd, Nat.reduceMul, Nat.reduceSub, Int.reduceToNat, Int.reduceEq, Int.reduceLT, Int.reduceLE, Int.reduceAdd, Int.reduceSub, Int.reduceMul, reduceIte, resVs, resV, packV, initT, addr]; first | done | rfl | (congr 1; omega)), by first | rfl | (simp (implicitDefEqProofs := false) (maxSteps := 1000000) (disch := first | omega | with_reducible assumption | (simp only [List.length_map, List.length_cons, List.length_nil, List.length_set, List.length_append, List.length_replicate, List.length_take, List.length_drop, mk_size, AMem.size_set, Nat.reduceAdd]; omega)) only [amT, cut, bnd, Nat.reduceBEq, reduceCtorEq, Nat.reduceEqDiff, Nat.reduceAdd, Nat.reduceMul, Nat.reduceSub, Int.reduceToNat, Int.reduceEq, Int.reduceLT, Int.reduceLE, Int.reduceAdd, Int.reduceSub, Int.reduceMul, reduceIte, resVs, resV, packV, initT, addr]; first | done | rfl | (congr 1; omega)), by first | rfl | (simp (implicitDefEqProofs := false) (maxSteps := 1000000) (disch := first | omega | with_reducible assumption | (simp only [List.length_map, List.length_cons, List.length_nil, List.length_set, List.length_append, List.length_replicate, List.length_take, List.length_drop, mk_size, AMem.size_set, Nat.reduceAdd]; omega)) only [amT, cut, bnd, Nat.reduceBEq, reduceCtorEq, Nat.reduceEqDiff, Nat.reduceAdd, Nat.reduceMul, Nat.reduceSub, Int.reduceToNat, Int.reduceEq, Int.reduceLT, Int.reduceLE, Int.reduceAdd, Int.reduceSub, Int.reduceMul, reduceIte, resVs, resV, packV, initT, addr]; first | done | rfl | (congr 1; omega)), by first | rfl | (simp (implicitDefEqProofs := false) (maxSteps := 1000000) (disch := first | omega | with_reducible assumption | (simp only [List.length_map, List.length_cons, List.length_nil, List.length_set, List.length_append, List.length_replicate, List.length_take, List.length_drop, mk_size, AMem.size_set, Nat.reduceAdd]; omega)) only [amT, cut, bnd, Nat.reduceBEq, reduceCtorEq, Nat.reduceEqDiff, Nat.reduceAdd, Nat.reduceMul, Nat.reduceSub, Int.reduceToNat, Int.reduceEq, Int.reduceLT, Int.reduceLE, Int.reduceAdd, Int.reduceSub, Int.reduceMul, reduceIte, resVs, resV, packV, initT, addr]; first | done | rfl | (congr 1; omega)), ?_⟩ ?_
    · refine ⟨by omega, rfl, fun _ _ => rfl, hbM1, by simp, fun y hy => ?_⟩
      simp only [List.mem_map] at hy; obtain ⟨z, _, rfl⟩ := hy; exact ⟨_, rfl⟩
    · rintro N t m1 ds ⟨i, M2, X, rfl, hds, hm, t6, t7, t8, hp⟩
      simp only at hds hm t6 t7 t8
      subst hds; replace hm := hm.symm; subst hm
      obtain ⟨hi, e1, e2, g3, g4, g5⟩ := hp
      by_cases hil : (i : Int) < (x.b.length : Int)
      · have hiX : i < X.length := by omega
        obtain ⟨z, hz⟩ := g5 _ (List.getElem_mem hiX)
        have hXi : X[i]? = some (.int .u8 z) := by rw [List.getElem?_eq_getElem hiX, hz]
        have hbM2 : M.size + 1 < M2.size := by omega
        simp (implicitDefEqProofs := false) (maxSteps := 1000000) (disch := first | omega | with_reducible assumption | (simp only [List.length_map, List.length_cons, List.length_nil, List.length_set, List.length_append, List.length_replicate, List.length_take, List.length_drop, mk_size, AMem.size_set, Nat.reduceAdd]; omega)) only [amT, cut, bnd, Nat.reduceBEq, reduceCtorEq, Nat.reduceEqDiff, Nat.reduceAdd, Nat.reduceMul, Nat.reduceSub, Int.reduceToNat, Int.reduceEq, Int.reduceLT, Int.reduceLE, Int.reduceAdd, Int.reduceSub, Int.reduceMul, reduceIte, resVs, resV, packV, initT, addr, F23_l0, t6, t7, t8, hil, hXi, g3]; repeat (refine OrW.go ?_; try simp (implicitDefEqProofs := false) (maxSteps := 1000000) (disch := first | omega | with_reducible assumption | (simp only [List.length_map, List.length_cons, List.length_nil, List.length_set, List.length_append, List.length_replicate, List.length_take, List.length_drop, mk_size, AMem.size_set, Nat.reduceAdd]; omega)) only [amT, cut, bnd, Nat.reduceBEq, reduceCtorEq, Nat.reduceEqDiff, Nat.reduceAdd, Nat.reduceMul, Nat.reduceSub, Int.reduceToNat, Int.reduceEq, Int.reduceLT, Int.reduceLE, Int.reduceAdd, Int.reduceSub, Int.reduceMul, reduceIte, resVs, resV, packV, initT, addr, F23_l0, t6, t7, t8, hil, hXi, g3])
        rw [LoopK_normal]; refine ⟨_, ?_, i + 1, M2.set (M.size + 1) (.cells (X.set i (.int .u8 (ibits .xor .u8 z 255))) 5 true (.room [.int .u8 0])), X.set i (.int .u8 (ibits .xor .u8 z 255)), rfl, rfl, by first | rfl | (simp (implicitDefEqProofs := false) (maxSteps := 1000000) (disch := first | omega | with_reducible assumption | (simp only [List.length_map, List.length_cons, List.length_nil, List.length_set, List.length_append, List.length_replicate, List.length_take, List.length_drop, mk_size, AMem.size_set, Nat.reduceAdd]; omega)) only [amT, cut, bnd, Nat.reduceBEq, reduceCtorEq, Nat.reduceEqDiff, Nat.reduceAdd, Nat.reduceMul, Nat.reduceSub, Int.reduceToNat, Int.reduceEq, Int.reduceLT, Int.reduceLE, Int.reduceAdd, Int.reduceSub, Int.reduceMul, reduceIte, resVs, resV, packV, initT, addr, t6, t7, t8]; first | done | rfl | (congr 1; omega)), by first | rfl | (simp (implicitDefEqProofs := false) (maxSteps := 1000000) (disch := first | omega | with_reducible assumption | (simp only [List.length_map, List.length_cons, List.length_nil, List.length_set, List.length_append, List.length_replicate, List.length_take, List.length_drop, mk_size, AMem.size_set, Nat.reduceAdd]; omega)) only [amT, cut, bnd, Nat.reduceBEq, reduceCtorEq, Nat.reduceEqDiff, Nat.reduceAdd, Nat.reduceMul, Nat.reduceSub, Int.reduceToNat, Int.reduceEq, Int.reduceLT, Int.reduceLE, Int.reduceAdd, Int.reduceSub, Int.reduceMul, reduceIte, resVs, resV, packV, initT, addr, t6, t7, t8]; first | done | rfl | (congr 1; omega)), by first | rfl | (simp (implicitDefEqProofs := false) (maxSteps := 1000000) (disch := first | omega | with_reducible assumption | (simp only [List.length_map, List.length_cons, List.length_nil, List.length_set, List.length_append, List.length_replicate, List.length_take, List.length_drop, mk_size, AMem.size_set, Nat.reduceAdd]; omega)) only [amT, cut, bnd, Nat.reduceBEq, reduceCtorEq, Nat.reduceEqDiff, Nat.reduceAdd, Nat.reduceMul, Nat.reduceSub, Int.reduceToNat, Int.reduceEq, Int.reduceLT, Int.reduceLE, Int.reduceAdd, Int.reduceSub, Int.reduceMul, reduceIte, resVs, resV, packV, initT, addr, t6, t7, t8]; first | done | rfl | (congr 1; omega)), by first | rfl | (simp (implicitDefEqProofs := false) (maxSteps := 1000000) (disch := first | omega | with_reducible assumption | (simp only [List.length_map, List.length_cons, List.length_nil, List.length_set, List.length_append, List.length_replicate, List.length_take, List.length_drop, mk_size, AMem.size_set, Nat.reduceAdd]; omega)) only [amT, cut, bnd, Nat.reduceBEq, reduceCtorEq, Nat.reduceEqDiff, Nat.reduceAdd, Nat.reduceMul, Nat.reduceSub, Int.reduceToNat, Int.reduceEq, Int.reduceLT, Int.reduceLE, Int.reduceAdd, Int.reduceSub, Int.reduceMul, reduceIte, resVs, resV, packV, initT, addr, t6, t7, t8]; first | done | rfl | (congr 1; omega)), ?_⟩
        · omega
        · refine ⟨by omega, by rw [AMem.size_set]; exact e1, fun y hy => by rw [AMem.get_set_ne _ _ hy]; exact e2 y hy, AMem.get_set_self _ _ _, by rw [List.length_set]; exact g4, u8s_set g5 _ _⟩
      · simp (implicitDefEqProofs := false) (maxSteps := 1000000) (disch := first | omega | with_reducible assumption | (simp only [List.length_map, List.length_cons, List.length_nil, List.length_set, List.length_append, List.length_replicate, List.length_take, List.length_drop, mk_size, AMem.size_set, Nat.reduceAdd]; omega)) only [amT, cut, bnd, Nat.reduceBEq, reduceCtorEq, Nat.reduceEqDiff, Nat.reduceAdd, Nat.reduceMul, Nat.reduceSub, Int.reduceToNat, Int.reduceEq, Int.reduceLT, Int.reduceLE, Int.reduceAdd, Int.reduceSub, Int.reduceMul, reduceIte, resVs, resV, packV, initT, addr, F23_l0, t6, t7, t8, hil]; repeat (refine OrW.go ?_; try simp (implicitDefEqProofs := false) (maxSteps := 1000000) (disch := first | omega | with_reducible assumption | (simp only [List.length_map, List.length_cons, List.length_nil, List.length_set, List.length_append, List.length_replicate, List.length_take, List.length_drop, mk_size, AMem.size_set, Nat.reduceAdd]; omega)) only [amT, cut, bnd, Nat.reduceBEq, reduceCtorEq, Nat.reduceEqDiff, Nat.reduceAdd, Nat.reduceMul, Nat.reduceSub, Int.reduceToNat, Int.reduceEq, Int.reduceLT, Int.reduceLE, Int.reduceAdd, Int.reduceSub, Int.reduceMul, reduceIte, resVs, resV, packV, initT, addr, F23_l0, t6, t7, t8, hil])
        obtain ⟨k1, k2⟩ := fin2 M1 M2 v1 _ h1 hst e1 e2 hbM1
        exact ⟨_, rfl, fun _ => fin _ _ _ _ _ (by simp [doesR, hq]) k1 k2⟩
  · simp (implicitDefEqProofs := false) (maxSteps := 1000000) (disch := first | omega | with_reducible assumption | (simp only [List.length_map, List.length_cons, List.length_nil, List.length_set, List.length_append, List.length_replicate, List.length_take, List.length_drop, mk_size, AMem.size_set, Nat.reduceAdd]; omega)) only [amT, cut, bnd, Nat.reduceBEq, reduceCtorEq, Nat.reduceEqDiff, Nat.reduceAdd, Nat.reduceMul, Nat.reduceSub, Int.reduceToNat, Int.reduceEq, Int.reduceLT, Int.reduceLE, Int.reduceAdd, Int.reduceSub, Int.reduceMul, reduceIte, resVs, resV, packV, initT, addr, F23, actRow, cellsOf6, hq]; repeat (refine OrW.go ?_; try simp (implicitDefEqProofs := false) (maxSteps := 1000000) (disch := first | omega | with_reducible assumption | (simp only [List.length_map, List.length_cons, List.length_nil, List.length_set, List.length_append, List.length_replicate, List.length_take, List.length_drop, mk_size, AMem.size_set, Nat.reduceAdd]; omega)) only [amT, cut, bnd, Nat.reduceBEq, reduceCtorEq, Nat.reduceEqDiff, Nat.reduceAdd, Nat.reduceMul, Nat.reduceSub, Int.reduceToNat, Int.reduceEq, Int.reduceLT, Int.reduceLE, Int.reduceAdd, Int.reduceSub, Int.reduceMul, reduceIte, resVs, resV, packV, initT, addr, F23, actRow, cellsOf6, hq])
    refine RelC.call hc ?_
    rintro r M1 ⟨rfl, v1, h1, hst⟩
    have hbM1 : M1.get (M.size + 1) = .cells (x.b.map byteV) 5 true (.room [.int .u8 0]) := by
      rw [hst.1.2 _ (by rw [hbb]; omega) (fun e => by rcases e with e | e; omega; exact hown e)]
      exact mx_new _ _ 1
    have hM1s : M.size + 2 ≤ M1.size := by have := hst.1.1; rw [hbb] at this; exact this
    simp (implicitDefEqProofs := false) (maxSteps := 1000000) (disch := first | omega | with_reducible assumption | (simp only [List.length_map, List.length_cons, List.length_nil, List.length_set, List.length_append, List.length_replicate, List.length_take, List.length_drop, mk_size, AMem.size_set, Nat.reduceAdd]; omega)) only [amT, cut, bnd, Nat.reduceBEq, reduceCtorEq, Nat.reduceEqDiff, Nat.reduceAdd, Nat.reduceMul, Nat.reduceSub, Int.reduceToNat, Int.reduceEq, Int.reduceLT, Int.reduceLE, Int.reduceAdd, Int.reduceSub, Int.reduceMul, reduceIte, resVs, resV, packV, initT, addr]; repeat (refine OrW.go ?_; try simp (implicitDefEqProofs := false) (maxSteps := 1000000) (disch := first | omega | with_reducible assumption | (simp only [List.length_map, List.length_cons, List.length_nil, List.length_set, List.length_append, List.length_replicate, List.length_take, List.length_drop, mk_size, AMem.size_set, Nat.reduceAdd]; omega)) only [amT, cut, bnd, Nat.reduceBEq, reduceCtorEq, Nat.reduceEqDiff, Nat.reduceAdd, Nat.reduceMul, Nat.reduceSub, Int.reduceToNat, Int.reduceEq, Int.reduceLT, Int.reduceLE, Int.reduceAdd, Int.reduceSub, Int.reduceMul, reduceIte, resVs, resV, packV, initT, addr])
    refine W_loop (fun N qs => ∃ (i : Nat) (M2 : AMem) (X : List Value), N = x.b.length - i ∧ qs.ds = [] ∧ qs.m = mx M2 [] ∧ qs.t 6 = .slice (some ⟨M.size + 1, 0, none⟩) x.b.length openCap ∧ qs.t 7 = .int .i64 (appendR d x.name x.b).1 ∧ qs.t 8 = .int .i64 i ∧ i ≤ x.b.length ∧ M2.size = M1.size ∧ (∀ y, y ≠ M.size + 1 → M2.get y = M1.get y) ∧ M2.get (M.size + 1) = .cells X 5 true (.room [.int .u8 0]) ∧ X.length = x.b.length ∧ ∀ y ∈ X, ∃ z, y = Value.int .u8 z) (x.b.length - (0)) ⟨0, M1, x.b.map byteV, rfl, rfl, by first | rfl | (simp (implicitDefEqProofs := false) (maxSteps := 1000000) (disch := first | omega | with_reducible assumption | (simp only [List.length_map, List.length_cons, List.length_nil, List.length_set, List.length_append, List.length_replicate, List.length_take, List.length_drop, mk_size, AMem.size_set, Nat.reduceAdd]; omega)) only [amT, cut, bnd, Nat.reduceBEq, reduceCtorEq, Nat.reduceEqDiff, Nat.reduceAdd, Nat.reduceMul, Nat.reduceSub, Int.reduceToNat, Int.reduceEq, Int.reduceLT, Int.reduceLE, Int.reduceAdd, Int.reduceSub, Int.reduceMul, reduceIte, resVs, resV, packV, initT, addr]; first | done | rfl | (congr 1; omega)), by first | rfl | (simp (implicitDefEqProofs := false) (maxSteps := 1000000) (disch := first | omega | with_reducible assumption | (simp only [List.length_map, List.length_cons, List.length_nil, List.length_set, List.length_append, List.length_replicate, List.length_take, List.length_drop, mk_size, AMem.size_set, Nat.reduceAdd]; omega)) only [amT, cut, bnd, Nat.reduceBEq, reduceCtorEq, Nat.reduceEqDiff, Nat.reduceAdd, Nat.reduceMul, Nat.reduceSub, Int.reduceToNat, Int.reduceEq, Int.reduceLT, Int.reduceLE, Int.reduceAdd, Int.reduceSub, Int.reduceMul, reduceIte, resVs, resV, packV, initT, addr]; first | done | rfl | (congr 1; omega)), by first | rfl | (simp (implicitDefEqProofs := false) (maxSteps := 1000000) (disch := first | omega | with_reducible assumption | (simp only [List.length_map, List.length_cons, List.length_nil, List.length_set, List.length_append, List.length_replicate, List.length_take, List.length_drop, mk_size, AMem.size_set, Nat.reduceAdd]; omega)) only [amT, cut, bnd, Nat.reduceBEq, reduceCtorEq, Nat.reduceEqDiff, Nat.reduceAdd, Nat.reduceMul, Nat.reduceSub, Int.reduceToNat, Int.reduceEq, Int.reduceLT, Int.reduceLE, Int.reduceAdd, Int.reduceSub, Int.reduceMul, reduceIte, resVs, resV, packV, initT, addr]; first | done | rfl | (congr 1; omega)), by first | rfl | (simp (implicitDefEqProofs := false) (maxSteps := 1000000) (disch := first | omega | with_reducible assumption | (simp only [List.length_map, List.length_cons, List.length_nil, List.length_set, List.length_append, List.length_replicate, List.length_take, List.length_drop, mk_size, AMem.size_set, Nat.reduceAdd]; omega)) only [amT, cut, bnd, Nat.reduceBEq, reduceCtorEq, Nat.reduceEqDiff, Nat.reduceAdd, Nat.reduceMul, Nat.reduceSub, Int.reduceToNat, Int.reduceEq, Int.reduceLT, Int.reduceLE, Int.reduceAdd, Int.reduceSub, Int.reduceMul, reduceIte, resVs, resV, packV, initT, addr]; first | done | rfl | (congr 1; omega)), ?_⟩ ?_
    · refine ⟨by omega, rfl, fun _ _ => rfl, hbM1, by simp, fun y hy => ?_⟩
      simp only [List.mem_map] at hy; obtain ⟨z, _, rfl⟩ := hy; exact ⟨_, rfl⟩
    · rintro N t m1 ds ⟨i, M2, X, rfl, hds, hm, t6, t7, t8, hp⟩
      simp only at hds hm t6 t7 t8
      subst hds; replace hm := hm.symm; subst hm
      obtain ⟨hi, e1, e2, g3, g4, g5⟩ := hp
      by_cases hil : (i : Int) < (x.b.length : Int)
      · have hiX : i < X.length := by omega
        obtain ⟨z, hz⟩ := g5 _ (List.getElem_mem hiX)
        have hXi : X[i]? = some (.int .u8 z) := by rw [List.getElem?_eq_getElem hiX, hz]
        have hbM2 : M.size + 1 < M2.size := by omega
        simp (implicitDefEqProofs := false) (maxSteps := 1000000) (disch := first | omega | with_reducible assumption | (simp only [List.length_map, List.length_cons, List.length_nil, List.length_set, List.length_append, List.length_replicate, List.length_take, List.length_drop, mk_size, AMem.size_set, Nat.reduceAdd]; omega)) only [amT, cut, bnd, Nat.reduceBEq, reduceCtorEq, Nat.reduceEqDiff, Nat.reduceAdd, Nat.reduceMul, Nat.reduceSub, Int.reduceToNat, Int.reduceEq, Int.reduceLT, Int.reduceLE, Int.reduceAdd, Int.reduceSub, Int.reduceMul, reduceIte, resVs, resV, packV, initT, addr, F23_l0, t6, t7, t8, hil, hXi, g3]; repeat (refine OrW.go ?_; try simp (implicitDefEqProofs := false) (maxSteps := 1000000) (disch := first | omega | with_reducible assumption | (simp only [List.length_map, List.length_cons, List.length_nil, List.length_set, List.length_append, List.length_replicate, List.length_take, List.length_drop, mk_size, AMem.size_set, Nat.reduceAdd]; omega)) only [amT, cut, bnd, Nat.reduceBEq, reduceCtorEq, Nat.reduceEqDiff, Nat.reduceAdd, Nat.reduceMul, Nat.reduceSub, Int.reduceToNat, Int.reduceEq, Int.reduceLT, Int.reduceLE, Int.reduceAdd, Int.reduceSub, Int.reduceMul, reduceIte, resVs, resV, packV, initT, addr, F23_l0, t6, t7, t8, hil, hXi, g3])
        rw [LoopK_normal]; refine ⟨_, ?_, i + 1, M2.set (M.size + 1) (.cells (X.set i (.int .u8 (ibits .xor .u8 z 255))) 5 true (.room [.int .u8 0])), X.set i (.int .u8 (ibits .xor .u8 z 255)), rfl, rfl, by first | rfl | (simp (implicitDefEqProofs := false) (maxSteps := 1000000) (disch := first | omega | with_reducible assumption | (simp only [List.length_map, List.length_cons, List.length_nil, List.length_set, List.length_append, List.length_replicate, List.length_take, List.length_drop, mk_size, AMem.size_set, Nat.reduceAdd]; omega)) only [amT, cut, bnd, Nat.reduceBEq, reduceCtorEq, Nat.reduceEqDiff, Nat.reduceAdd, Nat.reduceMul, Nat.reduceSub, Int.reduceToNat, Int.reduceEq, Int.reduceLT, Int.reduceLE, Int.reduceAdd, Int.reduceSub, Int.reduceMul, reduceIte, resVs, resV, packV, initT, addr, t6, t7, t8]; first | done | rfl | (congr 1; omega)), by first | rfl | (simp (implicitDefEqProofs := false) (maxSteps := 1000000) (disch := first | omega | with_reducible assumption | (simp only [List.length_map, List.length_cons, List.length_nil, List.length_set, List.length_append, List.length_replicate, List.length_take, List.length_drop, mk_size, AMem.size_set, Nat.reduceAdd]; omega)) only [amT, cut, bnd, Nat.reduceBEq, reduceCtorEq, Nat.reduceEqDiff, Nat.reduceAdd, Nat.reduceMul, Nat.reduceSub, Int.reduceToNat, Int.reduceEq, Int.reduceLT, Int.reduceLE, Int.reduceAdd, Int.reduceSub, Int.reduceMul, reduceIte, resVs, resV, packV, initT, addr, t6, t7, t8]; first | done | rfl | (congr 1; omega)), by first | rfl | (simp (implicitDefEqProofs := false) (maxSteps := 1000000) (disch := first | omega | with_reducible assumption | (simp only [List.length_map, List.length_cons, List.length_nil, List.length_set, List.length_append, List.length_replicate, List.length_take, List.length_drop, mk_size, AMem.size_set, Nat.reduceAdd]; omega)) only [amT, cut, bnd, Nat.reduceBEq, reduceCtorEq, Nat.reduceEqDiff, Nat.reduceAdd, Nat.reduceMul, Nat.reduceSub, Int.reduceToNat, Int.reduceEq, Int.reduceLT, Int.reduceLE, Int.reduceAdd, Int.reduceSub, Int.reduceMul, reduceIte, resVs, resV, packV, initT, addr, t6, t7, t8]; first | done | rfl | (congr 1; omega)), by first | rfl | (simp (implicitDefEqProofs := false) (maxSteps := 1000000) (disch := first | omega | with_reducible assumption | (simp only [List.length_map, List.length_cons, List.length_nil, List.length_set, List.length_append, List.length_replicate, List.length_take, List.length_drop, mk_size, AMem.size_set, Nat.reduceAdd]; omega)) only [amT, cut, bnd, Nat.reduceBEq, reduceCtorEq, Nat.reduceEqDiff, Nat.reduceAdd, Nat.reduceMul, Nat.reduceSub, Int.reduceToNat, Int.reduceEq, Int.reduceLT, Int.reduceLE, Int.reduceAdd, Int.reduceSub, Int.reduceMul, reduceIte, resVs, resV, packV, initT, addr, t6, t7, t8]; first | done | rfl | (congr 1; omega)), ?_⟩
        · omega
        · refine ⟨by omega, by rw [AMem.size_set]; exact e1, fun y hy => by rw [AMem.get_set_ne _ _ hy]; exact e2 y hy, AMem.get_set_self _ _ _, by rw [List.length_set]; exact g4, u8s_set g5 _ _⟩
      · simp (implicitDefEqProofs := false) (maxSteps := 1000000) (disch := first | omega | with_reducible assumption | (simp only [List.length_map, List.length_cons, List.length_nil, List.length_set, List.length_append, List.length_replicate, List.length_take, List.length_drop, mk_size, AMem.size_set, Nat.reduceAdd]; omega)) only [amT, cut, bnd, Nat.reduceBEq, reduceCtorEq, Nat.reduceEqDiff, Nat.reduceAdd, Nat.reduceMul, Nat.reduceSub, Int.reduceToNat, Int.reduceEq, Int.reduceLT, Int.reduceLE, Int.reduceAdd, Int.reduceSub, Int.reduceMul, reduceIte, resVs, resV, packV, initT, addr, F23_l0, t6, t7, t8, hil]; repeat (refine OrW.go ?_; try simp (implicitDefEqProofs := false) (maxSteps := 1000000) (disch := first | omega | with_reducible assumption | (simp only [List.length_map, List.length_cons, List.length_nil, List.length_set, List.length_append, List.length_replicate, List.length_take, List.length_drop, mk_size, AMem.size_set, Nat.reduceAdd]; omega)) only [amT, cut, bnd, Nat.reduceBEq, reduceCtorEq, Nat.reduceEqDiff, Nat.reduceAdd, Nat.reduceMul, Nat.reduceSub, Int.reduceToNat, Int.reduceEq, Int.reduceLT, Int.reduceLE, Int.reduceAdd, Int.reduceSub, Int.reduceMul, reduceIte, resVs, resV, packV, initT, addr, F23_l0, t6, t7, t8, hil])
        obtain ⟨k1, k2⟩ := fin2 M1 M2 v1 _ h1 hst e1 e2 hbM1
        exact ⟨_, rfl, fun _ => fin _ _ _ _ _ (by simp [doesR, hq]) k1 k2⟩
end Go.Proofs.Ytbmjhiifinjieaa
namespace Go.Proofs.Ytbmjhiifinjieaa
open Go Go.AM
set_option linter.unusedVariables false
set_option linter.unusedSimpArgs false
set_option linter.unusedSectionVars false
set_option maxHeartbeats 2000000
set_option maxRecDepth 100000

variable [Ex]
theorem step_steps (d : DiskR) : (DiskR.step d).steps = d.steps + 1 := by unfold DiskR.step; split <;> rfl
theorem step_quota' (d : DiskR) : (DiskR.step d).quota = d.quota := by unfold DiskR.step; split <;> rfl
/-- What all that is done keeps to. -/
structure Keeps (d : DiskR) (act : Int) (e : Int) (d' : DiskR) : Prop where
  quota : d'.quota = d.quota
  used : usedR d'.files ≤ d.quota
  s0 : d.steps ≤ d'.steps
  s1 : d'.steps ≤ d.steps + 1
  same : act < 7 → e ≠ 0 → e ≠ 40 → d' = d
theorem Keeps.refl {d : DiskR} (hu : usedR d.files ≤ d.quota) (a e : Int) : Keeps d a e d := ⟨rfl, hu, Int.le_refl _, by omega, fun _ _ _ => rfl⟩
theorem Keeps.dries {d : DiskR} (hS : Sorted d.files) (hu : usedR d.files ≤ d.quota) (act : Int) (a b : List UInt8) (L : List UInt8 → Option (List UInt8)) (hL : ∀ c c', L c = some c' → c'.length ≤ c.length) : Keeps d act (driesR d a b L).1 (driesR d a b L).2 := by
  unfold driesR
  split
  · split
    · rename_i hat
      split
      · exact .refl hu _ _
      · rename_i c hc
        split
        · exact ⟨step_quota' d, by rw [step_files]; exact hu, by rw [step_steps]; omega, by rw [step_steps]; omega, fun _ _ h => absurd rfl h⟩
        · have hs : Sorted (delR d.files a) := hS.erase _
          have h1 := used_del hS hat
          have h2 := used_lay hs ⟨b, c, [], true⟩
          have h3 := hL _ _ hc
          have e1 : (FileR.mk b c [] true).size = c.length := by simp [FileR.size]
          have e2 : (fileAt d.files a).all.length = (fileAt d.files a).size := by simp [FileR.all, FileR.size]
          refine ⟨step_quota' d, ?_, by simp only []; rw [step_steps]; omega, by simp only []; rw [step_steps]; omega, fun _ h => absurd rfl h⟩
          show ((usedR (layR (delR d.files a) ⟨b, c, [], true⟩) : Nat) : Int) ≤ d.quota
          omega
    · exact .refl hu _ _
  · exact .refl hu _ _
theorem Keeps.does {d : DiskR} (hS : Sorted d.files) (hu : usedR d.files ≤ d.quota) (x : ActR) : Keeps d (x.act.tmod 10) (doesR d x).1.1 (doesR d x).2 := by
  unfold doesR
  split
  · show Keeps d _ (appendR d x.name x.b).1 (appendR d x.name x.b).2
    unfold appendR
    split
    · split
      · exact .refl hu _ _
      · split
        · exact .refl hu _ _
        · rename_i hful
          have h1 := used_lay hS { fileOr d.files x.name with wet := (fileOr d.files x.name).wet ++ x.b }
          have hsz : sizeOf' (getF d.files x.name) = (fileOr d.files x.name).size := by rw [(isAt_get hS x.name).2]; cases getF d.files x.name <;> rfl
          simp only [fileOr_name] at h1
          rw [hsz] at h1
          have hs2 : (FileR.mk x.name (fileOr d.files x.name).dry ((fileOr d.files x.name).wet ++ x.b) (fileOr d.files x.name).born).size = (fileOr d.files x.name).size + x.b.length := by simp only [FileR.size, List.length_append]; omega
          rw [hs2] at h1
          have hn := fileOr_name d.files x.name
          refine ⟨by simp only []; rw [step_quota'], ?_, by simp only []; rw [step_steps]; simp only []; omega, by simp only []; rw [step_steps]; simp only []; omega, fun _ h1 h2 => by split at h1 <;> simp_all⟩
          simp only [step_files, hn]
          omega
    · exact .refl hu _ _
  split; · exact .dries hS hu _ _ _ _ (fun c c' h => by cases h; exact Nat.le_refl _)
  split; · exact .dries hS hu _ _ _ _ (cutN_le x.n)
  split; · exact .dries hS hu _ _ _ _ (fun c c' h => by cases h; exact Nat.le_refl _)
  split
  · show Keeps d _ (removeR d x.name).1 (removeR d x.name).2
    unfold removeR
    split
    · split
      · rename_i hat
        split
        · exact ⟨step_quota' d, by rw [step_files]; exact hu, by rw [step_steps]; omega, by rw [step_steps]; omega, fun _ _ h => absurd rfl h⟩
        · have h1 := used_del hS hat
          refine ⟨step_quota' d, ?_, by simp only []; rw [step_steps]; omega, by simp only []; rw [step_steps]; omega, fun _ h => absurd rfl h⟩
          show ((usedR (delR d.files x.name) : Nat) : Int) ≤ d.quota
          omega
      · exact .refl hu _ _
    · exact .refl hu _ _
  split; · exact .refl hu _ _
  split
  · exact ⟨rfl, hu, Int.le_refl _, by simp only [failR]; omega, fun h => by omega⟩
  split
  · exact ⟨rfl, hu, Int.le_refl _, by simp only [crashR]; omega, fun h => by omega⟩
  · have h2 := used_onS (keep := x.keep) d.files 0
    unfold onR
    split
    · refine ⟨rfl, ?_, Int.le_refl _, by simp only []; omega, fun _ h => absurd rfl h⟩
      rw [onS_eq]; simp only []; omega
    · exact ⟨rfl, hu, Int.le_refl _, by simp only []; omega, fun _ h => absurd rfl h⟩
theorem small_b {x : ActR} (h : smallA x = true) : x.b.length ≤ 200 := by simp [smallA] at h; omega
theorem few_all {l : List ActR} (h : fewB l = true) : l.length ≤ 50 ∧ ∀ x ∈ l, smallA x = true := by
  simp only [fewB, Bool.and_eq_true, decide_eq_true_eq] at h
  rw [List.take_of_length_le h.2] at h
  exact ⟨h.2, List.all_eq_true.1 h.1⟩
end Go.Proofs.Ytbmjhiifinjieaa
namespace Go.Proofs.Ytbmjhiifinjieaa
open Go Go.AM
set_option linter.unusedVariables false
set_option linter.unusedSimpArgs false
set_option linter.unusedSectionVars false
set_option maxHeartbeats 2000000
set_option maxRecDepth 100000

variable [Ex]
def own : List UInt8 := [111, 119, 110]
def ownF (dry wet : List UInt8) : FileR := ⟨own, dry, wet, true⟩
/-- The file is as it was; the power does not go. -/
structure Apart (d : DiskR) (dry wet : List UInt8) : Prop where
  file : getF d.files own = some (ownF dry wet)
  off : d.off = false
  set : d.set = -1
theorem step_on {d : DiskR} (h1 : d.off = false) (h2 : d.set = -1) : (DiskR.step d).off = false ∧ (DiskR.step d).set = -1 := by
  unfold DiskR.step; rw [if_neg (by omega)]; exact ⟨h1, by simp only [h2]; rfl⟩
theorem Apart.does {d : DiskR} {dry wet : List UInt8} (h : Apart d dry wet) (hS : Sorted d.files) (x : ActR) (h1 : x.name ≠ own) (h2 : x.to ≠ own) (h3 : x.act.tmod 10 ≤ 6) (h0 : 0 ≤ x.act) : Apart (doesR d x).2 dry wet := by
  obtain ⟨so, ss⟩ := step_on h.off h.set
  have hset : ¬ d.set = 0 := by rw [h.set]; omega
  have dr : ∀ (to : List UInt8) (L : List UInt8 → Option (List UInt8)), to ≠ own → Apart (driesR d x.name to L).2 dry wet := by
    intro to L hto
    unfold driesR
    split
    · split
      · rename_i hat
        split
        · exact h
        · refine ⟨?_, so, ss⟩
          show getF (layR (delR d.files x.name) _) own = _
          rw [get_lay, if_neg hto, get_del hS hat, if_neg h1]; exact h.file
      · exact h
    · exact h
  have hn0 := Int.tmod_nonneg 10 h0
  unfold doesR
  split
  · show Apart (appendR d x.name x.b).2 dry wet
    unfold appendR
    split
    · split
      · exact h
      · split
        · exact h
        · have st : ∀ fs : List FileR, DiskR.step { d with files := fs } = { d.step with files := fs } := fun fs => by unfold DiskR.step; split <;> rfl
          rw [st]
          refine ⟨?_, so, ss⟩
          show getF (layR d.files _) own = _
          rw [get_lay]
          simp only [fileOr_name]
          rw [if_neg h1]; exact h.file
    · exact h
  split; · exact dr _ _ h1
  split; · exact dr _ _ h1
  split; · exact dr _ _ h2
  split
  · show Apart (removeR d x.name).2 dry wet
    unfold removeR
    split
    · split
      · rename_i hat
        refine ⟨?_, so, ss⟩
        show getF (delR d.files x.name) own = _
        rw [get_del hS hat, if_neg h1]; exact h.file
      · exact h
    · exact h
  split; · exact h
  omega
theorem Apart.read {d : DiskR} {dry wet : List UInt8} (h : Apart d dry wet) (hS : Sorted d.files) : readR d own = (0, dry ++ wet) := by
  unfold readR
  rw [h.off, if_pos (by rfl)]
  have := (isAt_get hS own).1
  rw [h.file] at this
  rw [if_pos (by rw [this]; rfl), fileAt_get hS h.file]; rfl
/-- When the power has gone: a beginning, with all that is dry. -/
theorem Apart.on {d : DiskR} {dry wet : List UInt8} (h : Apart d dry wet) (hS : Sorted d.files) (keep : List Int) : ∃ n, n ≤ wet.length ∧ readR (onR (crashR d) keep) own = (0, (dry ++ wet).take (dry.length + n)) := by
  have e0 : (onR (crashR d) keep).files = onS keep 0 d.files := by simp only [onR, crashR, if_true, onS_eq]
  have eo : (onR (crashR d) keep).off = false := by simp [onR, crashR]
  obtain ⟨i, _, _, hi⟩ := get_onS (keep := keep) hS 0 own
  have hst := stays_le keep i wet.length
  refine ⟨staysR keep i wet.length, hst, ?_⟩
  rw [h.file] at hi
  have e1 : onFile keep i (ownF dry wet) = some ⟨own, dry ++ wet.take (staysR keep i wet.length), [], true⟩ := by simp [onFile, ownF]
  rw [Option.bind_some, e1] at hi
  have hS2 := hS.onS (keep := keep) 0
  unfold readR
  rw [eo, e0, if_pos (by rfl)]
  have := (isAt_get hS2 own).1
  rw [hi] at this
  rw [if_pos (by rw [this]; rfl), fileAt_get hS2 hi]
  simp only [FileR.all, List.append_nil]
  rw [List.take_length_add_append]
def ownD (dry wet : List UInt8) (s : Int) : DiskR := ⟨[ownF dry wet], 1048576, s, -1, false⟩
theorem v1 {o : List UInt8} (h : o.length ≤ 200) : appendR (newR 1048576) own o = (0, ⟨[⟨own, [], o, false⟩], 1048576, 1, -1, false⟩) := by
  have h1 : (fileOr (newR 1048576).files own).size = 0 := rfl
  have h2 : (newR 1048576).quota - usedR (newR 1048576).files = 1048576 := rfl
  unfold appendR
  rw [if_pos (by rfl), if_neg (by rw [h1]; omega), if_neg (by rw [h2]; omega)]; rfl
theorem v2 (o : List UInt8) : driesR ⟨[⟨own, [], o, false⟩], 1048576, 1, -1, false⟩ own own some = (0, ⟨[ownF o []], 1048576, 2, -1, false⟩) := by rfl
theorem v3 {o w : List UInt8} (ho : o.length ≤ 200) (hw : w.length ≤ 200) : appendR ⟨[ownF o []], 1048576, 2, -1, false⟩ own w = (0, ⟨[ownF o w], 1048576, 3, -1, false⟩) := by
  have h1 : (fileOr [ownF o []] own).size = o.length := by show o.length + 0 = _; rfl
  have h2 : usedR [ownF o []] = o.length := by simp [usedR, FileR.size, ownF]
  unfold appendR
  rw [if_pos (by rfl), if_neg (by simp only [h1]; omega), if_neg (by simp only [h2]; omega)]; rfl
end Go.Proofs.Ytbmjhiifinjieaa
namespace Go.Proofs.Ytbmjhiifinjieaa
open Go Go.AM
set_option linter.unusedVariables false
set_option linter.unusedSimpArgs false
set_option linter.unusedSectionVars false
set_option maxHeartbeats 2000000
set_option maxRecDepth 100000

theorem fill_act6 (z0 z1 z2 z3 z4 z5 : Value) (u : Int) (s t w : ByteArray) (n : Int) (ka : Option Addr) (l c : Nat) : splice [z0, z1, z2, z3, z4, z5] 0 [.int .u8 u, .string s, .string t, .string w, .int .i64 n, .slice ka l c] = [.int .u8 u, .string s, .string t, .string w, .int .i64 n, .slice ka l c] := rfl
theorem cutL6 (z0 z1 z2 z3 z4 z5 : Value) : cutL [z0, z1, z2, z3, z4, z5] 0 6 = some [z0, z1, z2, z3, z4, z5] := rfl
theorem own_eq (s : List UInt8) : strEq ⟨s.toArray⟩ ⟨#[111, 119, 110]⟩ = decide (s = own) := strEq_mk s own
theorem lawApart (m : AMem) (o w : List UInt8) (hol : o.length ≤ 9223372036854775807) (hwl : w.length ≤ 9223372036854775807) (a : Option Addr) (cap : Nat) (l : List ActR) (hl : ActsV m a l) (h64 : l.length ≤ 9223372036854775807)
    (kv : Value) (keep : List Int) (hk : IntV m kv keep) (hkl : keep.length ≤ 9223372036854775807) (hk64 : ∀ x ∈ keep, -9223372036854775808 ≤ x ∧ x ≤ 9223372036854775807) (hkb : ∀ b o n c, kv = .slice (some ⟨b, o, none⟩) n c → b < m.size) :
    PureC Try.prog 0 5 [.string ⟨o.toArray⟩, .string ⟨w.toArray⟩, .slice a l.length cap, kv] m (.bool true) := by
  refine pure_of_W (fn := Try.f5) rfl rfl F5_ok (by simp [F5]) (.bool _) ?_
  letI : Ex := ⟨m.size⟩
  have kW := DetC.known (works_ok (mx m []))
  have kF := DetC.known (few_ok (mx m []) a cap l (hl.old (Old.here _ _)) h64)
  cases hfew : fewB l with
  | false =>
    rw [hfew] at kF
    simp (implicitDefEqProofs := false) (maxSteps := 1000000) (disch := first | omega | with_reducible assumption | (simp only [List.length_map, List.length_cons, List.length_nil, List.length_set, List.length_append, List.length_replicate, List.length_take, List.length_drop, mk_size, AMem.size_set, Nat.reduceAdd]; omega)) only [amT, cut, bnd, Nat.reduceBEq, reduceCtorEq, Nat.reduceEqDiff, Nat.reduceAdd, Nat.reduceMul, Nat.reduceSub, Int.reduceToNat, Int.reduceEq, Int.reduceLT, Int.reduceLE, Int.reduceAdd, Int.reduceSub, Int.reduceMul, reduceIte, resVs, resV, packV, initT, addr, F5, kF, kW]; repeat (refine OrW.go ?_; try simp (implicitDefEqProofs := false) (maxSteps := 1000000) (disch := first | omega | with_reducible assumption | (simp only [List.length_map, List.length_cons, List.length_nil, List.length_set, List.length_append, List.length_replicate, List.length_take, List.length_drop, mk_size, AMem.size_set, Nat.reduceAdd]; omega)) only [amT, cut, bnd, Nat.reduceBEq, reduceCtorEq, Nat.reduceEqDiff, Nat.reduceAdd, Nat.reduceMul, Nat.reduceSub, Int.reduceToNat, Int.reduceEq, Int.reduceLT, Int.reduceLE, Int.reduceAdd, Int.reduceSub, Int.reduceMul, reduceIte, resVs, resV, packV, initT, addr, F5, kF, kW])
  | true =>
    rw [hfew] at kF
    obtain ⟨hl50, hsm⟩ := few_all hfew
    by_cases g1 : (200 : Int) < (o.length : Int)
    · simp (implicitDefEqProofs := false) (maxSteps := 1000000) (disch := first | omega | with_reducible assumption | (simp only [List.length_map, List.length_cons, List.length_nil, List.length_set, List.length_append, List.length_replicate, List.length_take, List.length_drop, mk_size, AMem.size_set, Nat.reduceAdd]; omega)) only [amT, cut, bnd, Nat.reduceBEq, reduceCtorEq, Nat.reduceEqDiff, Nat.reduceAdd, Nat.reduceMul, Nat.reduceSub, Int.reduceToNat, Int.reduceEq, Int.reduceLT, Int.reduceLE, Int.reduceAdd, Int.reduceSub, Int.reduceMul, reduceIte, resVs, resV, packV, initT, addr, F5, kF, g1, kW]; repeat (refine OrW.go ?_; try simp (implicitDefEqProofs := false) (maxSteps := 1000000) (disch := first | omega | with_reducible assumption | (simp only [List.length_map, List.length_cons, List.length_nil, List.length_set, List.length_append, List.length_replicate, List.length_take, List.length_drop, mk_size, AMem.size_set, Nat.reduceAdd]; omega)) only [amT, cut, bnd, Nat.reduceBEq, reduceCtorEq, Nat.reduceEqDiff, Nat.reduceAdd, Nat.reduceMul, Nat.reduceSub, Int.reduceToNat, Int.reduceEq, Int.reduceLT, Int.reduceLE, Int.reduceAdd, Int.reduceSub, Int.reduceMul, reduceIte, resVs, resV, packV, initT, addr, F5, kF, g1, kW])
    by_cases g2 : (200 : Int) < (w.length : Int)
    · simp (implicitDefEqProofs := false) (maxSteps := 1000000) (disch := first | omega | with_reducible assumption | (simp only [List.length_map, List.length_cons, List.length_nil, List.length_set, List.length_append, List.length_replicate, List.length_take, List.length_drop, mk_size, AMem.size_set, Nat.reduceAdd]; omega)) only [amT, cut, bnd, Nat.reduceBEq, reduceCtorEq, Nat.reduceEqDiff, Nat.reduceAdd, Nat.reduceMul, Nat.reduceSub, Int.reduceToNat, Int.reduceEq, Int.reduceLT, Int.reduceLE, Int.reduceAdd, Int.reduceSub, Int.reduceMul, reduceIte, resVs, resV, packV, initT, addr, F5, kF, g1, g2, kW]; repeat (refine OrW.go ?_; try simp (implicitDefEqProofs := false) (maxSteps := 1000000) (disch := first | omega | with_reducible assumption | (simp only [List.length_map, List.length_cons, List.length_nil, List.length_set, List.length_append, List.length_replicate, List.length_take, List.length_drop, mk_size, AMem.size_set, Nat.reduceAdd]; omega)) only [amT, cut, bnd, Nat.reduceBEq, reduceCtorEq, Nat.reduceEqDiff, Nat.reduceAdd, Nat.reduceMul, Nat.reduceSub, Int.reduceToNat, Int.reduceEq, Int.reduceLT, Int.reduceLE, Int.reduceAdd, Int.reduceSub, Int.reduceMul, reduceIte, resVs, resV, packV, initT, addr, F5, kF, g1, g2, kW])
    have k11 := DetC.known (new_ok (mx m []) 1048576)
    rw [mx_nil_size, mx_mx, List.nil_append] at k11
    have b0 : Bud (newR 1048576) 0 := Bud.new (by omega)
    have h0 : DIn m (mx m ([.cells ((newR 1048576).cells (.slice none 0 0)) 60 true .exact] ++ [.cells (o.map byteV) 5 true (.room [.int .u8 0])])) m.size (.slice none 0 0) (newR 1048576) := by
      rw [← mx_mx]; exact (DIn.new (Old.refl m) (Nat.le_refl _) 1048576).mx _
    have b1 := b0.append own o (by omega)
    have h1 := append_in h0 b0 (by omega) own _ openCap o (by simp [own]) (bsl_room m _ 1 rfl rfl) (by omega)
    rw [v1 (by omega)] at h1 b1
    simp (implicitDefEqProofs := false) (maxSteps := 1000000) (disch := first | omega | with_reducible assumption | (simp only [List.length_map, List.length_cons, List.length_nil, List.length_set, List.length_append, List.length_replicate, List.length_take, List.length_drop, mk_size, AMem.size_set, Nat.reduceAdd]; omega)) only [amT, cut, bnd, Nat.reduceBEq, reduceCtorEq, Nat.reduceEqDiff, Nat.reduceAdd, Nat.reduceMul, Nat.reduceSub, Int.reduceToNat, Int.reduceEq, Int.reduceLT, Int.reduceLE, Int.reduceAdd, Int.reduceSub, Int.reduceMul, reduceIte, resVs, resV, packV, initT, addr, F5, kF, g1, g2, k11]; repeat (refine OrW.go ?_; try simp (implicitDefEqProofs := false) (maxSteps := 1000000) (disch := first | omega | with_reducible assumption | (simp only [List.length_map, List.length_cons, List.length_nil, List.length_set, List.length_append, List.length_replicate, List.length_take, List.length_drop, mk_size, AMem.size_set, Nat.reduceAdd]; omega)) only [amT, cut, bnd, Nat.reduceBEq, reduceCtorEq, Nat.reduceEqDiff, Nat.reduceAdd, Nat.reduceMul, Nat.reduceSub, Int.reduceToNat, Int.reduceEq, Int.reduceLT, Int.reduceLE, Int.reduceAdd, Int.reduceSub, Int.reduceMul, reduceIte, resVs, resV, packV, initT, addr, F5, kF, g1, g2, k11])
    refine RelC.call h1 ?_
    rintro r M1 ⟨rfl, v1', h1, -⟩
    have b2 := b1.dries own own some (fun c c' h => by cases h; exact Nat.le_refl _)
    have h2 := sync_in (h1.mx []) b1 (by omega) own (by simp [own])
    rw [v2] at h2 b2
    simp (implicitDefEqProofs := false) (maxSteps := 1000000) (disch := first | omega | with_reducible assumption | (simp only [List.length_map, List.length_cons, List.length_nil, List.length_set, List.length_append, List.length_replicate, List.length_take, List.length_drop, mk_size, AMem.size_set, Nat.reduceAdd]; omega)) only [amT, cut, bnd, Nat.reduceBEq, reduceCtorEq, Nat.reduceEqDiff, Nat.reduceAdd, Nat.reduceMul, Nat.reduceSub, Int.reduceToNat, Int.reduceEq, Int.reduceLT, Int.reduceLE, Int.reduceAdd, Int.reduceSub, Int.reduceMul, reduceIte, resVs, resV, packV, initT, addr]; repeat (refine OrW.go ?_; try simp (implicitDefEqProofs := false) (maxSteps := 1000000) (disch := first | omega | with_reducible assumption | (simp only [List.length_map, List.length_cons, List.length_nil, List.length_set, List.length_append, List.length_replicate, List.length_take, List.length_drop, mk_size, AMem.size_set, Nat.reduceAdd]; omega)) only [amT, cut, bnd, Nat.reduceBEq, reduceCtorEq, Nat.reduceEqDiff, Nat.reduceAdd, Nat.reduceMul, Nat.reduceSub, Int.reduceToNat, Int.reduceEq, Int.reduceLT, Int.reduceLE, Int.reduceAdd, Int.reduceSub, Int.reduceMul, reduceIte, resVs, resV, packV, initT, addr])
    refine RelC.call h2 ?_
    rintro r M2 ⟨rfl, v2', h2, -⟩
    have b3 := b2.append own w (by omega)
    have h3 := append_in (h2.mx [.cells (w.map byteV) 5 true (.room [.int .u8 0])]) b2 (by omega) own _ openCap w (by simp [own]) (bsl_room M2 _ 0 rfl rfl) (by omega)
    rw [v3 (by omega) (by omega)] at h3 b3
    simp (implicitDefEqProofs := false) (maxSteps := 1000000) (disch := first | omega | with_reducible assumption | (simp only [List.length_map, List.length_cons, List.length_nil, List.length_set, List.length_append, List.length_replicate, List.length_take, List.length_drop, mk_size, AMem.size_set, Nat.reduceAdd]; omega)) only [amT, cut, bnd, Nat.reduceBEq, reduceCtorEq, Nat.reduceEqDiff, Nat.reduceAdd, Nat.reduceMul, Nat.reduceSub, Int.reduceToNat, Int.reduceEq, Int.reduceLT, Int.reduceLE, Int.reduceAdd, Int.reduceSub, Int.reduceMul, reduceIte, resVs, resV, packV, initT, addr]; repeat (refine OrW.go ?_; try simp (implicitDefEqProofs := false) (maxSteps := 1000000) (disch := first | omega | with_reducible assumption | (simp only [List.length_map, List.length_cons, List.length_nil, List.length_set, List.length_append, List.length_replicate, List.length_take, List.length_drop, mk_size, AMem.size_set, Nat.reduceAdd]; omega)) only [amT, cut, bnd, Nat.reduceBEq, reduceCtorEq, Nat.reduceEqDiff, Nat.reduceAdd, Nat.reduceMul, Nat.reduceSub, Int.reduceToNat, Int.reduceEq, Int.reduceLT, Int.reduceLE, Int.reduceAdd, Int.reduceSub, Int.reduceMul, reduceIte, resVs, resV, packV, initT, addr])
    refine RelC.call h3 ?_
    rintro r M3 ⟨rfl, v3', h3, -⟩
    have ap : Apart ⟨[ownF o w], 1048576, 3, -1, false⟩ o w := ⟨rfl, rfl, rfl⟩
    simp (implicitDefEqProofs := false) (maxSteps := 1000000) (disch := first | omega | with_reducible assumption | (simp only [List.length_map, List.length_cons, List.length_nil, List.length_set, List.length_append, List.length_replicate, List.length_take, List.length_drop, mk_size, AMem.size_set, Nat.reduceAdd]; omega)) only [amT, cut, bnd, Nat.reduceBEq, reduceCtorEq, Nat.reduceEqDiff, Nat.reduceAdd, Nat.reduceMul, Nat.reduceSub, Int.reduceToNat, Int.reduceEq, Int.reduceLT, Int.reduceLE, Int.reduceAdd, Int.reduceSub, Int.reduceMul, reduceIte, resVs, resV, packV, initT, addr]; repeat (refine OrW.go ?_; try simp (implicitDefEqProofs := false) (maxSteps := 1000000) (disch := first | omega | with_reducible assumption | (simp only [List.length_map, List.length_cons, List.length_nil, List.length_set, List.length_append, List.length_replicate, List.length_take, List.length_drop, mk_size, AMem.size_set, Nat.reduceAdd]; omega)) only [amT, cut, bnd, Nat.reduceBEq, reduceCtorEq, Nat.reduceEqDiff, Nat.reduceAdd, Nat.reduceMul, Nat.reduceSub, Int.reduceToNat, Int.reduceEq, Int.reduceLT, Int.reduceLE, Int.reduceAdd, Int.reduceSub, Int.reduceMul, reduceIte, resVs, resV, packV, initT, addr])
    refine W_loop (fun N qs => ∃ (i : Nat) (M : AMem) (v : Value) (d : DiskR), N = l.length - i ∧ qs.ds = [] ∧ qs.m = mx M [] ∧ qs.t 0 = .string ⟨o.toArray⟩ ∧ qs.t 1 = .string ⟨w.toArray⟩ ∧ qs.t 2 = .slice a l.length cap ∧ qs.t 3 = kv ∧ qs.t 9 = .pointer (some ⟨m.size, 0, none⟩) ∧ qs.t 10 = .int .i64 i ∧ i ≤ l.length ∧ DIn m M m.size v d ∧ Bud d (3 + i) ∧ Apart d o w) (l.length - (0)) ⟨0, M3, v3', (⟨[ownF o w], 1048576, 3, -1, false⟩ : DiskR), rfl, rfl, by first | rfl | (simp (implicitDefEqProofs := false) (maxSteps := 1000000) (disch := first | omega | with_reducible assumption | (simp only [List.length_map, List.length_cons, List.length_nil, List.length_set, List.length_append, List.length_replicate, List.length_take, List.length_drop, mk_size, AMem.size_set, Nat.reduceAdd]; omega)) only [amT, cut, bnd, Nat.reduceBEq, reduceCtorEq, Nat.reduceEqDiff, Nat.reduceAdd, Nat.reduceMul, Nat.reduceSub, Int.reduceToNat, Int.reduceEq, Int.reduceLT, Int.reduceLE, Int.reduceAdd, Int.reduceSub, Int.reduceMul, reduceIte, resVs, resV, packV, initT, addr]; first | done | rfl | (congr 1; omega)), by first | rfl | (simp (implicitDefEqProofs := false) (maxSteps := 1000000) (disch := first | omega | with_reducible assumption | (simp only [List.length_map, List.length_cons, List.length_nil, List.length_set, List.length_append, List.length_replicate, List.length_take, List.length_drop, mk_size, AMem.size_set, Nat.reduceAdd]; omega)) only [amT, cut, bnd, Nat.reduceBEq, reduceCtorEq, Nat.reduceEqDiff, Nat.reduceAdd, Nat.reduceMul, Nat.reduceSub, Int.reduceToNat, Int.reduceEq, Int.reduceLT, Int.reduceLE, Int.reduceAdd, Int.reduceSub, Int.reduceMul, reduceIte, resVs, resV, packV, initT, addr]; first | done | rfl | (congr 1; omega)), by first | rfl | (simp (implicitDefEqProofs := false) (maxSteps := 1000000) (disch := first | omega | with_reducible assumption | (simp only [List.length_map, List.length_cons, List.length_nil, List.length_set, List.length_append, List.length_replicate, List.length_take, List.length_drop, mk_size, AMem.size_set, Nat.reduceAdd]; omega)) only [amT, cut, bnd, Nat.reduceBEq, reduceCtorEq, Nat.reduceEqDiff, Nat.reduceAdd, Nat.reduceMul, Nat.reduceSub, Int.reduceToNat, Int.reduceEq, Int.reduceLT, Int.reduceLE, Int.reduceAdd, Int.reduceSub, Int.reduceMul, reduceIte, resVs, resV, packV, initT, addr]; first | done | rfl | (congr 1; omega)), by first | rfl | (simp (implicitDefEqProofs := false) (maxSteps := 1000000) (disch := first | omega | with_reducible assumption | (simp only [List.length_map, List.length_cons, List.length_nil, List.length_set, List.length_append, List.length_replicate, List.length_take, List.length_drop, mk_size, AMem.size_set, Nat.reduceAdd]; omega)) only [amT, cut, bnd, Nat.reduceBEq, reduceCtorEq, Nat.reduceEqDiff, Nat.reduceAdd, Nat.reduceMul, Nat.reduceSub, Int.reduceToNat, Int.reduceEq, Int.reduceLT, Int.reduceLE, Int.reduceAdd, Int.reduceSub, Int.reduceMul, reduceIte, resVs, resV, packV, initT, addr]; first | done | rfl | (congr 1; omega)), by first | rfl | (simp (implicitDefEqProofs := false) (maxSteps := 1000000) (disch := first | omega | with_reducible assumption | (simp only [List.length_map, List.length_cons, List.length_nil, List.length_set, List.length_append, List.length_replicate, List.length_take, List.length_drop, mk_size, AMem.size_set, Nat.reduceAdd]; omega)) only [amT, cut, bnd, Nat.reduceBEq, reduceCtorEq, Nat.reduceEqDiff, Nat.reduceAdd, Nat.reduceMul, Nat.reduceSub, Int.reduceToNat, Int.reduceEq, Int.reduceLT, Int.reduceLE, Int.reduceAdd, Int.reduceSub, Int.reduceMul, reduceIte, resVs, resV, packV, initT, addr]; first | done | rfl | (congr 1; omega)), by first | rfl | (simp (implicitDefEqProofs := false) (maxSteps := 1000000) (disch := first | omega | with_reducible assumption | (simp only [List.length_map, List.length_cons, List.length_nil, List.length_set, List.length_append, List.length_replicate, List.length_take, List.length_drop, mk_size, AMem.size_set, Nat.reduceAdd]; omega)) only [amT, cut, bnd, Nat.reduceBEq, reduceCtorEq, Nat.reduceEqDiff, Nat.reduceAdd, Nat.reduceMul, Nat.reduceSub, Int.reduceToNat, Int.reduceEq, Int.reduceLT, Int.reduceLE, Int.reduceAdd, Int.reduceSub, Int.reduceMul, reduceIte, resVs, resV, packV, initT, addr]; first | done | rfl | (congr 1; omega)), by first | rfl | (simp (implicitDefEqProofs := false) (maxSteps := 1000000) (disch := first | omega | with_reducible assumption | (simp only [List.length_map, List.length_cons, List.length_nil, List.length_set, List.length_append, List.length_replicate, List.length_take, List.length_drop, mk_size, AMem.size_set, Nat.reduceAdd]; omega)) only [amT, cut, bnd, Nat.reduceBEq, reduceCtorEq, Nat.reduceEqDiff, Nat.reduceAdd, Nat.reduceMul, Nat.reduceSub, Int.reduceToNat, Int.reduceEq, Int.reduceLT, Int.reduceLE, Int.reduceAdd, Int.reduceSub, Int.reduceMul, reduceIte, resVs, resV, packV, initT, addr]; first | done | rfl | (congr 1; omega)), ?_⟩ ?_
    · exact ⟨by omega, h3, b3, ap⟩
    · rintro N t m1 ds ⟨i, M, v, d, rfl, hds, hm, t0, t1, t2, t3, t9, t10, hp⟩
      simp only at hds hm t0 t1 t2 t3 t9 t10
      subst hds; replace hm := hm.symm; subst hm
      obtain ⟨hi, hI, hB, hAp⟩ := hp
      by_cases hil : (i : Int) < (l.length : Int)
      · have hil' : i < l.length := by omega
        obtain ⟨b, of, ka, kc, rfl, hb, hr, hA, hok⟩ := hl i hil'
        have hxs := small_b (hsm _ (List.getElem_mem hil'))
        have hb1 : b < M.size := Nat.lt_of_lt_of_le hb hI.old.1
        have hr1 : rdO (M.get b) (of + i * 6) 6 = some (actRow l[i] ka kc) := by rw [hI.old.2 b hb]; exact hr
        simp only [actRow] at hr1
        have hn0 := Int.tmod_nonneg 10 hok.act.1
        by_cases c1 : l[i].name = own
        · have e1 : strEq ⟨l[i].name.toArray⟩ ⟨#[111, 119, 110]⟩ = true := by rw [own_eq, c1]; simp
          simp (implicitDefEqProofs := false) (maxSteps := 1000000) (disch := first | omega | with_reducible assumption | (simp only [List.length_map, List.length_cons, List.length_nil, List.length_set, List.length_append, List.length_replicate, List.length_take, List.length_drop, mk_size, AMem.size_set, Nat.reduceAdd]; omega)) only [amT, cut, bnd, Nat.reduceBEq, reduceCtorEq, Nat.reduceEqDiff, Nat.reduceAdd, Nat.reduceMul, Nat.reduceSub, Int.reduceToNat, Int.reduceEq, Int.reduceLT, Int.reduceLE, Int.reduceAdd, Int.reduceSub, Int.reduceMul, reduceIte, resVs, resV, packV, initT, addr, F5_l0, t0, t1, t2, t3, t9, t10, hil, hr1, cellsOf6, fill_act6, cutL6, e1]; repeat (refine OrW.go ?_; try simp (implicitDefEqProofs := false) (maxSteps := 1000000) (disch := first | omega | with_reducible assumption | (simp only [List.length_map, List.length_cons, List.length_nil, List.length_set, List.length_append, List.length_replicate, List.length_take, List.length_drop, mk_size, AMem.size_set, Nat.reduceAdd]; omega)) only [amT, cut, bnd, Nat.reduceBEq, reduceCtorEq, Nat.reduceEqDiff, Nat.reduceAdd, Nat.reduceMul, Nat.reduceSub, Int.reduceToNat, Int.reduceEq, Int.reduceLT, Int.reduceLE, Int.reduceAdd, Int.reduceSub, Int.reduceMul, reduceIte, resVs, resV, packV, initT, addr, F5_l0, t0, t1, t2, t3, t9, t10, hil, hr1, cellsOf6, fill_act6, cutL6, e1])
          rw [LoopK_normal]; refine ⟨_, ?_, i + 1, mx M [.cells [.int .u8 l[i].act, .string ⟨l[i].name.toArray⟩, .string ⟨l[i].to.toArray⟩, .string ⟨l[i].b.toArray⟩, .int .i64 l[i].n, .slice ka l[i].keep.length kc] 44 true .exact], v, d, rfl, rfl, by first | rfl | (simp (implicitDefEqProofs := false) (maxSteps := 1000000) (disch := first | omega | with_reducible assumption | (simp only [List.length_map, List.length_cons, List.length_nil, List.length_set, List.length_append, List.length_replicate, List.length_take, List.length_drop, mk_size, AMem.size_set, Nat.reduceAdd]; omega)) only [amT, cut, bnd, Nat.reduceBEq, reduceCtorEq, Nat.reduceEqDiff, Nat.reduceAdd, Nat.reduceMul, Nat.reduceSub, Int.reduceToNat, Int.reduceEq, Int.reduceLT, Int.reduceLE, Int.reduceAdd, Int.reduceSub, Int.reduceMul, reduceIte, resVs, resV, packV, initT, addr, t0, t1, t2, t3, t9, t10, mx_mx, List.append_nil]; first | done | rfl | (congr 1; omega)), by first | rfl | (simp (implicitDefEqProofs := false) (maxSteps := 1000000) (disch := first | omega | with_reducible assumption | (simp only [List.length_map, List.length_cons, List.length_nil, List.length_set, List.length_append, List.length_replicate, List.length_take, List.length_drop, mk_size, AMem.size_set, Nat.reduceAdd]; omega)) only [amT, cut, bnd, Nat.reduceBEq, reduceCtorEq, Nat.reduceEqDiff, Nat.reduceAdd, Nat.reduceMul, Nat.reduceSub, Int.reduceToNat, Int.reduceEq, Int.reduceLT, Int.reduceLE, Int.reduceAdd, Int.reduceSub, Int.reduceMul, reduceIte, resVs, resV, packV, initT, addr, t0, t1, t2, t3, t9, t10, mx_mx, List.append_nil]; first | done | rfl | (congr 1; omega)), by first | rfl | (simp (implicitDefEqProofs := false) (maxSteps := 1000000) (disch := first | omega | with_reducible assumption | (simp only [List.length_map, List.length_cons, List.length_nil, List.length_set, List.length_append, List.length_replicate, List.length_take, List.length_drop, mk_size, AMem.size_set, Nat.reduceAdd]; omega)) only [amT, cut, bnd, Nat.reduceBEq, reduceCtorEq, Nat.reduceEqDiff, Nat.reduceAdd, Nat.reduceMul, Nat.reduceSub, Int.reduceToNat, Int.reduceEq, Int.reduceLT, Int.reduceLE, Int.reduceAdd, Int.reduceSub, Int.reduceMul, reduceIte, resVs, resV, packV, initT, addr, t0, t1, t2, t3, t9, t10, mx_mx, List.append_nil]; first | done | rfl | (congr 1; omega)), by first | rfl | (simp (implicitDefEqProofs := false) (maxSteps := 1000000) (disch := first | omega | with_reducible assumption | (simp only [List.length_map, List.length_cons, List.length_nil, List.length_set, List.length_append, List.length_replicate, List.length_take, List.length_drop, mk_size, AMem.size_set, Nat.reduceAdd]; omega)) only [amT, cut, bnd, Nat.reduceBEq, reduceCtorEq, Nat.reduceEqDiff, Nat.reduceAdd, Nat.reduceMul, Nat.reduceSub, Int.reduceToNat, Int.reduceEq, Int.reduceLT, Int.reduceLE, Int.reduceAdd, Int.reduceSub, Int.reduceMul, reduceIte, resVs, resV, packV, initT, addr, t0, t1, t2, t3, t9, t10, mx_mx, List.append_nil]; first | done | rfl | (congr 1; omega)), by first | rfl | (simp (implicitDefEqProofs := false) (maxSteps := 1000000) (disch := first | omega | with_reducible assumption | (simp only [List.length_map, List.length_cons, List.length_nil, List.length_set, List.length_append, List.length_replicate, List.length_take, List.length_drop, mk_size, AMem.size_set, Nat.reduceAdd]; omega)) only [amT, cut, bnd, Nat.reduceBEq, reduceCtorEq, Nat.reduceEqDiff, Nat.reduceAdd, Nat.reduceMul, Nat.reduceSub, Int.reduceToNat, Int.reduceEq, Int.reduceLT, Int.reduceLE, Int.reduceAdd, Int.reduceSub, Int.reduceMul, reduceIte, resVs, resV, packV, initT, addr, t0, t1, t2, t3, t9, t10, mx_mx, List.append_nil]; first | done | rfl | (congr 1; omega)), by first | rfl | (simp (implicitDefEqProofs := false) (maxSteps := 1000000) (disch := first | omega | with_reducible assumption | (simp only [List.length_map, List.length_cons, List.length_nil, List.length_set, List.length_append, List.length_replicate, List.length_take, List.length_drop, mk_size, AMem.size_set, Nat.reduceAdd]; omega)) only [amT, cut, bnd, Nat.reduceBEq, reduceCtorEq, Nat.reduceEqDiff, Nat.reduceAdd, Nat.reduceMul, Nat.reduceSub, Int.reduceToNat, Int.reduceEq, Int.reduceLT, Int.reduceLE, Int.reduceAdd, Int.reduceSub, Int.reduceMul, reduceIte, resVs, resV, packV, initT, addr, t0, t1, t2, t3, t9, t10, mx_mx, List.append_nil]; first | done | rfl | (congr 1; omega)), by first | rfl | (simp (implicitDefEqProofs := false) (maxSteps := 1000000) (disch := first | omega | with_reducible assumption | (simp only [List.length_map, List.length_cons, List.length_nil, List.length_set, List.length_append, List.length_replicate, List.length_take, List.length_drop, mk_size, AMem.size_set, Nat.reduceAdd]; omega)) only [amT, cut, bnd, Nat.reduceBEq, reduceCtorEq, Nat.reduceEqDiff, Nat.reduceAdd, Nat.reduceMul, Nat.reduceSub, Int.reduceToNat, Int.reduceEq, Int.reduceLT, Int.reduceLE, Int.reduceAdd, Int.reduceSub, Int.reduceMul, reduceIte, resVs, resV, packV, initT, addr, t0, t1, t2, t3, t9, t10, mx_mx, List.append_nil]; first | done | rfl | (congr 1; omega)), ?_⟩
          · omega
          · exact ⟨by omega, hI.mx _, hB.up (by omega), hAp⟩
        have e1 : strEq ⟨l[i].name.toArray⟩ ⟨#[111, 119, 110]⟩ = false := by rw [own_eq]; simp [c1]
        by_cases c2 : l[i].to = own
        · have e2 : strEq ⟨l[i].to.toArray⟩ ⟨#[111, 119, 110]⟩ = true := by rw [own_eq, c2]; simp
          simp (implicitDefEqProofs := false) (maxSteps := 1000000) (disch := first | omega | with_reducible assumption | (simp only [List.length_map, List.length_cons, List.length_nil, List.length_set, List.length_append, List.length_replicate, List.length_take, List.length_drop, mk_size, AMem.size_set, Nat.reduceAdd]; omega)) only [amT, cut, bnd, Nat.reduceBEq, reduceCtorEq, Nat.reduceEqDiff, Nat.reduceAdd, Nat.reduceMul, Nat.reduceSub, Int.reduceToNat, Int.reduceEq, Int.reduceLT, Int.reduceLE, Int.reduceAdd, Int.reduceSub, Int.reduceMul, reduceIte, resVs, resV, packV, initT, addr, F5_l0, t0, t1, t2, t3, t9, t10, hil, hr1, cellsOf6, fill_act6, cutL6, e1, e2]; repeat (refine OrW.go ?_; try simp (implicitDefEqProofs := false) (maxSteps := 1000000) (disch := first | omega | with_reducible assumption | (simp only [List.length_map, List.length_cons, List.length_nil, List.length_set, List.length_append, List.length_replicate, List.length_take, List.length_drop, mk_size, AMem.size_set, Nat.reduceAdd]; omega)) only [amT, cut, bnd, Nat.reduceBEq, reduceCtorEq, Nat.reduceEqDiff, Nat.reduceAdd, Nat.reduceMul, Nat.reduceSub, Int.reduceToNat, Int.reduceEq, Int.reduceLT, Int.reduceLE, Int.reduceAdd, Int.reduceSub, Int.reduceMul, reduceIte, resVs, resV, packV, initT, addr, F5_l0, t0, t1, t2, t3, t9, t10, hil, hr1, cellsOf6, fill_act6, cutL6, e1, e2])
          rw [LoopK_normal]; refine ⟨_, ?_, i + 1, mx M [.cells [.int .u8 l[i].act, .string ⟨l[i].name.toArray⟩, .string ⟨l[i].to.toArray⟩, .string ⟨l[i].b.toArray⟩, .int .i64 l[i].n, .slice ka l[i].keep.length kc] 44 true .exact], v, d, rfl, rfl, by first | rfl | (simp (implicitDefEqProofs := false) (maxSteps := 1000000) (disch := first | omega | with_reducible assumption | (simp only [List.length_map, List.length_cons, List.length_nil, List.length_set, List.length_append, List.length_replicate, List.length_take, List.length_drop, mk_size, AMem.size_set, Nat.reduceAdd]; omega)) only [amT, cut, bnd, Nat.reduceBEq, reduceCtorEq, Nat.reduceEqDiff, Nat.reduceAdd, Nat.reduceMul, Nat.reduceSub, Int.reduceToNat, Int.reduceEq, Int.reduceLT, Int.reduceLE, Int.reduceAdd, Int.reduceSub, Int.reduceMul, reduceIte, resVs, resV, packV, initT, addr, t0, t1, t2, t3, t9, t10, mx_mx, List.append_nil]; first | done | rfl | (congr 1; omega)), by first | rfl | (simp (implicitDefEqProofs := false) (maxSteps := 1000000) (disch := first | omega | with_reducible assumption | (simp only [List.length_map, List.length_cons, List.length_nil, List.length_set, List.length_append, List.length_replicate, List.length_take, List.length_drop, mk_size, AMem.size_set, Nat.reduceAdd]; omega)) only [amT, cut, bnd, Nat.reduceBEq, reduceCtorEq, Nat.reduceEqDiff, Nat.reduceAdd, Nat.reduceMul, Nat.reduceSub, Int.reduceToNat, Int.reduceEq, Int.reduceLT, Int.reduceLE, Int.reduceAdd, Int.reduceSub, Int.reduceMul, reduceIte, resVs, resV, packV, initT, addr, t0, t1, t2, t3, t9, t10, mx_mx, List.append_nil]; first | done | rfl | (congr 1; omega)), by first | rfl | (simp (implicitDefEqProofs := false) (maxSteps := 1000000) (disch := first | omega | with_reducible assumption | (simp only [List.length_map, List.length_cons, List.length_nil, List.length_set, List.length_append, List.length_replicate, List.length_take, List.length_drop, mk_size, AMem.size_set, Nat.reduceAdd]; omega)) only [amT, cut, bnd, Nat.reduceBEq, reduceCtorEq, Nat.reduceEqDiff, Nat.reduceAdd, Nat.reduceMul, Nat.reduceSub, Int.reduceToNat, Int.reduceEq, Int.reduceLT, Int.reduceLE, Int.reduceAdd, Int.reduceSub, Int.reduceMul, reduceIte, resVs, resV, packV, initT, addr, t0, t1, t2, t3, t9, t10, mx_mx, List.append_nil]; first | done | rfl | (congr 1; omega)), by first | rfl | (simp (implicitDefEqProofs := false) (maxSteps := 1000000) (disch := first | omega | with_reducible assumption | (simp only [List.length_map, List.length_cons, List.length_nil, List.length_set, List.length_append, List.length_replicate, List.length_take, List.length_drop, mk_size, AMem.size_set, Nat.reduceAdd]; omega)) only [amT, cut, bnd, Nat.reduceBEq, reduceCtorEq, Nat.reduceEqDiff, Nat.reduceAdd, Nat.reduceMul, Nat.reduceSub, Int.reduceToNat, Int.reduceEq, Int.reduceLT, Int.reduceLE, Int.reduceAdd, Int.reduceSub, Int.reduceMul, reduceIte, resVs, resV, packV, initT, addr, t0, t1, t2, t3, t9, t10, mx_mx, List.append_nil]; first | done | rfl | (congr 1; omega)), by first | rfl | (simp (implicitDefEqProofs := false) (maxSteps := 1000000) (disch := first | omega | with_reducible assumption | (simp only [List.length_map, List.length_cons, List.length_nil, List.length_set, List.length_append, List.length_replicate, List.length_take, List.length_drop, mk_size, AMem.size_set, Nat.reduceAdd]; omega)) only [amT, cut, bnd, Nat.reduceBEq, reduceCtorEq, Nat.reduceEqDiff, Nat.reduceAdd, Nat.reduceMul, Nat.reduceSub, Int.reduceToNat, Int.reduceEq, Int.reduceLT, Int.reduceLE, Int.reduceAdd, Int.reduceSub, Int.reduceMul, reduceIte, resVs, resV, packV, initT, addr, t0, t1, t2, t3, t9, t10, mx_mx, List.append_nil]; first | done | rfl | (congr 1; omega)), by first | rfl | (simp (implicitDefEqProofs := false) (maxSteps := 1000000) (disch := first | omega | with_reducible assumption | (simp only [List.length_map, List.length_cons, List.length_nil, List.length_set, List.length_append, List.length_replicate, List.length_take, List.length_drop, mk_size, AMem.size_set, Nat.reduceAdd]; omega)) only [amT, cut, bnd, Nat.reduceBEq, reduceCtorEq, Nat.reduceEqDiff, Nat.reduceAdd, Nat.reduceMul, Nat.reduceSub, Int.reduceToNat, Int.reduceEq, Int.reduceLT, Int.reduceLE, Int.reduceAdd, Int.reduceSub, Int.reduceMul, reduceIte, resVs, resV, packV, initT, addr, t0, t1, t2, t3, t9, t10, mx_mx, List.append_nil]; first | done | rfl | (congr 1; omega)), by first | rfl | (simp (implicitDefEqProofs := false) (maxSteps := 1000000) (disch := first | omega | with_reducible assumption | (simp only [List.length_map, List.length_cons, List.length_nil, List.length_set, List.length_append, List.length_replicate, List.length_take, List.length_drop, mk_size, AMem.size_set, Nat.reduceAdd]; omega)) only [amT, cut, bnd, Nat.reduceBEq, reduceCtorEq, Nat.reduceEqDiff, Nat.reduceAdd, Nat.reduceMul, Nat.reduceSub, Int.reduceToNat, Int.reduceEq, Int.reduceLT, Int.reduceLE, Int.reduceAdd, Int.reduceSub, Int.reduceMul, reduceIte, resVs, resV, packV, initT, addr, t0, t1, t2, t3, t9, t10, mx_mx, List.append_nil]; first | done | rfl | (congr 1; omega)), ?_⟩
          · omega
          · exact ⟨by omega, hI.mx _, hB.up (by omega), hAp⟩
        have e2 : strEq ⟨l[i].to.toArray⟩ ⟨#[111, 119, 110]⟩ = false := by rw [own_eq]; simp [c2]
        by_cases c3 : 6 < l[i].act.tmod 10
        · skip
          simp (implicitDefEqProofs := false) (maxSteps := 1000000) (disch := first | omega | with_reducible assumption | (simp only [List.length_map, List.length_cons, List.length_nil, List.length_set, List.length_append, List.length_replicate, List.length_take, List.length_drop, mk_size, AMem.size_set, Nat.reduceAdd]; omega)) only [amT, cut, bnd, Nat.reduceBEq, reduceCtorEq, Nat.reduceEqDiff, Nat.reduceAdd, Nat.reduceMul, Nat.reduceSub, Int.reduceToNat, Int.reduceEq, Int.reduceLT, Int.reduceLE, Int.reduceAdd, Int.reduceSub, Int.reduceMul, reduceIte, resVs, resV, packV, initT, addr, F5_l0, t0, t1, t2, t3, t9, t10, hil, hr1, cellsOf6, fill_act6, cutL6, e1, e2, c3]; repeat (refine OrW.go ?_; try simp (implicitDefEqProofs := false) (maxSteps := 1000000) (disch := first | omega | with_reducible assumption | (simp only [List.length_map, List.length_cons, List.length_nil, List.length_set, List.length_append, List.length_replicate, List.length_take, List.length_drop, mk_size, AMem.size_set, Nat.reduceAdd]; omega)) only [amT, cut, bnd, Nat.reduceBEq, reduceCtorEq, Nat.reduceEqDiff, Nat.reduceAdd, Nat.reduceMul, Nat.reduceSub, Int.reduceToNat, Int.reduceEq, Int.reduceLT, Int.reduceLE, Int.reduceAdd, Int.reduceSub, Int.reduceMul, reduceIte, resVs, resV, packV, initT, addr, F5_l0, t0, t1, t2, t3, t9, t10, hil, hr1, cellsOf6, fill_act6, cutL6, e1, e2, c3])
          rw [LoopK_normal]; refine ⟨_, ?_, i + 1, mx M [.cells [.int .u8 l[i].act, .string ⟨l[i].name.toArray⟩, .string ⟨l[i].to.toArray⟩, .string ⟨l[i].b.toArray⟩, .int .i64 l[i].n, .slice ka l[i].keep.length kc] 44 true .exact], v, d, rfl, rfl, by first | rfl | (simp (implicitDefEqProofs := false) (maxSteps := 1000000) (disch := first | omega | with_reducible assumption | (simp only [List.length_map, List.length_cons, List.length_nil, List.length_set, List.length_append, List.length_replicate, List.length_take, List.length_drop, mk_size, AMem.size_set, Nat.reduceAdd]; omega)) only [amT, cut, bnd, Nat.reduceBEq, reduceCtorEq, Nat.reduceEqDiff, Nat.reduceAdd, Nat.reduceMul, Nat.reduceSub, Int.reduceToNat, Int.reduceEq, Int.reduceLT, Int.reduceLE, Int.reduceAdd, Int.reduceSub, Int.reduceMul, reduceIte, resVs, resV, packV, initT, addr, t0, t1, t2, t3, t9, t10, mx_mx, List.append_nil]; first | done | rfl | (congr 1; omega)), by first | rfl | (simp (implicitDefEqProofs := false) (maxSteps := 1000000) (disch := first | omega | with_reducible assumption | (simp only [List.length_map, List.length_cons, List.length_nil, List.length_set, List.length_append, List.length_replicate, List.length_take, List.length_drop, mk_size, AMem.size_set, Nat.reduceAdd]; omega)) only [amT, cut, bnd, Nat.reduceBEq, reduceCtorEq, Nat.reduceEqDiff, Nat.reduceAdd, Nat.reduceMul, Nat.reduceSub, Int.reduceToNat, Int.reduceEq, Int.reduceLT, Int.reduceLE, Int.reduceAdd, Int.reduceSub, Int.reduceMul, reduceIte, resVs, resV, packV, initT, addr, t0, t1, t2, t3, t9, t10, mx_mx, List.append_nil]; first | done | rfl | (congr 1; omega)), by first | rfl | (simp (implicitDefEqProofs := false) (maxSteps := 1000000) (disch := first | omega | with_reducible assumption | (simp only [List.length_map, List.length_cons, List.length_nil, List.length_set, List.length_append, List.length_replicate, List.length_take, List.length_drop, mk_size, AMem.size_set, Nat.reduceAdd]; omega)) only [amT, cut, bnd, Nat.reduceBEq, reduceCtorEq, Nat.reduceEqDiff, Nat.reduceAdd, Nat.reduceMul, Nat.reduceSub, Int.reduceToNat, Int.reduceEq, Int.reduceLT, Int.reduceLE, Int.reduceAdd, Int.reduceSub, Int.reduceMul, reduceIte, resVs, resV, packV, initT, addr, t0, t1, t2, t3, t9, t10, mx_mx, List.append_nil]; first | done | rfl | (congr 1; omega)), by first | rfl | (simp (implicitDefEqProofs := false) (maxSteps := 1000000) (disch := first | omega | with_reducible assumption | (simp only [List.length_map, List.length_cons, List.length_nil, List.length_set, List.length_append, List.length_replicate, List.length_take, List.length_drop, mk_size, AMem.size_set, Nat.reduceAdd]; omega)) only [amT, cut, bnd, Nat.reduceBEq, reduceCtorEq, Nat.reduceEqDiff, Nat.reduceAdd, Nat.reduceMul, Nat.reduceSub, Int.reduceToNat, Int.reduceEq, Int.reduceLT, Int.reduceLE, Int.reduceAdd, Int.reduceSub, Int.reduceMul, reduceIte, resVs, resV, packV, initT, addr, t0, t1, t2, t3, t9, t10, mx_mx, List.append_nil]; first | done | rfl | (congr 1; omega)), by first | rfl | (simp (implicitDefEqProofs := false) (maxSteps := 1000000) (disch := first | omega | with_reducible assumption | (simp only [List.length_map, List.length_cons, List.length_nil, List.length_set, List.length_append, List.length_replicate, List.length_take, List.length_drop, mk_size, AMem.size_set, Nat.reduceAdd]; omega)) only [amT, cut, bnd, Nat.reduceBEq, reduceCtorEq, Nat.reduceEqDiff, Nat.reduceAdd, Nat.reduceMul, Nat.reduceSub, Int.reduceToNat, Int.reduceEq, Int.reduceLT, Int.reduceLE, Int.reduceAdd, Int.reduceSub, Int.reduceMul, reduceIte, resVs, resV, packV, initT, addr, t0, t1, t2, t3, t9, t10, mx_mx, List.append_nil]; first | done | rfl | (congr 1; omega)), by first | rfl | (simp (implicitDefEqProofs := false) (maxSteps := 1000000) (disch := first | omega | with_reducible assumption | (simp only [List.length_map, List.length_cons, List.length_nil, List.length_set, List.length_append, List.length_replicate, List.length_take, List.length_drop, mk_size, AMem.size_set, Nat.reduceAdd]; omega)) only [amT, cut, bnd, Nat.reduceBEq, reduceCtorEq, Nat.reduceEqDiff, Nat.reduceAdd, Nat.reduceMul, Nat.reduceSub, Int.reduceToNat, Int.reduceEq, Int.reduceLT, Int.reduceLE, Int.reduceAdd, Int.reduceSub, Int.reduceMul, reduceIte, resVs, resV, packV, initT, addr, t0, t1, t2, t3, t9, t10, mx_mx, List.append_nil]; first | done | rfl | (congr 1; omega)), by first | rfl | (simp (implicitDefEqProofs := false) (maxSteps := 1000000) (disch := first | omega | with_reducible assumption | (simp only [List.length_map, List.length_cons, List.length_nil, List.length_set, List.length_append, List.length_replicate, List.length_take, List.length_drop, mk_size, AMem.size_set, Nat.reduceAdd]; omega)) only [amT, cut, bnd, Nat.reduceBEq, reduceCtorEq, Nat.reduceEqDiff, Nat.reduceAdd, Nat.reduceMul, Nat.reduceSub, Int.reduceToNat, Int.reduceEq, Int.reduceLT, Int.reduceLE, Int.reduceAdd, Int.reduceSub, Int.reduceMul, reduceIte, resVs, resV, packV, initT, addr, t0, t1, t2, t3, t9, t10, mx_mx, List.append_nil]; first | done | rfl | (congr 1; omega)), ?_⟩
          · omega
          · exact ⟨by omega, hI.mx _, hB.up (by omega), hAp⟩
        have hdo := does_ok m (mx M [.cells [.int .u8 l[i].act, .string ⟨l[i].name.toArray⟩, .string ⟨l[i].to.toArray⟩, .string ⟨l[i].b.toArray⟩, .int .i64 l[i].n, .slice ka l[i].keep.length kc] 44 true .exact]) m.size v d (hI.mx _) (3 + i) hB (by omega) l[i] hok ka kc hA (by omega)
        have hB2 := hB.does l[i] hok (by omega)
        have hAp2 := hAp.does hB.sorted l[i] c1 c2 (by omega) hok.act.1
        generalize doesR d l[i] = R at hB2 hdo hAp2
        simp only [actRow] at hdo
        simp (implicitDefEqProofs := false) (maxSteps := 1000000) (disch := first | omega | with_reducible assumption | (simp only [List.length_map, List.length_cons, List.length_nil, List.length_set, List.length_append, List.length_replicate, List.length_take, List.length_drop, mk_size, AMem.size_set, Nat.reduceAdd]; omega)) only [amT, cut, bnd, Nat.reduceBEq, reduceCtorEq, Nat.reduceEqDiff, Nat.reduceAdd, Nat.reduceMul, Nat.reduceSub, Int.reduceToNat, Int.reduceEq, Int.reduceLT, Int.reduceLE, Int.reduceAdd, Int.reduceSub, Int.reduceMul, reduceIte, resVs, resV, packV, initT, addr, F5_l0, t0, t1, t2, t3, t9, t10, hil, hr1, cellsOf6, fill_act6, cutL6, e1, e2, c3]; repeat (refine OrW.go ?_; try simp (implicitDefEqProofs := false) (maxSteps := 1000000) (disch := first | omega | with_reducible assumption | (simp only [List.length_map, List.length_cons, List.length_nil, List.length_set, List.length_append, List.length_replicate, List.length_take, List.length_drop, mk_size, AMem.size_set, Nat.reduceAdd]; omega)) only [amT, cut, bnd, Nat.reduceBEq, reduceCtorEq, Nat.reduceEqDiff, Nat.reduceAdd, Nat.reduceMul, Nat.reduceSub, Int.reduceToNat, Int.reduceEq, Int.reduceLT, Int.reduceLE, Int.reduceAdd, Int.reduceSub, Int.reduceMul, reduceIte, resVs, resV, packV, initT, addr, F5_l0, t0, t1, t2, t3, t9, t10, hil, hr1, cellsOf6, fill_act6, cutL6, e1, e2, c3])
        refine RelC.call hdo ?_
        rintro r M4 ⟨rfl, v4, h4, -⟩
        have hrd := read_in (h4.mx []) hB2 (by omega) own (by simp [own])
        rw [hAp2.read hB2.sorted] at hrd
        simp (implicitDefEqProofs := false) (maxSteps := 1000000) (disch := first | omega | with_reducible assumption | (simp only [List.length_map, List.length_cons, List.length_nil, List.length_set, List.length_append, List.length_replicate, List.length_take, List.length_drop, mk_size, AMem.size_set, Nat.reduceAdd]; omega)) only [amT, cut, bnd, Nat.reduceBEq, reduceCtorEq, Nat.reduceEqDiff, Nat.reduceAdd, Nat.reduceMul, Nat.reduceSub, Int.reduceToNat, Int.reduceEq, Int.reduceLT, Int.reduceLE, Int.reduceAdd, Int.reduceSub, Int.reduceMul, reduceIte, resVs, resV, packV, initT, addr, t0, t1, t2, t3, t9, t10]; repeat (refine OrW.go ?_; try simp (implicitDefEqProofs := false) (maxSteps := 1000000) (disch := first | omega | with_reducible assumption | (simp only [List.length_map, List.length_cons, List.length_nil, List.length_set, List.length_append, List.length_replicate, List.length_take, List.length_drop, mk_size, AMem.size_set, Nat.reduceAdd]; omega)) only [amT, cut, bnd, Nat.reduceBEq, reduceCtorEq, Nat.reduceEqDiff, Nat.reduceAdd, Nat.reduceMul, Nat.reduceSub, Int.reduceToNat, Int.reduceEq, Int.reduceLT, Int.reduceLE, Int.reduceAdd, Int.reduceSub, Int.reduceMul, reduceIte, resVs, resV, packV, initT, addr, t0, t1, t2, t3, t9, t10])
        refine RelC.call hrd ?_
        rintro r M5 ⟨bb, rfl, h5, -, hBf⟩
        obtain ⟨ab, cb, rfl, hbs⟩ := hBf.bsl'
        have hstr := (hbs.old (Old.here M5 [])).str
        rw [List.length_append] at hstr
        simp (implicitDefEqProofs := false) (maxSteps := 1000000) (disch := first | omega | with_reducible assumption | (simp only [List.length_map, List.length_cons, List.length_nil, List.length_set, List.length_append, List.length_replicate, List.length_take, List.length_drop, mk_size, AMem.size_set, Nat.reduceAdd]; omega)) only [amT, cut, bnd, Nat.reduceBEq, reduceCtorEq, Nat.reduceEqDiff, Nat.reduceAdd, Nat.reduceMul, Nat.reduceSub, Int.reduceToNat, Int.reduceEq, Int.reduceLT, Int.reduceLE, Int.reduceAdd, Int.reduceSub, Int.reduceMul, reduceIte, resVs, resV, packV, initT, addr, t0, t1, t2, t3, t9, t10, stepOp_b2s_v, hstr]; repeat (refine OrW.go ?_; try simp (implicitDefEqProofs := false) (maxSteps := 1000000) (disch := first | omega | with_reducible assumption | (simp only [List.length_map, List.length_cons, List.length_nil, List.length_set, List.length_append, List.length_replicate, List.length_take, List.length_drop, mk_size, AMem.size_set, Nat.reduceAdd]; omega)) only [amT, cut, bnd, Nat.reduceBEq, reduceCtorEq, Nat.reduceEqDiff, Nat.reduceAdd, Nat.reduceMul, Nat.reduceSub, Int.reduceToNat, Int.reduceEq, Int.reduceLT, Int.reduceLE, Int.reduceAdd, Int.reduceSub, Int.reduceMul, reduceIte, resVs, resV, packV, initT, addr, t0, t1, t2, t3, t9, t10, stepOp_b2s_v, hstr])
        rw [LoopK_normal]; refine ⟨_, ?_, i + 1, M5, v4, R.2, rfl, rfl, by first | rfl | (simp (implicitDefEqProofs := false) (maxSteps := 1000000) (disch := first | omega | with_reducible assumption | (simp only [List.length_map, List.length_cons, List.length_nil, List.length_set, List.length_append, List.length_replicate, List.length_take, List.length_drop, mk_size, AMem.size_set, Nat.reduceAdd]; omega)) only [amT, cut, bnd, Nat.reduceBEq, reduceCtorEq, Nat.reduceEqDiff, Nat.reduceAdd, Nat.reduceMul, Nat.reduceSub, Int.reduceToNat, Int.reduceEq, Int.reduceLT, Int.reduceLE, Int.reduceAdd, Int.reduceSub, Int.reduceMul, reduceIte, resVs, resV, packV, initT, addr, t0, t1, t2, t3, t9, t10]; first | done | rfl | (congr 1; omega)), by first | rfl | (simp (implicitDefEqProofs := false) (maxSteps := 1000000) (disch := first | omega | with_reducible assumption | (simp only [List.length_map, List.length_cons, List.length_nil, List.length_set, List.length_append, List.length_replicate, List.length_take, List.length_drop, mk_size, AMem.size_set, Nat.reduceAdd]; omega)) only [amT, cut, bnd, Nat.reduceBEq, reduceCtorEq, Nat.reduceEqDiff, Nat.reduceAdd, Nat.reduceMul, Nat.reduceSub, Int.reduceToNat, Int.reduceEq, Int.reduceLT, Int.reduceLE, Int.reduceAdd, Int.reduceSub, Int.reduceMul, reduceIte, resVs, resV, packV, initT, addr, t0, t1, t2, t3, t9, t10]; first | done | rfl | (congr 1; omega)), by first | rfl | (simp (implicitDefEqProofs := false) (maxSteps := 1000000) (disch := first | omega | with_reducible assumption | (simp only [List.length_map, List.length_cons, List.length_nil, List.length_set, List.length_append, List.length_replicate, List.length_take, List.length_drop, mk_size, AMem.size_set, Nat.reduceAdd]; omega)) only [amT, cut, bnd, Nat.reduceBEq, reduceCtorEq, Nat.reduceEqDiff, Nat.reduceAdd, Nat.reduceMul, Nat.reduceSub, Int.reduceToNat, Int.reduceEq, Int.reduceLT, Int.reduceLE, Int.reduceAdd, Int.reduceSub, Int.reduceMul, reduceIte, resVs, resV, packV, initT, addr, t0, t1, t2, t3, t9, t10]; first | done | rfl | (congr 1; omega)), by first | rfl | (simp (implicitDefEqProofs := false) (maxSteps := 1000000) (disch := first | omega | with_reducible assumption | (simp only [List.length_map, List.length_cons, List.length_nil, List.length_set, List.length_append, List.length_replicate, List.length_take, List.length_drop, mk_size, AMem.size_set, Nat.reduceAdd]; omega)) only [amT, cut, bnd, Nat.reduceBEq, reduceCtorEq, Nat.reduceEqDiff, Nat.reduceAdd, Nat.reduceMul, Nat.reduceSub, Int.reduceToNat, Int.reduceEq, Int.reduceLT, Int.reduceLE, Int.reduceAdd, Int.reduceSub, Int.reduceMul, reduceIte, resVs, resV, packV, initT, addr, t0, t1, t2, t3, t9, t10]; first | done | rfl | (congr 1; omega)), by first | rfl | (simp (implicitDefEqProofs := false) (maxSteps := 1000000) (disch := first | omega | with_reducible assumption | (simp only [List.length_map, List.length_cons, List.length_nil, List.length_set, List.length_append, List.length_replicate, List.length_take, List.length_drop, mk_size, AMem.size_set, Nat.reduceAdd]; omega)) only [amT, cut, bnd, Nat.reduceBEq, reduceCtorEq, Nat.reduceEqDiff, Nat.reduceAdd, Nat.reduceMul, Nat.reduceSub, Int.reduceToNat, Int.reduceEq, Int.reduceLT, Int.reduceLE, Int.reduceAdd, Int.reduceSub, Int.reduceMul, reduceIte, resVs, resV, packV, initT, addr, t0, t1, t2, t3, t9, t10]; first | done | rfl | (congr 1; omega)), by first | rfl | (simp (implicitDefEqProofs := false) (maxSteps := 1000000) (disch := first | omega | with_reducible assumption | (simp only [List.length_map, List.length_cons, List.length_nil, List.length_set, List.length_append, List.length_replicate, List.length_take, List.length_drop, mk_size, AMem.size_set, Nat.reduceAdd]; omega)) only [amT, cut, bnd, Nat.reduceBEq, reduceCtorEq, Nat.reduceEqDiff, Nat.reduceAdd, Nat.reduceMul, Nat.reduceSub, Int.reduceToNat, Int.reduceEq, Int.reduceLT, Int.reduceLE, Int.reduceAdd, Int.reduceSub, Int.reduceMul, reduceIte, resVs, resV, packV, initT, addr, t0, t1, t2, t3, t9, t10]; first | done | rfl | (congr 1; omega)), by first | rfl | (simp (implicitDefEqProofs := false) (maxSteps := 1000000) (disch := first | omega | with_reducible assumption | (simp only [List.length_map, List.length_cons, List.length_nil, List.length_set, List.length_append, List.length_replicate, List.length_take, List.length_drop, mk_size, AMem.size_set, Nat.reduceAdd]; omega)) only [amT, cut, bnd, Nat.reduceBEq, reduceCtorEq, Nat.reduceEqDiff, Nat.reduceAdd, Nat.reduceMul, Nat.reduceSub, Int.reduceToNat, Int.reduceEq, Int.reduceLT, Int.reduceLE, Int.reduceAdd, Int.reduceSub, Int.reduceMul, reduceIte, resVs, resV, packV, initT, addr, t0, t1, t2, t3, t9, t10]; first | done | rfl | (congr 1; omega)), ?_⟩
        · omega
        · exact ⟨by omega, h5, hB2.up (by omega), hAp2⟩
      · have hc := crash_in (hI.mx [])
        simp (implicitDefEqProofs := false) (maxSteps := 1000000) (disch := first | omega | with_reducible assumption | (simp only [List.length_map, List.length_cons, List.length_nil, List.length_set, List.length_append, List.length_replicate, List.length_take, List.length_drop, mk_size, AMem.size_set, Nat.reduceAdd]; omega)) only [amT, cut, bnd, Nat.reduceBEq, reduceCtorEq, Nat.reduceEqDiff, Nat.reduceAdd, Nat.reduceMul, Nat.reduceSub, Int.reduceToNat, Int.reduceEq, Int.reduceLT, Int.reduceLE, Int.reduceAdd, Int.reduceSub, Int.reduceMul, reduceIte, resVs, resV, packV, initT, addr, F5_l0, t0, t1, t2, t3, t9, t10, hil]; repeat (refine OrW.go ?_; try simp (implicitDefEqProofs := false) (maxSteps := 1000000) (disch := first | omega | with_reducible assumption | (simp only [List.length_map, List.length_cons, List.length_nil, List.length_set, List.length_append, List.length_replicate, List.length_take, List.length_drop, mk_size, AMem.size_set, Nat.reduceAdd]; omega)) only [amT, cut, bnd, Nat.reduceBEq, reduceCtorEq, Nat.reduceEqDiff, Nat.reduceAdd, Nat.reduceMul, Nat.reduceSub, Int.reduceToNat, Int.reduceEq, Int.reduceLT, Int.reduceLE, Int.reduceAdd, Int.reduceSub, Int.reduceMul, reduceIte, resVs, resV, packV, initT, addr, F5_l0, t0, t1, t2, t3, t9, t10, hil])
        refine RelC.call hc ?_
        rintro r M4 ⟨rfl, v4, h4, -⟩
        have ho := on_in (h4.mx []) hB.crash (by omega) kv keep (hk.old (h4.mx []).old) hkl hk64 (fun b o n c e => by have := hkb b o n c e; omega)
        simp (implicitDefEqProofs := false) (maxSteps := 1000000) (disch := first | omega | with_reducible assumption | (simp only [List.length_map, List.length_cons, List.length_nil, List.length_set, List.length_append, List.length_replicate, List.length_take, List.length_drop, mk_size, AMem.size_set, Nat.reduceAdd]; omega)) only [amT, cut, bnd, Nat.reduceBEq, reduceCtorEq, Nat.reduceEqDiff, Nat.reduceAdd, Nat.reduceMul, Nat.reduceSub, Int.reduceToNat, Int.reduceEq, Int.reduceLT, Int.reduceLE, Int.reduceAdd, Int.reduceSub, Int.reduceMul, reduceIte, resVs, resV, packV, initT, addr, t0, t1, t2, t3, t9, t10]; repeat (refine OrW.go ?_; try simp (implicitDefEqProofs := false) (maxSteps := 1000000) (disch := first | omega | with_reducible assumption | (simp only [List.length_map, List.length_cons, List.length_nil, List.length_set, List.length_append, List.length_replicate, List.length_take, List.length_drop, mk_size, AMem.size_set, Nat.reduceAdd]; omega)) only [amT, cut, bnd, Nat.reduceBEq, reduceCtorEq, Nat.reduceEqDiff, Nat.reduceAdd, Nat.reduceMul, Nat.reduceSub, Int.reduceToNat, Int.reduceEq, Int.reduceLT, Int.reduceLE, Int.reduceAdd, Int.reduceSub, Int.reduceMul, reduceIte, resVs, resV, packV, initT, addr, t0, t1, t2, t3, t9, t10])
        refine RelC.call ho ?_
        rintro r M5 ⟨rfl, v5, h5, -⟩
        have b5 := hB.crash.on keep
        obtain ⟨n, hn, hread⟩ := hAp.on hB.sorted keep
        have hrd := read_in (h5.mx []) b5 (by omega) own (by simp [own])
        rw [hread] at hrd
        have q0 : o.length ≤ o.length + n := by omega
        have q00 : o.length + n ≤ o.length + w.length := by omega
        generalize o.length + n = N at *
        have q1 : (o.length : Int) ≤ (N : Int) := by omega
        have q2 : (N : Int) ≤ (o.length : Int) + (w.length : Int) := by omega
        simp (implicitDefEqProofs := false) (maxSteps := 1000000) (disch := first | omega | with_reducible assumption | (simp only [List.length_map, List.length_cons, List.length_nil, List.length_set, List.length_append, List.length_replicate, List.length_take, List.length_drop, mk_size, AMem.size_set, Nat.reduceAdd]; omega)) only [amT, cut, bnd, Nat.reduceBEq, reduceCtorEq, Nat.reduceEqDiff, Nat.reduceAdd, Nat.reduceMul, Nat.reduceSub, Int.reduceToNat, Int.reduceEq, Int.reduceLT, Int.reduceLE, Int.reduceAdd, Int.reduceSub, Int.reduceMul, reduceIte, resVs, resV, packV, initT, addr, t0, t1, t2, t3, t9, t10]; repeat (refine OrW.go ?_; try simp (implicitDefEqProofs := false) (maxSteps := 1000000) (disch := first | omega | with_reducible assumption | (simp only [List.length_map, List.length_cons, List.length_nil, List.length_set, List.length_append, List.length_replicate, List.length_take, List.length_drop, mk_size, AMem.size_set, Nat.reduceAdd]; omega)) only [amT, cut, bnd, Nat.reduceBEq, reduceCtorEq, Nat.reduceEqDiff, Nat.reduceAdd, Nat.reduceMul, Nat.reduceSub, Int.reduceToNat, Int.reduceEq, Int.reduceLT, Int.reduceLE, Int.reduceAdd, Int.reduceSub, Int.reduceMul, reduceIte, resVs, resV, packV, initT, addr, t0, t1, t2, t3, t9, t10])
        refine RelC.call hrd ?_
        rintro r M6 ⟨bb, rfl, h6, -, hBf⟩
        obtain ⟨ab, cb, rfl, hbs⟩ := hBf.bsl'
        have hlenT : ((o ++ w).take N).length = N := by rw [List.length_take, List.length_append]; omega
        have hstr := (hbs.old (Old.here M6 [])).str
        simp only [hlenT] at hstr
        have kWn := DetC.known (works_ok (mx M6 []))
        simp (implicitDefEqProofs := false) (maxSteps := 1000000) (disch := first | omega | with_reducible assumption | (simp only [List.length_map, List.length_cons, List.length_nil, List.length_set, List.length_append, List.length_replicate, List.length_take, List.length_drop, mk_size, AMem.size_set, Nat.reduceAdd]; omega)) only [amT, cut, bnd, Nat.reduceBEq, reduceCtorEq, Nat.reduceEqDiff, Nat.reduceAdd, Nat.reduceMul, Nat.reduceSub, Int.reduceToNat, Int.reduceEq, Int.reduceLT, Int.reduceLE, Int.reduceAdd, Int.reduceSub, Int.reduceMul, reduceIte, resVs, resV, packV, initT, addr, t0, t1, t2, t3, t9, t10, hlenT, q1, q2, stepOp_b2s_v, hstr, kWn]; repeat (refine OrW.go ?_; try simp (implicitDefEqProofs := false) (maxSteps := 1000000) (disch := first | omega | with_reducible assumption | (simp only [List.length_map, List.length_cons, List.length_nil, List.length_set, List.length_append, List.length_replicate, List.length_take, List.length_drop, mk_size, AMem.size_set, Nat.reduceAdd]; omega)) only [amT, cut, bnd, Nat.reduceBEq, reduceCtorEq, Nat.reduceEqDiff, Nat.reduceAdd, Nat.reduceMul, Nat.reduceSub, Int.reduceToNat, Int.reduceEq, Int.reduceLT, Int.reduceLE, Int.reduceAdd, Int.reduceSub, Int.reduceMul, reduceIte, resVs, resV, packV, initT, addr, t0, t1, t2, t3, t9, t10, hlenT, q1, q2, stepOp_b2s_v, hstr, kWn])
        exact (h6.mx []).old
end Go.Proofs.Ytbmjhiifinjieaa
namespace Go.AM
theorem RowV.ints {m : AMem} {a : Option Addr} {l : List Int} (cap : Nat) (h : RowV m a (l.map fun n => .int .i64 n)) : IntV m (.slice a l.length cap) l := by
  refine ⟨a, cap, rfl, fun i hi => ?_⟩
  rcases h.2 with h0 | ⟨b, ty, rfl, hg⟩
  · obtain rfl : l = [] := by simpa using h0
    cases hi
  · refine ⟨b, 0, rfl, h.1 _ _ rfl, ?_⟩
    rw [rd_def, hg, rdO_cells, Nat.zero_add]
    unfold cutL
    rw [if_pos (by simp; omega)]
    simp [hi, List.drop_eq_getElem_cons]
theorem RowV.lt {m : AMem} {a : Option Addr} {c : List Value} {len cap : Nat} (h : RowV m a c) : ∀ b o n k, Value.slice a len cap = .slice (some ⟨b, o, none⟩) n k → b < m.size := fun b o n k e => by
  cases e; exact h.1 _ _ rfl
theorem wf_i64' {n : Int} (h : (Lit.int .i64 n).wf = true) : -9223372036854775808 ≤ n ∧ n ≤ 9223372036854775807 := by
  have h2 : IntKind.i64.min ≤ n ∧ n ≤ IntKind.i64.max := by simpa [Lit.wf] using h
  exact h2
theorem wf_u32' {n : Int} (h : (Lit.int .u32 n).wf = true) : 0 ≤ n ∧ n ≤ 4294967295 := by
  have h2 : IntKind.u32.min ≤ n ∧ n ≤ IntKind.u32.max := by simpa [Lit.wf] using h
  exact h2
end Go.AM
namespace Go.Proofs.Ytbmjhiifinjieaa
open Go Go.AM
set_option linter.unusedVariables false
set_option maxRecDepth 100000
set_option maxHeartbeats 1000000

def actCells (x : ActR) (kv : Value) : List Value := [.int .u8 x.act, .string ⟨x.name.toArray⟩, .string ⟨x.to.toArray⟩, .string ⟨x.b.toArray⟩, .int .i64 x.n, kv]
/-- An act, in a world. -/
theorem open_act {H : Type} {enc : TypeId × Value → H} {w : World} {base : Nat} {hd : Bool} {cs : List Value} {y : DataW H × List MemPlace} {fuel : Nat}
    (h : DataW.trod enc Try.prog w base (fun _ => true) hd fuel 44 cs = some y) : ∃ z : ActR × Value, cs = actCells z.1 z.2 ∧ SlP w (z.1.keep.map fun n => .int .i64 n) z.2 ∧ z.1.ok := by
  cases fuel with
  | zero => simp [DataW.trod] at h
  | succ fuel =>
    simp only [DataW.trod, Try.underlying44] at h
    split at h <;> try (simp at h; done)
    rename_i hlen
    have h6 : Try.prog.cellsOf 44 = 6 := by kernel_rfl
    rw [h6] at hlen
    simp only [Option.map_eq_some_iff] at h
    obtain ⟨xs, hxs, _⟩ := h
    obtain ⟨c0, c1, c2, c3, c4, c5, rfl⟩ : ∃ a b c d e f, cs = [a, b, c, d, e, f] := by
      match cs, hlen with
      | [a, b, c, d, e, f], _ => exact ⟨a, b, c, d, e, f, rfl⟩
    have k5 : Try.prog.cellsOf 5 = 1 := by kernel_rfl
    have k9 : Try.prog.cellsOf 9 = 1 := by kernel_rfl
    have k3 : Try.prog.cellsOf 3 = 1 := by kernel_rfl
    have k33 : Try.prog.cellsOf 33 = 1 := by kernel_rfl
    obtain ⟨y0, e0⟩ := Go.AM.mapM_some_get hxs 0 (by decide)
    obtain ⟨y1, e1⟩ := Go.AM.mapM_some_get hxs 1 (by decide)
    obtain ⟨y2, e2⟩ := Go.AM.mapM_some_get hxs 2 (by decide)
    obtain ⟨y3, e3⟩ := Go.AM.mapM_some_get hxs 3 (by decide)
    obtain ⟨y4, e4⟩ := Go.AM.mapM_some_get hxs 4 (by decide)
    obtain ⟨y5, e5⟩ := Go.AM.mapM_some_get hxs 5 (by decide)
    simp only [List.getElem_cons_zero, List.getElem_cons_succ, k5, k9, k3, k33, List.drop_zero, List.drop_succ_cons, List.take_succ_cons, List.take_zero] at e0 e1 e2 e3 e4 e5
    obtain ⟨a, rfl, w0⟩ := trod_one Try.underlying5 e0
    obtain ⟨s1, rfl, w1⟩ := trod_str Try.underlying9 e1
    obtain ⟨s2, rfl, w2⟩ := trod_str Try.underlying9 e2
    obtain ⟨s3, rfl, w3⟩ := trod_str Try.underlying9 e3
    obtain ⟨n, rfl, w4⟩ := trod_one Try.underlying3 e4
    obtain ⟨v, l, ev, hs, hl, hl2⟩ := open_ints Try.underlying33 Try.underlying3 k3 e5
    cases ev
    exact ⟨(⟨a, s1, s2, s3, n, l⟩, _), rfl, hs, wf_u8 w0, w1, w2, w3, wf_i64' w4, hl2, hl⟩

/-- A slice of acts, in a world. -/
inductive SlA (w : World) (l : List (ActR × Value)) : Value → Prop
  | nil (h : l = []) : SlA w l (.slice none 0 0)
  | none (a : Addr) (h : l = []) : SlA w l (.slice (some a) 0 0)
  | some (b o cap : Nat) (carr : Array Value) (ty : TypeId) (frz : Nat × Nat) (hh : w.heap[b]? = some (.cells carr ty frz)) (hl : o + l.length * 6 ≤ carr.size)
      (hc : ∀ i (h : i < l.length) r, r < 6 → carr.getD (o + (i * 6 + r)) undef = (actCells l[i].1 l[i].2).getD r undef) (hcap : cap ≤ 9223372036854775807) (hle : l.length ≤ cap) : SlA w l (.slice (some ⟨b, o, Option.none⟩) l.length cap)
theorem cells_get {w : World} {base n : Nat} {a : Addr} {cs : List Value} (h : w.cells? base a n = some cs) : cs.length = n ∧ ∀ r (hr : r < n), w.cell? (a.add r) = cs[r]? := by
  unfold World.cells? at h
  split at h
  · have hlen : cs.length = n := by
      have : ∀ (l : List Nat) (cs : List Value), l.mapM (fun i => w.cell? (a.add i)) = some cs → cs.length = l.length := by
        intro l
        induction l with
        | nil => intro cs h; simp at h; subst h; rfl
        | cons x l ih =>
          intro cs h
          simp only [List.mapM_cons, Option.bind_eq_bind, Option.bind_eq_some_iff] at h
          obtain ⟨y, _, ys, h2, h3⟩ := h
          cases h3
          simp [ih ys h2]
      have := this _ _ h; simpa using this
    refine ⟨hlen, fun r hr => ?_⟩
    have : ∀ (l : List Nat) (cs : List Value), l.mapM (fun i => w.cell? (a.add i)) = some cs → ∀ r (hr : r < l.length), w.cell? (a.add l[r]) = cs[r]? := by
      intro l
      induction l with
      | nil => intro cs h r hr; cases hr
      | cons x l ih =>
        intro cs h r hr
        simp only [List.mapM_cons, Option.bind_eq_bind, Option.bind_eq_some_iff] at h
        obtain ⟨y, h1, ys, h2, h3⟩ := h
        cases h3
        cases r with
        | zero => simpa using h1
        | succ r => simpa using ih ys h2 r (by simpa using hr)
    have := this _ _ h r (by simpa using hr)
    simpa using this
  · cases h
instance : Inhabited (ActR × Value) := ⟨(default, .bool false)⟩
theorem open_acts {H : Type} {enc : TypeId × Value → H} {w : World} {base : Nat} {hd : Bool} {cs : List Value} {x : DataW H × List MemPlace} {fuel : Nat}
    (h : DataW.trod enc Try.prog w base (fun _ => true) hd fuel 41 cs = some x) : ∃ (v : Value) (l : List (ActR × Value)), cs = [v] ∧ SlA w l v ∧ (∀ z ∈ l, SlP w (z.1.keep.map fun n => .int .i64 n) z.2 ∧ z.1.ok) ∧ l.length ≤ 9223372036854775807 := by
  have h6 : Try.prog.cellsOf 44 = 6 := by kernel_rfl
  rcases Go.Deep.open_slice Try.underlying41 h with ⟨rfl, _⟩ | ⟨a, len, cap, m, n, D, Pl, rfl, _, hle, hmax, hm, _, hx⟩
  · exact ⟨_, [], rfl, .nil rfl, by simp, by simp⟩
  · simp only [if_true] at hm
    subst hm
    by_cases h0 : len = 0
    · subst h0
      by_cases hm0 : m = 0
      · subst hm0; exact ⟨_, [], rfl, .none a rfl, by simp, by simp⟩
      · obtain ⟨cs', hc', _⟩ := hx 0 (by omega)
        rw [h6] at hc'
        obtain ⟨hlc, hcr⟩ := cells_get hc'
        have hc0 := hcr 0 (by omega)
        obtain ⟨b, o, sp⟩ := a
        rw [List.getElem?_eq_getElem (by omega)] at hc0
        simp only [Nat.zero_mul, Addr.add, if_true, World.cell?] at hc0
        split at hc0 <;> try (simp at hc0; done)
        rename_i carr ty frz hh
        split at hc0 <;> try (simp at hc0; done)
        rename_i hsp
        obtain rfl : sp = Option.none := by cases sp <;> simp_all
        have := (Array.getElem?_eq_some_iff.1 hc0).1
        exact ⟨_, [], rfl, .some b o m carr ty frz hh (by simp; omega) (fun i hi => by cases hi) hmax (by simp), by simp, by simp⟩
    · obtain ⟨cs', hc', _⟩ := hx 0 (by omega)
      rw [h6] at hc'
      obtain ⟨hlc, hcr⟩ := cells_get hc'
      have hc0 := hcr 0 (by omega)
      obtain ⟨b, o, sp⟩ := a
      rw [List.getElem?_eq_getElem (by omega)] at hc0
      simp only [Nat.zero_mul, Addr.add, if_true, World.cell?] at hc0
      split at hc0 <;> try (simp at hc0; done)
      rename_i carr ty frz hh
      split at hc0 <;> try (simp at hc0; done)
      rename_i hsp
      obtain rfl : sp = Option.none := by cases sp <;> simp_all
      have key : ∀ i, i < len → ∃ z : ActR × Value, (SlP w (z.1.keep.map fun n => .int .i64 n) z.2 ∧ z.1.ok) ∧ ∀ r, r < 6 → carr[o + (i * 6 + r)]? = some ((actCells z.1 z.2).getD r undef) := fun i hi => by
        obtain ⟨cs2, hc2, ht2⟩ := hx i (by omega)
        rw [h6] at hc2
        obtain ⟨hl2, hr2⟩ := cells_get hc2
        obtain ⟨z, rfl, hz1, hz2⟩ := open_act ht2
        refine ⟨z, ⟨hz1, hz2⟩, fun r hr => ?_⟩
        have := hr2 r hr
        rw [List.getElem?_eq_getElem (by omega)] at this
        have e : ((⟨b, o, Option.none⟩ : Addr).add (i * 6)).add r = ⟨b, o + (i * 6 + r), Option.none⟩ := by
          simp only [Addr.add]
          split <;> split <;> simp_all <;> omega
        rw [e] at this
        simp only [World.cell?, hh] at this
        simp only [Option.isSome_none, Bool.false_eq_true, if_false] at this
        rw [this, List.getD_eq_getElem?_getD, List.getElem?_eq_getElem (by omega)]; rfl
      obtain ⟨f, hf⟩ := Go.Deep.choose_lt (α := ActR × Value) (n := len) key
      have hlen : ((List.range len).map f).length = len := by simp
      have hlast : o + len * 6 ≤ carr.size := by
        have := (Array.getElem?_eq_some_iff.1 ((hf (len - 1) (by omega)).2 5 (by omega))).1; omega
      have main : SlA w ((List.range len).map f) (.slice (some ⟨b, o, Option.none⟩) ((List.range len).map f).length m) :=
        .some b o m carr ty frz hh (by rw [hlen]; exact hlast) (fun i hi r hr => by
          have hi' : i < len := by rw [hlen] at hi; exact hi
          rw [Array.getD_eq_getD_getElem?, (hf i hi').2 r hr]; simp) hmax (by rw [hlen]; exact hle)
      rw [hlen] at main
      refine ⟨_, (List.range len).map f, rfl, main, fun z hz => ?_, by rw [hlen]; exact Nat.le_trans hle hmax⟩
      simp only [List.mem_map, List.mem_range] at hz
      obtain ⟨i, hi, rfl⟩ := hz
      exact (hf i hi).1

/-- A row of acts as an argument: its blocks are those from the k-th on. -/
theorem arg_acts {W : World} {l : List (ActR × Value)} {v : Value} (h : SlA W l v) (hl : ∀ z ∈ l, SlP W (z.1.keep.map fun n => .int .i64 n) z.2 ∧ z.1.ok) (k : Nat) : ∃ (L : List (AObj × AM.Loc)) (a : Option Addr) (cap : Nat), (∀ x ∈ L, x.1.wrt = false) ∧
    ∀ os : List (AObj × AM.Loc), (∀ j (h : j < L.length), os[k + j]? = some L[j]) → (∀ x ∈ L, ObjRel (renOf (os0 os)) x.1 x.2 W) ∧ ActsV (memOf (os0 os)) a (l.map (·.1)) ∧ VRel (renOf (os0 os)) (.slice a (l.map (·.1)).length cap) v := by
  cases h with
  | nil h => subst h; exact ⟨[], none, 0, by simp, fun os _ => ⟨by simp, fun i hi => by simp at hi, .nilSlice 0 0⟩⟩
  | none a h => subst h; exact ⟨[], some ⟨0, 0, none⟩, 0, by simp, fun os _ => ⟨by simp, fun i hi => by simp at hi, .sliceEnd (b := 0) (o := 0) (L := ⟨0, 0, 0, 1⟩) rfl (.inl rfl)⟩⟩
  | some b o cap carr ty frz hh hlen hc hcap hle =>
    haveI : Inhabited ((AObj × AM.Loc) × Option Addr × Nat) := ⟨((.dead, ⟨0, 0, 0, 1⟩), none, 0)⟩
    have each : ∀ i, i < l.length → ∃ y : (AObj × AM.Loc) × Option Addr × Nat, y.1.1.wrt = false ∧ (∀ ρ, ObjRel ρ y.1.1 y.1.2 W) ∧ ∀ os : List (AObj × AM.Loc), os[k + 1 + i]? = some y.1 →
        RowV (memOf (os0 os)) y.2.1 ((l.getD i default).1.keep.map fun n => .int .i64 n) ∧ VRel (renOf (os0 os)) (.slice y.2.1 (l.getD i default).1.keep.length y.2.2) (l.getD i default).2 := fun i hi => by
      have hz := (hl _ (List.getElem_mem hi)).1
      have e : l.getD i default = l[i] := by simp [List.getD, hi]
      obtain ⟨x, a, c, h1, h2, h3⟩ := arg_row (by intro v hv; simp only [List.mem_map] at hv; obtain ⟨y, _, rfl⟩ := hv; exact AM.Plain.int _ _) hz (k + 1 + i)
      refine ⟨(x, a, c), h1, h2, fun os hos => ?_⟩
      rw [e]
      have := h3 os hos
      rw [List.length_map] at this
      exact this
    obtain ⟨y, hy⟩ := Go.Deep.choose_lt (α := (AObj × AM.Loc) × Option Addr × Nat) (n := l.length) each
    let row : Nat → List Value := fun i => actRow (l.getD i default).1 (y i).2.1 (y i).2.2
    let X : List Value := (List.range (l.length * 6)).map fun j => (row (j / 6)).getD (j % 6) undef
    have hXl : X.length = l.length * 6 := by simp [X]
    have hXg : ∀ i r (hr : r < 6) (hi : i * 6 + r < X.length), X[i * 6 + r] = (row i).getD r undef := fun i r hr hi => by
      simp only [X, List.getElem_map, List.getElem_range]
      rw [show (i * 6 + r) / 6 = i by omega, show (i * 6 + r) % 6 = r by omega]
    refine ⟨(.cells X ty false (.full 6), ⟨b, o, l.length * 6, 6⟩) :: (List.range l.length).map fun i => (y i).1, some ⟨1 + k, 0, none⟩, cap, fun x hx => ?_, fun os hos => ?_⟩
    · simp only [List.mem_cons, List.mem_map, List.mem_range] at hx
      rcases hx with rfl | ⟨i, hi, rfl⟩
      · rfl
      · exact (hy i hi).1
    · have h0 : os[k]? = some (.cells X ty false (.full 6), ⟨b, o, l.length * 6, 6⟩) := by have := hos 0 (by simp); simpa using this
      have hi1 : ∀ i, i < l.length → os[k + 1 + i]? = some (y i).1 := fun i hi => by
        have := hos (i + 1) (by simp; omega)
        rw [show k + (i + 1) = k + 1 + i by omega] at this
        rw [this]; simp
      have hE := fun i hi => (hy i hi).2.2 os (hi1 i hi)
      have hget : ∀ i (hi : i < l.length), l.getD i default = l[i] := fun i hi => by simp [List.getD, hi]
      refine ⟨fun x hx => ?_, fun i hi => ?_, ?_⟩
      · simp only [List.mem_cons, List.mem_map, List.mem_range] at hx
        rcases hx with rfl | ⟨i, hi, rfl⟩
        · refine ⟨carr, frz, hh, hlen, by rw [hXl]; exact Nat.le_refl _, (fun h => by cases h), (fun k h => by cases h; exact ⟨hXl.symm, rfl, by omega⟩), (fun j hj => ?_), (fun z h => by cases h), (fun h => by cases h)⟩
          have hj6 : j / 6 < l.length := by rw [hXl] at hj; omega
          have hjr : j % 6 < 6 := by omega
          have ej : j / 6 * 6 + j % 6 = j := by omega
          have h1 := hXg (j / 6) (j % 6) hjr (by omega)
          have h2 := hc (j / 6) hj6 (j % 6) hjr
          simp only [ej] at h1 h2
          rw [h1, h2]
          have h3 := (hE (j / 6) hj6).2
          rw [hget _ hj6] at h3
          simp only [row]
          rw [hget _ hj6]
          have : j % 6 = 0 ∨ j % 6 = 1 ∨ j % 6 = 2 ∨ j % 6 = 3 ∨ j % 6 = 4 ∨ j % 6 = 5 := by omega
          rcases this with e | e | e | e | e | e <;> rw [e]
          · exact .int _ _
          · exact .string _
          · exact .string _
          · exact .string _
          · exact .int _ _
          · exact h3
        · exact (hy i hi).2.1 _
      · have hi' : i < l.length := by simpa using hi
        have hE' := (hE i hi')
        refine ⟨1 + k, 0, (y i).2.1, (y i).2.2, rfl, lt0_at h0, ?_, ?_, ?_⟩
        · rw [get0_at h0, rdO_cells]
          unfold cutL
          rw [if_pos (by omega)]
          congr 1
          refine List.ext_getElem (by simp [actRow]; omega) fun r h1 h2 => ?_
          have hr : r < 6 := by simpa [actRow] using h2
          rw [List.getElem_take, List.getElem_drop]
          have := hXg i r hr (by omega)
          simp only [Nat.zero_add]
          rw [this]
          simp only [row, hget i hi', List.getElem_map]
          rw [List.getD_eq_getElem?_getD, List.getElem?_eq_getElem (by simpa [actRow] using hr)]; simp
        · rw [hget i hi'] at hE'
          rw [List.getElem_map]
          exact ⟨AM.RowV.ints _ hE'.1, fun b o e => hE'.1.1 b o e⟩
        · rw [List.getElem_map]; exact (hl _ (List.getElem_mem hi')).2
      · rw [List.length_map]
        exact .slice (b := 1 + k) (o := 0) (L := ⟨b, o, l.length * 6, 6⟩) (ren0_at h0) (openCap_lt hcap)
end Go.Proofs.Ytbmjhiifinjieaa
