/- What functions on texts answer. -/
import Derived.Test.YtfjgpeoblnpelaaDoorA4
import Derived.Test.YtfjgpeoblnpelaaDoorA5
import Derived.Test.YtfjgpeoblnpelaaDoorFilF
set_option linter.unusedVariables false
set_option linter.unusedSimpArgs false
set_option linter.unnecessarySimpa false
open Nat renaming reduceBEq → qA, reduceEqDiff → qB, reduceAdd → qC, reduceMul → qD, reduceSub → qE
open Int renaming reduceToNat → qF, reduceEq → qG, reduceLT → qH, reduceLE → qI, reduceAdd → qJ, reduceSub → qK, reduceMul → qL
namespace Go.Proofs.YtfjgpeoblnpelaaDoor
open Go Go.AM
set_option linter.unusedVariables false
set_option linter.unusedSimpArgs false
set_option maxRecDepth 100000

theorem cmpstr_ok (m : AMem) (a b : List UInt8) : PureC Tryd.prog 3 87 [.string ⟨a.toArray⟩, .string ⟨b.toArray⟩] m (.int .i64 (cmpB a b)) := by
  refine ACall_ext (fn := Tryd.f87) (e := Extern.BytealgCompare.compare) rfl rfl rfl rfl rfl ?_
  intro ρ w args' hR hA
  obtain ⟨args'⟩ := args'
  match args', hA with
  | [x, y], hA =>
    have h1 : VRel ρ (.string ⟨a.toArray⟩) x := hA.2 0 (by simp) (by simp)
    have h2 : VRel ρ (.string ⟨b.toArray⟩) y := hA.2 1 (by simp) (by simp)
    obtain rfl := h1.string_inv
    obtain rfl := h2.string_inv
    refine ⟨.int .i64 (cmpB a b), .int .i64 (cmpB a b), ?_, .int _ _, rfl, rfl⟩
    rw [← cmp_mk]
    change Sem.run Tryd.prog (do pure (goInt (Extern.BytealgCompare.cmp (← Extern.Bytes.bytesOf (.string ⟨a.toArray⟩)) (← Extern.Bytes.bytesOf (.string ⟨b.toArray⟩))))) w = _
    simp only [Extern.Bytes.bytesOf, Sem.run_bind, Sem.run_pure, Result.andThen]
    rfl
  | [], hA => simp [LRel] at hA
  | [_], hA => simp [LRel] at hA
  | _ :: _ :: _ :: _, hA => simp [LRel] at hA
theorem indexByteString_ok (m : AMem) (s : ByteArray) (c : UInt8) : PureC Tryd.prog 3 88 [.string s, .int .u8 c.toNat] m (.int .i64 (firstIdx s c)) := by
  refine ACall_ext (fn := Tryd.f88) (e := Extern.BytealgIndexByte.indexByte) rfl rfl rfl rfl rfl ?_
  intro ρ w args' hR hA
  obtain ⟨args'⟩ := args'
  match args', hA with
  | [a, b], hA =>
    have h1 : VRel ρ (.string s) a := hA.2 0 (by simp) (by simp)
    have h2 : VRel ρ (.int .u8 c.toNat) b := hA.2 1 (by simp) (by simp)
    obtain rfl := h1.string_inv
    obtain rfl := h2.int_inv
    refine ⟨.int .i64 (firstIdx s c), _, run_indexByte_string s c.toNat w, ?_, rfl, rfl⟩
    have : ((c.toNat : Int).toNat).toUInt8 = c := by simp
    rw [this]
    exact .int _ _
  | [], hA => simp [LRel] at hA
  | [_], hA => simp [LRel] at hA
  | _ :: _ :: _ :: _, hA => simp [LRel] at hA
theorem bfold {β : Type} (f : β → UInt8 → β) (l : List UInt8) (stop : Nat) (h : stop ≤ (⟨l.toArray⟩ : ByteArray).size) (hs : stop = l.length) : ∀ (i j : Nat) (b : β), i + j = l.length →
    ByteArray.foldlM.loop (m := _root_.Id) (fun b x => pure (f b x)) ⟨l.toArray⟩ stop h i j b = (l.drop j).foldl f b
  | 0, j, b, hij => by
    unfold ByteArray.foldlM.loop
    have : ¬ j < stop := by omega
    rw [dif_neg this, List.drop_of_length_le (by omega)]; rfl
  | i + 1, j, b, hij => by
    unfold ByteArray.foldlM.loop
    have hj : j < stop := by omega
    have hj2 : j < l.length := by omega
    rw [dif_pos hj]
    simp only [pure_bind, bind_pure_comp]
    rw [List.drop_eq_getElem_cons hj2, List.foldl_cons]
    exact bfold f l stop h hs i (j + 1) _ (by omega)
theorem bfoldl {β : Type} (f : β → UInt8 → β) (l : List UInt8) (b : β) : (⟨l.toArray⟩ : ByteArray).foldl f b = l.foldl f b := by
  have hsz : (⟨l.toArray⟩ : ByteArray).size = l.length := mk_size l
  have := bfold f l l.length (by rw [hsz]; exact Nat.le_refl _) rfl l.length 0 b (by omega)
  rw [List.drop_zero] at this
  rw [← this]
  unfold ByteArray.foldl ByteArray.foldlM
  simp only [hsz, Nat.le_refl, dif_pos, Nat.sub_zero]
  rfl
theorem countString_ok (m : AMem) (l : List UInt8) (c : UInt8) : PureC Tryd.prog 3 91 [.string ⟨l.toArray⟩, .int .u8 c.toNat] m (.int .i64 (l.count c : Nat)) := by
  refine ACall_ext (fn := Tryd.f91) (e := Extern.BytealgCount.count) rfl rfl rfl rfl rfl ?_
  intro ρ w args' hR hA
  obtain ⟨args'⟩ := args'
  match args', hA with
  | [a, b], hA =>
    have h1 : VRel ρ (.string ⟨l.toArray⟩) a := hA.2 0 (by simp) (by simp)
    have h2 : VRel ρ (.int .u8 c.toNat) b := hA.2 1 (by simp) (by simp)
    obtain rfl := h1.string_inv
    obtain rfl := h2.int_inv
    refine ⟨.int .i64 (l.count c : Nat), .int .i64 (l.count c : Nat), ?_, .int _ _, rfl, rfl⟩
    have e1 : ((c.toNat : Int).toNat).toUInt8 = c := by simp
    have e2 : ∀ (l : List UInt8) (n : Int), l.foldl (fun n x => if x == c then n + 1 else n) n = n + (l.count c : Nat) := by
      intro l
      induction l with
      | nil => intro n; simp
      | cons x r ih => intro n; rw [List.foldl_cons, ih, List.count_cons]; split <;> omega
    change Sem.run Tryd.prog (do
      let b ← Extern.Bytes.bytesOf (.string ⟨l.toArray⟩)
      let c ← Extern.Bytes.asByte (.int .u8 c.toNat)
      pure (goInt (b.foldl (fun n x => if x == c then n + 1 else n) (0 : Nat)))) w = _
    simp only [Extern.Bytes.bytesOf, Extern.Bytes.asByte, e1, pure_bind, bfoldl, e2, Int.natCast_zero, Int.zero_add, Int.cast_ofNat_Int, goInt, Sem.run_pure]
  | [], hA => simp [LRel] at hA
  | [_], hA => simp [LRel] at hA
  | _ :: _ :: _ :: _, hA => simp [LRel] at hA

theorem cmp77_ok (m : AMem) (a b : List UInt8) : PureC Tryd.prog 3 77 [.string ⟨a.toArray⟩, .string ⟨b.toArray⟩] m (.int .i64 (cmpB a b)) := by
  refine pure_of_W (fn := Tryd.f77) rfl rfl F77_ok (by simp [F77]) (.int _ _) ?_
  have k := fun M => DetC.known (cmpstr_ok M a b)
  repeat first | simp -implicitDefEqProofs (disch := first | omega | with_reducible assumption | (simp only [qU, qC]; omega)) only [qT, qA, reduceCtorEq, qB, qC, qD, qE, qF, qG, qH, qI, qJ, qK, qL, reduceIte, F77, k] | refine OrW.go ?_
theorem cmp68_ok (m : AMem) (a b : List UInt8) : PureC Tryd.prog 3 68 [.string ⟨a.toArray⟩, .string ⟨b.toArray⟩] m (.int .i64 (cmpB a b)) := by
  refine pure_of_W (fn := Tryd.f68) rfl rfl F68_ok (by simp [F68]) (.int _ _) ?_
  have k := fun M => DetC.known (cmp77_ok M a b)
  repeat first | simp -implicitDefEqProofs (disch := first | omega | with_reducible assumption | (simp only [qU, qC]; omega)) only [qT, qA, reduceCtorEq, qB, qC, qD, qE, qF, qG, qH, qI, qJ, qK, qL, reduceIte, F68, k] | refine OrW.go ?_
theorem indexByte83_ok (m : AMem) (s : ByteArray) (c : UInt8) : PureC Tryd.prog 3 83 [.string s, .int .u8 c.toNat] m (.int .i64 (firstIdx s c)) := by
  refine pure_of_W (fn := Tryd.f83) rfl rfl F83_ok (by simp [F83]) (.int _ _) ?_
  have k := fun M => DetC.known (indexByteString_ok M s c)
  repeat first | simp -implicitDefEqProofs (disch := first | omega | with_reducible assumption | (simp only [qU, qC]; omega)) only [qT, qA, reduceCtorEq, qB, qC, qD, qE, qF, qG, qH, qI, qJ, qK, qL, reduceIte, F83, k] | refine OrW.go ?_
theorem indexByte_ok (m : AMem) (s : ByteArray) (c : UInt8) : PureC Tryd.prog 3 75 [.string s, .int .u8 c.toNat] m (.int .i64 (firstIdx s c)) := by
  refine pure_of_W (fn := Tryd.f75) rfl rfl F75_ok (by simp [F75]) (.int _ _) ?_
  have k := fun M => DetC.known (indexByte83_ok M s c)
  repeat first | simp -implicitDefEqProofs (disch := first | omega | with_reducible assumption | (simp only [qU, qC]; omega)) only [qT, qA, reduceCtorEq, qB, qC, qD, qE, qF, qG, qH, qI, qJ, qK, qL, reduceIte, F75, k] | refine OrW.go ?_
theorem firstIdx_ne (l : List UInt8) (c : UInt8) (n : Nat) (h : firstIdx ⟨l.toArray⟩ c = n) : n < l.length ∧ l[n]? = some c ∧ ∀ j, j < n → l[j]? ≠ some c := by
  obtain ⟨h1, h2⟩ := (firstIdx_iff l c n).1 h
  exact ⟨(List.getElem?_eq_some_iff.1 h1).1, h1, h2⟩
theorem firstIdx_neg (l : List UInt8) (c : UInt8) : firstIdx ⟨l.toArray⟩ c < 0 ↔ c ∉ l := by
  have hp : ∀ i, i < l.length → (((⟨l.toArray⟩ : ByteArray)[i]! == c) = true ↔ l[i]? = some c) := fun i hi => by
    have hs : i < (⟨l.toArray⟩ : ByteArray).size := by rw [mk_size]; exact hi
    rw [getElem!_pos (⟨l.toArray⟩ : ByteArray) i hs, List.getElem?_eq_getElem hi]
    simp only [beq_iff_eq, Option.some.injEq]
    exact Iff.rfl
  unfold firstIdx
  rw [mk_size]
  split
  · rename_i i hi
    rw [List.find?_range_eq_some] at hi
    obtain ⟨h1, h2, _⟩ := hi
    have := (hp i (by simpa using h2)).1 h1
    have hm := List.mem_of_getElem? this
    constructor
    · intro h; omega
    · intro h; exact absurd hm h
  · rename_i hn
    rw [List.find?_eq_none] at hn
    constructor
    · intro _ hc
      obtain ⟨i, hi, hg⟩ := List.getElem_of_mem hc
      exact hn i (by simpa using hi) ((hp i hi).2 (by rw [List.getElem?_eq_getElem hi, hg]))
    · intro _; omega
theorem firstIdx_self47 : firstIdx ⟨#[47]⟩ 47 = 0 := by decide +kernel
theorem index92_ok (m : AMem) (l : List UInt8) (hl : l.length ≤ 1000000) : PureC Tryd.prog 3 92 [.string ⟨l.toArray⟩, .string ⟨#[47]⟩] m (.int .i64 (firstIdx ⟨l.toArray⟩ 47)) := by
  refine pure_of_W (fn := Tryd.f92) rfl rfl F92_ok (by simp [F92]) (.int _ _) ?_
  have s1 : (⟨#[47]⟩ : ByteArray).size = 1 := rfl
  have g1 : (⟨#[47]⟩ : ByteArray)[0]? = some 47 := rfl
  have k := fun M => DetC.known (indexByte83_ok M ⟨l.toArray⟩ 47)
  have e : strEq ⟨#[47]⟩ ⟨l.toArray⟩ = decide ([47] = l) := strEq_mk [47] l
  repeat first | simp -implicitDefEqProofs (disch := first | omega | with_reducible assumption | (simp only [qU, qC]; omega)) only [qT, qA, reduceCtorEq, qB, qC, qD, qE, qF, qG, qH, qI, qJ, qK, qL, reduceIte, F92, s1, g1, k, e] | refine OrW.go ?_
  refine BoolW_dec (fun h => ?_) (fun _ => trivial)
  subst h
  rw [firstIdx_self47]
theorem index86_ok (m : AMem) (l : List UInt8) (hl : l.length ≤ 1000000) : PureC Tryd.prog 3 86 [.string ⟨l.toArray⟩, .string ⟨#[47]⟩] m (.int .i64 (firstIdx ⟨l.toArray⟩ 47)) := by
  refine pure_of_W (fn := Tryd.f86) rfl rfl F86_ok (by simp [F86]) (.int _ _) ?_
  have k := fun M => DetC.known (index92_ok M l hl)
  repeat first | simp -implicitDefEqProofs (disch := first | omega | with_reducible assumption | (simp only [qU, qC]; omega)) only [qT, qA, reduceCtorEq, qB, qC, qD, qE, qF, qG, qH, qI, qJ, qK, qL, reduceIte, F86, k] | refine OrW.go ?_
theorem count85_ok (m : AMem) (l : List UInt8) : PureC Tryd.prog 3 85 [.string ⟨l.toArray⟩, .string ⟨#[47]⟩] m (.int .i64 (l.count 47 : Nat)) := by
  refine pure_of_W (fn := Tryd.f85) rfl rfl F85_ok (by simp [F85]) (.int _ _) ?_
  have s1 : (⟨#[47]⟩ : ByteArray).size = 1 := rfl
  have g1 : (⟨#[47]⟩ : ByteArray)[0]? = some 47 := rfl
  have k := fun M => DetC.known (countString_ok M l 47)
  repeat first | simp -implicitDefEqProofs (disch := first | omega | with_reducible assumption | (simp only [qU, qC]; omega)) only [qT, qA, reduceCtorEq, qB, qC, qD, qE, qF, qG, qH, qI, qJ, qK, qL, reduceIte, F85, s1, g1, k] | refine OrW.go ?_
theorem hasPrefix_ok (m : AMem) (l p : List UInt8) : PureC Tryd.prog 3 79 [.string ⟨l.toArray⟩, .string ⟨p.toArray⟩] m (.bool (p.isPrefixOf l)) := by
  refine pure_of_W (fn := Tryd.f79) rfl rfl F79_ok (by simp [F79]) (.bool _) ?_
  by_cases h : (l.length : Int) ≥ (p.length : Int)
  · have h1 : (p.length : Int) ≤ (l.length : Int) := h
    have h2 : p.length ≤ l.length := by omega
    have e : strEq ⟨(l.take p.length).toArray⟩ ⟨p.toArray⟩ = p.isPrefixOf l := by
      rw [strEq_mk, Bool.eq_iff_iff, decide_eq_true_iff, List.isPrefixOf_iff_prefix, List.prefix_iff_eq_take]
      exact eq_comm
    repeat first | simp -implicitDefEqProofs (disch := first | omega | with_reducible assumption | (simp only [qU, qC]; omega)) only [qT, qA, reduceCtorEq, qB, qC, qD, qE, qF, qG, qH, qI, qJ, qK, qL, reduceIte, F79, h, h1, h2, e] | refine OrW.go ?_
  · have h1 : ¬ (p.length : Int) ≤ (l.length : Int) := h
    have e : p.isPrefixOf l = false := by
      rw [Bool.eq_false_iff]; intro hp
      have := (List.isPrefixOf_iff_prefix.1 hp).length_le
      omega
    repeat first | simp -implicitDefEqProofs (disch := first | omega | with_reducible assumption | (simp only [qU, qC]; omega)) only [qT, qA, reduceCtorEq, qB, qC, qD, qE, qF, qG, qH, qI, qJ, qK, qL, reduceIte, F79, h, h1, e, undef] | refine OrW.go ?_
def trimR (l p : List UInt8) : List UInt8 := if p.isPrefixOf l then l.drop p.length else l
theorem trim70_ok (m : AMem) (l p : List UInt8) : PureC Tryd.prog 3 70 [.string ⟨l.toArray⟩, .string ⟨p.toArray⟩] m (.string ⟨(trimR l p).toArray⟩) := by
  refine pure_of_W (fn := Tryd.f70) rfl rfl F70_ok (by simp [F70]) (.string _) ?_
  have k := fun M => DetC.known (hasPrefix_ok M l p)
  cases h : p.isPrefixOf l with
  | true =>
    rw [h] at k
    have h2 := (List.isPrefixOf_iff_prefix.1 h).length_le
    repeat first | simp -implicitDefEqProofs (disch := first | omega | with_reducible assumption | (simp only [qU, qC]; omega)) only [qT, qA, reduceCtorEq, qB, qC, qD, qE, qF, qG, qH, qI, qJ, qK, qL, reduceIte, F70, k] | refine OrW.go ?_
    simp [trimR, h]
  | false =>
    rw [h] at k
    repeat first | simp -implicitDefEqProofs (disch := first | omega | with_reducible assumption | (simp only [qU, qC]; omega)) only [qT, qA, reduceCtorEq, qB, qC, qD, qE, qF, qG, qH, qI, qJ, qK, qL, reduceIte, F70, k] | refine OrW.go ?_
    simp [trimR, h]
theorem trim_ok (m : AMem) (l p : List UInt8) : PureC Tryd.prog 3 57 [.string ⟨l.toArray⟩, .string ⟨p.toArray⟩] m (.string ⟨(trimR l p).toArray⟩) := by
  refine pure_of_W (fn := Tryd.f57) rfl rfl F57_ok (by simp [F57]) (.string _) ?_
  have k := fun M => DetC.known (trim70_ok M l p)
  repeat first | simp -implicitDefEqProofs (disch := first | omega | with_reducible assumption | (simp only [qU, qC]; omega)) only [qT, qA, reduceCtorEq, qB, qC, qD, qE, qF, qG, qH, qI, qJ, qK, qL, reduceIte, F57, k] | refine OrW.go ?_
def belowB (p q : List UInt8) : Bool := decide (p = []) || decide (p = q) || (decide (p.length < q.length) && decide (q.take p.length = p) && decide (q[p.length]? = some 47))
theorem below_ok (m : AMem) (p q : List UInt8) (hq : q.length ≤ 1000000) : PureC Tryd.prog 3 33 [.string ⟨p.toArray⟩, .string ⟨q.toArray⟩] m (.bool (belowB p q)) := by
  refine pure_of_W (fn := Tryd.f33) rfl rfl F33_ok (by simp [F33]) (.bool _) ?_
  have e0 : strEq ⟨p.toArray⟩ ⟨#[]⟩ = decide (p = []) := strEq_mk p []
  have e1 : strEq ⟨p.toArray⟩ ⟨q.toArray⟩ = decide (p = q) := strEq_mk p q
  have e2 : strEq ⟨(q.take p.length).toArray⟩ ⟨p.toArray⟩ = decide (q.take p.length = p) := strEq_mk _ _
  by_cases h0 : p = []
  · rw [decide_eq_true h0] at e0
    repeat first | simp -implicitDefEqProofs (disch := first | omega | with_reducible assumption | (simp only [qU, qC]; omega)) only [qT, qA, reduceCtorEq, qB, qC, qD, qE, qF, qG, qH, qI, qJ, qK, qL, reduceIte, F33, e0, undef] | refine OrW.go ?_
    simp [belowB, h0]
  · rw [decide_eq_false h0] at e0
    by_cases h1 : p = q
    · rw [decide_eq_true h1] at e1
      repeat first | simp -implicitDefEqProofs (disch := first | omega | with_reducible assumption | (simp only [qU, qC]; omega)) only [qT, qA, reduceCtorEq, qB, qC, qD, qE, qF, qG, qH, qI, qJ, qK, qL, reduceIte, F33, e0, e1, undef] | refine OrW.go ?_
      simp [belowB, h1]
    · rw [decide_eq_false h1] at e1
      by_cases h2 : (p.length : Int) < (q.length : Int)
      · have h2' : (q.length : Int) > (p.length : Int) := h2
        have h3 : p.length < q.length := by omega
        have h4 : p.length ≤ q.length := by omega
        by_cases h5 : q.take p.length = p
        · rw [decide_eq_true h5] at e2
          have e6 : (decide ((q[p.length].toNat : Int) = 47)) = decide (q[p.length]? = some 47) := by
            rw [List.getElem?_eq_getElem h3, Bool.eq_iff_iff]
            simp only [decide_eq_true_iff, Option.some.injEq]
            constructor
            · intro h; exact UInt8.toNat_inj.1 (by simpa using (by omega : q[p.length].toNat = 47))
            · intro h; rw [h]; rfl
          repeat first | simp -implicitDefEqProofs (disch := first | omega | with_reducible assumption | (simp only [qU, qC]; omega)) only [qT, qA, reduceCtorEq, qB, qC, qD, qE, qF, qG, qH, qI, qJ, qK, qL, reduceIte, F33, e0, e1, e2, h2, h2', h4, e6] | refine OrW.go ?_
          simp [belowB, h0, h1, h3, h5]
        · rw [decide_eq_false h5] at e2
          repeat first | simp -implicitDefEqProofs (disch := first | omega | with_reducible assumption | (simp only [qU, qC]; omega)) only [qT, qA, reduceCtorEq, qB, qC, qD, qE, qF, qG, qH, qI, qJ, qK, qL, reduceIte, F33, e0, e1, e2, h2, h2', h4, undef] | refine OrW.go ?_
          simp [belowB, h0, h1, h5]
      · have h2' : ¬ (q.length : Int) > (p.length : Int) := h2
        have h3 : ¬ p.length < q.length := by omega
        repeat first | simp -implicitDefEqProofs (disch := first | omega | with_reducible assumption | (simp only [qU, qC]; omega)) only [qT, qA, reduceCtorEq, qB, qC, qD, qE, qF, qG, qH, qI, qJ, qK, qL, reduceIte, F33, e0, e1, h2, h2', undef] | refine OrW.go ?_
        simp [belowB, h0, h1, h3]
end Go.Proofs.YtfjgpeoblnpelaaDoor
namespace Go.Proofs.YtfjgpeoblnpelaaDoor
open Go Go.AM
set_option linter.unusedVariables false
set_option linter.unusedSimpArgs false
set_option maxRecDepth 100000
set_option maxHeartbeats 2000000

theorem get_bang (l : List UInt8) {i : Nat} (h : i < l.length) : (⟨l.toArray⟩ : ByteArray).get! i = l[i] := by
  show (l.toArray)[i]! = l[i]
  simp [h]
theorem decode_low (l : List UInt8) {i : Nat} (h : i < l.length) (hb : l[i].toNat < 128) : Utf8.decode ⟨l.toArray⟩ i = (l[i].toNat, 1) := by
  have hg := get_bang l h
  unfold Utf8.decode
  simp only [Nat.add_zero, hg]
  rw [if_pos hb]
theorem decode_high (l : List UInt8) {i : Nat} (h : i < l.length) (hb : ¬ l[i].toNat < 128) :
    128 ≤ (Utf8.decode ⟨l.toArray⟩ i).1 ∧ ((Utf8.decode ⟨l.toArray⟩ i).1 < 55296 ∨ 57343 < (Utf8.decode ⟨l.toArray⟩ i).1) ∧ (Utf8.decode ⟨l.toArray⟩ i).1 ≤ 1114111 ∧ 1 ≤ (Utf8.decode ⟨l.toArray⟩ i).2 ∧ i + (Utf8.decode ⟨l.toArray⟩ i).2 ≤ l.length ∧
      ∀ j (hj : j < l.length), i ≤ j → j < i + (Utf8.decode ⟨l.toArray⟩ i).2 → 128 ≤ l[j].toNat := by
  have hg := get_bang l h
  have hsz : (⟨l.toArray⟩ : ByteArray).size = l.length := mk_size l
  have hc : ∀ k, (decide (i + k < (⟨l.toArray⟩ : ByteArray).size) && ((⟨l.toArray⟩ : ByteArray).get! (i + k)).toNat / 64 == 2) = true → i + k < l.length ∧ ∀ hk : i + k < l.length, 128 ≤ l[i + k].toNat ∧ l[i + k].toNat < 192 := by
    intro k hk
    simp only [Bool.and_eq_true, decide_eq_true_eq, hsz, beq_iff_eq] at hk
    refine ⟨hk.1, fun h2 => ?_⟩
    have := hk.2
    rw [get_bang l h2] at this
    omega
  have hlt := l[i].toNat_lt
  have one : (Utf8.runeError, 1).2 = 1 := rfl
  have hone : ∀ j (hj : j < l.length), i ≤ j → j < i + 1 → 128 ≤ l[j].toNat := fun j hj h1 h2 => by
    obtain rfl : j = i := by omega
    omega
  have bad : 128 ≤ Utf8.runeError ∧ (Utf8.runeError < 55296 ∨ 57343 < Utf8.runeError) ∧ Utf8.runeError ≤ 1114111 ∧ 1 ≤ 1 ∧ i + 1 ≤ l.length ∧ ∀ j (hj : j < l.length), i ≤ j → j < i + 1 → 128 ≤ l[j].toNat :=
    ⟨by decide, by decide, by decide, Nat.le_refl _, by omega, hone⟩
  unfold Utf8.decode
  simp only [Nat.add_zero, hg]
  rw [if_neg hb]
  split
  · rename_i h1
    simp only [Bool.and_eq_true] at h1
    obtain ⟨k1, k2⟩ := hc 1 (by simpa using h1.2)
    have k3 := k2 k1
    have g1 := get_bang l k1
    rw [g1]
    split
    · rename_i h2
      refine ⟨by simpa using h2, ?_, ?_, by simp, by simp; omega, fun j hj q1 q2 => ?_⟩
      · left; simp only; omega
      · simp only; omega
      · simp only at q2
        rcases Nat.lt_or_ge j (i + 1) with q | q
        · exact hone j hj q1 q
        · obtain rfl : j = i + 1 := by omega
          exact k3.1
    · exact bad
  · split
    · rename_i h1
      simp only [Bool.and_eq_true] at h1
      obtain ⟨k1, k2⟩ := hc 1 (by simpa using h1.1.2)
      obtain ⟨k4, k5⟩ := hc 2 (by simpa using h1.2)
      have k3 := k2 k1
      have k6 := k5 k4
      rw [get_bang l k1, get_bang l k4]
      split
      · rename_i h2
        simp only [Utf8.valid, Bool.and_eq_true, Bool.or_eq_true, decide_eq_true_eq] at h2
        obtain ⟨h3, h4⟩ := h2
        refine ⟨?_, ?_, ?_, by simp, by simp; omega, fun j hj q1 q2 => ?_⟩
        · simp only; omega
        · simp only; omega
        · simp only; omega
        · simp only at q2
          rcases Nat.lt_or_ge j (i + 1) with q | q
          · exact hone j hj q1 q
          · rcases Nat.lt_or_ge j (i + 2) with q' | q'
            · obtain rfl : j = i + 1 := by omega
              exact k3.1
            · obtain rfl : j = i + 2 := by omega
              exact k6.1
      · exact bad
    · split
      · rename_i h1
        simp only [Bool.and_eq_true] at h1
        obtain ⟨k1, k2⟩ := hc 1 (by simpa using h1.1.1.2)
        obtain ⟨k4, k5⟩ := hc 2 (by simpa using h1.1.2)
        obtain ⟨k7, k8⟩ := hc 3 (by simpa using h1.2)
        have k3 := k2 k1
        have k6 := k5 k4
        have k9 := k8 k7
        rw [get_bang l k1, get_bang l k4, get_bang l k7]
        split
        · rename_i h2
          simp only [Utf8.valid, Bool.and_eq_true, Bool.or_eq_true, decide_eq_true_eq] at h2
          obtain ⟨h3, h4⟩ := h2
          refine ⟨?_, ?_, ?_, by simp, by simp; omega, fun j hj q1 q2 => ?_⟩
          · simp only; omega
          · simp only; omega
          · simp only; omega
          · simp only at q2
            rcases Nat.lt_or_ge j (i + 1) with q | q
            · exact hone j hj q1 q
            · rcases Nat.lt_or_ge j (i + 2) with q' | q'
              · obtain rfl : j = i + 1 := by omega
                exact k3.1
              · rcases Nat.lt_or_ge j (i + 3) with q3 | q3
                · obtain rfl : j = i + 2 := by omega
                  exact k6.1
                · obtain rfl : j = i + 3 := by omega
                  exact k9.1
        · exact bad
      · exact bad
theorem encode_high {n : Nat} (h0 : 128 ≤ n) (h1 : n < 55296 ∨ 57343 < n) (h2 : n ≤ 1114111) : ∃ (q : List UInt8) (x : UInt8), Utf8.encode (n : Int) = ⟨(q ++ [x]).toArray⟩ ∧ 1 ≤ q.length ∧ q.length ≤ 3 ∧ 128 ≤ x.toNat := by
  have hv : Utf8.valid (n : Int) = true := by
    simp only [Utf8.valid, Bool.or_eq_true, Bool.and_eq_true, decide_eq_true_eq]; omega
  have hx : ∀ k : Nat, 128 ≤ (UInt8.ofNat (0x80 + k % 64)).toNat := fun k => by
    rw [UInt8.toNat_ofNat']; have : k % 64 < 64 := Nat.mod_lt _ (by omega)
    rw [Nat.mod_eq_of_lt (by omega)]; omega
  unfold Utf8.encode
  simp only [hv, if_true, Int.toNat_natCast]
  rw [if_neg (by omega)]
  split
  · exact ⟨[UInt8.ofNat (0xC0 + n / 64)], UInt8.ofNat (0x80 + n % 64), rfl, by simp, by simp, hx n⟩
  · split
    · exact ⟨[UInt8.ofNat (0xE0 + n / 4096), UInt8.ofNat (0x80 + n / 64 % 64)], UInt8.ofNat (0x80 + n % 64), rfl, by simp, by simp, hx n⟩
    · exact ⟨[UInt8.ofNat (0xF0 + n / 262144), UInt8.ofNat (0x80 + n / 4096 % 64), UInt8.ofNat (0x80 + n / 64 % 64)], UInt8.ofNat (0x80 + n % 64), rfl, by simp, by simp, hx n⟩

theorem valid80_ok (m : AMem) (n : Nat) (h1 : n < 55296 ∨ 57343 < n) (h2 : n ≤ 1114111) : PureC Tryd.prog 3 80 [.int .i32 n] m (.bool true) := by
  have h0 : (0 : Int) ≤ (n : Int) := by omega
  have h5 : (n : Int) ≤ 1114111 := by omega
  by_cases h3 : (n : Int) < 55296
  · clear h1 h2
    refine pure_of_W (fn := Tryd.f80) rfl rfl F80_ok (by simp [F80]) (.bool _) ?_
    repeat first | simp -implicitDefEqProofs (disch := first | omega | with_reducible assumption | (simp only [qU, qC]; omega)) only [qT, qA, reduceCtorEq, qB, qC, qD, qE, qF, qG, qH, qI, qJ, qK, qL, reduceIte, F80, h0, h3] | refine OrW.go ?_
  · have h4 : (57343 : Int) < (n : Int) := by omega
    clear h1 h2
    refine pure_of_W (fn := Tryd.f80) rfl rfl F80_ok (by simp [F80]) (.bool _) ?_
    repeat first | simp -implicitDefEqProofs (disch := first | omega | with_reducible assumption | (simp only [qU, qC]; omega)) only [qT, qA, reduceCtorEq, qB, qC, qD, qE, qF, qG, qH, qI, qJ, qK, qL, reduceIte, F80, h0, h3, h4, h5, undef] | refine OrW.go ?_

def irZ (n : Nat) : Int := if n = 47 then 0 else if n = 0 then 1 else -1
theorem irZ_all : ∀ n, n < 128 → decide (firstIdx ⟨#[47, 0]⟩ (UInt8.ofNat n) = irZ n) = true := by decide +kernel
theorem irZ_low (n : Nat) (h : n < 128) : firstIdx ⟨#[47, 0]⟩ (UInt8.ofNat n) = irZ n := of_decide_eq_true (irZ_all n h)
theorem irZ_high {n : Nat} (h : 128 ≤ n) : irZ n = -1 := by unfold irZ; rw [if_neg (by omega), if_neg (by omega)]
theorem decode_0 : Utf8.decode ⟨#[47, 0]⟩ 0 = (47, 1) := decode_low [47, 0] (i := 0) (by simp) (by simp)
theorem decode_1 : Utf8.decode ⟨#[47, 0]⟩ 1 = (0, 1) := decode_low [47, 0] (i := 1) (by simp) (by simp)
theorem idx_nil (c : UInt8) : firstIdx ⟨#[]⟩ c = -1 := rfl
theorem idx1 (q : List UInt8) (x : UInt8) (h6 : q.length = 1) : (⟨(q ++ [x]).toArray⟩ : ByteArray)[1]? = some x := by
  have := mk_get (l := q ++ [x]) (i := 1) (by simp; omega)
  rw [this]; congr 1
  rw [List.getElem_append_right (by omega)]; simp [h6]
theorem indexRune_ok (m : AMem) (n : Nat) (h1 : n < 55296 ∨ 57343 < n) (h2 : n ≤ 1114111) : PureC Tryd.prog 3 71 [.string ⟨#[47, 0]⟩, .int .i32 n] m (.int .i64 (irZ n)) := by
  refine pure_of_W (fn := Tryd.f71) rfl rfl F71_ok (by simp [F71]) (.int _ _) ?_
  have h0 : (0 : Int) ≤ (n : Int) := by omega
  by_cases h3 : (n : Int) < 128
  · have k := fun M => DetC.known (indexByte_ok M ⟨#[47, 0]⟩ (UInt8.ofNat n))
    rw [irZ_low n (by omega)] at k
    have e : ((UInt8.ofNat n).toNat : Int) = n := by rw [UInt8.toNat_ofNat', Nat.mod_eq_of_lt (by omega)]
    rw [e] at k
    repeat first | simp -implicitDefEqProofs (disch := first | omega | with_reducible assumption | (simp only [qU, qC]; omega)) only [qT, qA, reduceCtorEq, qB, qC, qD, qE, qF, qG, qH, qI, qJ, qK, qL, reduceIte, F71, h0, h3, k] | refine OrW.go ?_
  · have hz := irZ_high (n := n) (by omega)
    by_cases h4 : (n : Int) = 65533
    · have s2 : (⟨#[47, 0]⟩ : ByteArray).size = 2 := rfl
      rw [hz]
      repeat first | simp -implicitDefEqProofs (disch := first | omega | with_reducible assumption | (simp only [qU, qC]; omega)) only [qT, qA, reduceCtorEq, qB, qC, qD, qE, qF, qG, qH, qI, qJ, qK, qL, reduceIte, F71, h0, h3, h4, undef, stepOp_rng] | refine OrW.go ?_
      refine W_loop (fun N qs => ∃ (i : Nat), N = 2 - i ∧ qs.ds = [] ∧ qs.m = mx m [.iter ⟨#[47, 0]⟩ i] ∧ qs.t 175 = .pointer (some ⟨m.size, 0, none⟩) ∧ i ≤ 2) (2 - (0)) ⟨0, rfl, rfl, ?qm, ?q175, ?_⟩ ?_
      case qm | q175 => first | rfl | (simp -implicitDefEqProofs (disch := first | omega | with_reducible assumption | (simp only [qU, qC]; omega)) only [qT, qA, reduceCtorEq, qB, qC, qD, qE, qF, qG, qH, qI, qJ, qK, qL, reduceIte]; first | done | rfl | (congr 1; omega))
      · omega
      · rintro N t m1 ds ⟨i, rfl, hds, hm, t175, hp⟩
        simp only at hds hm t175
        subst hds; replace hm := hm.symm; subst hm
        rcases (show i = 0 ∨ i = 1 ∨ i = 2 by omega) with rfl | rfl | rfl
        · repeat first | simp -implicitDefEqProofs (disch := first | omega | with_reducible assumption | (simp only [qU, qC]; omega)) only [qT, qA, reduceCtorEq, qB, qC, qD, qE, qF, qG, qH, qI, qJ, qK, qL, reduceIte, F71_l0, t175, stepOp_nxt, s2, decode_0] | refine OrW.go ?_
          rw [LoopK_normal]; refine ⟨_, ?_, 1, rfl, rfl, ?qm, ?q175, ?_⟩
          case qm | q175 => first | rfl | (simp -implicitDefEqProofs (disch := first | omega | with_reducible assumption | (simp only [qU, qC]; omega)) only [qT, qA, reduceCtorEq, qB, qC, qD, qE, qF, qG, qH, qI, qJ, qK, qL, reduceIte, t175]; first | done | rfl | (congr 1; omega))
          · omega
          · omega
        · repeat first | simp -implicitDefEqProofs (disch := first | omega | with_reducible assumption | (simp only [qU, qC]; omega)) only [qT, qA, reduceCtorEq, qB, qC, qD, qE, qF, qG, qH, qI, qJ, qK, qL, reduceIte, F71_l0, t175, stepOp_nxt, s2, decode_1] | refine OrW.go ?_
          rw [LoopK_normal]; refine ⟨_, ?_, 2, rfl, rfl, ?qm, ?q175, ?_⟩
          case qm | q175 => first | rfl | (simp -implicitDefEqProofs (disch := first | omega | with_reducible assumption | (simp only [qU, qC]; omega)) only [qT, qA, reduceCtorEq, qB, qC, qD, qE, qF, qG, qH, qI, qJ, qK, qL, reduceIte, t175]; first | done | rfl | (congr 1; omega))
          · omega
          · omega
        · repeat first | simp -implicitDefEqProofs (disch := first | omega | with_reducible assumption | (simp only [qU, qC]; omega)) only [qT, qA, reduceCtorEq, qB, qC, qD, qE, qF, qG, qH, qI, qJ, qK, qL, reduceIte, F71_l0, t175, stepOp_nxt, s2] | refine OrW.go ?_
    · have k := fun M => DetC.known (valid80_ok M n h1 h2)
      obtain ⟨q, x, e1, e2, e3, e4⟩ := encode_high (n := n) (by omega) h1 h2
      have hx : ¬ (0 : Int) = (x.toNat : Int) := by omega
      have hg2 := idx1 q x
      have hx2 : ¬ ((UInt8.toNat 0 : Nat) : Int) = (x.toNat : Int) := hx
      rw [hz]
      repeat first | simp -implicitDefEqProofs (disch := first | omega | with_reducible assumption | (simp only [qU, qC]; omega)) only [qT, qA, reduceCtorEq, qB, qC, qD, qE, qF, qG, qH, qI, qJ, qK, qL, reduceIte, F71, h0, h3, h4, undef, k] | refine OrW.go ?_
      refine W_scope (fun _ _ => False) ?_ (fun _ _ _ _ h => h.elim)
      have e5 : ((q.length + 1 : Nat) : Int) - 1 = (q.length : Nat) := by omega
      repeat first | simp -implicitDefEqProofs (disch := first | omega | with_reducible assumption | (simp only [qU, qC]; omega)) only [qT, qA, reduceCtorEq, qB, qC, qD, qE, qF, qG, qH, qI, qJ, qK, qL, reduceIte, F71_c1, stepOp_i2s, e1, e5] | refine OrW.go ?_
      refine W_loop (fun N qs => N = 0 ∧ qs.ds = [] ∧ qs.m = mx m [] ∧ qs.t 0 = .string ⟨#[47, 0]⟩ ∧ qs.t 7 = .string ⟨(q ++ [x]).toArray⟩ ∧ qs.t 8 = .int .i64 q.length ∧ qs.t 9 = .int .i64 q.length ∧ True) (0) ⟨rfl, rfl, ?qm, ?q0, ?q7, ?q8, ?q9, ?_⟩ ?_
      case qm | q0 | q7 | q8 | q9 => first | rfl | (simp -implicitDefEqProofs (disch := first | omega | with_reducible assumption | (simp only [qU, qC]; omega)) only [qT, qA, reduceCtorEq, qB, qC, qD, qE, qF, qG, qH, qI, qJ, qK, qL, reduceIte]; first | done | rfl | (congr 1; omega))
      · trivial
      · rintro N t m1 ds ⟨rfl, hds, hm, t0, t7, t8, t9, hp⟩
        simp only at hds hm t0 t7 t8 t9
        subst hds; replace hm := hm.symm; subst hm
        have s2 : (⟨#[47, 0]⟩ : ByteArray).size = 2 := rfl
        by_cases h5 : (q.length : Int) < 2
        · have h6 : q.length = 1 := by omega
          have g1 : (⟨#[47, 0]⟩ : ByteArray)[1]? = some 0 := rfl
          have g2 := hg2 h6
          have e6 : (⟨#[47, 0]⟩ : ByteArray).extract 2 2 = ⟨#[]⟩ := rfl
          have k2 := fun M => DetC.known (indexByte_ok M ⟨#[]⟩ x)
          simp only [idx_nil] at k2
          simp only [h6] at t8 t9
          repeat first | simp -implicitDefEqProofs (disch := first | omega | with_reducible assumption | (simp only [qU, qC]; omega)) only [qT, qA, reduceCtorEq, qB, qC, qD, qE, qF, qG, qH, qI, qJ, qK, qL, reduceIte, F71_l2, t0, t7, t8, t9] | refine OrW.go ?_
          refine W_scope (fun _ _ => False) ?_ (fun _ _ _ _ h => h.elim)
          repeat first | simp -implicitDefEqProofs (disch := first | omega | with_reducible assumption | (simp only [qU, qC]; omega)) only [qT, qA, reduceCtorEq, qB, qC, qD, qE, qF, qG, qH, qI, qJ, qK, qL, reduceIte, F71_c3, t0, t7, t8, t9, s2, g1, g2, e6, k2, hx, hx2] | refine OrW.go ?_
          done
        · repeat first | simp -implicitDefEqProofs (disch := first | omega | with_reducible assumption | (simp only [qU, qC]; omega)) only [qT, qA, reduceCtorEq, qB, qC, qD, qE, qF, qG, qH, qI, qJ, qK, qL, reduceIte, F71_l2, t0, t7, t8, t9, s2, h5] | refine OrW.go ?_
          done
end Go.Proofs.YtfjgpeoblnpelaaDoor
namespace Go.Proofs.YtfjgpeoblnpelaaDoor
open Go Go.AM
set_option linter.unusedVariables false
set_option linter.unusedSimpArgs false
set_option maxRecDepth 100000
set_option maxHeartbeats 2000000

def Z256 : List Value := List.replicate 256 (.bool false)
theorem z256 : ([.bool false, .bool false, .bool false, .bool false, .bool false, .bool false, .bool false, .bool false, .bool false, .bool false, .bool false, .bool false, .bool false, .bool false, .bool false, .bool false, .bool false, .bool false, .bool false, .bool false, .bool false, .bool false, .bool false, .bool false, .bool false, .bool false, .bool false, .bool false, .bool false, .bool false, .bool false, .bool false, .bool false, .bool false, .bool false, .bool false, .bool false, .bool false, .bool false, .bool false, .bool false, .bool false, .bool false, .bool false, .bool false, .bool false, .bool false, .bool false, .bool false, .bool false, .bool false, .bool false, .bool false, .bool false, .bool false, .bool false, .bool false, .bool false, .bool false, .bool false, .bool false, .bool false, .bool false, .bool false, .bool false, .bool false, .bool false, .bool false, .bool false, .bool false, .bool false, .bool false, .bool false, .bool false, .bool false, .bool false, .bool false, .bool false, .bool false, .bool false, .bool false, .bool false, .bool false, .bool false, .bool false, .bool false, .bool false, .bool false, .bool false, .bool false, .bool false, .bool false, .bool false, .bool false, .bool false, .bool false, .bool false, .bool false, .bool false, .bool false, .bool false, .bool false, .bool false, .bool false, .bool false, .bool false, .bool false, .bool false, .bool false, .bool false, .bool false, .bool false, .bool false, .bool false, .bool false, .bool false, .bool false, .bool false, .bool false, .bool false, .bool false, .bool false, .bool false, .bool false, .bool false, .bool false, .bool false, .bool false, .bool false, .bool false, .bool false, .bool false, .bool false, .bool false, .bool false, .bool false, .bool false, .bool false, .bool false, .bool false, .bool false, .bool false, .bool false, .bool false, .bool false, .bool false, .bool false, .bool false, .bool false, .bool false, .bool false, .bool false, .bool false, .bool false, .bool false, .bool false, .bool false, .bool false, .bool false, .bool false, .bool false, .bool false, .bool false, .bool false, .bool false, .bool false, .bool false, .bool false, .bool false, .bool false, .bool false, .bool false, .bool false, .bool false, .bool false, .bool false, .bool false, .bool false, .bool false, .bool false, .bool false, .bool false, .bool false, .bool false, .bool false, .bool false, .bool false, .bool false, .bool false, .bool false, .bool false, .bool false, .bool false, .bool false, .bool false, .bool false, .bool false, .bool false, .bool false, .bool false, .bool false, .bool false, .bool false, .bool false, .bool false, .bool false, .bool false, .bool false, .bool false, .bool false, .bool false, .bool false, .bool false, .bool false, .bool false, .bool false, .bool false, .bool false, .bool false, .bool false, .bool false, .bool false, .bool false, .bool false, .bool false, .bool false, .bool false, .bool false, .bool false, .bool false, .bool false, .bool false, .bool false, .bool false, .bool false, .bool false, .bool false, .bool false, .bool false, .bool false, .bool false, .bool false, .bool false, .bool false, .bool false, .bool false, .bool false, .bool false, .bool false, .bool false, .bool false, .bool false, .bool false, .bool false, .bool false, .bool false] : List Value) = Z256 := by kernel_rfl
theorem z256_len : Z256.length = 256 := by simp [Z256]
def AsX : List Value := (Z256.set 47 (.bool true)).set 0 (.bool true)
theorem asX_len : AsX.length = 256 := by simp [AsX, Z256]
def badC (c : UInt8) : Bool := decide (c = 47) || decide (c = 0)
theorem asX_all : ∀ n : Nat, n < 256 → (match (AsX[n]? : Option Value) with | some (.bool b) => b == badC (UInt8.ofNat n) | _ => false) = true := by decide +kernel
theorem asX_get (c : UInt8) : AsX[c.toNat]? = some (.bool (badC c)) := by
  have := asX_all c.toNat c.toNat_lt
  rw [UInt8.ofNat_toNat] at this
  split at this
  · rename_i b hb
    rw [hb]; rw [eq_of_beq this]
  · cases this
theorem plain_z256 : ∀ v ∈ Z256, Plain v := fun v hv => by rw [List.eq_of_mem_replicate hv]; exact .bool _
theorem plain_asX : Plain (.agg AsX.toArray) := .agg fun v hv => by
  have hv : v ∈ AsX := by simpa using hv
  rcases List.mem_or_eq_of_mem_set hv with hv | rfl
  · rcases List.mem_or_eq_of_mem_set hv with hv | rfl
    · exact plain_z256 v hv
    · exact .bool _
  · exact .bool _
def setsTo (i : Nat) : List Value := if i = 0 then Z256 else if i = 1 then Z256.set 47 (.bool true) else AsX
theorem setsTo_len (i : Nat) : (setsTo i).length = 256 := by unfold setsTo; split <;> (try split) <;> simp [Z256, AsX]
theorem cellsOf_asX : cellsOf (.agg AsX.toArray) = some AsX := by kernel_rfl
theorem ascii_ok (m : AMem) : PureC Tryd.prog 3 73 [.string ⟨#[47, 0]⟩] m (.tuple #[.agg AsX.toArray, .bool true]) := by
  refine pure_of_W (fn := Tryd.f73) rfl rfl F73_ok (by simp [F73]) (.tuple2 plain_asX (.bool _)) ?_
  have s2 : (⟨#[47, 0]⟩ : ByteArray).size = 2 := rfl
  have g0 : (⟨#[47, 0]⟩ : ByteArray)[0]? = some 47 := rfl
  have g1 : (⟨#[47, 0]⟩ : ByteArray)[1]? = some 0 := rfl
  have u1 : ((UInt8.toNat 47 : Nat) : Int) = 47 := rfl
  have u2 : ((UInt8.toNat 0 : Nat) : Int) = 0 := rfl
  have q1 : (setsTo 0).set 47 (.bool true) = setsTo 1 := rfl
  have q2 : (setsTo 1).set 0 (.bool true) = setsTo 2 := rfl
  simp only [F73, z256]
  simp -implicitDefEqProofs (disch := first | omega | with_reducible assumption | (simp only [qU, qC]; omega)) only [qT, qA, reduceCtorEq, qB, qC, qD, qE, qF, qG, qH, qI, qJ, qK, qL, reduceIte]
  refine W_loop (fun N qs => ∃ (i : Nat), N = 2 - i ∧ qs.ds = [] ∧ qs.m = mx m [.cells (setsTo i) 84 true .exact] ∧ qs.t 0 = .string ⟨#[47, 0]⟩ ∧ qs.t 2 = .pointer (some ⟨m.size, 0, none⟩) ∧ qs.t 4 = .int .i64 i ∧ i ≤ 2) (2 - (0)) ⟨0, rfl, rfl, ?qm, ?q0, ?q2, ?q4, ?_⟩ ?_
  case qm | q0 | q2 | q4 => first | rfl | (simp -implicitDefEqProofs (disch := first | omega | with_reducible assumption | (simp only [qU, qC]; omega)) only [qT, qA, reduceCtorEq, qB, qC, qD, qE, qF, qG, qH, qI, qJ, qK, qL, reduceIte]; first | done | rfl | (congr 1; omega))
  · omega
  · rintro N t m1 ds ⟨i, rfl, hds, hm, t0, t2, t4, hp⟩
    simp only at hds hm t0 t2 t4
    subst hds; replace hm := hm.symm; subst hm
    rcases (show i = 0 ∨ i = 1 ∨ i = 2 by omega) with rfl | rfl | rfl
    · have hl := setsTo_len 0
      repeat first | simp -implicitDefEqProofs (disch := first | omega | with_reducible assumption | (simp only [qU, qC]; omega)) only [qT, qA, reduceCtorEq, qB, qC, qD, qE, qF, qG, qH, qI, qJ, qK, qL, reduceIte, F73_l0, t0, t2, t4, s2, g0, u1] | refine OrW.go ?_
      rw [LoopK_normal]; refine ⟨_, ?_, 1, rfl, rfl, ?qm, ?q0, ?q2, ?q4, ?_⟩
      case qm | q0 | q2 | q4 => first | rfl | (simp -implicitDefEqProofs (disch := first | omega | with_reducible assumption | (simp only [qU, qC]; omega)) only [qT, qA, reduceCtorEq, qB, qC, qD, qE, qF, qG, qH, qI, qJ, qK, qL, reduceIte, t0, t2, t4, q1]; first | done | rfl | (congr 1; omega))
      · omega
      · omega
    · have hl := setsTo_len 1
      repeat first | simp -implicitDefEqProofs (disch := first | omega | with_reducible assumption | (simp only [qU, qC]; omega)) only [qT, qA, reduceCtorEq, qB, qC, qD, qE, qF, qG, qH, qI, qJ, qK, qL, reduceIte, F73_l0, t0, t2, t4, s2, g1, u2] | refine OrW.go ?_
      rw [LoopK_normal]; refine ⟨_, ?_, 2, rfl, rfl, ?qm, ?q0, ?q2, ?q4, ?_⟩
      case qm | q0 | q2 | q4 => first | rfl | (simp -implicitDefEqProofs (disch := first | omega | with_reducible assumption | (simp only [qU, qC]; omega)) only [qT, qA, reduceCtorEq, qB, qC, qD, qE, qF, qG, qH, qI, qJ, qK, qL, reduceIte, t0, t2, t4, q2]; first | done | rfl | (congr 1; omega))
      · omega
      · omega
    · have hl := setsTo_len 2
      have hc : cutL (setsTo 2) 0 256 = some AsX := cutL_all hl
      have hc2 : cutL AsX 0 256 = some AsX := cutL_all asX_len
      have ha := asX_len
      repeat first | simp -implicitDefEqProofs (disch := first | omega | with_reducible assumption | (simp only [qU, qC]; omega)) only [qT, qA, reduceCtorEq, qB, qC, qD, qE, qF, qG, qH, qI, qJ, qK, qL, reduceIte, F73_l0, t0, t2, t4, s2, hc, hc2, cellsOf_asX] | refine OrW.go ?_
      done
end Go.Proofs.YtfjgpeoblnpelaaDoor
namespace Go.Proofs.YtfjgpeoblnpelaaDoor
open Go Go.AM
set_option linter.unusedVariables false
set_option linter.unusedSimpArgs false
set_option maxRecDepth 100000
set_option maxHeartbeats 2000000

def fbI (l : List UInt8) : Int := match l.findIdx? badC with | some i => i | none => -1
theorem fbI_none {l : List UInt8} (h : ∀ j (hj : j < l.length), badC l[j] = false) : fbI l = -1 := by
  have : l.findIdx? badC = none := by rw [List.findIdx?_eq_none_iff]; intro x hx; obtain ⟨j, hj, rfl⟩ := List.mem_iff_getElem.1 hx; exact h j hj
  simp [fbI, this]
theorem fbI_some {l : List UInt8} {i : Nat} (hi : i < l.length) (h : ∀ j (hj : j < i), badC (l[j]'(by omega)) = false) (hb : badC l[i] = true) : fbI l = i := by
  have : l.findIdx? badC = some i := by rw [List.findIdx?_eq_some_iff_getElem]; exact ⟨hi, hb, fun j hj => by simp [h j hj]⟩
  simp [fbI, this]
theorem fbI_any (l : List UInt8) : decide (0 ≤ fbI l) = l.any badC := by
  unfold fbI
  cases h : l.findIdx? badC with
  | none =>
    rw [List.findIdx?_eq_none_iff] at h
    have : l.any badC = false := by rw [List.any_eq_false]; intro x hx; simp [h x hx]
    simp [this]
  | some i =>
    rw [List.findIdx?_eq_some_iff_getElem] at h
    obtain ⟨h1, h2, _⟩ := h
    have : l.any badC = true := List.any_eq_true.2 ⟨_, List.getElem_mem h1, h2⟩
    simp [this]
theorem set72_ok (m : AMem) (n : Int) : PureC Tryd.prog 3 72 [.int .i64 n] m (.bool (decide (n > 8))) := by
  refine pure_of_W (fn := Tryd.f72) rfl rfl F72_ok (by simp [F72]) (.bool _) ?_
  repeat first | simp -implicitDefEqProofs (disch := first | omega | with_reducible assumption | (simp only [qU, qC]; omega)) only [qT, qA, reduceCtorEq, qB, qC, qD, qE, qF, qG, qH, qI, qJ, qK, qL, reduceIte, F72] | refine OrW.go ?_
theorem has74_ok (m : AMem) (b : Nat) (c : UInt8) {e : TypeId} {w : Bool} {sp : Spare} (hb : b < m.size) (h : m.get b = .cells AsX e w sp) : PureC Tryd.prog 3 74 [.pointer (some ⟨b, 0, none⟩), .int .u8 c.toNat] m (.bool (badC c)) := by
  refine pure_of_W (fn := Tryd.f74) rfl rfl F74_ok (by simp [F74]) (.bool _) ?_
  have h1 : (0 : Int) ≤ (c.toNat : Int) ∧ (c.toNat : Int) < ((256 : Nat) : Int) := by have := c.toNat_lt; omega
  have h2 := asX_get c
  repeat first | simp -implicitDefEqProofs (disch := first | omega | with_reducible assumption | (simp only [qU, qC]; omega)) only [qT, qA, reduceCtorEq, qB, qC, qD, qE, qF, qG, qH, qI, qJ, qK, qL, reduceIte, F74, h, h1, h2] | refine OrW.go ?_
theorem irZ_bad (c : UInt8) : (0 ≤ irZ c.toNat) ↔ badC c = true := by
  unfold irZ badC
  rw [Bool.or_eq_true, decide_eq_true_iff, decide_eq_true_iff]
  constructor
  · intro h
    split at h
    · rename_i e; left; exact UInt8.toNat_inj.1 (by simpa using e)
    · split at h
      · rename_i e; right; exact UInt8.toNat_inj.1 (by simpa using e)
      · omega
  · rintro (rfl | rfl)
    · simp
    · simp
theorem badC_low {c : UInt8} (h : badC c = true) : c.toNat < 128 := by
  simp only [badC, Bool.or_eq_true, decide_eq_true_iff] at h
  rcases h with rfl | rfl <;> decide
theorem indexAny_ok (m : AMem) (l : List UInt8) (hl : l.length ≤ 1000000) : PureC Tryd.prog 3 58 [.string ⟨l.toArray⟩, .string ⟨#[47, 0]⟩] m (.int .i64 (fbI l)) := by
  have s2 : (⟨#[47, 0]⟩ : ByteArray).size = 2 := rfl
  have hsz : (⟨l.toArray⟩ : ByteArray).size = l.length := mk_size l
  have e1 : strEq ⟨#[47, 0]⟩ ⟨#[]⟩ = false := by decide +kernel
  have k1 := fun M => DetC.known (set72_ok M l.length)
  have k2 := fun M => DetC.known (ascii_ok M)
  by_cases h8 : (l.length : Int) > 8
  · refine pure_of_W (fn := Tryd.f58) rfl rfl F58_ok (by simp [F58]) (.int _ _) ?_
    rw [decide_eq_true h8] at k1
    have ha := asX_len
    have hz := z256_len
    simp only [F58, z256]
    repeat first | simp -implicitDefEqProofs (disch := first | omega | with_reducible assumption | (simp only [qU, qC]; omega)) only [qT, qA, reduceCtorEq, qB, qC, qD, qE, qF, qG, qH, qI, qJ, qK, qL, reduceIte, s2, e1, k1, k2, cellsOf_asX] | refine OrW.go ?_
    refine W_loop (fun N qs => ∃ (i : Nat), N = l.length - i ∧ qs.ds = [] ∧ qs.m = mx m [.cells AsX 84 true .exact] ∧ qs.t 0 = .string ⟨l.toArray⟩ ∧ qs.t 6 = .pointer (some ⟨m.size, 0, none⟩) ∧ qs.t 8 = .int .i64 i ∧ i ≤ l.length ∧ ∀ j (hj : j < i) (hl : j < l.length), badC l[j] = false) (l.length - (0)) ⟨0, rfl, rfl, ?qm, ?q0, ?q6, ?q8, ?_⟩ ?_
    case qm | q0 | q6 | q8 => first | rfl | (simp -implicitDefEqProofs (disch := first | omega | with_reducible assumption | (simp only [qU, qC]; omega)) only [qT, qA, reduceCtorEq, qB, qC, qD, qE, qF, qG, qH, qI, qJ, qK, qL, reduceIte]; first | done | rfl | (congr 1; omega))
    · exact ⟨by omega, fun j hj => by omega⟩
    · rintro N t m1 ds ⟨i, rfl, hds, hm, t0, t6, t8, hp⟩
      simp only at hds hm t0 t6 t8
      subst hds; replace hm := hm.symm; subst hm
      obtain ⟨hi, hp⟩ := hp
      by_cases h1 : (i : Int) < (l.length : Int)
      · have h2 : i < l.length := by omega
        have k3 := DetC.known (has74_ok (mx m [.cells AsX 84 true .exact]) m.size l[i] (by rw [mx_size]; simp) (mx_new0 _ _))
        cases hb : badC l[i] with
        | true =>
          rw [hb] at k3
          repeat first | simp -implicitDefEqProofs (disch := first | omega | with_reducible assumption | (simp only [qU, qC]; omega)) only [qT, qA, reduceCtorEq, qB, qC, qD, qE, qF, qG, qH, qI, qJ, qK, qL, reduceIte, F58_l0, t0, t6, t8, h1, k3] | refine OrW.go ?_
          rw [fbI_some h2 (fun j hj => hp j hj (by omega)) hb]
        | false =>
          rw [hb] at k3
          repeat first | simp -implicitDefEqProofs (disch := first | omega | with_reducible assumption | (simp only [qU, qC]; omega)) only [qT, qA, reduceCtorEq, qB, qC, qD, qE, qF, qG, qH, qI, qJ, qK, qL, reduceIte, F58_l0, t0, t6, t8, h1, k3] | refine OrW.go ?_
          rw [LoopK_normal]; refine ⟨_, ?_, i + 1, rfl, rfl, ?qm, ?q0, ?q6, ?q8, ?_⟩
          case qm | q0 | q6 | q8 => first | rfl | (simp -implicitDefEqProofs (disch := first | omega | with_reducible assumption | (simp only [qU, qC]; omega)) only [qT, qA, reduceCtorEq, qB, qC, qD, qE, qF, qG, qH, qI, qJ, qK, qL, reduceIte, t0, t6, t8]; first | done | rfl | (congr 1; omega))
          · omega
          · refine ⟨by omega, fun j hj hl => ?_⟩
            by_cases e : j = i
            · subst e; exact hb
            · exact hp j (by omega) hl
      · repeat first | simp -implicitDefEqProofs (disch := first | omega | with_reducible assumption | (simp only [qU, qC]; omega)) only [qT, qA, reduceCtorEq, qB, qC, qD, qE, qF, qG, qH, qI, qJ, qK, qL, reduceIte, F58_l0, t0, t6, t8, h1] | refine OrW.go ?_
        rw [fbI_none fun j hj => hp j (by omega) hj]
  · refine pure_of_W (fn := Tryd.f58) rfl rfl F58_ok (by simp [F58]) (.int _ _) ?_
    rw [decide_eq_false h8] at k1
    simp only [F58, z256]
    repeat first | simp -implicitDefEqProofs (disch := first | omega | with_reducible assumption | (simp only [qU, qC]; omega)) only [qT, qA, reduceCtorEq, qB, qC, qD, qE, qF, qG, qH, qI, qJ, qK, qL, reduceIte, s2, e1, k1, stepOp_rng] | refine OrW.go ?_
    refine W_loop (fun N qs => ∃ (i : Nat), N = l.length - i ∧ qs.ds = [] ∧ qs.m = mx m [.iter ⟨l.toArray⟩ i] ∧ qs.t 1 = .string ⟨#[47, 0]⟩ ∧ qs.t 45 = .pointer (some ⟨m.size, 0, none⟩) ∧ i ≤ l.length ∧ ∀ j (hj : j < i) (hl : j < l.length), badC l[j] = false) (l.length - (0)) ⟨0, rfl, rfl, ?qm, ?q1, ?q45, ?_⟩ ?_
    case qm | q1 | q45 => first | rfl | (simp -implicitDefEqProofs (disch := first | omega | with_reducible assumption | (simp only [qU, qC]; omega)) only [qT, qA, reduceCtorEq, qB, qC, qD, qE, qF, qG, qH, qI, qJ, qK, qL, reduceIte]; first | done | rfl | (congr 1; omega))
    · exact ⟨by omega, fun j hj => by omega⟩
    · rintro N t m1 ds ⟨i, rfl, hds, hm, t1, t45, hp⟩
      simp only at hds hm t1 t45
      subst hds; replace hm := hm.symm; subst hm
      obtain ⟨hi, hp⟩ := hp
      by_cases h2 : i < l.length
      · by_cases hb : l[i].toNat < 128
        · have hd := decode_low l h2 hb
          have hx : (l[i].toNat < 55296 ∨ 57343 < l[i].toNat) ∧ l[i].toNat ≤ 1114111 := ⟨.inl (by omega), by omega⟩
          have k3 := fun M => DetC.known (indexRune_ok M l[i].toNat hx.1 hx.2)
          have hbad := irZ_bad l[i]
          clear hx
          cases hbd : badC l[i] with
          | true =>
            have h5 : 0 ≤ irZ l[i].toNat := hbad.2 hbd
            repeat first | simp -implicitDefEqProofs (disch := first | omega | with_reducible assumption | (simp only [qU, qC]; omega)) only [qT, qA, reduceCtorEq, qB, qC, qD, qE, qF, qG, qH, qI, qJ, qK, qL, reduceIte, F58_l1, t1, t45, stepOp_nxt, hd, k3, h5] | refine OrW.go ?_
            rw [fbI_some h2 (fun j hj => hp j hj (by omega)) hbd]
          | false =>
            have h5 : ¬ 0 ≤ irZ l[i].toNat := fun h => by rw [hbad.1 h] at hbd; cases hbd
            repeat first | simp -implicitDefEqProofs (disch := first | omega | with_reducible assumption | (simp only [qU, qC]; omega)) only [qT, qA, reduceCtorEq, qB, qC, qD, qE, qF, qG, qH, qI, qJ, qK, qL, reduceIte, F58_l1, t1, t45, stepOp_nxt, hd, k3, h5] | refine OrW.go ?_
            rw [LoopK_normal]; refine ⟨_, ?_, i + 1, rfl, rfl, ?qm, ?q1, ?q45, ?_⟩
            case qm | q1 | q45 => first | rfl | (simp -implicitDefEqProofs (disch := first | omega | with_reducible assumption | (simp only [qU, qC]; omega)) only [qT, qA, reduceCtorEq, qB, qC, qD, qE, qF, qG, qH, qI, qJ, qK, qL, reduceIte, t1, t45]; first | done | rfl | (congr 1; omega))
            · omega
            · refine ⟨by omega, fun j hj hl => ?_⟩
              by_cases e : j = i
              · subst e; exact hbd
              · exact hp j (by omega) hl
        · obtain ⟨d1, d2, d3, d4, d5, d6⟩ := decode_high l h2 hb
          generalize hdec : Utf8.decode ⟨l.toArray⟩ i = rw at d1 d2 d3 d4 d5 d6
          obtain ⟨R, Wd⟩ := rw
          simp only at d1 d2 d3 d4 d5 d6
          have k3 := fun M => DetC.known (indexRune_ok M R d2 d3)
          rw [irZ_high d1] at k3
          clear d1 d2 d3
          repeat first | simp -implicitDefEqProofs (disch := first | omega | with_reducible assumption | (simp only [qU, qC]; omega)) only [qT, qA, reduceCtorEq, qB, qC, qD, qE, qF, qG, qH, qI, qJ, qK, qL, reduceIte, F58_l1, t1, t45, stepOp_nxt, hdec, k3] | refine OrW.go ?_
          rw [LoopK_normal]; refine ⟨_, ?_, i + Wd, rfl, rfl, ?qm, ?q1, ?q45, ?_⟩
          case qm | q1 | q45 => first | rfl | (simp -implicitDefEqProofs (disch := first | omega | with_reducible assumption | (simp only [qU, qC]; omega)) only [qT, qA, reduceCtorEq, qB, qC, qD, qE, qF, qG, qH, qI, qJ, qK, qL, reduceIte, t1, t45]; first | done | rfl | (congr 1; omega))
          · omega
          · refine ⟨by omega, fun j hj hl => ?_⟩
            by_cases e : j < i
            · exact hp j e hl
            · have := d6 j hl (by omega) hj
              cases hbd : badC l[j] with
              | false => rfl
              | true => have := badC_low hbd; omega
      · repeat first | simp -implicitDefEqProofs (disch := first | omega | with_reducible assumption | (simp only [qU, qC]; omega)) only [qT, qA, reduceCtorEq, qB, qC, qD, qE, qF, qG, qH, qI, qJ, qK, qL, reduceIte, F58_l1, t1, t45, stepOp_nxt, h2] | refine OrW.go ?_
        rw [fbI_none fun j hj => hp j (by omega) hj]
theorem containsAny_ok (m : AMem) (l : List UInt8) (hl : l.length ≤ 1000000) : PureC Tryd.prog 3 37 [.string ⟨l.toArray⟩, .string ⟨#[47, 0]⟩] m (.bool (l.any badC)) := by
  refine pure_of_W (fn := Tryd.f37) rfl rfl F37_ok (by simp [F37]) (.bool _) ?_
  have k1 := fun M => DetC.known (indexAny_ok M l hl)
  repeat first | simp -implicitDefEqProofs (disch := first | omega | with_reducible assumption | (simp only [qU, qC]; omega)) only [qT, qA, reduceCtorEq, qB, qC, qD, qE, qF, qG, qH, qI, qJ, qK, qL, reduceIte, F37, k1] | refine OrW.go ?_
  have := fbI_any l
  rw [← this]
def nameB (l : List UInt8) : Bool := !decide (l = []) && decide (l.length ≤ 255) && !decide (l = [46]) && !decide (l = [46, 46]) && !l.any badC
theorem name_ok (m : AMem) (l : List UInt8) : PureC Tryd.prog 3 10 [.string ⟨l.toArray⟩] m (.bool (nameB l)) := by
  have e0 : strEq ⟨l.toArray⟩ ⟨#[]⟩ = decide (l = []) := strEq_mk l []
  have e1 : strEq ⟨l.toArray⟩ ⟨#[46]⟩ = decide (l = [46]) := strEq_mk l [46]
  have e2 : strEq ⟨l.toArray⟩ ⟨#[46, 46]⟩ = decide (l = [46, 46]) := strEq_mk l [46, 46]
  by_cases h0 : l = []
  · rw [decide_eq_true h0] at e0
    refine pure_of_W (fn := Tryd.f10) rfl rfl F10_ok (by simp [F10]) (.bool _) ?_
    repeat first | simp -implicitDefEqProofs (disch := first | omega | with_reducible assumption | (simp only [qU, qC]; omega)) only [qT, qA, reduceCtorEq, qB, qC, qD, qE, qF, qG, qH, qI, qJ, qK, qL, reduceIte, F10, e0, undef] | refine OrW.go ?_
    simp [nameB, h0]
  · rw [decide_eq_false h0] at e0
    by_cases h1 : (l.length : Int) ≤ 255
    · have k := fun M => DetC.known (containsAny_ok M l (by omega))
      by_cases h2 : l = [46]
      · rw [decide_eq_true h2] at e1
        refine pure_of_W (fn := Tryd.f10) rfl rfl F10_ok (by simp [F10]) (.bool _) ?_
        repeat first | simp -implicitDefEqProofs (disch := first | omega | with_reducible assumption | (simp only [qU, qC]; omega)) only [qT, qA, reduceCtorEq, qB, qC, qD, qE, qF, qG, qH, qI, qJ, qK, qL, reduceIte, F10, e0, e1, h1, undef] | refine OrW.go ?_
        simp [nameB, h2]
      · rw [decide_eq_false h2] at e1
        by_cases h3 : l = [46, 46]
        · rw [decide_eq_true h3] at e2
          refine pure_of_W (fn := Tryd.f10) rfl rfl F10_ok (by simp [F10]) (.bool _) ?_
          repeat first | simp -implicitDefEqProofs (disch := first | omega | with_reducible assumption | (simp only [qU, qC]; omega)) only [qT, qA, reduceCtorEq, qB, qC, qD, qE, qF, qG, qH, qI, qJ, qK, qL, reduceIte, F10, e0, e1, e2, h1, undef] | refine OrW.go ?_
          simp [nameB, h3]
        · rw [decide_eq_false h3] at e2
          have hx : nameB l = !l.any badC := by
            have h4 : l.length ≤ 255 := by omega
            simp only [nameB, decide_eq_false h0, decide_eq_false h2, decide_eq_false h3, decide_eq_true h4, Bool.not_false, Bool.and_self, Bool.true_and]
          rw [hx]
          refine pure_of_W (fn := Tryd.f10) rfl rfl F10_ok (by simp [F10]) (.bool _) ?_
          repeat first | simp -implicitDefEqProofs (disch := first | omega | with_reducible assumption | (simp only [qU, qC]; omega)) only [qT, qA, reduceCtorEq, qB, qC, qD, qE, qF, qG, qH, qI, qJ, qK, qL, reduceIte, F10, e0, e1, e2, h1, k] | refine OrW.go ?_
    · have hx : nameB l = false := by
        have h4 : ¬ l.length ≤ 255 := by omega
        simp only [nameB, decide_eq_false h4, Bool.and_false, Bool.false_and]
      rw [hx]
      refine pure_of_W (fn := Tryd.f10) rfl rfl F10_ok (by simp [F10]) (.bool _) ?_
      repeat first | simp -implicitDefEqProofs (disch := first | omega | with_reducible assumption | (simp only [qU, qC]; omega)) only [qT, qA, reduceCtorEq, qB, qC, qD, qE, qF, qG, qH, qI, qJ, qK, qL, reduceIte, F10, e0, h1, undef] | refine OrW.go ?_
theorem refName_ok (m : AMem) (l : List UInt8) (hl : l.length ≤ 1000000) : PureC Tryd.prog 3 11 [.string ⟨l.toArray⟩] m (.bool (nameB l)) := by
  have e1 : strEq ⟨l.toArray⟩ ⟨#[46]⟩ = decide (l = [46]) := strEq_mk l [46]
  have e2 : strEq ⟨l.toArray⟩ ⟨#[46, 46]⟩ = decide (l = [46, 46]) := strEq_mk l [46, 46]
  refine pure_of_W (fn := Tryd.f11) rfl rfl F11_ok (by simp [F11]) (.bool _) ?_
  repeat first | simp -implicitDefEqProofs (disch := first | omega | with_reducible assumption | (simp only [qU, qC]; omega)) only [qT, qA, reduceCtorEq, qB, qC, qD, qE, qF, qG, qH, qI, qJ, qK, qL, reduceIte, F11] | refine OrW.go ?_
  refine W_loop (fun N qs => ∃ (i : Nat), N = l.length - i ∧ qs.ds = [] ∧ qs.m = mx m [] ∧ qs.t 0 = .string ⟨l.toArray⟩ ∧ qs.t 3 = .int .i64 i ∧ i ≤ l.length ∧ ∀ j (hj : j < i) (hl : j < l.length), badC l[j] = false) (l.length - (0)) ⟨0, rfl, rfl, ?qm, ?q0, ?q3, ?_⟩ ?_
  case qm | q0 | q3 => first | rfl | (simp -implicitDefEqProofs (disch := first | omega | with_reducible assumption | (simp only [qU, qC]; omega)) only [qT, qA, reduceCtorEq, qB, qC, qD, qE, qF, qG, qH, qI, qJ, qK, qL, reduceIte]; first | done | rfl | (congr 1; omega))
  · exact ⟨by omega, fun j hj => by omega⟩
  · rintro N t m1 ds ⟨i, rfl, hds, hm, t0, t3, hp⟩
    simp only at hds hm t0 t3
    subst hds; replace hm := hm.symm; subst hm
    obtain ⟨hi, hp⟩ := hp
    by_cases h1 : (i : Int) < (l.length : Int)
    · have h2 : i < l.length := by omega
      have bad : badC l[i] = true → nameB l = false := fun hb => by
        have : l.any badC = true := List.any_eq_true.2 ⟨_, List.getElem_mem h2, hb⟩
        simp [nameB, this]
      by_cases h3 : (l[i].toNat : Int) = 47
      · have hb : badC l[i] = true := by
          have : l[i] = 47 := UInt8.toNat_inj.1 (by simpa using (by omega : l[i].toNat = 47))
          simp [badC, this]
        rw [bad hb]
        repeat first | simp -implicitDefEqProofs (disch := first | omega | with_reducible assumption | (simp only [qU, qC]; omega)) only [qT, qA, reduceCtorEq, qB, qC, qD, qE, qF, qG, qH, qI, qJ, qK, qL, reduceIte, F11_l0, t0, t3, h1, h3, undef] | refine OrW.go ?_
      · by_cases h4 : (l[i].toNat : Int) = 0
        · have hb : badC l[i] = true := by
            have : l[i] = 0 := UInt8.toNat_inj.1 (by simpa using (by omega : l[i].toNat = 0))
            simp [badC, this]
          rw [bad hb]
          repeat first | simp -implicitDefEqProofs (disch := first | omega | with_reducible assumption | (simp only [qU, qC]; omega)) only [qT, qA, reduceCtorEq, qB, qC, qD, qE, qF, qG, qH, qI, qJ, qK, qL, reduceIte, F11_l0, t0, t3, h1, h3, h4, undef] | refine OrW.go ?_
        · have hb : badC l[i] = false := by
            have n1 : ¬ l[i] = 47 := fun e => h3 (by rw [e]; rfl)
            have n2 : ¬ l[i] = 0 := fun e => h4 (by rw [e]; rfl)
            simp [badC, n1, n2]
          repeat first | simp -implicitDefEqProofs (disch := first | omega | with_reducible assumption | (simp only [qU, qC]; omega)) only [qT, qA, reduceCtorEq, qB, qC, qD, qE, qF, qG, qH, qI, qJ, qK, qL, reduceIte, F11_l0, t0, t3, h1, h3, h4, undef] | refine OrW.go ?_
          rw [LoopK_normal]; refine ⟨_, ?_, i + 1, rfl, rfl, ?qm, ?q0, ?q3, ?_⟩
          case qm | q0 | q3 => first | rfl | (simp -implicitDefEqProofs (disch := first | omega | with_reducible assumption | (simp only [qU, qC]; omega)) only [qT, qA, reduceCtorEq, qB, qC, qD, qE, qF, qG, qH, qI, qJ, qK, qL, reduceIte, t0, t3]; first | done | rfl | (congr 1; omega))
          · omega
          · refine ⟨by omega, fun j hj hl => ?_⟩
            by_cases e : j = i
            · subst e; exact hb
            · exact hp j (by omega) hl
    · have hany : l.any badC = false := by
        rw [List.any_eq_false]; intro x hx
        obtain ⟨j, hj, rfl⟩ := List.mem_iff_getElem.1 hx
        simp [hp j (by omega) hj]
      by_cases h2 : (l.length : Int) ≥ 1
      · have h2' : (1 : Int) ≤ (l.length : Int) := h2
        have h0 : ¬ l = [] := fun e => by subst e; simp at h2'
        by_cases h3 : (l.length : Int) ≤ 255
        · by_cases h4 : l = [46]
          · rw [decide_eq_true h4] at e1
            repeat first | simp -implicitDefEqProofs (disch := first | omega | with_reducible assumption | (simp only [qU, qC]; omega)) only [qT, qA, reduceCtorEq, qB, qC, qD, qE, qF, qG, qH, qI, qJ, qK, qL, reduceIte, F11_l0, t0, t3, h1, h2, h2', h3, e1, undef] | refine OrW.go ?_
            simp [nameB, h4]
          · rw [decide_eq_false h4] at e1
            have hx : nameB l = !decide (l = [46, 46]) := by
              have h5 : l.length ≤ 255 := by omega
              simp only [nameB, hany, decide_eq_false h0, decide_eq_false h4, decide_eq_true h5, Bool.not_false, Bool.and_self, Bool.true_and, Bool.and_true]
            rw [hx]
            repeat first | simp -implicitDefEqProofs (disch := first | omega | with_reducible assumption | (simp only [qU, qC]; omega)) only [qT, qA, reduceCtorEq, qB, qC, qD, qE, qF, qG, qH, qI, qJ, qK, qL, reduceIte, F11_l0, t0, t3, h1, h2, h2', h3, e1, e2] | refine OrW.go ?_
        · have hx : nameB l = false := by
            have h5 : ¬ l.length ≤ 255 := by omega
            simp only [nameB, decide_eq_false h5, Bool.and_false, Bool.false_and]
          rw [hx]
          repeat first | simp -implicitDefEqProofs (disch := first | omega | with_reducible assumption | (simp only [qU, qC]; omega)) only [qT, qA, reduceCtorEq, qB, qC, qD, qE, qF, qG, qH, qI, qJ, qK, qL, reduceIte, F11_l0, t0, t3, h1, h2, h2', h3, undef] | refine OrW.go ?_
      · have h2' : ¬ (1 : Int) ≤ (l.length : Int) := h2
        have h0 : l = [] := List.length_eq_zero_iff.1 (by omega)
        have hx : nameB l = false := by simp [nameB, h0]
        rw [hx]
        repeat first | simp -implicitDefEqProofs (disch := first | omega | with_reducible assumption | (simp only [qU, qC]; omega)) only [qT, qA, reduceCtorEq, qB, qC, qD, qE, qF, qG, qH, qI, qJ, qK, qL, reduceIte, F11_l0, t0, t3, h1, h2, h2', undef] | refine OrW.go ?_
end Go.Proofs.YtfjgpeoblnpelaaDoor
namespace Go.Proofs.YtfjgpeoblnpelaaDoor
open Go Go.AM
set_option linter.unusedVariables false
set_option linter.unusedSimpArgs false
set_option maxRecDepth 100000
set_option maxHeartbeats 2000000

theorem refCount_ok (t : Tr) : ∀ (m : AMem) (c : List Value), TrC m t c → t.count ≤ 1000000000 → PureC Tryd.prog 3 17 [.agg c.toArray] m (.int .i64 (t.count : Nat)) := by
  induction t using Tr.ind2 with
  | h k d es ih =>
    intro m c hc hn
    obtain ⟨a, cap, rfl, hE⟩ := trC_nd hc
    simp only [Tr.count] at hn ⊢
    refine pure_of_W (fn := Tryd.f17) rfl rfl F17_ok (by simp [F17]) (.int _ _) ?_
    simp -implicitDefEqProofs (disch := first | omega | with_reducible assumption | (simp only [qU, qC]; omega)) only [qT, qA, reduceCtorEq, qB, qC, qD, qE, qF, qG, qH, qI, qJ, qK, qL, reduceIte, F17, cellsOf_node]
    refine W_loop (fun N qs => ∃ (i : Nat), N = es.length - i ∧ qs.ds = [] ∧ qs.m = mx m [.cells [.int .u8 k, .string ⟨d.toArray⟩, .slice a es.length cap] 26 true .exact] ∧ qs.t 1 = .pointer (some ⟨m.size, 0, none⟩) ∧ qs.t 3 = .int .i64 (1 + countL (es.take i) : Nat) ∧ qs.t 4 = .int .i64 i ∧ i ≤ es.length) (es.length - (0)) ⟨0, rfl, rfl, ?qm, ?q1, ?q3, ?q4, ?_⟩ ?_
    case qm | q1 | q3 | q4 => first | rfl | (simp -implicitDefEqProofs (disch := first | omega | with_reducible assumption | (simp only [qU, qC]; omega)) only [qT, qA, reduceCtorEq, qB, qC, qD, qE, qF, qG, qH, qI, qJ, qK, qL, reduceIte, List.take_zero, countL]; first | done | rfl | (congr 1; omega))
    · omega
    · rintro N t m1 ds ⟨i, rfl, hds, hm, t1, t3, t4, hp⟩
      simp only at hds hm t1 t3 t4
      subst hds; replace hm := hm.symm; subst hm
      have hle := countL_le es i
      have hlen := countL_len es
      by_cases h1 : (i : Int) < (es.length : Int)
      · have hi : i < es.length := by omega
        have hs := countL_succ hi
        have hle2 := countL_le es (i + 1)
        obtain ⟨b, o, a', cap', rfl, hb, hE', h4, h3, h0⟩ := hE.get hi
        have k1 := DetC.known (ih i hi (mx m [.cells [.int .u8 k, .string ⟨d.toArray⟩, .slice (some ⟨b, o, none⟩) es.length cap] 26 true .exact]) _ (TrC.of (hE'.old (Old.here m _))) (by omega))
        have e1 : (1 + countL (es.take (i + 1)) : Nat) = 1 + countL (es.take i) + es[i].t.count := by omega
        repeat first | simp -implicitDefEqProofs (disch := first | omega | with_reducible assumption | (simp only [qU, qC]; omega)) only [qT, qA, reduceCtorEq, qB, qC, qD, qE, qF, qG, qH, qI, qJ, qK, qL, reduceIte, F17_l0, t1, t3, t4, h1, h3, k1] | refine OrW.go ?_
        rw [LoopK_normal]; refine ⟨_, ?_, i + 1, rfl, rfl, ?qm, ?q1, ?q3, ?q4, ?_⟩
        case qm | q1 | q3 | q4 => first | rfl | (simp -implicitDefEqProofs (disch := first | omega | with_reducible assumption | (simp only [qU, qC]; omega)) only [qT, qA, reduceCtorEq, qB, qC, qD, qE, qF, qG, qH, qI, qJ, qK, qL, reduceIte, t1, t3, t4, e1, Int.natCast_add]; first | done | rfl | (congr 1; omega))
        · omega
        · omega
      · obtain rfl : i = es.length := by omega
        rw [List.take_length] at t3
        repeat first | simp -implicitDefEqProofs (disch := first | omega | with_reducible assumption | (simp only [qU, qC]; omega)) only [qT, qA, reduceCtorEq, qB, qC, qD, qE, qF, qG, qH, qI, qJ, qK, qL, reduceIte, F17_l0, t1, t3, t4, h1] | refine OrW.go ?_

theorem refDepth_ok (t : Tr) : ∀ (m : AMem) (c : List Value), TrC m t c → t.count ≤ 1000000000 → PureC Tryd.prog 3 19 [.agg c.toArray] m (.int .i64 (t.depth : Nat)) := by
  induction t using Tr.ind2 with
  | h k d es ih =>
    intro m c hc hn
    obtain ⟨a, cap, rfl, hE⟩ := trC_nd hc
    simp only [Tr.count, Tr.depth] at hn ⊢
    refine pure_of_W (fn := Tryd.f19) rfl rfl F19_ok (by simp [F19]) (.int _ _) ?_
    simp -implicitDefEqProofs (disch := first | omega | with_reducible assumption | (simp only [qU, qC]; omega)) only [qT, qA, reduceCtorEq, qB, qC, qD, qE, qF, qG, qH, qI, qJ, qK, qL, reduceIte, F19, cellsOf_node]
    refine W_loop (fun N qs => ∃ (i : Nat), N = es.length - i ∧ qs.ds = [] ∧ qs.m = mx m [.cells [.int .u8 k, .string ⟨d.toArray⟩, .slice a es.length cap] 26 true .exact] ∧ qs.t 1 = .pointer (some ⟨m.size, 0, none⟩) ∧ qs.t 3 = .int .i64 (depthL (es.take i) : Nat) ∧ qs.t 4 = .int .i64 i ∧ i ≤ es.length) (es.length - (0)) ⟨0, rfl, rfl, ?qm, ?q1, ?q3, ?q4, ?_⟩ ?_
    case qm | q1 | q3 | q4 => first | rfl | (simp -implicitDefEqProofs (disch := first | omega | with_reducible assumption | (simp only [qU, qC]; omega)) only [qT, qA, reduceCtorEq, qB, qC, qD, qE, qF, qG, qH, qI, qJ, qK, qL, reduceIte, List.take_zero, depthL]; first | done | rfl | (congr 1; omega))
    · omega
    · rintro N t m1 ds ⟨i, rfl, hds, hm, t1, t3, t4, hp⟩
      simp only at hds hm t1 t3 t4
      subst hds; replace hm := hm.symm; subst hm
      have hle := countL_le es i
      have hlen := countL_len es
      by_cases h1 : (i : Int) < (es.length : Int)
      · have hi : i < es.length := by omega
        have hs := countL_succ hi
        have hle2 := countL_le es (i + 1)
        have hd := es[i].t.depth_lt
        obtain ⟨b, o, a', cap', rfl, hb, hE', h4, h3, h0⟩ := hE.get hi
        have k1 := DetC.known (ih i hi (mx m [.cells [.int .u8 k, .string ⟨d.toArray⟩, .slice (some ⟨b, o, none⟩) es.length cap] 26 true .exact]) _ (TrC.of (hE'.old (Old.here m _))) (by omega))
        have e1 : (depthL (es.take (i + 1)) : Int) = max (depthL (es.take i) : Int) (1 + (es[i].t.depth : Int)) := by rw [depthL_succ hi]; omega
        repeat first | simp -implicitDefEqProofs (disch := first | omega | with_reducible assumption | (simp only [qU, qC]; omega)) only [qT, qA, reduceCtorEq, qB, qC, qD, qE, qF, qG, qH, qI, qJ, qK, qL, reduceIte, F19_l0, t1, t3, t4, h1, h3, k1, mnx_max, stepOp_mnx] | refine OrW.go ?_
        rw [LoopK_normal]; refine ⟨_, ?_, i + 1, rfl, rfl, ?qm, ?q1, ?q3, ?q4, ?_⟩
        case qm | q1 | q3 | q4 => first | rfl | (simp -implicitDefEqProofs (disch := first | omega | with_reducible assumption | (simp only [qU, qC]; omega)) only [qT, qA, reduceCtorEq, qB, qC, qD, qE, qF, qG, qH, qI, qJ, qK, qL, reduceIte, t1, t3, t4, e1, Int.natCast_add]; first | done | rfl | (congr 1; omega))
        · omega
        · omega
      · obtain rfl : i = es.length := by omega
        rw [List.take_length] at t3
        repeat first | simp -implicitDefEqProofs (disch := first | omega | with_reducible assumption | (simp only [qU, qC]; omega)) only [qT, qA, reduceCtorEq, qB, qC, qD, qE, qF, qG, qH, qI, qJ, qK, qL, reduceIte, F19_l0, t1, t3, t4, h1] | refine OrW.go ?_
theorem refSize_ok (t : Tr) : ∀ (m : AMem) (c : List Value), TrC m t c → t.weight ≤ 1000000000 → PureC Tryd.prog 3 21 [.agg c.toArray] m (.int .i64 (t.size : Nat)) := by
  induction t using Tr.ind2 with
  | h k d es ih =>
    intro m c hc hn
    obtain ⟨a, cap, rfl, hE⟩ := trC_nd hc
    have hcw := (Tr.nd k d es).count_le
    simp only [Tr.weight, Tr.size, Tr.count] at hn hcw ⊢
    refine pure_of_W (fn := Tryd.f21) rfl rfl F21_ok (by simp [F21]) (.int _ _) ?_
    simp -implicitDefEqProofs (disch := first | omega | with_reducible assumption | (simp only [qU, qC]; omega)) only [qT, qA, reduceCtorEq, qB, qC, qD, qE, qF, qG, qH, qI, qJ, qK, qL, reduceIte, F21, cellsOf_node, cutL3_1]
    refine W_loop (fun N qs => ∃ (i : Nat), N = es.length - i ∧ qs.ds = [] ∧ qs.m = mx m [.cells [.int .u8 k, .string ⟨d.toArray⟩, .slice a es.length cap] 26 true .exact] ∧ qs.t 1 = .pointer (some ⟨m.size, 0, none⟩) ∧ qs.t 3 = .int .i64 (d.length + sizeL (es.take i) : Nat) ∧ qs.t 4 = .int .i64 i ∧ i ≤ es.length) (es.length - (0)) ⟨0, rfl, rfl, ?qm, ?q1, ?q3, ?q4, ?_⟩ ?_
    case qm | q1 | q3 | q4 => first | rfl | (simp -implicitDefEqProofs (disch := first | omega | with_reducible assumption | (simp only [qU, qC]; omega)) only [qT, qA, reduceCtorEq, qB, qC, qD, qE, qF, qG, qH, qI, qJ, qK, qL, reduceIte, List.take_zero, sizeL]; first | done | rfl | (congr 1; omega))
    · omega
    · rintro N t m1 ds ⟨i, rfl, hds, hm, t1, t3, t4, hp⟩
      simp only at hds hm t1 t3 t4
      subst hds; replace hm := hm.symm; subst hm
      have hlen := countL_len es
      by_cases h1 : (i : Int) < (es.length : Int)
      · have hi : i < es.length := by omega
        have hs := sizeL_succ hi
        have hw := weightL_succ hi
        have hle2 := weightL_le es (i + 1)
        have hle3 := sizeL_le es (i + 1)
        have hsw := (Tr.nd k d es).size_le
        simp only [Tr.size, Tr.weight] at hsw
        obtain ⟨b, o, a', cap', rfl, hb, hE', h4, h3, h0⟩ := hE.get hi
        have k1 := DetC.known (ih i hi (mx m [.cells [.int .u8 k, .string ⟨d.toArray⟩, .slice (some ⟨b, o, none⟩) es.length cap] 26 true .exact]) _ (TrC.of (hE'.old (Old.here m _))) (by omega))
        have e1 : (d.length + sizeL (es.take (i + 1)) : Nat) = d.length + sizeL (es.take i) + es[i].t.size := by omega
        repeat first | simp -implicitDefEqProofs (disch := first | omega | with_reducible assumption | (simp only [qU, qC]; omega)) only [qT, qA, reduceCtorEq, qB, qC, qD, qE, qF, qG, qH, qI, qJ, qK, qL, reduceIte, F21_l0, t1, t3, t4, h1, h3, k1] | refine OrW.go ?_
        rw [LoopK_normal]; refine ⟨_, ?_, i + 1, rfl, rfl, ?qm, ?q1, ?q3, ?q4, ?_⟩
        case qm | q1 | q3 | q4 => first | rfl | (simp -implicitDefEqProofs (disch := first | omega | with_reducible assumption | (simp only [qU, qC]; omega)) only [qT, qA, reduceCtorEq, qB, qC, qD, qE, qF, qG, qH, qI, qJ, qK, qL, reduceIte, t1, t3, t4, e1, Int.natCast_add]; first | done | rfl | (congr 1; omega))
        · omega
        · omega
      · obtain rfl : i = es.length := by omega
        rw [List.take_length] at t3
        repeat first | simp -implicitDefEqProofs (disch := first | omega | with_reducible assumption | (simp only [qU, qC]; omega)) only [qT, qA, reduceCtorEq, qB, qC, qD, qE, qF, qG, qH, qI, qJ, qK, qL, reduceIte, F21_l0, t1, t3, t4, h1] | refine OrW.go ?_
end Go.Proofs.YtfjgpeoblnpelaaDoor
namespace Go.AM
mutual
def Tr.weightR : Tr → Nat → Nat
  | .nd _ d es, top => if top < d.length then top + 1 else weighL es top (1 + d.length)
def weighL : List En → Nat → Nat → Nat
  | [], _, w => w
  | e :: r, top, w => if w ≤ top then (if top < e.nlen then top + 1 else if w + e.nlen ≤ top then weighL r top (w + e.nlen + e.weightR (top - (w + e.nlen))) else w + e.nlen) else w
def En.weightR : En → Nat → Nat
  | .mk _ t, top => t.weightR top
def En.nlen : En → Nat
  | .mk n _ => n.length
end
theorem En.weightR_t (e : En) (n : Nat) : e.weightR n = e.t.weightR n := by cases e; unfold En.weightR; rfl
theorem En.nlen_n (e : En) : e.nlen = e.n.length := by cases e; unfold En.nlen; rfl
theorem Tr.weightR_spec (t : Tr) : ∀ top, t.weightR top ≤ 2 * top + 1 ∧ (t.weight ≤ top → t.weightR top = t.weight) ∧ (top < t.weight → top < t.weightR top) := by
  induction t using Tr.ind with
  | h k d es ih =>
    intro top
    simp only [Tr.weightR, Tr.weight]
    have key : ∀ (l : List En), (∀ e ∈ l, ∀ top, e.t.weightR top ≤ 2 * top + 1 ∧ (e.t.weight ≤ top → e.t.weightR top = e.t.weight) ∧ (top < e.t.weight → top < e.t.weightR top)) → ∀ w, w ≤ 2 * top + 1 →
        weighL l top w ≤ 2 * top + 1 ∧ (w + weightL l ≤ top → weighL l top w = w + weightL l) ∧ (top < w + weightL l → top < weighL l top w) := by
      intro l
      induction l with
      | nil => intro _ w hw; simp only [weighL, weightL]; omega
      | cons e r ihr =>
        intro hl w hw
        have hr := ihr fun x hx => hl x (by simp [hx])
        simp only [weighL, weightL, En.weightR_t, En.nlen_n, En.weight_t]
        by_cases h1 : w ≤ top
        · rw [if_pos h1]
          by_cases h2 : top < e.n.length
          · rw [if_pos h2]; omega
          · rw [if_neg h2]
            by_cases h3 : w + e.n.length ≤ top
            · rw [if_pos h3]
              obtain ⟨q1, q2, q3⟩ := hl e (by simp) (top - (w + e.n.length))
              obtain ⟨r1, r2, r3⟩ := hr (w + e.n.length + e.t.weightR (top - (w + e.n.length))) (by omega)
              refine ⟨r1, fun h => ?_, fun h => ?_⟩
              · have := q2 (by omega)
                rw [r2 (by omega), this]; omega
              · refine r3 ?_
                by_cases h4 : e.t.weight ≤ top - (w + e.n.length)
                · rw [q2 h4]; omega
                · have := q3 (by omega); omega
            · rw [if_neg h3]; omega
        · rw [if_neg h1]; omega
    have hk := key es ih (1 + d.length)
    by_cases h : top < d.length
    · rw [if_pos h]; omega
    · rw [if_neg h]
      have := hk (by omega)
      omega
theorem weighL_ge (top : Nat) : ∀ (l : List En) (w : Nat), w ≤ weighL l top w
  | [], w => by simp [weighL]
  | e :: r, w => by
    simp only [weighL, En.weightR_t, En.nlen_n]
    split
    · split
      · omega
      · split
        · have := weighL_ge top r (w + e.n.length + e.t.weightR (top - (w + e.n.length)))
          omega
        · omega
    · exact Nat.le_refl _
theorem Tr.weightR_pos (t : Tr) (top : Nat) : 1 ≤ t.weightR top := by
  obtain ⟨k, d, es⟩ := t
  simp only [Tr.weightR]
  split
  · omega
  · have := weighL_ge top es (1 + d.length); omega
end Go.AM
namespace Go.Proofs.YtfjgpeoblnpelaaDoor
open Go Go.AM
set_option linter.unusedVariables false
set_option linter.unusedSimpArgs false
set_option maxRecDepth 100000
set_option maxHeartbeats 2000000

theorem weight_ok (t : Tr) : ∀ (m : AMem) (c : List Value) (top : Nat), TrC m t c → top ≤ 1000000 → PureC Tryd.prog 3 13 [.agg c.toArray, .int .i64 top] m (.int .i64 (t.weightR top : Nat)) := by
  induction t using Tr.ind2 with
  | h k d es ih =>
    intro m c top hc hn
    obtain ⟨a, cap, rfl, hE⟩ := trC_nd hc
    simp only [Tr.weightR]
    by_cases h0 : (d.length : Int) > (top : Int)
    · have h0' : top < d.length := by omega
      rw [if_pos h0']
      refine pure_of_W (fn := Tryd.f13) rfl rfl F13_ok (by simp [F13]) (.int _ _) ?_
      repeat first | simp -implicitDefEqProofs (disch := first | omega | with_reducible assumption | (simp only [qU, qC]; omega)) only [qT, qA, reduceCtorEq, qB, qC, qD, qE, qF, qG, qH, qI, qJ, qK, qL, reduceIte, F13, cellsOf_node, cutL3_1, h0] | refine OrW.go ?_
      rfl
    · have h0' : ¬ top < d.length := by omega
      rw [if_neg h0']
      refine pure_of_W (fn := Tryd.f13) rfl rfl F13_ok (by simp [F13]) (.int _ _) ?_
      repeat first | simp -implicitDefEqProofs (disch := first | omega | with_reducible assumption | (simp only [qU, qC]; omega)) only [qT, qA, reduceCtorEq, qB, qC, qD, qE, qF, qG, qH, qI, qJ, qK, qL, reduceIte, F13, cellsOf_node, cutL3_1, h0] | refine OrW.go ?_
      refine W_loop (fun N qs => ∃ (i w : Nat), N = es.length - i ∧ qs.ds = [] ∧ qs.m = mx m [.cells [.int .u8 k, .string ⟨d.toArray⟩, .slice a es.length cap] 26 true .exact] ∧ qs.t 1 = .int .i64 top ∧ qs.t 2 = .pointer (some ⟨m.size, 0, none⟩) ∧ qs.t 5 = .int .i64 w ∧ qs.t 6 = .int .i64 i ∧ i ≤ es.length ∧ w ≤ 2 * top + 1 ∧ i ≤ w ∧ weighL (es.drop i) top w = weighL es top (1 + d.length)) (es.length - (0)) ⟨0, 1 + d.length, rfl, rfl, ?qm, ?q1, ?q2, ?q5, ?q6, ?_⟩ ?_
      case qm | q1 | q2 | q5 | q6 => first | rfl | (simp -implicitDefEqProofs (disch := first | omega | with_reducible assumption | (simp only [qU, qC]; omega)) only [qT, qA, reduceCtorEq, qB, qC, qD, qE, qF, qG, qH, qI, qJ, qK, qL, reduceIte, Int.natCast_add]; first | done | rfl | (congr 1; omega))
      · exact ⟨by omega, by omega, by omega, rfl⟩
      · rintro N t m1 ds ⟨i, w, rfl, hds, hm, t1, t2, t5, t6, hp⟩
        simp only at hds hm t1 t2 t5 t6
        subst hds; replace hm := hm.symm; subst hm
        obtain ⟨hi0, hw, hiw, heq⟩ := hp
        by_cases h1 : (i : Int) < (es.length : Int)
        · have hi : i < es.length := by omega
          rw [List.drop_eq_getElem_cons hi] at heq
          simp only [weighL, En.weightR_t, En.nlen_n] at heq
          by_cases h2 : (w : Int) ≤ (top : Int)
          · rw [if_pos (by omega)] at heq
            obtain ⟨b, o, a', cap', rfl, hb, hE', g4, g3, g0⟩ := hE.get hi
            by_cases h3 : (es[i].n.length : Int) > (top : Int)
            · rw [if_pos (by omega)] at heq
              rw [← heq]
              repeat first | simp -implicitDefEqProofs (disch := first | omega | with_reducible assumption | (simp only [qU, qC]; omega)) only [qT, qA, reduceCtorEq, qB, qC, qD, qE, qF, qG, qH, qI, qJ, qK, qL, reduceIte, F13_l0, t1, t2, t5, t6, h1, h2, g0, h3, cutL3_2] | refine OrW.go ?_
              rfl
            · rw [if_neg (by omega)] at heq
              by_cases h4 : (w : Int) + (es[i].n.length : Int) ≤ (top : Int)
              · rw [if_pos (by omega)] at heq
                have e4 : (top : Int) - ((w : Int) + (es[i].n.length : Int)) = ((top - (w + es[i].n.length) : Nat) : Int) := by omega
                have k1 := DetC.known (ih i hi (mx m [.cells [.int .u8 k, .string ⟨d.toArray⟩, .slice (some ⟨b, o, none⟩) es.length cap] 26 true .exact]) _ (top - (w + es[i].n.length)) (TrC.of (hE'.old (Old.here m _))) (by omega))
                have hsp := (es[i].t.weightR_spec (top - (w + es[i].n.length))).1
                have hsq := es[i].t.weightR_pos (top - (w + es[i].n.length))
                repeat first | simp -implicitDefEqProofs (disch := first | omega | with_reducible assumption | (simp only [qU, qC]; omega)) only [qT, qA, reduceCtorEq, qB, qC, qD, qE, qF, qG, qH, qI, qJ, qK, qL, reduceIte, F13_l0, t1, t2, t5, t6, h1, h2, g0, g3, h3, h4, e4, k1, cutL3_2] | refine OrW.go ?_
                rw [LoopK_normal]; refine ⟨_, ?_, i + 1, w + es[i].n.length + es[i].t.weightR (top - (w + es[i].n.length)), rfl, rfl, ?qm, ?q1, ?q2, ?q5, ?q6, ?_⟩
                case qm | q1 | q2 | q5 | q6 => first | rfl | (simp -implicitDefEqProofs (disch := first | omega | with_reducible assumption | (simp only [qU, qC]; omega)) only [qT, qA, reduceCtorEq, qB, qC, qD, qE, qF, qG, qH, qI, qJ, qK, qL, reduceIte, t1, t2, t5, t6, Int.natCast_add]; first | done | rfl | (congr 1; omega))
                · omega
                · exact ⟨by omega, by omega, by omega, heq⟩
              · rw [if_neg (by omega)] at heq
                repeat first | simp -implicitDefEqProofs (disch := first | omega | with_reducible assumption | (simp only [qU, qC]; omega)) only [qT, qA, reduceCtorEq, qB, qC, qD, qE, qF, qG, qH, qI, qJ, qK, qL, reduceIte, F13_l0, t1, t2, t5, t6, h1, h2, g0, h3, h4, cutL3_2] | refine OrW.go ?_
                rw [LoopK_normal]; refine ⟨_, ?_, i + 1, w + es[i].n.length, rfl, rfl, ?qm, ?q1, ?q2, ?q5, ?q6, ?_⟩
                case qm | q1 | q2 | q5 | q6 => first | rfl | (simp -implicitDefEqProofs (disch := first | omega | with_reducible assumption | (simp only [qU, qC]; omega)) only [qT, qA, reduceCtorEq, qB, qC, qD, qE, qF, qG, qH, qI, qJ, qK, qL, reduceIte, t1, t2, t5, t6, Int.natCast_add]; first | done | rfl | (congr 1; omega))
                · omega
                · refine ⟨by omega, by omega, by omega, ?_⟩
                  rw [← heq]
                  cases es.drop (i + 1) with
                  | nil => rfl
                  | cons e r => simp only [weighL]; rw [if_neg (by omega)]
          · rw [if_neg (by omega)] at heq
            repeat first | simp -implicitDefEqProofs (disch := first | omega | with_reducible assumption | (simp only [qU, qC]; omega)) only [qT, qA, reduceCtorEq, qB, qC, qD, qE, qF, qG, qH, qI, qJ, qK, qL, reduceIte, F13_l0, t1, t2, t5, t6, h1, h2, undef, cutL3_2] | refine OrW.go ?_
            rw [heq]
        · obtain rfl : i = es.length := by omega
          rw [List.drop_of_length_le (Nat.le_refl _)] at heq
          simp only [weighL] at heq
          repeat first | simp -implicitDefEqProofs (disch := first | omega | with_reducible assumption | (simp only [qU, qC]; omega)) only [qT, qA, reduceCtorEq, qB, qC, qD, qE, qF, qG, qH, qI, qJ, qK, qL, reduceIte, F13_l0, t1, t2, t5, t6, h1, undef, cutL3_2] | refine OrW.go ?_
          rw [heq]
end Go.Proofs.YtfjgpeoblnpelaaDoor
namespace Go.Proofs.YtfjgpeoblnpelaaDoor
open Go Go.AM
set_option linter.unusedVariables false
set_option linter.unusedSimpArgs false
set_option maxRecDepth 100000
set_option maxHeartbeats 2000000

theorem refSame_ok (t : Tr) : ∀ (u : Tr) (m : AMem) (c c' : List Value), TrC m t c → TrC m u c' → t.count ≤ 1000000000 → PureC Tryd.prog 3 24 [.agg c.toArray, .agg c'.toArray] m (.bool (t.same u)) := by
  induction t using Tr.ind2 with
  | h k d es ih =>
    intro u m c c' hc hu hn
    obtain ⟨k2, d2, es2⟩ := u
    obtain ⟨a, cap, rfl, hE⟩ := trC_nd hc
    obtain ⟨a2, cap2, rfl, hE2⟩ := trC_nd hu
    simp only [Tr.count] at hn
    have hlen := countL_len es
    have ed : strEq ⟨d.toArray⟩ ⟨d2.toArray⟩ = decide (d = d2) := strEq_mk d d2
    by_cases h1 : k = k2
    case neg =>
      rw [Tr.same_false (by rintro ⟨⟩; exact h1 rfl)]
      refine pure_of_W (fn := Tryd.f24) rfl rfl F24_ok (by simp [F24]) (.bool _) ?_
      repeat first | simp -implicitDefEqProofs (disch := first | omega | with_reducible assumption | (simp only [qU, qC]; omega)) only [qT, qA, reduceCtorEq, qB, qC, qD, qE, qF, qG, qH, qI, qJ, qK, qL, reduceIte, F24, cellsOf_node, cutL3_0, h1, undef] | refine OrW.go ?_
    by_cases h2 : d = d2
    case neg =>
      rw [Tr.same_false (by rintro ⟨⟩; exact h2 rfl)]
      rw [decide_eq_false h2] at ed
      refine pure_of_W (fn := Tryd.f24) rfl rfl F24_ok (by simp [F24]) (.bool _) ?_
      repeat first | simp -implicitDefEqProofs (disch := first | omega | with_reducible assumption | (simp only [qU, qC]; omega)) only [qT, qA, reduceCtorEq, qB, qC, qD, qE, qF, qG, qH, qI, qJ, qK, qL, reduceIte, F24, cellsOf_node, cutL3_0, cutL3_1, h1, ed, undef] | refine OrW.go ?_
    rw [decide_eq_true h2] at ed
    by_cases h3 : (es.length : Int) = (es2.length : Int)
    case neg =>
      rw [Tr.same_false (by rintro ⟨⟩; exact h3 rfl)]
      refine pure_of_W (fn := Tryd.f24) rfl rfl F24_ok (by simp [F24]) (.bool _) ?_
      repeat first | simp -implicitDefEqProofs (disch := first | omega | with_reducible assumption | (simp only [qU, qC]; omega)) only [qT, qA, reduceCtorEq, qB, qC, qD, qE, qF, qG, qH, qI, qJ, qK, qL, reduceIte, F24, cellsOf_node, cutL3_0, cutL3_1, cutL3_2, h1, ed, h3, undef] | refine OrW.go ?_
    have hll : es.length = es2.length := by omega
    refine pure_of_W (fn := Tryd.f24) rfl rfl F24_ok (by simp [F24]) (.bool _) ?_
    repeat first | simp -implicitDefEqProofs (disch := first | omega | with_reducible assumption | (simp only [qU, qC]; omega)) only [qT, qA, reduceCtorEq, qB, qC, qD, qE, qF, qG, qH, qI, qJ, qK, qL, reduceIte, F24, cellsOf_node, cutL3_0, cutL3_1, cutL3_2, h1, ed, h3, undef] | refine OrW.go ?_
    refine W_loop (fun N qs => ∃ (i : Nat), N = es.length - i ∧ qs.ds = [] ∧ qs.m = mx m [.cells [.int .u8 k2, .string ⟨d.toArray⟩, .slice a es.length cap] 26 true .exact, .cells [.int .u8 k2, .string ⟨d2.toArray⟩, .slice a2 es2.length cap2] 26 true .exact] ∧ qs.t 2 = .pointer (some ⟨m.size, 0, none⟩) ∧ qs.t 3 = .pointer (some ⟨m.size + 1, 0, none⟩) ∧ qs.t 5 = .int .i64 i ∧ i ≤ es.length ∧ ∀ j (h : j < es.length) (h' : j < es2.length), j < i → es[j] = es2[j]) (es.length - (0)) ⟨0, rfl, rfl, ?qm, ?q2, ?q3, ?q5, ?_⟩ ?_
    case qm | q2 | q3 | q5 => first | rfl | (simp -implicitDefEqProofs (disch := first | omega | with_reducible assumption | (simp only [qU, qC]; omega)) only [qT, qA, reduceCtorEq, qB, qC, qD, qE, qF, qG, qH, qI, qJ, qK, qL, reduceIte, h3]; first | done | rfl | (congr 1; omega))
    · exact ⟨by omega, fun j h h' hj => by omega⟩
    · rintro N t m1 ds ⟨i, rfl, hds, hm, t2, t3, t5, hp⟩
      simp only at hds hm t2 t3 t5
      subst hds; replace hm := hm.symm; subst hm
      obtain ⟨hi0, hall⟩ := hp
      by_cases g1 : (i : Int) < (es.length : Int)
      · have hi : i < es.length := by omega
        have hi2 : i < es2.length := by omega
        have g2 : (i : Int) < (es2.length : Int) := by omega
        have hs := countL_succ hi
        have hle2 := countL_le es (i + 1)
        obtain ⟨b, o, a', cap', rfl, hb, hE', q4, q3, q0⟩ := hE.get hi
        obtain ⟨b2, o2, a2', cap2', rfl, hb2, hE2', r4, r3, r0⟩ := hE2.get hi2
        have en : strEq ⟨es[i].n.toArray⟩ ⟨es2[i].n.toArray⟩ = decide (es[i].n = es2[i].n) := strEq_mk _ _
        by_cases g3 : es[i].n = es2[i].n
        · rw [decide_eq_true g3] at en
          have k1 := fun objs => DetC.known (ih i hi es2[i].t (mx m objs) _ _ (TrC.of (hE'.old (Old.here m _))) (TrC.of (hE2'.old (Old.here m _))) (by omega))
          cases hs2 : es[i].t.same es2[i].t with
          | true =>
            rw [hs2] at k1
            have heq : es[i] = es2[i] := by
              have := (Tr.same_iff _ _).1 hs2
              rw [← En.eta es[i], ← En.eta es2[i], g3, this]
            repeat first | simp -implicitDefEqProofs (disch := first | omega | with_reducible assumption | (simp only [qU, qC]; omega)) only [qT, qA, reduceCtorEq, qB, qC, qD, qE, qF, qG, qH, qI, qJ, qK, qL, reduceIte, F24_l0, t2, t3, t5, g1, g2, q0, r0, q3, r3, en, k1] | refine OrW.go ?_
            rw [LoopK_normal]; refine ⟨_, ?_, i + 1, rfl, rfl, ?qm, ?q2, ?q3, ?q5, ?_⟩
            case qm | q2 | q3 | q5 => first | rfl | (simp -implicitDefEqProofs (disch := first | omega | with_reducible assumption | (simp only [qU, qC]; omega)) only [qT, qA, reduceCtorEq, qB, qC, qD, qE, qF, qG, qH, qI, qJ, qK, qL, reduceIte, t2, t3, t5, Int.natCast_add, h3]; first | done | rfl | (congr 1; omega))
            · omega
            · refine ⟨by omega, fun j h h' hj => ?_⟩
              by_cases e : j = i
              · subst e; exact heq
              · exact hall j h h' (by omega)
          | false =>
            rw [hs2] at k1
            have hne : (Tr.nd k2 d es).same (.nd k2 d2 es2) = false := Tr.same_false (by
              rintro ⟨⟩
              rw [Tr.same_self] at hs2; cases hs2)
            repeat first | simp -implicitDefEqProofs (disch := first | omega | with_reducible assumption | (simp only [qU, qC]; omega)) only [qT, qA, reduceCtorEq, qB, qC, qD, qE, qF, qG, qH, qI, qJ, qK, qL, reduceIte, F24_l0, t2, t3, t5, g1, g2, q0, r0, q3, r3, en, k1] | refine OrW.go ?_
            rw [hne]
        · rw [decide_eq_false g3] at en
          have hne : (Tr.nd k2 d es).same (.nd k2 d2 es2) = false := Tr.same_false (by
            rintro ⟨⟩
            exact g3 rfl)
          repeat first | simp -implicitDefEqProofs (disch := first | omega | with_reducible assumption | (simp only [qU, qC]; omega)) only [qT, qA, reduceCtorEq, qB, qC, qD, qE, qF, qG, qH, qI, qJ, qK, qL, reduceIte, F24_l0, t2, t3, t5, g1, g2, q0, r0, en, undef] | refine OrW.go ?_
          rw [hne]
      · have hyes : (Tr.nd k2 d es).same (.nd k2 d2 es2) = true := (Tr.same_iff _ _).2 (by
          rw [h2]
          congr 1
          exact List.ext_getElem hll fun j q1 q2 => hall j q1 q2 (by omega))
        repeat first | simp -implicitDefEqProofs (disch := first | omega | with_reducible assumption | (simp only [qU, qC]; omega)) only [qT, qA, reduceCtorEq, qB, qC, qD, qE, qF, qG, qH, qI, qJ, qK, qL, reduceIte, F24_l0, t2, t3, t5, g1] | refine OrW.go ?_
        rw [hyes]

def SameF (P : Program) (t : Tr) : Prop := ∀ (u : Tr) (m : AMem) (c c' : List Value), TrC m t c → TrC m u c' → PureC P 3 29 [.agg c.toArray, .agg c'.toArray] m (.bool (t.same u))
theorem same55_ok (e e' : En) (H : SameF Tryd.prog e.t) (m : AMem) (a a' : Option Addr) (cap cap' : Nat) (h : SlE m a cap e.t.es) (h' : SlE m a' cap' e'.t.es) :
    PureC Tryd.prog 3 55 [.agg [.string ⟨e.n.toArray⟩, .int .u8 e.t.k, .string ⟨e.t.d.toArray⟩, .slice a e.t.es.length cap].toArray, .agg [.string ⟨e'.n.toArray⟩, .int .u8 e'.t.k, .string ⟨e'.t.d.toArray⟩, .slice a' e'.t.es.length cap'].toArray] m
      (.bool (e.same e')) := by
  have en : strEq ⟨e.n.toArray⟩ ⟨e'.n.toArray⟩ = decide (e.n = e'.n) := strEq_mk _ _
  rw [En.same_eq]
  have k1 := fun objs => DetC.known (H e'.t (mx m objs) _ _ (TrC.of (h.old (Old.here m _))) (TrC.of (h'.old (Old.here m _))))
  by_cases h1 : e.n = e'.n
  · rw [decide_eq_true h1] at en ⊢
    refine pure_of_W (fn := Tryd.f55) rfl rfl F55_ok (by simp [F55]) (.bool _) ?_
    repeat first | simp -implicitDefEqProofs (disch := first | omega | with_reducible assumption | (simp only [qU, qC]; omega)) only [qT, qA, reduceCtorEq, qB, qC, qD, qE, qF, qG, qH, qI, qJ, qK, qL, reduceIte, F55, cellsOf_entry, cutL4_0, cutL4_t, en, k1] | refine OrW.go ?_
  · rw [decide_eq_false h1] at en ⊢
    refine pure_of_W (fn := Tryd.f55) rfl rfl F55_ok (by simp [F55]) (.bool _) ?_
    repeat first | simp -implicitDefEqProofs (disch := first | omega | with_reducible assumption | (simp only [qU, qC]; omega)) only [qT, qA, reduceCtorEq, qB, qC, qD, qE, qF, qG, qH, qI, qJ, qK, qL, reduceIte, F55, cellsOf_entry, cutL4_0, cutL4_t, en, undef] | refine OrW.go ?_
theorem equal54_ok (es es2 : List En) (H : ∀ i (h : i < es.length), SameF Tryd.prog es[i].t) (hn : es.length ≤ 1000000000) (m : AMem) (a a2 : Option Addr) (cap cap2 : Nat) (hE : SlE m a cap es) (hE2 : SlE m a2 cap2 es2) :
    PureC Tryd.prog 3 54 [.slice a es.length cap, .slice a2 es2.length cap2, .func (.func 55) #[] #[]] m (.bool (sameL es es2)) := by
  by_cases h3 : (es.length : Int) = (es2.length : Int)
  case neg =>
    have hf : sameL es es2 = false := by
      cases hs : sameL es es2 with
      | false => rfl
      | true => exact absurd (by rw [(sameL_iff _ _).1 hs]) h3
    rw [hf]
    refine pure_of_W (fn := Tryd.f54) rfl rfl F54_ok (by simp [F54]) (.bool _) ?_
    repeat first | simp -implicitDefEqProofs (disch := first | omega | with_reducible assumption | (simp only [qU, qC]; omega)) only [qT, qA, reduceCtorEq, qB, qC, qD, qE, qF, qG, qH, qI, qJ, qK, qL, reduceIte, F54, h3] | refine OrW.go ?_
  have hll : es.length = es2.length := by omega
  refine pure_of_W (fn := Tryd.f54) rfl rfl F54_ok (by simp [F54]) (.bool _) ?_
  repeat first | simp -implicitDefEqProofs (disch := first | omega | with_reducible assumption | (simp only [qU, qC]; omega)) only [qT, qA, reduceCtorEq, qB, qC, qD, qE, qF, qG, qH, qI, qJ, qK, qL, reduceIte, F54, h3] | refine OrW.go ?_
  refine W_loop (fun N qs => ∃ (i : Nat), N = es.length - i ∧ qs.ds = [] ∧ Gb m qs.m ∧ qs.t 1 = .slice a2 es2.length cap2 ∧ qs.t 2 = .func (.func 55) #[] #[] ∧ qs.t 15 = .slice a es.length cap ∧ qs.t 16 = .int .i64 es.length ∧ qs.t 17 = .int .i64 i ∧ i ≤ es.length ∧ ∀ j (h : j < es.length) (h' : j < es2.length), j < i → es[j] = es2[j]) (es.length - (0)) ⟨0, rfl, rfl, by first | exact .start _ _ | exact .mk (by assumption) _, ?q1, ?q2, ?q15, ?q16, ?q17, ?_⟩ ?_
  case q1 | q2 | q15 | q16 | q17 => first | rfl | (simp -implicitDefEqProofs (disch := first | omega | with_reducible assumption | (simp only [qU, qC]; omega)) only [qT, qA, reduceCtorEq, qB, qC, qD, qE, qF, qG, qH, qI, qJ, qK, qL, reduceIte, h3]; first | done | rfl | (congr 1; omega))
  · exact ⟨by omega, fun j h h' hj => by omega⟩
  · rintro N t m1 ds ⟨i, rfl, hds, hm, t1, t2, t15, t16, t17, hp⟩
    simp only at hds hm t1 t2 t15 t16 t17
    obtain ⟨M, rfl, hM⟩ := hm.base; subst hds
    obtain ⟨hi0, hall⟩ := hp
    by_cases g1 : (i : Int) < (es.length : Int)
    · have hi : i < es.length := by omega
      have hi2 : i < es2.length := by omega
      have g2 : (i : Int) < (es2.length : Int) := by omega
      obtain ⟨b, o, a', cap', rfl, hb, hE', q4, q3, q0⟩ := (hE.old hM).get hi
      obtain ⟨b2, o2, a2', cap2', rfl, hb2, hE2', r4, r3, r0⟩ := (hE2.old hM).get hi2
      have k1 := fun objs => DetC.known (same55_ok es[i] es2[i] (H i hi) (mx M objs) _ _ _ _ (hE'.old (Old.here M _)) (hE2'.old (Old.here M _)))
      cases hs2 : es[i].same es2[i] with
      | true =>
        rw [hs2] at k1
        have heq : es[i] = es2[i] := (En.same_iff _ _).1 hs2
        repeat first | simp -implicitDefEqProofs (disch := first | omega | with_reducible assumption | (simp only [qU, qC]; omega)) only [qT, qA, reduceCtorEq, qB, qC, qD, qE, qF, qG, qH, qI, qJ, qK, qL, reduceIte, F54_l0, t1, t2, t15, t16, t17, g1, g2, q4, r4, cellsOf_entry, k1, splice4', cutL4_0'] | refine OrW.go ?_
        rw [LoopK_normal]; refine ⟨_, ?_, i + 1, rfl, rfl, by first | exact .mk hM _ | (rw [mx_mx]; exact .mk hM _), ?q1, ?q2, ?q15, ?q16, ?q17, ?_⟩
        case q1 | q2 | q15 | q16 | q17 => first | rfl | (simp -implicitDefEqProofs (disch := first | omega | with_reducible assumption | (simp only [qU, qC]; omega)) only [qT, qA, reduceCtorEq, qB, qC, qD, qE, qF, qG, qH, qI, qJ, qK, qL, reduceIte, t1, t2, t15, t16, t17, Int.natCast_add]; first | done | rfl | (congr 1; omega))
        · omega
        · refine ⟨by omega, fun j h h' hj => ?_⟩
          by_cases e : j = i
          · subst e; exact heq
          · exact hall j h h' (by omega)
      | false =>
        rw [hs2] at k1
        have hne : sameL es es2 = false := by
          cases hs : sameL es es2 with
          | false => rfl
          | true =>
            have := (sameL_iff _ _).1 hs
            subst this
            rw [(En.same_iff _ _).2 rfl] at hs2; cases hs2
        repeat first | simp -implicitDefEqProofs (disch := first | omega | with_reducible assumption | (simp only [qU, qC]; omega)) only [qT, qA, reduceCtorEq, qB, qC, qD, qE, qF, qG, qH, qI, qJ, qK, qL, reduceIte, F54_l0, t1, t2, t15, t16, t17, g1, g2, q4, r4, cellsOf_entry, k1, splice4', cutL4_0'] | refine OrW.go ?_
        exact ⟨by rw [hne], hM.mx _⟩
    · have hyes : sameL es es2 = true := (sameL_iff _ _).2 (List.ext_getElem hll fun j q1 q2 => hall j q1 q2 (by omega))
      repeat first | simp -implicitDefEqProofs (disch := first | omega | with_reducible assumption | (simp only [qU, qC]; omega)) only [qT, qA, reduceCtorEq, qB, qC, qD, qE, qF, qG, qH, qI, qJ, qK, qL, reduceIte, F54_l0, t1, t2, t15, t16, t17, g1] | refine OrW.go ?_
      exact ⟨by rw [hyes], hM.mx _⟩
theorem same_ok (t : Tr) : t.count ≤ 1000000000 → SameF Tryd.prog t := by
  induction t using Tr.ind2 with
  | h k d es ih =>
    intro hn u m c c' hc hu
    obtain ⟨k2, d2, es2⟩ := u
    obtain ⟨a, cap, rfl, hE⟩ := trC_nd hc
    obtain ⟨a2, cap2, rfl, hE2⟩ := trC_nd hu
    simp only [Tr.count] at hn
    have hlen := countL_len es
    have ed : strEq ⟨d.toArray⟩ ⟨d2.toArray⟩ = decide (d = d2) := strEq_mk d d2
    have k1 := fun objs => DetC.known (equal54_ok es es2 (fun i hi => ih i hi (by have := countL_succ hi; have := countL_le es (i + 1); omega)) (by omega) (mx m objs) _ _ _ _ (hE.old (Old.here m _)) (hE2.old (Old.here m _)))
    rw [Tr.same_eq]
    by_cases h1 : k = k2
    · by_cases h2 : d = d2
      · rw [decide_eq_true h2] at ed
        rw [decide_eq_true h1, decide_eq_true h2]
        refine pure_of_W (fn := Tryd.f29) rfl rfl F29_ok (by simp [F29]) (.bool _) ?_
        repeat first | simp -implicitDefEqProofs (disch := first | omega | with_reducible assumption | (simp only [qU, qC]; omega)) only [qT, qA, reduceCtorEq, qB, qC, qD, qE, qF, qG, qH, qI, qJ, qK, qL, reduceIte, F29, cellsOf_node, cutL3_0, cutL3_1, cutL3_2, h1, ed, k1] | refine OrW.go ?_
      · rw [decide_eq_false h2] at ed
        rw [decide_eq_true h1, decide_eq_false h2]
        refine pure_of_W (fn := Tryd.f29) rfl rfl F29_ok (by simp [F29]) (.bool _) ?_
        repeat first | simp -implicitDefEqProofs (disch := first | omega | with_reducible assumption | (simp only [qU, qC]; omega)) only [qT, qA, reduceCtorEq, qB, qC, qD, qE, qF, qG, qH, qI, qJ, qK, qL, reduceIte, F29, cellsOf_node, cutL3_0, cutL3_1, h1, ed, undef] | refine OrW.go ?_
    · rw [decide_eq_false h1]
      refine pure_of_W (fn := Tryd.f29) rfl rfl F29_ok (by simp [F29]) (.bool _) ?_
      repeat first | simp -implicitDefEqProofs (disch := first | omega | with_reducible assumption | (simp only [qU, qC]; omega)) only [qT, qA, reduceCtorEq, qB, qC, qD, qE, qF, qG, qH, qI, qJ, qK, qL, reduceIte, F29, cellsOf_node, cutL3_0, h1, undef] | refine OrW.go ?_
end Go.Proofs.YtfjgpeoblnpelaaDoor
namespace Go.Proofs.YtfjgpeoblnpelaaDoor
open Go Go.AM
set_option linter.unusedVariables false
set_option linter.unusedSimpArgs false
set_option maxRecDepth 100000
set_option maxHeartbeats 2000000

theorem sameTexts_ok (m : AMem) (a a2 : Option Addr) (cap cap2 : Nat) (ls ls2 : List (List UInt8)) (h : StrS m a cap ls) (h2 : StrS m a2 cap2 ls2) (hn : ls.length ≤ 1000000000) :
    PureC Tryd.prog 3 28 [.slice a ls.length cap, .slice a2 ls2.length cap2] m (.bool (decide (ls = ls2))) := by
  by_cases h3 : (ls.length : Int) = (ls2.length : Int)
  case neg =>
    rw [decide_eq_false (fun e => h3 (by rw [e]))]
    refine pure_of_W (fn := Tryd.f28) rfl rfl F28_ok (by simp [F28]) (.bool _) ?_
    repeat first | simp -implicitDefEqProofs (disch := first | omega | with_reducible assumption | (simp only [qU, qC]; omega)) only [qT, qA, reduceCtorEq, qB, qC, qD, qE, qF, qG, qH, qI, qJ, qK, qL, reduceIte, F28, h3] | refine OrW.go ?_
  have hll : ls.length = ls2.length := by omega
  refine pure_of_W (fn := Tryd.f28) rfl rfl F28_ok (by simp [F28]) (.bool _) ?_
  repeat first | simp -implicitDefEqProofs (disch := first | omega | with_reducible assumption | (simp only [qU, qC]; omega)) only [qT, qA, reduceCtorEq, qB, qC, qD, qE, qF, qG, qH, qI, qJ, qK, qL, reduceIte, F28, h3] | refine OrW.go ?_
  refine W_loop (fun N qs => ∃ (i : Nat), N = ls.length - i ∧ qs.ds = [] ∧ qs.m = mx m [] ∧ qs.t 0 = .slice a ls.length cap ∧ qs.t 1 = .slice a2 ls2.length cap2 ∧ qs.t 5 = .int .i64 i ∧ i ≤ ls.length ∧ ∀ j (h : j < ls.length) (h' : j < ls2.length), j < i → ls[j] = ls2[j]) (ls.length - (0)) ⟨0, rfl, rfl, ?qm, ?q0, ?q1, ?q5, ?_⟩ ?_
  case qm | q0 | q1 | q5 => first | rfl | (simp -implicitDefEqProofs (disch := first | omega | with_reducible assumption | (simp only [qU, qC]; omega)) only [qT, qA, reduceCtorEq, qB, qC, qD, qE, qF, qG, qH, qI, qJ, qK, qL, reduceIte, h3]; first | done | rfl | (congr 1; omega))
  · exact ⟨by omega, fun j h h' hj => by omega⟩
  · rintro N t m1 ds ⟨i, rfl, hds, hm, t0, t1, t5, hp⟩
    simp only at hds hm t0 t1 t5
    subst hds; replace hm := hm.symm; subst hm
    obtain ⟨hi0, hall⟩ := hp
    by_cases g1 : (i : Int) < (ls.length : Int)
    · have hi : i < ls.length := by omega
      have hi2 : i < ls2.length := by omega
      have g2 : (i : Int) < (ls2.length : Int) := by omega
      obtain ⟨b, o, rfl, hb, q0⟩ := h.get hi
      obtain ⟨b2, o2, rfl, hb2, r0⟩ := h2.get hi2
      have en : strEq ⟨ls[i].toArray⟩ ⟨ls2[i].toArray⟩ = decide (ls[i] = ls2[i]) := strEq_mk _ _
      by_cases g3 : ls[i] = ls2[i]
      · rw [decide_eq_true g3] at en
        repeat first | simp -implicitDefEqProofs (disch := first | omega | with_reducible assumption | (simp only [qU, qC]; omega)) only [qT, qA, reduceCtorEq, qB, qC, qD, qE, qF, qG, qH, qI, qJ, qK, qL, reduceIte, F28_l0, t0, t1, t5, g1, g2, q0, r0, en] | refine OrW.go ?_
        rw [LoopK_normal]; refine ⟨_, ?_, i + 1, rfl, rfl, ?qm, ?q0, ?q1, ?q5, ?_⟩
        case qm | q0 | q1 | q5 => first | rfl | (simp -implicitDefEqProofs (disch := first | omega | with_reducible assumption | (simp only [qU, qC]; omega)) only [qT, qA, reduceCtorEq, qB, qC, qD, qE, qF, qG, qH, qI, qJ, qK, qL, reduceIte, t0, t1, t5, Int.natCast_add]; first | done | rfl | (congr 1; omega))
        · omega
        · refine ⟨by omega, fun j h h' hj => ?_⟩
          by_cases e : j = i
          · subst e; exact g3
          · exact hall j h h' (by omega)
      · rw [decide_eq_false g3] at en
        rw [decide_eq_false (fun e => g3 (by subst e; rfl))]
        repeat first | simp -implicitDefEqProofs (disch := first | omega | with_reducible assumption | (simp only [qU, qC]; omega)) only [qT, qA, reduceCtorEq, qB, qC, qD, qE, qF, qG, qH, qI, qJ, qK, qL, reduceIte, F28_l0, t0, t1, t5, g1, g2, q0, r0, en] | refine OrW.go ?_
    · rw [decide_eq_true (List.ext_getElem hll fun j q1 q2 => hall j q1 q2 (by omega))]
      repeat first | simp -implicitDefEqProofs (disch := first | omega | with_reducible assumption | (simp only [qU, qC]; omega)) only [qT, qA, reduceCtorEq, qB, qC, qD, qE, qF, qG, qH, qI, qJ, qK, qL, reduceIte, F28_l0, t0, t1, t5, g1] | refine OrW.go ?_
theorem has_ok (m : AMem) (a : Option Addr) (cap : Nat) (ls : List (List UInt8)) (s : List UInt8) (h : StrS m a cap ls) (hn : ls.length ≤ 1000000000) :
    PureC Tryd.prog 3 32 [.slice a ls.length cap, .string ⟨s.toArray⟩] m (.bool (decide (s ∈ ls))) := by
  refine pure_of_W (fn := Tryd.f32) rfl rfl F32_ok (by simp [F32]) (.bool _) ?_
  repeat first | simp -implicitDefEqProofs (disch := first | omega | with_reducible assumption | (simp only [qU, qC]; omega)) only [qT, qA, reduceCtorEq, qB, qC, qD, qE, qF, qG, qH, qI, qJ, qK, qL, reduceIte, F32] | refine OrW.go ?_
  refine W_loop (fun N qs => ∃ (i : Nat), N = ls.length - i ∧ qs.ds = [] ∧ qs.m = mx m [] ∧ qs.t 0 = .slice a ls.length cap ∧ qs.t 1 = .string ⟨s.toArray⟩ ∧ qs.t 5 = .int .i64 i ∧ i ≤ ls.length ∧ ∀ j (h : j < ls.length), j < i → ls[j] ≠ s) (ls.length - (0)) ⟨0, rfl, rfl, ?qm, ?q0, ?q1, ?q5, ?_⟩ ?_
  case qm | q0 | q1 | q5 => first | rfl | (simp -implicitDefEqProofs (disch := first | omega | with_reducible assumption | (simp only [qU, qC]; omega)) only [qT, qA, reduceCtorEq, qB, qC, qD, qE, qF, qG, qH, qI, qJ, qK, qL, reduceIte]; first | done | rfl | (congr 1; omega))
  · exact ⟨by omega, fun j h hj => by omega⟩
  · rintro N t m1 ds ⟨i, rfl, hds, hm, t0, t1, t5, hp⟩
    simp only at hds hm t0 t1 t5
    subst hds; replace hm := hm.symm; subst hm
    obtain ⟨hi0, hall⟩ := hp
    by_cases g1 : (i : Int) < (ls.length : Int)
    · have hi : i < ls.length := by omega
      obtain ⟨b, o, rfl, hb, q0⟩ := h.get hi
      have en : strEq ⟨ls[i].toArray⟩ ⟨s.toArray⟩ = decide (ls[i] = s) := strEq_mk _ _
      by_cases g3 : ls[i] = s
      · rw [decide_eq_true g3] at en
        rw [decide_eq_true (g3 ▸ List.getElem_mem hi)]
        repeat first | simp -implicitDefEqProofs (disch := first | omega | with_reducible assumption | (simp only [qU, qC]; omega)) only [qT, qA, reduceCtorEq, qB, qC, qD, qE, qF, qG, qH, qI, qJ, qK, qL, reduceIte, F32_l0, t0, t1, t5, g1, q0, en] | refine OrW.go ?_
      · rw [decide_eq_false g3] at en
        repeat first | simp -implicitDefEqProofs (disch := first | omega | with_reducible assumption | (simp only [qU, qC]; omega)) only [qT, qA, reduceCtorEq, qB, qC, qD, qE, qF, qG, qH, qI, qJ, qK, qL, reduceIte, F32_l0, t0, t1, t5, g1, q0, en] | refine OrW.go ?_
        rw [LoopK_normal]; refine ⟨_, ?_, i + 1, rfl, rfl, ?qm, ?q0, ?q1, ?q5, ?_⟩
        case qm | q0 | q1 | q5 => first | rfl | (simp -implicitDefEqProofs (disch := first | omega | with_reducible assumption | (simp only [qU, qC]; omega)) only [qT, qA, reduceCtorEq, qB, qC, qD, qE, qF, qG, qH, qI, qJ, qK, qL, reduceIte, t0, t1, t5, Int.natCast_add]; first | done | rfl | (congr 1; omega))
        · omega
        · refine ⟨by omega, fun j h hj => ?_⟩
          by_cases e : j = i
          · subst e; exact g3
          · exact hall j h (by omega)
    · rw [decide_eq_false (fun hm => by obtain ⟨j, hj, e⟩ := List.getElem_of_mem hm; exact hall j hj (by omega) e)]
      repeat first | simp -implicitDefEqProofs (disch := first | omega | with_reducible assumption | (simp only [qU, qC]; omega)) only [qT, qA, reduceCtorEq, qB, qC, qD, qE, qF, qG, qH, qI, qJ, qK, qL, reduceIte, F32_l0, t0, t1, t5, g1] | refine OrW.go ?_
def pickZ (k : Int) (n : Nat) : Int := Int.tmod (Int.tmod k n + n) n
theorem pickZ_lt (k : Int) {n : Nat} (hn : 0 < n) : 0 ≤ pickZ k n ∧ pickZ k n < n := by
  unfold pickZ
  have h1 : -(n : Int) < Int.tmod k n := by
    have h2 := Int.tmod_lt_of_pos (-k) (b := (n : Int)) (by omega)
    rw [Int.neg_tmod] at h2; omega
  exact ⟨Int.tmod_nonneg _ (by omega), Int.tmod_lt_of_pos _ (by omega)⟩
theorem pick_ok (m : AMem) (k : Int) (n : Nat) (hk : -9223372036854775808 ≤ k ∧ k ≤ 9223372036854775807) (h0 : 0 < n) (hn : n ≤ 1000000000) : PureC Tryd.prog 3 31 [.int .i64 k, .int .i64 n] m (.int .i64 (pickZ k n)) := by
  have g1 : ¬ (n : Int) ≤ 0 := by omega
  have g2 : ¬ (n : Int) = 0 := by omega
  have h1 : -(n : Int) < Int.tmod k n := by
    have h2 := Int.tmod_lt_of_pos (-k) (b := (n : Int)) (by omega)
    rw [Int.neg_tmod] at h2; omega
  have h2 := Int.tmod_lt_of_pos k (b := (n : Int)) (by omega)
  have h3 := pickZ_lt k h0
  refine pure_of_W (fn := Tryd.f31) rfl rfl F31_ok (by simp [F31]) (.int _ _) ?_
  repeat first | simp -implicitDefEqProofs (disch := first | omega | with_reducible assumption | (simp only [qU, qC]; omega)) only [qT, qA, reduceCtorEq, qB, qC, qD, qE, qF, qG, qH, qI, qJ, qK, qL, reduceIte, F31, g1, g2] | refine OrW.go ?_
  rfl
end Go.Proofs.YtfjgpeoblnpelaaDoor
namespace Go.AM
theorem spl_len (l : List UInt8) : (spl l).length = l.count 47 + 1 := by
  induction l with
  | nil => rfl
  | cons c r ih =>
    simp only [spl]
    by_cases h : c = 47
    · subst h; simp [ih]
    · rw [if_neg h, List.count_cons_of_ne h]
      cases hs : spl r with
      | nil => rw [hs] at ih; simp at ih
      | cons x y => rw [hs] at ih; simpa using ih
theorem spl_none {l : List UInt8} (h : 47 ∉ l) : spl l = [l] := by
  induction l with
  | nil => rfl
  | cons c r ih =>
    simp only [List.mem_cons, not_or] at h
    simp only [spl]
    rw [if_neg (fun e => h.1 e.symm), ih h.2]
theorem spl_cut : ∀ {l : List UInt8} {p : Nat}, l[p]? = some 47 → (∀ j, j < p → l[j]? ≠ some 47) → spl l = l.take p :: spl (l.drop (p + 1))
  | [], p, h, _ => by simp at h
  | c :: r, 0, h, _ => by
    simp at h; subst h
    simp [spl]
  | c :: r, p + 1, h, hp => by
    have hc : ¬ c = 47 := fun e => hp 0 (by omega) (by simp [e])
    have ih := spl_cut (l := r) (p := p) (by simpa using h) (fun j hj => by have := hp (j + 1) (by omega); simpa using this)
    simp only [spl]
    rw [if_neg hc, ih]
    simp
theorem spl_mem {l : List UInt8} (h : 2 ≤ (spl l).length) : 47 ∈ l := by
  rw [spl_len] at h
  exact List.count_pos_iff.1 (by omega)
theorem spl_total : ∀ (l : List UInt8), ∀ s ∈ spl l, s.length ≤ l.length
  | [], s, h => by simp [spl] at h; subst h; simp
  | c :: r, s, h => by
    simp only [spl] at h
    by_cases hc : c = 47
    · rw [if_pos hc] at h
      rcases List.mem_cons.1 h with rfl | h
      · simp
      · have := spl_total r s h; simp; omega
    · rw [if_neg hc] at h
      cases hs : spl r with
      | nil => rw [hs] at h; simp at h; subst h; simp
      | cons x y =>
        rw [hs] at h
        have ih := spl_total r
        rw [hs] at ih
        rcases List.mem_cons.1 h with rfl | h
        · have := ih x (by simp); simp; omega
        · have := ih s (by simp [h]); simp; omega
theorem set_next (D : List (List UInt8)) (x : List UInt8) {n : Nat} (h : D.length < n) : ((D ++ List.replicate (n - D.length) []).map strC).set D.length (strC x) = ((D ++ [x]) ++ List.replicate (n - (D.length + 1)) []).map strC := by
  rw [show n - D.length = (n - (D.length + 1)) + 1 by omega, List.replicate_succ]
  simp
end Go.AM
namespace Go.Proofs.YtfjgpeoblnpelaaDoor
open Go Go.AM
set_option linter.unusedVariables false
set_option linter.unusedSimpArgs false
set_option maxRecDepth 100000
set_option maxHeartbeats 2000000

theorem rep_str (n : Nat) : rep [.string ⟨#[]⟩] n = (List.replicate n ([] : List UInt8)).map strC := by simp [rep, strC]
theorem genSplit_ok (m : AMem) (l : List UInt8) (hl : l.length ≤ 1000000) :
    DetC Tryd.prog 3 76 [.string ⟨l.toArray⟩, .string ⟨#[47]⟩, .int .i64 0, .int .i64 (-1)] m (.slice (some ⟨m.size, 0, none⟩) (spl l).length (spl l).length) (mx m [.cells ((spl l).map strC) 9 true .exact]) := by
  have hn := spl_len l
  have hcl := List.count_le_length (a := (47 : UInt8)) (l := l)
  have k1 := fun M => DetC.known (count85_ok M l)
  have e0 : strEq ⟨#[47]⟩ ⟨#[]⟩ = false := by decide +kernel
  have s1 : (⟨#[47]⟩ : ByteArray).size = 1 := rfl
  have e1 : min ((l.count 47 : Int) + 1) ((l.length : Int) + 1) = ((spl l).length : Int) := by omega
  have e2 : ((spl l).length : Int) - 1 = (l.count 47 : Nat) := by omega
  have h3 : 0 ≤ ((spl l).length : Int) ∧ ((spl l).length : Int) * ((16 : Nat) : Int) ≤ 281474976710656 ∧ ((spl l).length : Int) ≤ 9223372036854775807 := ⟨by omega, by omega, by omega⟩
  refine det_exact (fn := Tryd.f76) rfl rfl F76_ok (by simp [F76]) ?_
  repeat first | simp -implicitDefEqProofs (disch := first | omega | with_reducible assumption | (simp only [qU, qC]; omega)) only [qT, qA, reduceCtorEq, qB, qC, qD, qE, qF, qG, qH, qI, qJ, qK, qL, reduceIte, F76, e0, k1, stepOp_mnx, mnx_min, e1, e2, h3, rep_str] | refine OrW.go ?_
  refine W_loop (fun N qs => ∃ (D : List (List UInt8)) (r : List UInt8), N = l.count 47 - D.length ∧ qs.ds = [] ∧ qs.m = mx m [.cells ((D ++ List.replicate ((spl l).length - D.length) []).map strC) 9 true .exact] ∧ qs.t 0 = .string ⟨r.toArray⟩ ∧ qs.t 1 = .string ⟨#[47]⟩ ∧ qs.t 2 = .int .i64 0 ∧ qs.t 3 = .int .i64 (l.count 47 : Nat) ∧ qs.t 9 = .slice (some ⟨m.size, 0, none⟩) (spl l).length (spl l).length ∧ qs.t 10 = .int .i64 D.length ∧ spl l = D ++ spl r ∧ D.length ≤ l.count 47 ∧ r.length ≤ l.length) (l.count 47 - ([]).length) ⟨[], l, rfl, rfl, ?qm, ?q0, ?q1, ?q2, ?q3, ?q9, ?q10, ?_⟩ ?_
  case qm | q0 | q1 | q2 | q3 | q9 | q10 => first | rfl | (simp -implicitDefEqProofs (disch := first | omega | with_reducible assumption | (simp only [qU, qC]; omega)) only [qT, qA, reduceCtorEq, qB, qC, qD, qE, qF, qG, qH, qI, qJ, qK, qL, reduceIte, List.nil_append, List.length_nil, Nat.sub_zero]; first | done | rfl | (congr 1; omega))
  · exact ⟨rfl, by simp, Nat.le_refl _⟩
  · rintro N t m1 ds ⟨D, r, rfl, hds, hm, t0, t1, t2, t3, t9, t10, hp⟩
    simp only at hds hm t0 t1 t2 t3 t9 t10
    subst hds; replace hm := hm.symm; subst hm
    obtain ⟨hs, hD, hr⟩ := hp
    have hlen : (spl l).length = D.length + (spl r).length := by rw [hs, List.length_append]
    have hX : ((D ++ List.replicate ((spl l).length - D.length) []).map strC).length = (spl l).length := by simp; omega
    by_cases g1 : (D.length : Int) < (l.count 47 : Int)
    · have hm := spl_mem (l := r) (by omega)
      have k2 := fun M => DetC.known (index86_ok M r (by omega))
      obtain ⟨p, hp⟩ : ∃ p : Nat, firstIdx ⟨r.toArray⟩ 47 = p := by
        have h0 : ¬ firstIdx ⟨r.toArray⟩ 47 < 0 := fun h => ((firstIdx_neg r 47).1 h) hm
        exact ⟨(firstIdx ⟨r.toArray⟩ 47).toNat, by omega⟩
      rw [hp] at k2
      obtain ⟨p1, p2, p3⟩ := firstIdx_ne r 47 p hp
      have hcut := spl_cut p2 p3
      have hset := set_next D (r.take p) (n := (spl l).length) (by omega)
      simp only [strC] at hset hX
      have g2 : ¬ (p : Int) < 0 := by omega
      repeat first | simp -implicitDefEqProofs (disch := first | omega | with_reducible assumption | (simp only [qU, qC]; omega)) only [qT, qA, reduceCtorEq, qB, qC, qD, qE, qF, qG, qH, qI, qJ, qK, qL, reduceIte, F76_l0, t0, t1, t2, t3, t9, t10, g1, g2, k2, s1, hset, strC, Int.add_zero] | refine OrW.go ?_
      rw [LoopK_normal]; refine ⟨_, ?_, D ++ [r.take p], r.drop (p + 1), rfl, rfl, ?qm, ?q0, ?q1, ?q2, ?q3, ?q9, ?q10, ?_⟩
      case qm | q0 | q1 | q2 | q3 | q9 | q10 => first | rfl | (simp -implicitDefEqProofs (disch := first | omega | with_reducible assumption | (simp only [qU, qC]; omega)) only [qT, qA, reduceCtorEq, qB, qC, qD, qE, qF, qG, qH, qI, qJ, qK, qL, reduceIte, t0, t1, t2, t3, t9, t10, strC, Int.natCast_add]; first | done | rfl | (congr 1; omega))
      · simp; omega
      · refine ⟨by rw [hs, hcut]; simp, by simp; omega, by simp; omega⟩
    · have hr1 : (spl r).length = 1 := by omega
      have hsr : spl r = [r] := spl_none fun h => by
        have := List.count_pos_iff.2 h
        have := spl_len r
        omega
      have hset := set_next D r (n := (spl l).length) (by omega)
      have hfin : (D ++ [r]) ++ List.replicate ((spl l).length - (D.length + 1)) [] = spl l := by
        rw [hs, hsr]; simp
      rw [hfin] at hset
      simp only [strC] at hset hX
      have e5 : (D.length : Int) + 1 = ((spl l).length : Nat) := by omega
      have e6 : ∀ M : AMem, slVv 1 (.slice (some ⟨m.size, 0, none⟩) (spl l).length (spl l).length) none (some (.int .i64 ((spl l).length : Nat))) none M = some (.slice (some ⟨m.size, 0, none⟩) (spl l).length (spl l).length, M) := fun M => by
        simp only [slVv, if_neg (Nat.ne_of_lt (openCap_lt (show (spl l).length ≤ 9223372036854775807 by omega)))]
        simp [cutV]
      repeat first | simp -implicitDefEqProofs (disch := first | omega | with_reducible assumption | (simp only [qU, qC]; omega)) only [qT, qA, reduceCtorEq, qB, qC, qD, qE, qF, qG, qH, qI, qJ, qK, qL, reduceIte, F76_l0, t0, t1, t2, t3, t9, t10, g1, s1, hset, strC, stepOp_slV_v, e5, e6] | refine OrW.go ?_
end Go.Proofs.YtfjgpeoblnpelaaDoor
namespace Go.Proofs.YtfjgpeoblnpelaaDoor
open Go Go.AM
set_option linter.unusedVariables false
set_option linter.unusedSimpArgs false
set_option maxRecDepth 100000
set_option maxHeartbeats 2000000

def namesR (l : List UInt8) : Option (List (List UInt8)) := if l = [] then some [] else if (spl l).all nameB then some (spl l) else none
theorem namesR_len {l : List UInt8} {ns : List (List UInt8)} (h : namesR l = some ns) : ns.length ≤ l.length + 1 := by
  unfold namesR at h
  split at h
  · cases h; simp
  · split at h
    · cases h; rw [spl_len]; have := List.count_le_length (a := (47 : UInt8)) (l := l); omega
    · cases h
theorem namesR_mem {l : List UInt8} {ns : List (List UInt8)} (h : namesR l = some ns) : ∀ s ∈ ns, s.length ≤ l.length := by
  unfold namesR at h
  split at h
  · cases h; simp
  · split at h
    · cases h; exact spl_total l
    · cases h
theorem need_yes (m : AMem) (e : Int) : PureC Tryd.prog 3 47 [.bool true, .int .i64 e] m (.tuple #[]) := by
  refine pure_of_W (fn := Tryd.f47) rfl rfl F47_ok (by simp [F47]) (.tuple (by simp)) ?_
  repeat first | simp -implicitDefEqProofs (disch := first | omega | with_reducible assumption | (simp only [qU, qC]; omega)) only [qT, qA, reduceCtorEq, qB, qC, qD, qE, qF, qG, qH, qI, qJ, qK, qL, reduceIte, F47] | refine OrW.go ?_
theorem stepOp_mkI_v (T : TypeId) (x : AOpd) (t : Tmps) (m : AMem) : stepOp (.mkI T x) t m = some (.iface T (x.ev t), m) := (rfl)
def PanW (v : Value) (Q : AExit → ASt → Prop) (s : ASt) : Prop := match v with | .iface T v => Q (.pan [{ v := .iface T v, recovered := false }]) s | _ => False
@[congr] theorem PanW_congr {v v' : Value} {Q : AExit → ASt → Prop} {s : ASt} (h : v = v') : PanW v Q s = PanW v' Q s := by rw [h]
theorem PanW_iface (T : TypeId) (v : Value) (Q : AExit → ASt → Prop) (s : ASt) : PanW (.iface T v) Q s = Q (.pan [{ v := .iface T v, recovered := false }]) s := (rfl)
theorem WI_pan {P : Program} {G : Nat} {Q : AExit → ASt → Prop} {t : Tmps} {m : AMem} {ds : List Deferred} (d : Option Nat) (x : AOpd) (r : List AIns) : WI P G (.panic none d x :: r) Q ⟨t, m, ds⟩ = PanW (x.ev t) Q ⟨t, m, ds⟩ := by
  simp only [WI, wanted, AIns.guard, if_true, WI1, PanW]
  cases x.ev t <;> rfl
theorem need_no (m : AMem) (e : Int) : PurE Tryd.prog 3 47 [.bool false, .int .i64 e] m (.pan (errC 30 e)) := by
  refine purE_of_W (fn := Tryd.f47) rfl rfl F47_ok (by simp [F47]) (.err _ _) ?_
  repeat first | simp -implicitDefEqProofs (disch := first | omega | with_reducible assumption | (simp only [qU, qC]; omega)) only [qT, qA, reduceCtorEq, qB, qC, qD, qE, qF, qG, qH, qI, qJ, qK, qL, reduceIte, F47, stepOp_mkI_v, WI_pan, PanW_iface] | refine OrW.go ?_
  rfl
theorem split62_ok (m : AMem) (l : List UInt8) (hl : l.length ≤ 1000000) :
    DetC Tryd.prog 3 62 [.string ⟨l.toArray⟩, .string ⟨#[47]⟩] m (.slice (some ⟨m.size, 0, none⟩) (spl l).length (spl l).length) (mx m [.cells ((spl l).map strC) 9 true .exact]) := by
  have k := DetC.known (genSplit_ok (mx m []) l hl)
  rw [mx_mx, List.nil_append, mx_nil_size] at k
  refine det_exact (fn := Tryd.f62) rfl rfl F62_ok (by simp [F62]) ?_
  repeat first | simp -implicitDefEqProofs (disch := first | omega | with_reducible assumption | (simp only [qU, qC]; omega)) only [qT, qA, reduceCtorEq, qB, qC, qD, qE, qF, qG, qH, qI, qJ, qK, qL, reduceIte, F62, k] | refine OrW.go ?_
theorem spl_strS {m : AMem} {l : List UInt8} (hl : l.length ≤ 1000000) : StrS (mx m [.cells ((spl l).map strC) 9 true .exact]) (some ⟨m.size, 0, none⟩) (spl l).length (spl l) := by
  have := spl_len l
  have := List.count_le_length (a := (47 : UInt8)) (l := l)
  exact .inr ⟨m.size, 0, _, _, _, _, rfl, by rw [mx_size]; simp, mx_new0 _ _, by rw [Nat.mul_one, ← List.length_map (f := strC)]; exact cutL_all rfl, .inr ⟨openCap_lt (by omega), Nat.le_refl _⟩⟩
theorem split_ok (m : AMem) (l : List UInt8) (hl : l.length ≤ 1000000) : ACall Tryd.prog 3 45 [.string ⟨l.toArray⟩] m fun r M => Old m M ∧ match namesR l with
    | some ns => ∃ a cap, r = .ret (.slice a ns.length cap) ∧ StrS M a cap ns ∧ ∀ b o, a = some ⟨b, o, none⟩ → m.size ≤ b
    | none => r = .pan (errC 30 2) := by
  have e0 : strEq ⟨l.toArray⟩ ⟨#[]⟩ = decide (l = []) := strEq_mk l []
  by_cases h0 : l = []
  · rw [decide_eq_true h0] at e0
    have hn : namesR l = some [] := by simp [namesR, h0]
    rw [hn]
    refine ACall.eqv (m1 := mx m []) (mx_nil_size m) (fun b hb => mx_old hb) (ACall_of_W (fn := Tryd.f45) rfl rfl F45_ok (by simp [F45]) ?_)
    repeat first | simp -implicitDefEqProofs (disch := first | omega | with_reducible assumption | (simp only [qU, qC]; omega)) only [qT, qA, reduceCtorEq, qB, qC, qD, qE, qF, qG, qH, qI, qJ, qK, qL, reduceIte, F45, e0] | refine OrW.go ?_
    exact ⟨none, 0, rfl, StrS.nil _, fun _ _ h => by cases h⟩
  · rw [decide_eq_false h0] at e0
    have hlen := spl_len l
    have hcl := List.count_le_length (a := (47 : UInt8)) (l := l)
    have k := DetC.known (split62_ok (mx m []) l hl)
    rw [mx_mx, List.nil_append, mx_nil_size] at k
    have hS := spl_strS (m := m) hl
    refine ACall.eqv (m1 := mx m []) (mx_nil_size m) (fun b hb => mx_old hb) (ACall_of_W (fn := Tryd.f45) rfl rfl F45_ok (by simp [F45]) ?_)
    repeat first | simp -implicitDefEqProofs (disch := first | omega | with_reducible assumption | (simp only [qU, qC]; omega)) only [qT, qA, reduceCtorEq, qB, qC, qD, qE, qF, qG, qH, qI, qJ, qK, qL, reduceIte, F45, e0, k] | refine OrW.go ?_
    refine W_loop (fun N qs => ∃ (i : Nat), N = (spl l).length - i ∧ qs.ds = [] ∧ qs.m = mx m [.cells ((spl l).map strC) 9 true .exact] ∧ qs.t 3 = .slice (some ⟨m.size, 0, none⟩) (spl l).length (spl l).length ∧ qs.t 10 = .slice (some ⟨m.size, 0, none⟩) (spl l).length (spl l).length ∧ qs.t 11 = .int .i64 (spl l).length ∧ qs.t 12 = .int .i64 i ∧ i ≤ (spl l).length ∧ ∀ j (h : j < (spl l).length), j < i → nameB (spl l)[j] = true) ((spl l).length - (0)) ⟨0, rfl, rfl, ?qm, ?q3, ?q10, ?q11, ?q12, ?_⟩ ?_
    case qm | q3 | q10 | q11 | q12 => first | rfl | (simp -implicitDefEqProofs (disch := first | omega | with_reducible assumption | (simp only [qU, qC]; omega)) only [qT, qA, reduceCtorEq, qB, qC, qD, qE, qF, qG, qH, qI, qJ, qK, qL, reduceIte]; first | done | rfl | (congr 1; omega))
    · exact ⟨by omega, fun j h hj => by omega⟩
    · rintro N t m1 ds ⟨i, rfl, hds, hm, t3, t10, t11, t12, hp⟩
      simp only at hds hm t3 t10 t11 t12
      subst hds; replace hm := hm.symm; subst hm
      obtain ⟨hi0, hall⟩ := hp
      by_cases g1 : (i : Int) < ((spl l).length : Int)
      · have hi : i < (spl l).length := by omega
        obtain ⟨b, o, e1, hb, q0⟩ := hS.get hi
        cases e1
        rw [Nat.zero_add] at q0
        have k1 := fun M => DetC.known (name_ok M (spl l)[i])
        have q1 : ((spl l).map strC)[i]? = some (.string ⟨(spl l)[i].toArray⟩) := by simp [hi, strC]
        cases hb : nameB (spl l)[i] with
        | true =>
          rw [hb] at k1
          have k2 := fun M => DetC.known (need_yes M 2)
          repeat first | simp -implicitDefEqProofs (disch := first | omega | with_reducible assumption | (simp only [qU, qC]; omega)) only [qT, qA, reduceCtorEq, qB, qC, qD, qE, qF, qG, qH, qI, qJ, qK, qL, reduceIte, F45_l0, t3, t10, t11, t12, g1, q1, k1, k2] | refine OrW.go ?_
          rw [LoopK_normal]; refine ⟨_, ?_, i + 1, rfl, rfl, ?qm, ?q3, ?q10, ?q11, ?q12, ?_⟩
          case qm | q3 | q10 | q11 | q12 => first | rfl | (simp -implicitDefEqProofs (disch := first | omega | with_reducible assumption | (simp only [qU, qC]; omega)) only [qT, qA, reduceCtorEq, qB, qC, qD, qE, qF, qG, qH, qI, qJ, qK, qL, reduceIte, t3, t10, t11, t12, Int.natCast_add]; first | done | rfl | (congr 1; omega))
          · omega
          · refine ⟨by omega, fun j h hj => ?_⟩
            by_cases e : j = i
            · subst e; exact hb
            · exact hall j h (by omega)
        | false =>
          rw [hb] at k1
          have k2 := fun M => (need_no M 2).pan
          have hn : namesR l = none := by
            unfold namesR
            rw [if_neg h0, if_neg]
            intro h
            have := List.all_eq_true.1 h _ (List.getElem_mem hi)
            rw [hb] at this; cases this
          rw [hn]
          repeat first | simp -implicitDefEqProofs (disch := first | omega | with_reducible assumption | (simp only [qU, qC]; omega)) only [qT, qA, reduceCtorEq, qB, qC, qD, qE, qF, qG, qH, qI, qJ, qK, qL, reduceIte, F45_l0, t3, t10, t11, t12, g1, q1, k1, k2] | refine OrW.go ?_
      · have hn : namesR l = some (spl l) := by
          unfold namesR
          rw [if_neg h0, if_pos]
          refine List.all_eq_true.2 fun s hs => ?_
          obtain ⟨j, hj, rfl⟩ := List.getElem_of_mem hs
          exact hall j hj (by omega)
        rw [hn]
        repeat first | simp -implicitDefEqProofs (disch := first | omega | with_reducible assumption | (simp only [qU, qC]; omega)) only [qT, qA, reduceCtorEq, qB, qC, qD, qE, qF, qG, qH, qI, qJ, qK, qL, reduceIte, F45_l0, t3, t10, t11, t12, g1] | refine OrW.go ?_
        exact ⟨_, _, rfl, hS, fun _ _ h => by cases h; exact Nat.le_refl _⟩
end Go.Proofs.YtfjgpeoblnpelaaDoor
namespace Go.Proofs.YtfjgpeoblnpelaaDoor
open Go Go.AM
set_option linter.unusedVariables false
set_option linter.unusedSimpArgs false
set_option maxRecDepth 100000
set_option maxHeartbeats 2000000

theorem refNames_ok (m : AMem) (l : List UInt8) (hl : l.length ≤ 1000000) : RelC Tryd.prog 3 48 [.string ⟨l.toArray⟩] m fun v M => Old m M ∧ match namesR l with
    | some ns => ∃ a cap, v = .tuple #[.slice a ns.length cap, .bool true] ∧ StrS M a cap ns ∧ ∀ b o, a = some ⟨b, o, none⟩ → m.size ≤ b
    | none => v = .tuple #[.slice none 0 0, .bool false] := by
  have e0 : strEq ⟨l.toArray⟩ ⟨#[]⟩ = decide (l = []) := strEq_mk l []
  by_cases h0 : l = []
  · rw [decide_eq_true h0] at e0
    have hn : namesR l = some [] := by simp [namesR, h0]
    rw [hn]
    refine rel_of_W (fn := Tryd.f48) rfl rfl F48_ok (by simp [F48]) ?_
    repeat first | simp -implicitDefEqProofs (disch := first | omega | with_reducible assumption | (simp only [qU, qC]; omega)) only [qT, qA, reduceCtorEq, qB, qC, qD, qE, qF, qG, qH, qI, qJ, qK, qL, reduceIte, F48, e0] | refine OrW.go ?_
    exact ⟨_, rfl, fun _ => ⟨none, 0, rfl, StrS.nil _, fun _ _ h => by cases h⟩⟩
  · rw [decide_eq_false h0] at e0
    have hlen := spl_len l
    have hcl := List.count_le_length (a := (47 : UInt8)) (l := l)
    refine rel_of_W (fn := Tryd.f48) rfl rfl F48_ok (by simp [F48]) ?_
    repeat first | simp -implicitDefEqProofs (disch := first | omega | with_reducible assumption | (simp only [qU, qC]; omega)) only [qT, qA, reduceCtorEq, qB, qC, qD, qE, qF, qG, qH, qI, qJ, qK, qL, reduceIte, F48, e0] | refine OrW.go ?_
    refine W_loop (fun N qs => ∃ (i f : Nat) (D : List (List UInt8)) (M : AMem) (v : Value), N = l.length + 1 - i ∧ qs.ds = [] ∧ qs.m = mx M [] ∧ qs.t 0 = .string ⟨l.toArray⟩ ∧ qs.t 4 = v ∧ qs.t 5 = .int .i64 f ∧ qs.t 6 = .int .i64 i ∧ i ≤ l.length + 1 ∧ Old m M ∧ Buf m M v (D.map strC) 9 (.string ⟨#[]⟩) ∧ D.all nameB = true ∧ (i ≤ l.length → f ≤ i ∧ spl l = D ++ spl (l.drop f) ∧ ∀ j, f ≤ j → j < i → l[j]? ≠ some 47) ∧ (l.length < i → spl l = D)) (l.length + 1 - (0)) ⟨0, 0, [], mx m [], .slice none 0 0, rfl, rfl, ?qm, ?q0, ?q4, ?q5, ?q6, ?_⟩ ?_
    case qm | q0 | q4 | q5 | q6 => first | rfl | (simp -implicitDefEqProofs (disch := first | omega | with_reducible assumption | (simp only [qU, qC]; omega)) only [qT, qA, reduceCtorEq, qB, qC, qD, qE, qF, qG, qH, qI, qJ, qK, qL, reduceIte, mx_mx, List.append_nil]; first | done | rfl | (congr 1; omega))
    · exact ⟨by omega, Old.here _ _, Buf.nil _ _ _ _, rfl, fun _ => ⟨Nat.le_refl _, by simp, fun j h1 h2 => by omega⟩, fun h => by omega⟩
    · rintro N t m1 ds ⟨i, f, D, M, v, rfl, hds, hm, t0, t4, t5, t6, hp⟩
      simp only at hds hm t0 t4 t5 t6
      subst hds; replace hm := hm.symm; subst hm
      obtain ⟨hi0, hO, hB, hD, hin, hout⟩ := hp
      by_cases g1 : (i : Int) ≤ (l.length : Int)
      · obtain ⟨hf, hs, hno⟩ := hin (by omega)
        -- a part that ends here
        have part : (i = l.length ∨ l[i]? = some 47) → spl (l.drop f) = ((l.take i).drop f) :: (if i = l.length then [] else spl (l.drop (i + 1))) := by
          intro h
          by_cases hil : i = l.length
          · rw [if_pos hil]
            have : 47 ∉ l.drop f := by
              intro hm
              obtain ⟨j, hj, e⟩ := List.getElem_of_mem hm
              rw [List.length_drop] at hj
              exact hno (f + j) (by omega) (by omega) (by rw [List.getElem?_eq_getElem (by omega), ← e, List.getElem_drop])
            rw [spl_none this, hil, List.take_length]
          · rw [if_neg hil]
            have h47 := h.resolve_left hil
            have := spl_cut (l := l.drop f) (p := i - f) (by rw [List.getElem?_drop, show f + (i - f) = i by omega]; exact h47) (fun j hj => by rw [List.getElem?_drop]; exact hno (f + j) (by omega) (by omega))
            rw [this, List.drop_drop, show f + (i - f + 1) = i + 1 by omega, List.drop_take]
        have cont : ¬ (i = l.length ∨ l[i]? = some 47) → i < l.length ∧ ∀ h : i < l.length, ¬ (l[i].toNat : Int) = 47 := by
          intro h
          have h1 : i < l.length := by
            rcases Nat.lt_or_ge i l.length with h1 | h1
            · exact h1
            · exact absurd (.inl (by omega)) h
          refine ⟨h1, fun _ e => h (.inr ?_)⟩
          rw [List.getElem?_eq_getElem h1]
          congr 1
          exact UInt8.toNat_inj.1 (by simpa using (by omega : l[i].toNat = 47))
        by_cases h3 : i = l.length ∨ l[i]? = some 47
        · have hp := part h3
          have hpl : ((l.take i).drop f).length ≤ 1000000 := by simp; omega
          have k1 := fun M => DetC.known (refName_ok M ((l.take i).drop f) hpl)
          have hDl : D.length ≤ l.length + 1 := by
            have : (spl l).length = D.length + (spl (l.drop f)).length := by rw [hs, List.length_append]
            omega
          have hmem : (l.take i).drop f ∈ spl l := by rw [hs, hp]; simp
          cases hnb : nameB ((l.take i).drop f) with
          | true =>
            rw [hnb] at k1
            obtain ⟨v', M', happ, hB', hF⟩ := hB.app1 (e2 := 9) (x := strC ((l.take i).drop f)) (bytes := 16) (by have := hO.1; omega) rfl rfl (by rw [List.length_map]; omega) (by rw [List.length_map]; omega)
            have hO' : Old m M' := hO.fr hF (fun x o q c hx => hB.new x o q c hx)
            simp only [strC] at happ
            rcases h3 with h3 | h3
            · subst h3
              have g2 : ¬ (l.length : Int) < (l.length : Int) := by omega
              rw [List.take_length] at happ k1 hB' hp
              repeat first | simp -implicitDefEqProofs (disch := first | omega | with_reducible assumption | (simp only [qU, qC]; omega)) only [qT, qA, reduceCtorEq, qB, qC, qD, qE, qF, qG, qH, qI, qJ, qK, qL, reduceIte, F48_l0, t0, t4, t5, t6, g1, g2, k1, stepOp_app_v, happ, undef] | refine OrW.go ?_
              rw [LoopK_normal]; refine ⟨_, ?_, l.length + 1, l.length + 1, D ++ [l.drop f], M', v', rfl, rfl, ?qm, ?q0, ?q4, ?q5, ?q6, ?_⟩
              case qm | q0 | q4 | q5 | q6 => first | rfl | (simp -implicitDefEqProofs (disch := first | omega | with_reducible assumption | (simp only [qU, qC]; omega)) only [qT, qA, reduceCtorEq, qB, qC, qD, qE, qF, qG, qH, qI, qJ, qK, qL, reduceIte, t0, t4, t5, t6, Int.natCast_add]; first | done | rfl | (congr 1; omega))
              · omega
              · refine ⟨by omega, hO', by simpa [strC] using hB', by rw [List.all_append, hD]; simp [List.take_length] at hnb; simp [hnb], fun h => by omega, fun _ => by rw [hs, hp]; simp⟩
            · have h4 : i < l.length := (List.getElem?_eq_some_iff.1 h3).1
              have g2 : (i : Int) < (l.length : Int) := by omega
              have h5 : l[i] = 47 := by rw [List.getElem?_eq_getElem h4] at h3; exact Option.some.inj h3
              have g3 : (l[i].toNat : Int) = 47 := by rw [h5]; rfl
              rw [if_neg (by omega)] at hp
              repeat first | simp -implicitDefEqProofs (disch := first | omega | with_reducible assumption | (simp only [qU, qC]; omega)) only [qT, qA, reduceCtorEq, qB, qC, qD, qE, qF, qG, qH, qI, qJ, qK, qL, reduceIte, F48_l0, t0, t4, t5, t6, g1, g2, g3, k1, stepOp_app_v, happ] | refine OrW.go ?_
              rw [LoopK_normal]; refine ⟨_, ?_, i + 1, i + 1, D ++ [(l.take i).drop f], M', v', rfl, rfl, ?qm, ?q0, ?q4, ?q5, ?q6, ?_⟩
              case qm | q0 | q4 | q5 | q6 => first | rfl | (simp -implicitDefEqProofs (disch := first | omega | with_reducible assumption | (simp only [qU, qC]; omega)) only [qT, qA, reduceCtorEq, qB, qC, qD, qE, qF, qG, qH, qI, qJ, qK, qL, reduceIte, t0, t4, t5, t6, Int.natCast_add]; first | done | rfl | (congr 1; omega))
              · omega
              · refine ⟨by omega, hO', by simpa [strC] using hB', by rw [List.all_append, hD]; simp [hnb], fun h => ⟨Nat.le_refl _, by rw [hs, hp]; simp, fun j q1 q2 => by omega⟩, fun h => by omega⟩
          | false =>
            rw [hnb] at k1
            have hn : namesR l = none := by
              unfold namesR
              rw [if_neg h0, if_neg]
              intro h
              have := List.all_eq_true.1 h _ hmem
              rw [hnb] at this; cases this
            rw [hn]
            rcases h3 with h3 | h3
            · subst h3
              have g2 : ¬ (l.length : Int) < (l.length : Int) := by omega
              rw [List.take_length] at k1
              repeat first | simp -implicitDefEqProofs (disch := first | omega | with_reducible assumption | (simp only [qU, qC]; omega)) only [qT, qA, reduceCtorEq, qB, qC, qD, qE, qF, qG, qH, qI, qJ, qK, qL, reduceIte, F48_l0, t0, t4, t5, t6, g1, g2, k1, undef] | refine OrW.go ?_
              exact ⟨_, rfl, fun _ => ⟨hO.mx _, rfl⟩⟩
            · have h4 : i < l.length := (List.getElem?_eq_some_iff.1 h3).1
              have g2 : (i : Int) < (l.length : Int) := by omega
              have h5 : l[i] = 47 := by rw [List.getElem?_eq_getElem h4] at h3; exact Option.some.inj h3
              have g3 : (l[i].toNat : Int) = 47 := by rw [h5]; rfl
              repeat first | simp -implicitDefEqProofs (disch := first | omega | with_reducible assumption | (simp only [qU, qC]; omega)) only [qT, qA, reduceCtorEq, qB, qC, qD, qE, qF, qG, qH, qI, qJ, qK, qL, reduceIte, F48_l0, t0, t4, t5, t6, g1, g2, g3, k1] | refine OrW.go ?_
              exact ⟨_, rfl, fun _ => ⟨hO.mx _, rfl⟩⟩
        · obtain ⟨h4, h5⟩ := cont h3
          have g2 : (i : Int) < (l.length : Int) := by omega
          have g3 := h5 h4
          repeat first | simp -implicitDefEqProofs (disch := first | omega | with_reducible assumption | (simp only [qU, qC]; omega)) only [qT, qA, reduceCtorEq, qB, qC, qD, qE, qF, qG, qH, qI, qJ, qK, qL, reduceIte, F48_l0, t0, t4, t5, t6, g1, g2, g3] | refine OrW.go ?_
          rw [LoopK_normal]; refine ⟨_, ?_, i + 1, f, D, M, v, rfl, rfl, ?qm, ?q0, ?q4, ?q5, ?q6, ?_⟩
          case qm | q0 | q4 | q5 | q6 => first | rfl | (simp -implicitDefEqProofs (disch := first | omega | with_reducible assumption | (simp only [qU, qC]; omega)) only [qT, qA, reduceCtorEq, qB, qC, qD, qE, qF, qG, qH, qI, qJ, qK, qL, reduceIte, t0, t4, t5, t6, Int.natCast_add]; first | done | rfl | (congr 1; omega))
          · omega
          · refine ⟨by omega, hO, hB, hD, fun h => ⟨by omega, hs, fun j q1 q2 => ?_⟩, fun h => by omega⟩
            by_cases e : j = i
            · subst e; exact fun e => h3 (.inr e)
            · exact hno j q1 (by omega)
      · have hs := hout (by omega)
        have hn : namesR l = some D := by
          unfold namesR
          rw [if_neg h0, hs, if_pos hD]
        rw [hn]
        obtain ⟨a, cap, rfl, hS, hnew⟩ := hB.strs2
        repeat first | simp -implicitDefEqProofs (disch := first | omega | with_reducible assumption | (simp only [qU, qC]; omega)) only [qT, qA, reduceCtorEq, qB, qC, qD, qE, qF, qG, qH, qI, qJ, qK, qL, reduceIte, F48_l0, t0, t4, t5, t6, g1] | refine OrW.go ?_
        exact ⟨_, rfl, fun _ => ⟨hO.mx _, a, cap, rfl, hS.old (Old.here M _), hnew⟩⟩
end Go.Proofs.YtfjgpeoblnpelaaDoor
namespace Go.Proofs.YtfjgpeoblnpelaaDoor
open Go Go.AM
set_option linter.unusedVariables false
set_option linter.unusedSimpArgs false
set_option maxRecDepth 100000
set_option maxHeartbeats 2000000

def idxE (es : List En) (s : List UInt8) : Int := match es.findIdx? (fun e => decide (e.n = s)) with | some i => i | none => -1
theorem idxE_none {es : List En} {s : List UInt8} (h : ∀ j (hj : j < es.length), es[j].n ≠ s) : idxE es s = -1 := by
  have : es.findIdx? (fun e => decide (e.n = s)) = none := by rw [List.findIdx?_eq_none_iff]; intro x hx; obtain ⟨j, hj, rfl⟩ := List.mem_iff_getElem.1 hx; simp [h j hj]
  simp [idxE, this]
theorem idxE_some {es : List En} {s : List UInt8} {i : Nat} (hi : i < es.length) (h : ∀ j (hj : j < i), (es[j]'(by omega)).n ≠ s) (hb : es[i].n = s) : idxE es s = i := by
  have : es.findIdx? (fun e => decide (e.n = s)) = some i := by rw [List.findIdx?_eq_some_iff_getElem]; exact ⟨hi, by simp [hb], fun j hj => by simp [h j hj]⟩
  simp [idxE, this]
theorem idxE_cases (es : List En) (s : List UInt8) : (idxE es s = -1 ∧ ∀ e ∈ es, e.n ≠ s) ∨ ∃ i, ∃ h : i < es.length, idxE es s = (i : Nat) ∧ es[i].n = s := by
  unfold idxE
  cases h : es.findIdx? (fun e => decide (e.n = s)) with
  | none =>
    rw [List.findIdx?_eq_none_iff] at h
    exact .inl ⟨rfl, fun e he => by have := h e he; simpa using this⟩
  | some i =>
    rw [List.findIdx?_eq_some_iff_getElem] at h
    obtain ⟨h1, h2, _⟩ := h
    exact .inr ⟨i, h1, rfl, by simpa using h2⟩
theorem is64_ok (m : AMem) (e : En) (s : List UInt8) (bx : Nat) {T : TypeId} {w : Bool} {sp : Spare} (hb : bx < m.size) (hm : m.get bx = .cells [.string ⟨s.toArray⟩] T w sp) (a : Option Addr) (n cap : Nat) :
    PureC Tryd.prog 3 64 [.agg [.string ⟨e.n.toArray⟩, .int .u8 e.t.k, .string ⟨e.t.d.toArray⟩, .slice a n cap].toArray, .pointer (some ⟨bx, 0, none⟩)] m (.bool (decide (e.n = s))) := by
  have en : strEq ⟨e.n.toArray⟩ ⟨s.toArray⟩ = decide (e.n = s) := strEq_mk _ _
  refine pure_of_W (fn := Tryd.f64) rfl rfl F64_ok (by simp [F64]) (.bool _) ?_
  repeat first | simp -implicitDefEqProofs (disch := first | omega | with_reducible assumption | (simp only [qU, qC]; omega)) only [qT, qA, reduceCtorEq, qB, qC, qD, qE, qF, qG, qH, qI, qJ, qK, qL, reduceIte, F64, cellsOf_entry, cutL4_0, hm, en] | refine OrW.go ?_
theorem indexF_ok (m : AMem) (es : List En) (s : List UInt8) (a : Option Addr) (cap bx : Nat) (hE : SlE m a cap es) {T : TypeId} {w : Bool} {sp : Spare} (hb : bx < m.size) (hm : m.get bx = .cells [.string ⟨s.toArray⟩] T w sp) (hn : es.length ≤ 1000000000) :
    PureC Tryd.prog 3 63 [.slice a es.length cap, .func (.func 64) #[] #[.pointer (some ⟨bx, 0, none⟩)]] m (.int .i64 (idxE es s)) := by
  refine pure_of_W (fn := Tryd.f63) rfl rfl F63_ok (by simp [F63]) (.int _ _) ?_
  repeat first | simp -implicitDefEqProofs (disch := first | omega | with_reducible assumption | (simp only [qU, qC]; omega)) only [qT, qA, reduceCtorEq, qB, qC, qD, qE, qF, qG, qH, qI, qJ, qK, qL, reduceIte, F63] | refine OrW.go ?_
  refine W_loop (fun N qs => ∃ (i : Nat), N = es.length - i ∧ qs.ds = [] ∧ qs.m = mx m [] ∧ qs.t 0 = .slice a es.length cap ∧ qs.t 1 = .func (.func 64) #[] #[.pointer (some ⟨bx, 0, none⟩)] ∧ qs.t 7 = .int .i64 es.length ∧ qs.t 8 = .int .i64 i ∧ i ≤ es.length ∧ ∀ j (h : j < es.length), j < i → es[j].n ≠ s) (es.length - (0)) ⟨0, rfl, rfl, ?qm, ?q0, ?q1, ?q7, ?q8, ?_⟩ ?_
  case qm | q0 | q1 | q7 | q8 => first | rfl | (simp -implicitDefEqProofs (disch := first | omega | with_reducible assumption | (simp only [qU, qC]; omega)) only [qT, qA, reduceCtorEq, qB, qC, qD, qE, qF, qG, qH, qI, qJ, qK, qL, reduceIte]; first | done | rfl | (congr 1; omega))
  · exact ⟨by omega, fun j h hj => by omega⟩
  · rintro N t m1 ds ⟨i, rfl, hds, hm, t0, t1, t7, t8, hp⟩
    simp only at hds hm t0 t1 t7 t8
    subst hds; replace hm := hm.symm; subst hm
    obtain ⟨hi0, hall⟩ := hp
    by_cases g1 : (i : Int) < (es.length : Int)
    · have hi : i < es.length := by omega
      obtain ⟨b, o, a', cap', rfl, hbb, hE', q4, q3, q0⟩ := hE.get hi
      have k1 := DetC.known (is64_ok (mx m []) es[i] s bx (by rw [mx_nil_size]; exact hb) ((mx_old hb).trans hm) a' es[i].t.es.length cap')
      by_cases g3 : es[i].n = s
      · rw [decide_eq_true g3] at k1
        repeat first | simp -implicitDefEqProofs (disch := first | omega | with_reducible assumption | (simp only [qU, qC]; omega)) only [qT, qA, reduceCtorEq, qB, qC, qD, qE, qF, qG, qH, qI, qJ, qK, qL, reduceIte, F63_l0, t0, t1, t7, t8, g1, q4, k1] | refine OrW.go ?_
        rw [idxE_some hi (fun j hj => hall j (by omega) hj) g3]
      · rw [decide_eq_false g3] at k1
        repeat first | simp -implicitDefEqProofs (disch := first | omega | with_reducible assumption | (simp only [qU, qC]; omega)) only [qT, qA, reduceCtorEq, qB, qC, qD, qE, qF, qG, qH, qI, qJ, qK, qL, reduceIte, F63_l0, t0, t1, t7, t8, g1, q4, k1] | refine OrW.go ?_
        rw [LoopK_normal]; refine ⟨_, ?_, i + 1, rfl, rfl, ?qm, ?q0, ?q1, ?q7, ?q8, ?_⟩
        case qm | q0 | q1 | q7 | q8 => first | rfl | (simp -implicitDefEqProofs (disch := first | omega | with_reducible assumption | (simp only [qU, qC]; omega)) only [qT, qA, reduceCtorEq, qB, qC, qD, qE, qF, qG, qH, qI, qJ, qK, qL, reduceIte, t0, t1, t7, t8, Int.natCast_add]; first | done | rfl | (congr 1; omega))
        · omega
        · refine ⟨by omega, fun j h hj => ?_⟩
          by_cases e : j = i
          · subst e; exact g3
          · exact hall j h (by omega)
    · repeat first | simp -implicitDefEqProofs (disch := first | omega | with_reducible assumption | (simp only [qU, qC]; omega)) only [qT, qA, reduceCtorEq, qB, qC, qD, qE, qF, qG, qH, qI, qJ, qK, qL, reduceIte, F63_l0, t0, t1, t7, t8, g1] | refine OrW.go ?_
      rw [idxE_none fun j hj => hall j hj (by omega)]
theorem find_ok (m : AMem) (k : Int) (d : List UInt8) (es : List En) (s : List UInt8) (c : List Value) (hc : TrC m (.nd k d es) c) (hn : es.length ≤ 1000000000) :
    PurE Tryd.prog 3 46 [.agg c.toArray, .string ⟨s.toArray⟩] m (if k = 4 then .ret (.tuple #[.int .i64 (idxE es s), .bool (decide (0 ≤ idxE es s))]) else .pan (errC 30 5)) := by
  obtain ⟨a, cap, rfl, hE⟩ := trC_nd hc
  by_cases h : k = 4
  · rw [if_pos h]
    have k1 := fun M => DetC.known (need_yes M 5)
    have k2 := DetC.known (indexF_ok (mx m [.cells [.int .u8 k, .string ⟨d.toArray⟩, .slice a es.length cap] 26 true .exact, .cells [.string ⟨s.toArray⟩] 9 true .exact]) es s a cap (m.size + 1) (hE.old (Old.here m _)) (by rw [mx_size]; simp) (mx_new m _ 1) hn)
    subst h
    refine purE_of_W (fn := Tryd.f46) rfl rfl F46_ok (by simp [F46]) (.tuple2 (.int _ _) (.bool _)) ?_
    repeat first | simp -implicitDefEqProofs (disch := first | omega | with_reducible assumption | (simp only [qU, qC]; omega)) only [qT, qA, reduceCtorEq, qB, qC, qD, qE, qF, qG, qH, qI, qJ, qK, qL, reduceIte, F46, cellsOf_node, cutL3_0, cutL3_2, k1, k2] | refine OrW.go ?_
  · rw [if_neg h]
    have k1 := fun M => (need_no M 5).pan
    refine purE_of_W (fn := Tryd.f46) rfl rfl F46_ok (by simp [F46]) (.err _ _) ?_
    repeat first | simp -implicitDefEqProofs (disch := first | omega | with_reducible assumption | (simp only [qU, qC]; omega)) only [qT, qA, reduceCtorEq, qB, qC, qD, qE, qF, qG, qH, qI, qJ, qK, qL, reduceIte, F46, cellsOf_node, cutL3_0, h, k1] | refine OrW.go ?_
theorem refFind_ok (m : AMem) (k : Int) (d : List UInt8) (es : List En) (s : List UInt8) (c : List Value) (hc : TrC m (.nd k d es) c) (hn : es.length ≤ 1000000000) :
    PureC Tryd.prog 3 49 [.agg c.toArray, .string ⟨s.toArray⟩] m (.int .i64 (if k = 4 then idxE es s else -1)) := by
  obtain ⟨a, cap, rfl, hE⟩ := trC_nd hc
  refine pure_of_W (fn := Tryd.f49) rfl rfl F49_ok (by simp [F49]) (.int _ _) ?_
  repeat first | simp -implicitDefEqProofs (disch := first | omega | with_reducible assumption | (simp only [qU, qC]; omega)) only [qT, qA, reduceCtorEq, qB, qC, qD, qE, qF, qG, qH, qI, qJ, qK, qL, reduceIte, F49, cellsOf_node] | refine OrW.go ?_
  refine W_loop (fun N qs => ∃ (i : Nat), N = es.length - i ∧ qs.ds = [] ∧ qs.m = mx m [.cells [.int .u8 k, .string ⟨d.toArray⟩, .slice a es.length cap] 26 true .exact] ∧ qs.t 1 = .string ⟨s.toArray⟩ ∧ qs.t 2 = .pointer (some ⟨m.size, 0, none⟩) ∧ qs.t 5 = .int .i64 i ∧ i ≤ es.length ∧ ∀ j (h : j < es.length), j < i → k = 4 → es[j].n ≠ s) (es.length - (0)) ⟨0, rfl, rfl, ?qm, ?q1, ?q2, ?q5, ?_⟩ ?_
  case qm | q1 | q2 | q5 => first | rfl | (simp -implicitDefEqProofs (disch := first | omega | with_reducible assumption | (simp only [qU, qC]; omega)) only [qT, qA, reduceCtorEq, qB, qC, qD, qE, qF, qG, qH, qI, qJ, qK, qL, reduceIte]; first | done | rfl | (congr 1; omega))
  · exact ⟨by omega, fun j h hj => by omega⟩
  · rintro N t m1 ds ⟨i, rfl, hds, hm, t1, t2, t5, hp⟩
    simp only at hds hm t1 t2 t5
    subst hds; replace hm := hm.symm; subst hm
    obtain ⟨hi0, hall⟩ := hp
    by_cases g1 : (i : Int) < (es.length : Int)
    · have hi : i < es.length := by omega
      by_cases h : k = 4
      · obtain ⟨b, o, a', cap', rfl, hbb, hE', q4, q3, q0⟩ := hE.get hi
        have en : strEq ⟨es[i].n.toArray⟩ ⟨s.toArray⟩ = decide (es[i].n = s) := strEq_mk _ _
        by_cases g3 : es[i].n = s
        · rw [decide_eq_true g3] at en
          rw [if_pos h, idxE_some hi (fun j hj => hall j (by omega) hj h) g3]
          repeat first | simp -implicitDefEqProofs (disch := first | omega | with_reducible assumption | (simp only [qU, qC]; omega)) only [qT, qA, reduceCtorEq, qB, qC, qD, qE, qF, qG, qH, qI, qJ, qK, qL, reduceIte, F49_l0, t1, t2, t5, g1, cutL3_0, cutL3_2, q0, en, h] | refine OrW.go ?_
        · rw [decide_eq_false g3] at en
          repeat first | simp -implicitDefEqProofs (disch := first | omega | with_reducible assumption | (simp only [qU, qC]; omega)) only [qT, qA, reduceCtorEq, qB, qC, qD, qE, qF, qG, qH, qI, qJ, qK, qL, reduceIte, F49_l0, t1, t2, t5, g1, cutL3_0, cutL3_2, q0, en, h] | refine OrW.go ?_
          rw [LoopK_normal]; refine ⟨_, ?_, i + 1, rfl, rfl, ?qm, ?q1, ?q2, ?q5, ?_⟩
          case qm | q1 | q2 | q5 => first | rfl | (simp -implicitDefEqProofs (disch := first | omega | with_reducible assumption | (simp only [qU, qC]; omega)) only [qT, qA, reduceCtorEq, qB, qC, qD, qE, qF, qG, qH, qI, qJ, qK, qL, reduceIte, t1, t2, t5, Int.natCast_add, h]; first | done | rfl | (congr 1; omega))
          · omega
          · refine ⟨by omega, fun j h1 hj h2 => ?_⟩
            by_cases e : j = i
            · subst e; exact g3
            · exact hall j h1 (by omega) h
      · repeat first | simp -implicitDefEqProofs (disch := first | omega | with_reducible assumption | (simp only [qU, qC]; omega)) only [qT, qA, reduceCtorEq, qB, qC, qD, qE, qF, qG, qH, qI, qJ, qK, qL, reduceIte, F49_l0, t1, t2, t5, g1, cutL3_0, cutL3_2, h, undef] | refine OrW.go ?_
        rw [LoopK_normal]; refine ⟨_, ?_, i + 1, rfl, rfl, ?qm, ?q1, ?q2, ?q5, ?_⟩
        case qm | q1 | q2 | q5 => first | rfl | (simp -implicitDefEqProofs (disch := first | omega | with_reducible assumption | (simp only [qU, qC]; omega)) only [qT, qA, reduceCtorEq, qB, qC, qD, qE, qF, qG, qH, qI, qJ, qK, qL, reduceIte, t1, t2, t5, Int.natCast_add]; first | done | rfl | (congr 1; omega))
        · omega
        · exact ⟨by omega, fun j h1 hj h2 => by first | exact absurd h2 h | exact h2.elim⟩
    · have e : (if k = 4 then idxE es s else -1) = -1 := by
        by_cases h : k = 4
        · rw [if_pos h, idxE_none fun j hj => hall j hj (by omega) h]
        · rw [if_neg h]
      rw [e]
      repeat first | simp -implicitDefEqProofs (disch := first | omega | with_reducible assumption | (simp only [qU, qC]; omega)) only [qT, qA, reduceCtorEq, qB, qC, qD, qE, qF, qG, qH, qI, qJ, qK, qL, reduceIte, F49_l0, t1, t2, t5, g1, cutL3_2] | refine OrW.go ?_

theorem caught_no (m : AMem) (p : Value) : PureC Tryd.prog 3 40 [.nilIface, p] m (.bool false) := by
  refine pure_of_W (fn := Tryd.f40) rfl rfl F40_ok (by simp [F40]) (.bool _) ?_
  have e : eqV .iface .nilIface .nilIface = some true := rfl
  repeat first | simp -implicitDefEqProofs (disch := first | omega | with_reducible assumption | (simp only [qU, qC]; omega)) only [qT, qA, reduceCtorEq, qB, qC, qD, qE, qF, qG, qH, qI, qJ, qK, qL, reduceIte, F40, e] | refine OrW.go ?_
theorem caught_yes (m : AMem) (b : Nat) (e : Int) {v : Value} {T : TypeId} {sp : Spare} (hb : b < m.size) (hm : m.get b = .cells [v] T true sp) :
    DetC Tryd.prog 3 40 [.iface 30 (.int .i64 e), .pointer (some ⟨b, 0, none⟩)] m (.bool true) (mx (m.set b (.cells [.int .i64 e] T true sp)) []) := by
  refine det_exact (fn := Tryd.f40) rfl rfl F40_ok (by simp [F40]) ?_
  have e1 : eqV .iface (.iface 30 (.int .i64 e)) .nilIface = some false := rfl
  repeat first | simp -implicitDefEqProofs (disch := first | omega | with_reducible assumption | (simp only [qU, qC]; omega)) only [qT, qA, reduceCtorEq, qB, qC, qD, qE, qF, qG, qH, qI, qJ, qK, qL, reduceIte, F40, stepOp_tas, hm, e1] | refine OrW.go ?_
  done
end Go.Proofs.YtfjgpeoblnpelaaDoor
namespace Go.Proofs.YtfjgpeoblnpelaaDoor
open Go Go.AM
set_option linter.unusedVariables false
set_option linter.unusedSimpArgs false
set_option maxRecDepth 100000
set_option maxHeartbeats 2000000

theorem d39_no (m : AMem) (b : Nat) : ACallD Tryd.prog 3 39 [.pointer (some ⟨b, 0, none⟩)] .ret m fun e u m' => e = .ret (.tuple #[]) ∧ u = .ret ∧ m' = mx m [] := by
  have k := fun M => DetC.known (caught_no M (.pointer (some ⟨b, 0, none⟩)))
  refine defer_of_W (fn := Tryd.f39) rfl rfl F39_ok (by simp [F39]) ?_
  rw [recA_ret]
  repeat first | simp -implicitDefEqProofs (disch := first | omega | with_reducible assumption | (simp only [qU, qC]; omega)) only [qT, qA, reduceCtorEq, qB, qC, qD, qE, qF, qG, qH, qI, qJ, qK, qL, reduceIte, F39, recTail, k] | refine OrW.go ?_
theorem d39_yes (m : AMem) (b : Nat) (x : Int) {v : Value} {T : TypeId} {sp : Spare} (hb : b < m.size) (hm : m.get b = .cells [v] T true sp) :
    ACallD Tryd.prog 3 39 [.pointer (some ⟨b, 0, none⟩)] (.pan (errC 30 x)) m fun e u m' => e = .ret (.tuple #[]) ∧ u = .pan [{ v := .iface 30 (.int .i64 x), recovered := true }] ∧ m' = mx (m.set b (.cells [.int .i64 x] T true sp)) [] := by
  have k := DetC.known (caught_yes (mx m []) b x (by rw [mx_nil_size]; exact hb) ((mx_old hb).trans hm))
  refine defer_of_W (fn := Tryd.f39) rfl rfl F39_ok (by simp [F39]) ?_
  rw [recA_err]
  rw [mx_set_old hb, mx_mx] at k
  repeat first | simp -implicitDefEqProofs (disch := first | omega | with_reducible assumption | (simp only [qU, qC]; omega)) only [qT, qA, reduceCtorEq, qB, qC, qD, qE, qF, qG, qH, qI, qJ, qK, qL, reduceIte, F39, recTail, k] | refine OrW.go ?_
def zN : List Value := [.int .u8 0, .string ⟨#[]⟩, .slice none 0 0]
theorem d44_no (m : AMem) (b c : Nat) : ACallD Tryd.prog 3 44 [.pointer (some ⟨b, 0, none⟩), .pointer (some ⟨c, 0, none⟩)] .ret m fun e u m' => e = .ret (.tuple #[]) ∧ u = .ret ∧ m' = mx m [] := by
  have k := fun M => DetC.known (caught_no M (.pointer (some ⟨b, 0, none⟩)))
  refine defer_of_W (fn := Tryd.f44) rfl rfl F44_ok (by simp [F44]) ?_
  rw [recA_ret]
  repeat first | simp -implicitDefEqProofs (disch := first | omega | with_reducible assumption | (simp only [qU, qC]; omega)) only [qT, qA, reduceCtorEq, qB, qC, qD, qE, qF, qG, qH, qI, qJ, qK, qL, reduceIte, F44, recTail, k] | refine OrW.go ?_
theorem d44_yes (m : AMem) (b c : Nat) (x : Int) {v v1 v2 v3 : Value} {T T2 : TypeId} {sp sp2 : Spare} (hb : b < m.size) (hm : m.get b = .cells [v] T true sp) (hc : c < m.size) (hmc : m.get c = .cells [v1, v2, v3] T2 true sp2) (hne : c ≠ b) :
    ACallD Tryd.prog 3 44 [.pointer (some ⟨b, 0, none⟩), .pointer (some ⟨c, 0, none⟩)] (.pan (errC 30 x)) m fun e u m' => e = .ret (.tuple #[]) ∧ u = .pan [{ v := .iface 30 (.int .i64 x), recovered := true }] ∧
      m' = mx ((m.set b (.cells [.int .i64 x] T true sp)).set c (.cells zN T2 true sp2)) [] := by
  have k := DetC.known (caught_yes (mx m []) b x (by rw [mx_nil_size]; exact hb) ((mx_old hb).trans hm))
  refine defer_of_W (fn := Tryd.f44) rfl rfl F44_ok (by simp [F44]) ?_
  rw [recA_err]
  rw [mx_set_old hb, mx_mx] at k
  repeat first | simp -implicitDefEqProofs (disch := first | omega | with_reducible assumption | (simp only [qU, qC]; omega)) only [qT, qA, reduceCtorEq, qB, qC, qD, qE, qF, qG, qH, qI, qJ, qK, qL, reduceIte, F44, recTail, k, hmc, cellsOf_node, splice3, zN] | refine OrW.go ?_
  done
theorem d51_no (m : AMem) (b c : Nat) : ACallD Tryd.prog 3 51 [.pointer (some ⟨b, 0, none⟩), .pointer (some ⟨c, 0, none⟩)] .ret m fun e u m' => e = .ret (.tuple #[]) ∧ u = .ret ∧ m' = mx m [] := by
  have k := fun M => DetC.known (caught_no M (.pointer (some ⟨b, 0, none⟩)))
  refine defer_of_W (fn := Tryd.f51) rfl rfl F51_ok (by simp [F51]) ?_
  rw [recA_ret]
  repeat first | simp -implicitDefEqProofs (disch := first | omega | with_reducible assumption | (simp only [qU, qC]; omega)) only [qT, qA, reduceCtorEq, qB, qC, qD, qE, qF, qG, qH, qI, qJ, qK, qL, reduceIte, F51, recTail, k] | refine OrW.go ?_
theorem d51_yes (m : AMem) (b c : Nat) (x : Int) {v v1 v2 v3 : Value} {T T2 : TypeId} {sp sp2 : Spare} (hb : b < m.size) (hm : m.get b = .cells [v] T true sp) (hc : c < m.size) (hmc : m.get c = .cells [v1, v2, v3] T2 true sp2) (hne : c ≠ b) :
    ACallD Tryd.prog 3 51 [.pointer (some ⟨b, 0, none⟩), .pointer (some ⟨c, 0, none⟩)] (.pan (errC 30 x)) m fun e u m' => e = .ret (.tuple #[]) ∧ u = .pan [{ v := .iface 30 (.int .i64 x), recovered := true }] ∧
      m' = mx ((m.set b (.cells [.int .i64 x] T true sp)).set c (.cells zN T2 true sp2)) [] := by
  have k := DetC.known (caught_yes (mx m []) b x (by rw [mx_nil_size]; exact hb) ((mx_old hb).trans hm))
  refine defer_of_W (fn := Tryd.f51) rfl rfl F51_ok (by simp [F51]) ?_
  rw [recA_err]
  rw [mx_set_old hb, mx_mx] at k
  repeat first | simp -implicitDefEqProofs (disch := first | omega | with_reducible assumption | (simp only [qU, qC]; omega)) only [qT, qA, reduceCtorEq, qB, qC, qD, qE, qF, qG, qH, qI, qJ, qK, qL, reduceIte, F51, recTail, k, hmc, cellsOf_node, splice3, zN] | refine OrW.go ?_
  done
end Go.Proofs.YtfjgpeoblnpelaaDoor
namespace Go.Proofs.YtfjgpeoblnpelaaDoor
open Go Go.AM
set_option linter.unusedVariables false
set_option linter.unusedSimpArgs false
set_option maxRecDepth 100000
set_option maxHeartbeats 2000000

theorem walk_ok {l : Nat} {m0 : AMem} {O : Nat → Prop} {b0 : Nat} {J : List (Nat × Tr) → AMem → Prop} {X : AMem → Prop} {E : List PanicEntry → AMem → Prop} (hY : YieldT Tryd.prog 3 l m0 O b0 J X E) (t : Tr) :
    ∀ (n : Nat) (r : List (Nat × Tr)) (M : AMem) (c : List Value), TrC m0 t c → J (t.pre n ++ r) M → b0 ≤ M.size → n + t.depth ≤ 1000000000 → t.count ≤ 1000000000 →
      ACall Tryd.prog 3 61 [.agg c.toArray, .int .i64 n, .func (.yield l) #[] #[]] (mx M []) fun r' M' => Keep O (mx M []) M' ∧ ((r' = .ret (.bool true) ∧ J r M') ∨ (r' = .ret (.bool false) ∧ X M') ∨ ∃ c, r' = .pan c ∧ E c M') := by
  induction t using Tr.ind2 with
  | h k d es ih =>
    intro n r M c hc hJ hb0 hn hcnt
    rw [Tr.pre_nd] at hJ
    have hlenes := countL_len es
    simp only [Tr.count] at hcnt
    obtain ⟨a, cap, rfl, hE⟩ := trC_nd hc
    refine ACall_of_W (fn := Tryd.f61) rfl rfl F61_ok (by simp [F61]) ?_
    have hy := (hY.call n _ _ _ _ (hY.jst _ _ _ hJ (Old.here M [.cells [.int .u8 k, .string ⟨d.toArray⟩, .slice a es.length cap] 26 true .exact])) hc).nil
    rw [mx_mx, List.append_nil] at hy
    repeat first | simp -implicitDefEqProofs (disch := first | omega | with_reducible assumption | (simp only [qU, qC]; omega)) only [qT, qA, reduceCtorEq, qB, qC, qD, qE, qF, qG, qH, qI, qJ, qK, qL, reduceIte, F61, cellsOf_node, CallvW_yield] | refine OrW.go ?_
    refine AYield.call hy ?_
    rintro r' M1 ⟨hk, h⟩
    have hbx : M1.get M.size = .cells [.int .u8 k, .string ⟨d.toArray⟩, .slice a es.length cap] 26 true .exact := by
      rw [hk.2 M.size (by rw [mx_size]; simp) (fun h => by have := hY.off _ h; omega)]
      exact mx_new0 _ _
    have hM1 : M.size < M1.size := by have := hk.1; rw [mx_size] at this; simp at this; omega
    have hk1 : Keep O (mx M []) M1 := ⟨by rw [mx_nil_size]; omega, fun x hx hn => by
      rw [mx_nil_size] at hx
      rw [hk.2 x (by rw [mx_size]; omega) hn, mx_old hx, mx_old hx]⟩
    rcases h with ⟨rfl, h⟩ | ⟨rfl, h⟩ | ⟨c, rfl, h⟩
    case inr.inl =>
      repeat first | simp -implicitDefEqProofs (disch := first | omega | with_reducible assumption | (simp only [qU, qC]; omega)) only [qT, qA, reduceCtorEq, qB, qC, qD, qE, qF, qG, qH, qI, qJ, qK, qL, reduceIte] | refine OrW.go ?_
      exact ⟨hk1.mx _, .inr (.inl (hY.xst _ _ h (Old.here _ _)))⟩
    case inr.inr =>
      repeat first | simp -implicitDefEqProofs (disch := first | omega | with_reducible assumption | (simp only [qU, qC]; omega)) only [qT, qA, reduceCtorEq, qB, qC, qD, qE, qF, qG, qH, qI, qJ, qK, qL, reduceIte] | refine OrW.go ?_
      exact ⟨hk1.mx _, .inr (.inr ⟨_, rfl, hY.est _ _ _ h (Old.here _ _)⟩)⟩
    have hJ1 : J (preL (es.drop 0) (n + 1) ++ r) M1 := by rw [List.drop_zero]; exact h
    simp only [Tr.depth] at hn
    repeat first | simp -implicitDefEqProofs (disch := first | omega | with_reducible assumption | (simp only [qU, qC]; omega)) only [qT, qA, reduceCtorEq, qB, qC, qD, qE, qF, qG, qH, qI, qJ, qK, qL, reduceIte, hbx, cutL3_2] | refine OrW.go ?_
    refine W_loop (fun N qs => ∃ (i : Nat) (N0 : AMem), N = es.length - i ∧ qs.ds = [] ∧ qs.m = mx N0 [] ∧ qs.t 1 = .int .i64 n ∧ qs.t 2 = .func (.yield l) #[] #[] ∧ qs.t 15 = .slice a es.length cap ∧ qs.t 16 = .int .i64 es.length ∧ qs.t 17 = .int .i64 i ∧ i ≤ es.length ∧ Keep O (mx M []) N0 ∧ b0 ≤ N0.size ∧ J (preL (es.drop i) (n + 1) ++ r) N0) (es.length - (0)) ⟨0, M1, rfl, rfl, ?qm, ?q1, ?q2, ?q15, ?q16, ?q17, ?_⟩ ?_
    case qm | q1 | q2 | q15 | q16 | q17 => first | rfl | (simp -implicitDefEqProofs (disch := first | omega | with_reducible assumption | (simp only [qU, qC]; omega)) only [qT, qA, reduceCtorEq, qB, qC, qD, qE, qF, qG, qH, qI, qJ, qK, qL, reduceIte]; first | done | rfl | (congr 1; omega))
    · exact ⟨by omega, hk1, by omega, hJ1⟩
    · rintro N t m1 ds ⟨i, N0, rfl, hds, hm, t1, t2, t15, t16, t17, hp⟩
      simp only at hds hm t1 t2 t15 t16 t17
      subst hds; replace hm := hm.symm; subst hm
      obtain ⟨hi0, hkN, hbN, hJN⟩ := hp
      by_cases g1 : (i : Int) < (es.length : Int)
      · have hi : i < es.length := by omega
        have hdep := depth_get hi
        have hcs := countL_succ hi
        have hcl := countL_le es (i + 1)
        have hEN := hE.old (hY.mem _ _ hJN)
        obtain ⟨b, o, a', cap', rfl, hbb, hE', q4, q3, q0⟩ := hEN.get hi
        obtain ⟨b2, o2, a2', cap2', e2, hbb2, hE2', p4, p3, p0⟩ := hE.get hi
        cases e2
        rw [(hY.mem _ _ hJN).2 b hbb2, p4] at q4
        cases q4
        rw [preL_drop hi, List.append_assoc] at hJN
        have kI := ih i hi (n + 1) (preL (es.drop (i + 1)) (n + 1) ++ r) (mx N0 [.cells [.string ⟨es[i].n.toArray⟩, .int .u8 es[i].t.k, .string ⟨es[i].t.d.toArray⟩, .slice a' es[i].t.es.length cap'] 48 true .exact]) _ (TrC.of hE2')
          (hY.jst _ _ _ hJN (Old.here N0 _)) (by rw [mx_size]; omega) (by omega) (by omega)
        rw [mx_mx, List.append_nil] at kI
        have en : ((n : Int) + 1) = ((n + 1 : Nat) : Int) := by omega
        have p4' := p4
        rw [← (hY.mem _ _ hJN).2 b hbb2] at p4'
        repeat first | simp -implicitDefEqProofs (disch := first | omega | with_reducible assumption | (simp only [qU, qC]; omega)) only [qT, qA, reduceCtorEq, qB, qC, qD, qE, qF, qG, qH, qI, qJ, qK, qL, reduceIte, F61_l0, t1, t2, t15, t16, t17, g1, p4', cellsOf_entry, splice4', cutL4_t, en] | refine OrW.go ?_
        refine (ACall.norm kI).mono ?_
        rintro r' m' ⟨M2, rfl, hk2, h2⟩
        have hk3 : Keep O (mx M []) M2 := (hkN.mx _).trans hk2 (fun _ _ h => h)
        have hs2 := hk2.1
        rw [mx_size] at hs2
        simp only [List.length_cons, List.length_nil] at hs2
        rcases h2 with ⟨rfl, h2⟩ | ⟨rfl, h2⟩ | ⟨c, rfl, h2⟩
        · repeat first | simp -implicitDefEqProofs (disch := first | omega | with_reducible assumption | (simp only [qU, qC]; omega)) only [qT, qA, reduceCtorEq, qB, qC, qD, qE, qF, qG, qH, qI, qJ, qK, qL, reduceIte, t1, t2, t15, t16, t17] | refine OrW.go ?_
          rw [LoopK_normal]; refine ⟨_, ?_, i + 1, M2, rfl, rfl, ?qm, ?q1, ?q2, ?q15, ?q16, ?q17, ?_⟩
          case qm | q1 | q2 | q15 | q16 | q17 => first | rfl | (simp -implicitDefEqProofs (disch := first | omega | with_reducible assumption | (simp only [qU, qC]; omega)) only [qT, qA, reduceCtorEq, qB, qC, qD, qE, qF, qG, qH, qI, qJ, qK, qL, reduceIte, t1, t2, t15, t16, t17, Int.natCast_add]; first | done | rfl | (congr 1; omega))
          · omega
          · exact ⟨by omega, hk3, by omega, h2⟩
        · repeat first | simp -implicitDefEqProofs (disch := first | omega | with_reducible assumption | (simp only [qU, qC]; omega)) only [qT, qA, reduceCtorEq, qB, qC, qD, qE, qF, qG, qH, qI, qJ, qK, qL, reduceIte, t1, t2, t15, t16, t17] | refine OrW.go ?_
          exact ⟨hk3.mx _, .inr (.inl (hY.xst _ _ h2 (Old.here _ _)))⟩
        · repeat first | simp -implicitDefEqProofs (disch := first | omega | with_reducible assumption | (simp only [qU, qC]; omega)) only [qT, qA, reduceCtorEq, qB, qC, qD, qE, qF, qG, qH, qI, qJ, qK, qL, reduceIte, t1, t2, t15, t16, t17] | refine OrW.go ?_
          exact ⟨hk3.mx _, .inr (.inr ⟨_, rfl, hY.est _ _ _ h2 (Old.here _ _)⟩)⟩
      · obtain rfl : i = es.length := by omega
        rw [List.drop_of_length_le (Nat.le_refl _)] at hJN
        simp only [preL, List.nil_append] at hJN
        repeat first | simp -implicitDefEqProofs (disch := first | omega | with_reducible assumption | (simp only [qU, qC]; omega)) only [qT, qA, reduceCtorEq, qB, qC, qD, qE, qF, qG, qH, qI, qJ, qK, qL, reduceIte, F61_l0, t1, t2, t15, t16, t17, g1] | refine OrW.go ?_
        exact ⟨hkN.mx _, .inl (hY.jst _ _ _ hJN (Old.here _ _))⟩

theorem nodes_ok (m : AMem) (t : Tr) (c : List Value) (hc : TrC m t c) : DetC Tryd.prog 3 43 [.agg c.toArray] m (.func (.func 60) #[] #[.pointer (some ⟨m.size, 0, none⟩)]) (mx m [.cells c 26 true .exact]) := by
  obtain ⟨a, cap, rfl, hE⟩ := hc.ex
  refine det_exact (fn := Tryd.f43) rfl rfl F43_ok (by simp [F43]) ?_
  simp -implicitDefEqProofs (disch := first | omega | with_reducible assumption | (simp only [qU, qC]; omega)) only [qT, qA, reduceCtorEq, qB, qC, qD, qE, qF, qG, qH, qI, qJ, qK, qL, reduceIte, F43, cellsOf_node]
theorem nodes1_ok (m0 : AMem) (t : Tr) (c : List Value) (bx : Nat) (hc : TrC m0 t c) (hn : t.count ≤ 500000000) :
    IterN Tryd.prog 3 60 [.pointer (some ⟨bx, 0, none⟩)] m0 t (fun M => bx < M.size ∧ M.get bx = .cells c 26 true .exact) := by
  intro l O b0 J X E M hY hI hb hJ
  obtain ⟨a, cap, rfl, hE⟩ := hc.ex
  obtain ⟨i1, i2⟩ := hI
  have hd := t.depth_lt
  have hw := walk_ok hY t 0 [] (mx M []) _ (TrC.of hE) (by rw [List.append_nil]; exact hY.jst _ _ _ hJ (Old.here _ _)) (by rw [mx_nil_size]; exact hb) (by omega) (by omega)
  rw [mx_mx, List.append_nil] at hw
  refine ACall_of_W (fn := Tryd.f60) rfl rfl F60_ok (by simp [F60]) ?_
  have e0 : ((0 : Nat) : Int) = 0 := rfl
  rw [e0] at hw
  repeat first | simp -implicitDefEqProofs (disch := first | omega | with_reducible assumption | (simp only [qU, qC]; omega)) only [qT, qA, reduceCtorEq, qB, qC, qD, qE, qF, qG, qH, qI, qJ, qK, qL, reduceIte, F60, i1, i2] | refine OrW.go ?_
  refine (ACall.norm hw).mono ?_
  rintro r' m' ⟨M2, rfl, hk2, h2⟩
  rcases h2 with ⟨rfl, h2⟩ | ⟨rfl, h2⟩ | ⟨c, rfl, h2⟩
  · repeat first | simp -implicitDefEqProofs (disch := first | omega | with_reducible assumption | (simp only [qU, qC]; omega)) only [qT, qA, reduceCtorEq, qB, qC, qD, qE, qF, qG, qH, qI, qJ, qK, qL, reduceIte] | refine OrW.go ?_
    exact ⟨hk2.mx _, .inl ⟨_, rfl, .inl (hY.jst _ _ _ h2 (Old.here _ _))⟩⟩
  · repeat first | simp -implicitDefEqProofs (disch := first | omega | with_reducible assumption | (simp only [qU, qC]; omega)) only [qT, qA, reduceCtorEq, qB, qC, qD, qE, qF, qG, qH, qI, qJ, qK, qL, reduceIte] | refine OrW.go ?_
    exact ⟨hk2.mx _, .inl ⟨_, rfl, .inr (hY.xst _ _ h2 (Old.here _ _))⟩⟩
  · repeat first | simp -implicitDefEqProofs (disch := first | omega | with_reducible assumption | (simp only [qU, qC]; omega)) only [qT, qA, reduceCtorEq, qB, qC, qD, qE, qF, qG, qH, qI, qJ, qK, qL, reduceIte] | refine OrW.go ?_
    exact ⟨hk2.mx _, .inr ⟨_, rfl, hY.est _ _ _ h2 (Old.here _ _)⟩⟩
end Go.Proofs.YtfjgpeoblnpelaaDoor
