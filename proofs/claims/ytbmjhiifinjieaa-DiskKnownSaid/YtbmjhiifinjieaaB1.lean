/- The order of texts; what two functions without a body answer. -/
import Derived.Test.YtbmjhiifinjieaaA4
import Derived.Test.YtbmjhiifinjieaaDskF
set_option linter.unusedVariables false
set_option linter.unusedSimpArgs false
set_option linter.unnecessarySimpa false
namespace Go.AM
set_option linter.unusedVariables false

/-- One row of bytes comes before another one. -/
abbrev ltB (a b : List UInt8) : Bool := Op.bytesLess a b
theorem ltB_nil (a : List UInt8) : ltB a [] = false := by cases a <;> rfl
theorem nil_ltB (b : UInt8) (y : List UInt8) : ltB [] (b :: y) = true := rfl
theorem ltB_cons (a b : UInt8) (x y : List UInt8) : ltB (a :: x) (b :: y) = (decide (a < b) || (a == b && ltB x y)) := rfl
theorem ltB_irrefl : ∀ a : List UInt8, ltB a a = false
  | [] => rfl
  | a :: x => by
    rw [ltB_cons, ltB_irrefl x]
    have : ¬ a < a := by rw [UInt8.lt_iff_toNat_lt]; omega
    simp [this]
theorem ltB_trans : ∀ {a b c : List UInt8}, ltB a b = true → ltB b c = true → ltB a c = true
  | _, [], _, h, _ => by rw [ltB_nil] at h; cases h
  | _, _ :: _, [], _, h => by rw [ltB_nil] at h; cases h
  | [], _ :: _, _ :: _, _, _ => rfl
  | a :: x, b :: y, c :: z, h, k => by
    rw [ltB_cons] at h k ⊢
    simp only [Bool.or_eq_true, decide_eq_true_eq, Bool.and_eq_true, beq_iff_eq] at h k ⊢
    rw [UInt8.lt_iff_toNat_lt] at h k ⊢
    rcases h with h | ⟨rfl, h⟩
    · rcases k with k | ⟨rfl, k⟩
      · left; omega
      · left; exact h
    · rcases k with k | ⟨rfl, k⟩
      · left; exact k
      · right; exact ⟨rfl, ltB_trans h k⟩
theorem ltB_tri : ∀ (a b : List UInt8), ltB a b = true ∨ a = b ∨ ltB b a = true
  | [], [] => .inr (.inl rfl)
  | [], _ :: _ => .inl rfl
  | _ :: _, [] => .inr (.inr rfl)
  | a :: x, b :: y => by
    rw [ltB_cons, ltB_cons]
    simp only [Bool.or_eq_true, decide_eq_true_eq, Bool.and_eq_true, beq_iff_eq, List.cons.injEq]
    rw [UInt8.lt_iff_toNat_lt, UInt8.lt_iff_toNat_lt]
    rcases Nat.lt_trichotomy a.toNat b.toNat with h | h | h
    · exact .inl (.inl h)
    · have e : a = b := UInt8.toNat_inj.1 h
      rcases ltB_tri x y with k | k | k
      · exact .inl (.inr ⟨e, k⟩)
      · exact .inr (.inl ⟨e, k⟩)
      · exact .inr (.inr (.inr ⟨e.symm, k⟩))
    · exact .inr (.inr (.inl h))
theorem ltB_asymm {a b : List UInt8} (h : ltB a b = true) : ltB b a = false := by
  cases hb : ltB b a with
  | false => rfl
  | true => have := ltB_trans h hb; rw [ltB_irrefl] at this; cases this
theorem ltB_ne {a b : List UInt8} (h : ltB a b = true) : a ≠ b := fun e => by subst e; rw [ltB_irrefl] at h; cases h

/-- How one row of bytes stands to another one. -/
def cmpB (a b : List UInt8) : Int := if ltB a b then -1 else if a = b then 0 else 1
theorem cmpB_lt (a b : List UInt8) : (cmpB a b < 0) = (ltB a b = true) := by
  unfold cmpB; split
  · simp_all
  · split <;> simp_all
theorem cmpB_eq (a b : List UInt8) : (cmpB a b = 0) = (a = b) := by
  unfold cmpB; split
  · rename_i h; have := ltB_ne h; simp [this]
  · split <;> simp_all
theorem cmpB_cons (a b : UInt8) (x y : List UInt8) : cmpB (a :: x) (b :: y) = if a = b then cmpB x y else if a < b then -1 else 1 := by
  unfold cmpB
  rw [ltB_cons]
  by_cases e : a = b
  · subst e
    have : ¬ a < a := by rw [UInt8.lt_iff_toNat_lt]; omega
    simp [this]
  · simp [e]
/-- The same, by the first place where they differ. -/
def cmpL (a b : List UInt8) : Int :=
  match (List.range (min a.length b.length)).find? fun i => a[i]?.getD default != b[i]?.getD default with
  | some i => if a[i]?.getD default < b[i]?.getD default then -1 else 1
  | none => if a.length < b.length then -1 else if a.length > b.length then 1 else 0
theorem find_range_succ (p : Nat → Bool) (n : Nat) : (List.range (n + 1)).find? p = if p 0 then some 0 else ((List.range n).find? fun i => p (i + 1)).map (· + 1) := by
  rw [List.range_succ_eq_map, List.find?_cons]
  cases p 0 with
  | true => rfl
  | false =>
    simp only [Bool.false_eq_true, if_false]
    rw [List.find?_map]; rfl
theorem cmpL_eq : ∀ (a b : List UInt8), cmpL a b = cmpB a b
  | [], [] => rfl
  | [], b :: y => rfl
  | a :: x, [] => rfl
  | a :: x, b :: y => by
    rw [cmpB_cons, ← cmpL_eq x y]
    unfold cmpL
    rw [show min (a :: x).length (b :: y).length = min x.length y.length + 1 by simp only [List.length_cons]; omega, find_range_succ]
    simp only [List.getElem?_cons_zero, Option.getD_some, List.getElem?_cons_succ, List.length_cons]
    by_cases e : a = b
    · subst e
      simp only [bne_self_eq_false, Bool.false_eq_true, if_false, if_true]
      cases (List.range (min x.length y.length)).find? fun i => x[i]?.getD default != y[i]?.getD default with
      | none => simp
      | some i => simp
    · simp [e]
theorem cmp_mk (a b : List UInt8) : Extern.BytealgCompare.cmp ⟨a.toArray⟩ ⟨b.toArray⟩ = cmpB a b := by
  have hg : ∀ (l : List UInt8) (i : Nat), (⟨l.toArray⟩ : ByteArray)[i]! = l[i]?.getD default := fun l i => by
    by_cases h : i < l.length
    · have hs : i < (⟨l.toArray⟩ : ByteArray).size := by rw [mk_size]; exact h
      rw [getElem!_pos (⟨l.toArray⟩ : ByteArray) i hs]
      simp [h]; rfl
    · have hs : ¬ i < (⟨l.toArray⟩ : ByteArray).size := by rw [mk_size]; exact h
      rw [getElem!_neg (⟨l.toArray⟩ : ByteArray) i hs]
      simp [h]
  rw [← cmpL_eq]
  simp only [Extern.BytealgCompare.cmp, cmpL, mk_size, hg]
  rfl
theorem strLt_mk (a b : List UInt8) : strLt ⟨a.toArray⟩ ⟨b.toArray⟩ = ltB a b := by
  have h : ∀ l : List UInt8, (⟨l.toArray⟩ : ByteArray).toList = l := fun l => by simp
  simp only [strLt, h]
theorem binV_slss (x y : ByteArray) : binV .lss (.string x) (.string y) = some (.bool (strLt x y)) := by simp [binV, sbin]
theorem binV_sgtr (x y : ByteArray) : binV .gtr (.string x) (.string y) = some (.bool (!(strLt x y || strEq x y))) := by simp [binV, sbin]
theorem binV_sleq (x y : ByteArray) : binV .leq (.string x) (.string y) = some (.bool (strLt x y || strEq x y)) := by simp [binV, sbin]
end Go.AM
namespace Go.Proofs.Ytbmjhiifinjieaa
open Go Go.AM
set_option linter.unusedVariables false
set_option linter.unusedSimpArgs false

theorem cmpstr_ok (m : AMem) (a b : List UInt8) : PureC Try.prog 0 74 [.string ⟨a.toArray⟩, .string ⟨b.toArray⟩] m (.int .i64 (cmpB a b)) := by
  refine ACall_ext (fn := Try.f74) (e := Extern.BytealgCompare.compare) rfl rfl rfl rfl rfl ?_
  intro ρ w args' hR hA
  obtain ⟨args'⟩ := args'
  match args', hA with
  | [x, y], hA =>
    have h1 : VRel ρ (.string ⟨a.toArray⟩) x := hA.2 0 (by simp) (by simp)
    have h2 : VRel ρ (.string ⟨b.toArray⟩) y := hA.2 1 (by simp) (by simp)
    obtain rfl := h1.string_inv
    obtain rfl := h2.string_inv
    refine ⟨.int .i64 (cmpB a b), .int .i64 (cmpB a b), ?_, .int _ _, rfl, rfl⟩
    rw [← cmp_mk]
    change Sem.run Try.prog (do pure (goInt (Extern.BytealgCompare.cmp (← Extern.Bytes.bytesOf (.string ⟨a.toArray⟩)) (← Extern.Bytes.bytesOf (.string ⟨b.toArray⟩))))) w = _
    simp only [Extern.Bytes.bytesOf, Sem.run_bind, Sem.run_pure, Result.andThen]
    rfl
  | [], hA => simp [LRel] at hA
  | [_], hA => simp [LRel] at hA
  | _ :: _ :: _ :: _, hA => simp [LRel] at hA

theorem slice_inv {ρ : Ren} {b o l c : Nat} {v : Value} (h : VRel ρ (.slice (some ⟨b, o, none⟩) l c) v) : ∃ A c', v = .slice (some A) l c' ∧ (l = 0 ∨ ∃ L, ρ b = some L ∧ A = ⟨L.cb, L.co + o, none⟩) := by
  cases h with
  | slice h hc => exact ⟨_, _, rfl, .inr ⟨_, h, rfl⟩⟩
  | sliceOpen h hc hs => exact ⟨_, _, rfl, .inr ⟨_, h, rfl⟩⟩
  | sliceEnd h hc => exact ⟨_, _, rfl, .inl rfl⟩

theorem not_stringish {G : Nat} {m : AMem} {ρ : Ren} {w : World} (hR : Rep G m ρ w) {b o : Nat} {L : AM.Loc} (hL : ρ b = some L) {X : List Value} {e : TypeId} {sp : Spare} (hm : m.get b = .cells X e true sp) (hs : sp.size ≠ 1) (ho : o < X.length) :
    w.frozen? ⟨L.cb, L.co + o, none⟩ = false ∧ ∃ n, w.shape? L.cb = some (e, n) ∧ w.frozen? ⟨L.cb, n, none⟩ = false := by
  obtain ⟨carr, frz, hB⟩ := hR.blk hL hm
  refine ⟨?_, carr.size, ?_, ?_⟩
  · rw [frozen_of_heap hB.heap]
    have := (hB.free rfl).1 o (by have := hB.len; omega)
    simp only [Bool.and_eq_false_iff, decide_eq_false_iff_not]; omega
  · simp only [World.shape?, hB.heap]
  · rw [frozen_of_heap hB.heap]
    have := (hB.free rfl).2 hs
    simp only [Bool.and_eq_false_iff, decide_eq_false_iff_not]; omega

set_option maxRecDepth 100000 in
theorem overlaps_ok (m : AMem) {b o l c b2 o2 l2 c2 : Nat} {X X2 : List Value} {e e2 : TypeId} {sp sp2 : Spare} (hne : b ≠ b2) (h1 : m.get b = .cells X e true sp) (hs1 : sp.size ≠ 1) (ho : o < X.length)
    (h2 : m.get b2 = .cells X2 e2 true sp2) (hs2 : sp2.size ≠ 1) (ho2 : 0 < l2 → o2 < X2.length) :
    PureC Try.prog 0 71 [.slice (some ⟨b, o, none⟩) l c, .slice (some ⟨b2, o2, none⟩) l2 c2] m (.bool false) := by
  refine ACall_ext (fn := Try.f71) (e := Extern.SlicesOverlaps.overlaps Try.f71.params Try.f71.resultTypes) rfl rfl rfl rfl rfl ?_
  intro ρ w args' hR hA
  obtain ⟨args'⟩ := args'
  match args', hA with
  | [x, y], hA =>
    obtain ⟨A, c', rfl, g1⟩ := slice_inv (show VRel ρ (.slice (some ⟨b, o, none⟩) l c) x from hA.2 0 (by simp) (by simp))
    obtain ⟨B, d', rfl, g2⟩ := slice_inv (show VRel ρ (.slice (some ⟨b2, o2, none⟩) l2 c2) y from hA.2 1 (by simp) (by simp))
    refine ⟨.bool false, .bool false, ?_, .bool _, rfl, rfl⟩
    have hu : Try.prog.underlying 58 = some (.slice 63) := by kernel_rfl
    have hz : (Try.prog.info? 63).map (·.size) = some 4 := by kernel_rfl
    have hp : Try.f71.params = #[58, 58] := rfl
    rw [hp]
    obtain ⟨ti, hti⟩ : ∃ ti, Try.prog.info? 63 = some ti := by
      cases hi : Try.prog.info? 63 with
      | none => rw [hi] at hz; cases hz
      | some ti => exact ⟨ti, rfl⟩
    have hcz : Try.prog.cellsOf 63 = 4 := by rw [hti] at hz; simp only [Option.map_some, Option.some.injEq] at hz; simp [Program.cellsOf, hti, hz]
    have heq : ∀ A B : Addr, Extern.SlicesOverlaps.overlaps #[58, 58] Try.f71.resultTypes #[.slice (some A) l c', .slice (some B) l2 d'] = (do
        let .slice elem ← underlying 58 | stuck "slices.overlaps: slice type expected"
        let size ← sizeOf elem
        if l = 0 ∨ l2 = 0 ∨ size = 0 then pure (.bool false)
        else if A.block != B.block && (← frozen A) && (← frozen B) then unsupported .addressObserved
        else do
          if A.block != B.block then do
            noView A; noView B
            if ← mayBeOne A B then return .bool ((← choose (.extern "sameAddr.stringBytes" 2)) == 1)
          pure (.bool (A.block == B.block && A.off < B.off + l2 * size && B.off < A.off + l * size))) := fun A B => rfl
    rw [heq]
    by_cases hl : l = 0 ∨ l2 = 0
    · have hl' : l = 0 ∨ l2 = 0 ∨ False := by rcases hl with h | h <;> simp [h]
      simp [Sem.run_bind, run_underlying hu, run_sizeOf _ hti, hcz, Result.andThen, hl']
      intro h1' h2'; exact (hl.elim h1' h2').elim
    · have hl' : ¬ (l = 0 ∨ l2 = 0 ∨ False) := by simpa using hl
      obtain ⟨L, hL, rfl⟩ := g1.resolve_left fun h => hl (.inl h)
      obtain ⟨L2, hL2, rfl⟩ := g2.resolve_left fun h => hl (.inr h)
      have hcb : L.cb ≠ L2.cb := hR.sep b b2 L L2 hL hL2 hne (by rw [h1]; rfl) (by rw [h2]; rfl) (by rw [h1]; rfl)
      obtain ⟨f1, n1, s1, f2⟩ := not_stringish hR hL h1 hs1 ho
      obtain ⟨f3, n2, s2, f4⟩ := not_stringish hR hL2 h2 hs2 (ho2 (by omega))
      simp [Sem.run_bind, run_underlying hu, run_sizeOf _ hti, hcz, Result.andThen, hl', hcb, frozen, f1, f3, noView, viewAt, shape, s1, s2, mayBeOne, stringish, f2, f4, Sem.run, Sem.bind]
  | [], hA => simp [LRel] at hA
  | [_], hA => simp [LRel] at hA
  | _ :: _ :: _ :: _, hA => simp [LRel] at hA
end Go.Proofs.Ytbmjhiifinjieaa
namespace Go.Proofs.Ytbmjhiifinjieaa
open Go Go.AM
set_option linter.unusedVariables false
set_option linter.unusedSimpArgs false

/-- No name. -/
def badN (s : List UInt8) : Bool := decide (s = []) || decide (128 < s.length)
theorem bad_ok (m : AMem) (s : List UInt8) (h : s.length ≤ 9223372036854775807) : PureC Try.prog 0 56 [.string ⟨s.toArray⟩] m (.bool (badN s)) := by
  refine pure_of_W (fn := Try.f56) rfl rfl F56_ok (by simp [F56]) (.bool _) ?_
  have e : strEq ⟨s.toArray⟩ ⟨#[]⟩ = decide (s = []) := strEq_mk s []
  by_cases h0 : s = []
  · simp (implicitDefEqProofs := false) (maxSteps := 1000000) (disch := first | omega | with_reducible assumption | (simp only [lenT, Nat.reduceAdd]; omega)) only [amT, cut, bnd, Nat.reduceBEq, reduceCtorEq, Nat.reduceEqDiff, Nat.reduceAdd, Nat.reduceMul, Nat.reduceSub, Int.reduceToNat, Int.reduceEq, Int.reduceLT, Int.reduceLE, Int.reduceAdd, Int.reduceSub, Int.reduceMul, reduceIte, resVs, resV, packV, initT, addr, F56, e, h0, badN]
  · have : (decide ((128 : Int) < (s.length : Int))) = decide (128 < s.length) := by congr 1; exact propext ⟨fun h => by omega, fun h => by omega⟩
    simp (implicitDefEqProofs := false) (maxSteps := 1000000) (disch := first | omega | with_reducible assumption | (simp only [lenT, Nat.reduceAdd]; omega)) only [amT, cut, bnd, Nat.reduceBEq, reduceCtorEq, Nat.reduceEqDiff, Nat.reduceAdd, Nat.reduceMul, Nat.reduceSub, Int.reduceToNat, Int.reduceEq, Int.reduceLT, Int.reduceLE, Int.reduceAdd, Int.reduceSub, Int.reduceMul, reduceIte, resVs, resV, packV, initT, addr, F56, e, h0, badN, this]
theorem kBad (m : AMem) (s : List UInt8) (h : s.length ≤ 9223372036854775807) : type_of% (DetC.known (bad_ok m s h)) := DetC.known (bad_ok m s h)

/-- The place of the first name that is none. -/
def badI (ns : List (List UInt8)) : Int := match ns.findIdx? badN with | some i => i | none => -1
theorem badI_none {ns : List (List UInt8)} (h : ∀ j (hj : j < ns.length), badN ns[j] = false) : badI ns = -1 := by
  have : ns.findIdx? badN = none := by rw [List.findIdx?_eq_none_iff]; intro x hx; obtain ⟨j, hj, rfl⟩ := List.mem_iff_getElem.1 hx; exact h j hj
  simp [badI, this]
theorem badI_some {ns : List (List UInt8)} {i : Nat} (hi : i < ns.length) (h : ∀ j (hj : j < i), badN (ns[j]'(by omega)) = false) (hb : badN ns[i] = true) : badI ns = i := by
  have : ns.findIdx? badN = some i := by rw [List.findIdx?_eq_some_iff_getElem]; exact ⟨hi, hb, fun j hj => by simp [h j hj]⟩
  simp [badI, this]
theorem badI_any (ns : List (List UInt8)) : decide (0 ≤ badI ns) = ns.any badN := by
  unfold badI
  cases h : ns.findIdx? badN with
  | none =>
    rw [List.findIdx?_eq_none_iff] at h
    have : ns.any badN = false := by rw [List.any_eq_false]; intro x hx; simp [h x hx]
    simp [this]
  | some i =>
    rw [List.findIdx?_eq_some_iff_getElem] at h
    obtain ⟨h1, h2, _⟩ := h
    have : ns.any badN = true := List.any_eq_true.2 ⟨_, List.getElem_mem h1, h2⟩
    simp [this]

theorem indexF_ok (m : AMem) (b cap : Nat) (ns : List (List UInt8)) (hn : ns.length ≤ 1000) (hs : ∀ s ∈ ns, s.length ≤ 9223372036854775807) (hb : b < m.size) {e : TypeId} {w : Bool} {sp : Spare} (hm : m.get b = .cells (ns.map strV) e w sp) :
    PureC Try.prog 0 69 [.slice (some ⟨b, 0, none⟩) ns.length cap, .func (.func 56) #[] #[]] m (.int .i64 (badI ns)) := by
  refine pure_of_W (fn := Try.f69) rfl rfl F69_ok (by simp [F69]) (.int _ _) ?_
  simp (implicitDefEqProofs := false) (maxSteps := 1000000) (disch := first | omega | with_reducible assumption | (simp only [lenT, Nat.reduceAdd]; omega)) only [amT, cut, bnd, Nat.reduceBEq, reduceCtorEq, Nat.reduceEqDiff, Nat.reduceAdd, Nat.reduceMul, Nat.reduceSub, Int.reduceToNat, Int.reduceEq, Int.reduceLT, Int.reduceLE, Int.reduceAdd, Int.reduceSub, Int.reduceMul, reduceIte, resVs, resV, packV, initT, addr, F69]
  refine W_loop (fun N qs => ∃ (i : Nat), N = ns.length - i ∧ qs.ds = [] ∧ qs.m = mx m [] ∧ qs.t 0 = .slice (some ⟨b, 0, none⟩) ns.length cap ∧ qs.t 1 = .func (.func 56) #[] #[] ∧ qs.t 7 = .int .i64 ns.length ∧ qs.t 8 = .int .i64 i ∧ i ≤ ns.length ∧ ∀ j (hj : j < i) (hl : j < ns.length), badN ns[j] = false) (ns.length - (0)) ⟨0, rfl, rfl, ?qm, ?q0, ?q1, ?q7, ?q8, ?_⟩ ?_
  case qm | q0 | q1 | q7 | q8 => first | rfl | (simp (implicitDefEqProofs := false) (maxSteps := 1000000) (disch := first | omega | with_reducible assumption | (simp only [lenT, Nat.reduceAdd]; omega)) only [amT, cut, bnd, Nat.reduceBEq, reduceCtorEq, Nat.reduceEqDiff, Nat.reduceAdd, Nat.reduceMul, Nat.reduceSub, Int.reduceToNat, Int.reduceEq, Int.reduceLT, Int.reduceLE, Int.reduceAdd, Int.reduceSub, Int.reduceMul, reduceIte, resVs, resV, packV, initT, addr]; first | done | rfl | (congr 1; omega))
  · exact ⟨by omega, fun j hj => by omega⟩
  · rintro N t m1 ds ⟨i, rfl, hds, hm, t0, t1, t7, t8, hp⟩
    simp only at hds hm t0 t1 t7 t8
    subst hds; replace hm := hm.symm; subst hm
    obtain ⟨hi, hp⟩ := hp
    by_cases h1 : (i : Int) < (ns.length : Int)
    · have h2 : i < ns.length := by omega
      have gx := strs_get h2
      rw [strV_def] at gx
      have kb := kBad (mx m []) ns[i] (hs _ (List.getElem_mem h2))
      cases hbad : badN ns[i] with
      | true =>
        rw [hbad] at kb
        repeat first | simp (implicitDefEqProofs := false) (maxSteps := 1000000) (disch := first | omega | with_reducible assumption | (simp only [lenT, Nat.reduceAdd]; omega)) only [amT, cut, bnd, Nat.reduceBEq, reduceCtorEq, Nat.reduceEqDiff, Nat.reduceAdd, Nat.reduceMul, Nat.reduceSub, Int.reduceToNat, Int.reduceEq, Int.reduceLT, Int.reduceLE, Int.reduceAdd, Int.reduceSub, Int.reduceMul, reduceIte, resVs, resV, packV, initT, addr, F69_l0, t0, t1, t7, t8, h1, hm, gx, kb] | refine OrW.go ?_
        rw [badI_some h2 (fun j hj => hp j hj (by omega)) hbad]
      | false =>
        rw [hbad] at kb
        repeat first | simp (implicitDefEqProofs := false) (maxSteps := 1000000) (disch := first | omega | with_reducible assumption | (simp only [lenT, Nat.reduceAdd]; omega)) only [amT, cut, bnd, Nat.reduceBEq, reduceCtorEq, Nat.reduceEqDiff, Nat.reduceAdd, Nat.reduceMul, Nat.reduceSub, Int.reduceToNat, Int.reduceEq, Int.reduceLT, Int.reduceLE, Int.reduceAdd, Int.reduceSub, Int.reduceMul, reduceIte, resVs, resV, packV, initT, addr, F69_l0, t0, t1, t7, t8, h1, hm, gx, kb] | refine OrW.go ?_
        rw [LoopK_normal]; refine ⟨_, ?_, i + 1, rfl, rfl, ?qm, ?q0, ?q1, ?q7, ?q8, ?_⟩
        case qm | q0 | q1 | q7 | q8 => first | rfl | (simp (implicitDefEqProofs := false) (maxSteps := 1000000) (disch := first | omega | with_reducible assumption | (simp only [lenT, Nat.reduceAdd]; omega)) only [amT, cut, bnd, Nat.reduceBEq, reduceCtorEq, Nat.reduceEqDiff, Nat.reduceAdd, Nat.reduceMul, Nat.reduceSub, Int.reduceToNat, Int.reduceEq, Int.reduceLT, Int.reduceLE, Int.reduceAdd, Int.reduceSub, Int.reduceMul, reduceIte, resVs, resV, packV, initT, addr, t0, t1, t7, t8]; first | done | rfl | (congr 1; omega))
        · omega
        · refine ⟨by omega, fun j hj hl => ?_⟩
          by_cases e : j = i
          · subst e; exact hbad
          · exact hp j (by omega) hl
    · simp (implicitDefEqProofs := false) (maxSteps := 1000000) (disch := first | omega | with_reducible assumption | (simp only [lenT, Nat.reduceAdd]; omega)) only [amT, cut, bnd, Nat.reduceBEq, reduceCtorEq, Nat.reduceEqDiff, Nat.reduceAdd, Nat.reduceMul, Nat.reduceSub, Int.reduceToNat, Int.reduceEq, Int.reduceLT, Int.reduceLE, Int.reduceAdd, Int.reduceSub, Int.reduceMul, reduceIte, resVs, resV, packV, initT, addr, F69_l0, t0, t1, t7, t8, h1]
      rw [badI_none fun j hj => hp j (by omega) hj]

theorem contains_ok (m : AMem) (b cap : Nat) (ns : List (List UInt8)) (hn : ns.length ≤ 1000) (hs : ∀ s ∈ ns, s.length ≤ 9223372036854775807) (hb : b < m.size) {e : TypeId} {w : Bool} {sp : Spare} (hm : m.get b = .cells (ns.map strV) e w sp) :
    PureC Try.prog 0 55 [.slice (some ⟨b, 0, none⟩) ns.length cap, .func (.func 56) #[] #[]] m (.bool (ns.any badN)) := by
  refine pure_of_W (fn := Try.f55) rfl rfl F55_ok (by simp [F55]) (.bool _) ?_
  have k := DetC.known (indexF_ok (mx m []) b cap ns hn hs (by rw [mx_nil_size]; exact hb) (by rw [mx_old hb]; exact hm))
  repeat first | simp (implicitDefEqProofs := false) (maxSteps := 1000000) (disch := first | omega | with_reducible assumption | (simp only [lenT, Nat.reduceAdd]; omega)) only [amT, cut, bnd, Nat.reduceBEq, reduceCtorEq, Nat.reduceEqDiff, Nat.reduceAdd, Nat.reduceMul, Nat.reduceSub, Int.reduceToNat, Int.reduceEq, Int.reduceLT, Int.reduceLE, Int.reduceAdd, Int.reduceSub, Int.reduceMul, reduceIte, resVs, resV, packV, initT, addr, F55, k] | refine OrW.go ?_
  rw [badI_any]

/-- What bars a call. -/
def barsE (off : Bool) (ns : List (List UInt8)) : Int := if off then 40 else if ns.any badN then 2 else 0
theorem bars_ok (m : AMem) (p b cap : Nat) (ns : List (List UInt8)) (hn : ns.length ≤ 1000) (hs : ∀ s ∈ ns, s.length ≤ 9223372036854775807) (hb : b < m.size) {e : TypeId} {w : Bool} {sp : Spare} (hm : m.get b = .cells (ns.map strV) e w sp)
    (hp : p < m.size) {v : Value} {q st se : Value} {off : Bool} {e2 : TypeId} {w2 : Bool} {sp2 : Spare} (hd : m.get p = .cells [v, q, st, se, .bool off] e2 w2 sp2) :
    PureC Try.prog 0 32 [.pointer (some ⟨p, 0, none⟩), .slice (some ⟨b, 0, none⟩) ns.length cap] m (.int .i64 (barsE off ns)) := by
  refine pure_of_W (fn := Try.f32) rfl rfl F32_ok (by simp [F32]) (.int _ _) ?_
  have k := DetC.known (contains_ok (mx m []) b cap ns hn hs (by rw [mx_nil_size]; exact hb) (by rw [mx_old hb]; exact hm))
  cases off with
  | true =>
    repeat first | simp (implicitDefEqProofs := false) (maxSteps := 1000000) (disch := first | omega | with_reducible assumption | (simp only [lenT, Nat.reduceAdd]; omega)) only [amT, cut, bnd, Nat.reduceBEq, reduceCtorEq, Nat.reduceEqDiff, Nat.reduceAdd, Nat.reduceMul, Nat.reduceSub, Int.reduceToNat, Int.reduceEq, Int.reduceLT, Int.reduceLE, Int.reduceAdd, Int.reduceSub, Int.reduceMul, reduceIte, resVs, resV, packV, initT, addr, F32, eqV_pn, hd] | refine OrW.go ?_
    rfl
  | false =>
    cases hbad : ns.any badN with
    | true =>
      rw [hbad] at k
      repeat first | simp (implicitDefEqProofs := false) (maxSteps := 1000000) (disch := first | omega | with_reducible assumption | (simp only [lenT, Nat.reduceAdd]; omega)) only [amT, cut, bnd, Nat.reduceBEq, reduceCtorEq, Nat.reduceEqDiff, Nat.reduceAdd, Nat.reduceMul, Nat.reduceSub, Int.reduceToNat, Int.reduceEq, Int.reduceLT, Int.reduceLE, Int.reduceAdd, Int.reduceSub, Int.reduceMul, reduceIte, resVs, resV, packV, initT, addr, F32, eqV_pn, hd, k] | refine OrW.go ?_
      simp [barsE, hbad]
    | false =>
      rw [hbad] at k
      repeat first | simp (implicitDefEqProofs := false) (maxSteps := 1000000) (disch := first | omega | with_reducible assumption | (simp only [lenT, Nat.reduceAdd]; omega)) only [amT, cut, bnd, Nat.reduceBEq, reduceCtorEq, Nat.reduceEqDiff, Nat.reduceAdd, Nat.reduceMul, Nat.reduceSub, Int.reduceToNat, Int.reduceEq, Int.reduceLT, Int.reduceLE, Int.reduceAdd, Int.reduceSub, Int.reduceMul, reduceIte, resVs, resV, packV, initT, addr, F32, eqV_pn, hd, k] | refine OrW.go ?_
      simp [barsE, hbad]
theorem bars_nil (m : AMem) (x : Value) : PureC Try.prog 0 32 [.pointer none, x] m (.int .i64 1) := by
  refine pure_of_W (fn := Try.f32) rfl rfl F32_ok (by simp [F32]) (.int _ _) ?_
  repeat first | simp (implicitDefEqProofs := false) (maxSteps := 1000000) (disch := first | omega | with_reducible assumption | (simp only [lenT, Nat.reduceAdd]; omega)) only [amT, cut, bnd, Nat.reduceBEq, reduceCtorEq, Nat.reduceEqDiff, Nat.reduceAdd, Nat.reduceMul, Nat.reduceSub, Int.reduceToNat, Int.reduceEq, Int.reduceLT, Int.reduceLE, Int.reduceAdd, Int.reduceSub, Int.reduceMul, reduceIte, resVs, resV, packV, initT, addr, F32, eqV_nn] | refine OrW.go ?_

theorem cmp70_ok (m : AMem) (a b : List UInt8) : PureC Try.prog 0 70 [.string ⟨a.toArray⟩, .string ⟨b.toArray⟩] m (.int .i64 (cmpB a b)) := by
  refine pure_of_W (fn := Try.f70) rfl rfl F70_ok (by simp [F70]) (.int _ _) ?_
  have k := fun M => DetC.known (cmpstr_ok M a b)
  repeat first | simp (implicitDefEqProofs := false) (maxSteps := 1000000) (disch := first | omega | with_reducible assumption | (simp only [lenT, Nat.reduceAdd]; omega)) only [amT, cut, bnd, Nat.reduceBEq, reduceCtorEq, Nat.reduceEqDiff, Nat.reduceAdd, Nat.reduceMul, Nat.reduceSub, Int.reduceToNat, Int.reduceEq, Int.reduceLT, Int.reduceLE, Int.reduceAdd, Int.reduceSub, Int.reduceMul, reduceIte, resVs, resV, packV, initT, addr, F70, k] | refine OrW.go ?_
theorem cmp59_ok (m : AMem) (a b : List UInt8) : PureC Try.prog 0 59 [.string ⟨a.toArray⟩, .string ⟨b.toArray⟩] m (.int .i64 (cmpB a b)) := by
  refine pure_of_W (fn := Try.f59) rfl rfl F59_ok (by simp [F59]) (.int _ _) ?_
  have k := fun M => DetC.known (cmp70_ok M a b)
  repeat first | simp (implicitDefEqProofs := false) (maxSteps := 1000000) (disch := first | omega | with_reducible assumption | (simp only [lenT, Nat.reduceAdd]; omega)) only [amT, cut, bnd, Nat.reduceBEq, reduceCtorEq, Nat.reduceEqDiff, Nat.reduceAdd, Nat.reduceMul, Nat.reduceSub, Int.reduceToNat, Int.reduceEq, Int.reduceLT, Int.reduceLE, Int.reduceAdd, Int.reduceSub, Int.reduceMul, reduceIte, resVs, resV, packV, initT, addr, F59, k] | refine OrW.go ?_
theorem cmp58_ok (m : AMem) (a b : List UInt8) (a1 : Option Addr) (l1 c1 : Nat) (a2 : Option Addr) (l2 c2 : Nat) (bb : Bool) :
    PureC Try.prog 0 58 [.agg [.string ⟨a.toArray⟩, .slice a1 l1 c1, .slice a2 l2 c2, .bool bb].toArray, .string ⟨b.toArray⟩] m (.int .i64 (cmpB a b)) := by
  refine pure_of_W (fn := Try.f58) rfl rfl F58_ok (by simp [F58]) (.int _ _) ?_
  have k := fun M => DetC.known (cmp59_ok M a b)
  repeat first | simp (implicitDefEqProofs := false) (maxSteps := 1000000) (disch := first | omega | with_reducible assumption | (simp only [lenT, Nat.reduceAdd]; omega)) only [amT, cut, bnd, Nat.reduceBEq, reduceCtorEq, Nat.reduceEqDiff, Nat.reduceAdd, Nat.reduceMul, Nat.reduceSub, Int.reduceToNat, Int.reduceEq, Int.reduceLT, Int.reduceLE, Int.reduceAdd, Int.reduceSub, Int.reduceMul, reduceIte, resVs, resV, packV, initT, addr, F58, cellsOf_row4, k] | refine OrW.go ?_
end Go.Proofs.Ytbmjhiifinjieaa
namespace Go.Proofs.Ytbmjhiifinjieaa
open Go Go.AM
set_option linter.unusedVariables false
set_option linter.unusedSimpArgs false
set_option linter.unusedSectionVars false
variable [Ex]

structure FileR where
  name : List UInt8
  dry : List UInt8
  wet : List UInt8
  born : Bool
  deriving DecidableEq
def FileR.all (f : FileR) : List UInt8 := f.dry ++ f.wet
def FileR.size (f : FileR) : Nat := f.dry.length + f.wet.length

/-- The cells of a file. -/
def fRow (f : FileR) (a1 : Option Addr) (c1 : Nat) (a2 : Option Addr) (c2 : Nat) : List Value := [.string ⟨f.name.toArray⟩, .slice a1 f.dry.length c1, .slice a2 f.wet.length c2, .bool f.born]
def FCell (m : AMem) (cs : List Value) (f : FileR) : Prop := ∃ a1 c1 a2 c2, cs = fRow f a1 c1 a2 c2 ∧ ByV 5 m (.slice a1 f.dry.length c1) f.dry ∧ ByV 5 m (.slice a2 f.wet.length c2) f.wet
def zF : List Value := [.string ⟨#[]⟩, .slice none 0 0, .slice none 0 0, .bool false]
/-- The k-th four cells of a row. -/
def cell (X : List Value) (k : Nat) : List Value := (X.drop (4 * k)).take 4
/-- A slice of files. -/
def FilesV (m : AMem) (v : Value) (fs : List FileR) : Prop :=
  (fs = [] ∧ (v = .slice none 0 0 ∨ ∃ b, v = .slice (some ⟨b, 0, none⟩) 0 0 ∧ b < m.size ∧ m.get b = .cells [] 63 true .exact)) ∨
  ∃ b X sp, v = .slice (some ⟨b, 0, none⟩) fs.length openCap ∧ b < m.size ∧ m.get b = .cells X 63 true sp ∧ (sp = .room zF ∨ sp = .full 4) ∧ 4 * fs.length ≤ X.length ∧ X.length % 4 = 0 ∧ ∀ k (h : k < fs.length), FCell m (cell X k) fs[k]
/-- The blocks that a slice of files has for itself. -/
def ownV (v : Value) (x : Nat) : Prop := ∃ o l c, v = .slice (some ⟨x, o, none⟩) l c

theorem FCell.keep {m m' : AMem} {cs : List Value} {f : FileR} (h : FCell m cs f) {O : Nat → Prop} (hk : Keep O m m') (ho : ∀ x X w sp, m.get x = .cells X 5 w sp → ¬ O x) : FCell m' cs f := by
  obtain ⟨a1, c1, a2, c2, h1, h2, h3⟩ := h
  exact ⟨a1, c1, a2, c2, h1, h2.keep hk ho, h3.keep hk ho⟩
theorem FilesV.len {m : AMem} {v : Value} {fs : List FileR} (h : FilesV m v fs) : ∃ a cap, v = .slice a fs.length cap := by
  rcases h with ⟨rfl, rfl | ⟨b, rfl, _⟩⟩ | ⟨b, X, sp, rfl, _⟩
  · exact ⟨_, _, rfl⟩
  · exact ⟨_, _, rfl⟩
  · exact ⟨_, _, rfl⟩
theorem FilesV.keep {m m' : AMem} {v : Value} {fs : List FileR} (h : FilesV m v fs) {O : Nat → Prop} (hk : Keep O m m') (ho : ∀ x X w sp, m.get x = .cells X 5 w sp → ¬ O x) (hv : ∀ x, ownV v x → ¬ O x) : FilesV m' v fs := by
  rcases h with ⟨h, h' | ⟨b, rfl, h1, h2⟩⟩ | ⟨b, X, sp, rfl, h1, h2, h3, h4, h5, h6⟩
  · exact .inl ⟨h, .inl h'⟩
  · exact .inl ⟨h, .inr ⟨b, rfl, Nat.lt_of_lt_of_le h1 hk.1, by rw [hk.2 b h1 (hv b ⟨_, _, _, rfl⟩)]; exact h2⟩⟩
  · exact .inr ⟨b, X, sp, rfl, Nat.lt_of_lt_of_le h1 hk.1, by rw [hk.2 b h1 (hv b ⟨_, _, _, rfl⟩)]; exact h2, h3, h4, h5, fun k hk' => (h6 k hk').keep hk ho⟩
theorem FilesV.old {m m' : AMem} {v : Value} {fs : List FileR} (h : FilesV m v fs) (hk : Old m m') : FilesV m' v fs := h.keep (hk.keep fun _ => False) (fun _ _ _ _ _ h => h) (fun _ _ h => h)
/-- Its k-th file. -/
theorem FilesV.get {m : AMem} {a : Option Addr} {n cap : Nat} {fs : List FileR} (h : FilesV m (.slice a n cap) fs) {k : Nat} (hk : k < fs.length) :
    ∃ b a1 c1 a2 c2, a = some ⟨b, 0, none⟩ ∧ b < m.size ∧ rd m b (k * 4) 4 = some (fRow fs[k] a1 c1 a2 c2) ∧ ByV 5 m (.slice a1 fs[k].dry.length c1) fs[k].dry ∧ ByV 5 m (.slice a2 fs[k].wet.length c2) fs[k].wet := by
  rcases h with ⟨rfl, _⟩ | ⟨b, X, sp, h0, h1, h2, h3, h4, h5, h6⟩
  · simp at hk
  · obtain ⟨a1, c1, a2, c2, e1, e2, e3⟩ := h6 k hk
    cases h0
    refine ⟨b, a1, c1, a2, c2, rfl, h1, ?_, e2, e3⟩
    rw [rd_def, h2, rdO_cells]
    unfold cutL
    unfold cell at e1
    rw [if_pos (by omega), Nat.mul_comm k 4, e1]

/-- By their names. -/
def Sorted (fs : List FileR) : Prop := fs.Pairwise fun a b => ltB a.name b.name = true
/-- Where a name stands, or would. -/
def place (fs : List FileR) (s : List UInt8) : Nat := fs.findIdx fun f => !ltB f.name s
def isAt (fs : List FileR) (s : List UInt8) : Bool := match fs[place fs s]? with | some f => decide (f.name = s) | none => false

theorem place_of {fs : List FileR} {s : List UInt8} {i : Nat} (hi : i ≤ fs.length) (h1 : ∀ k (hk : k < fs.length), k < i → ltB fs[k].name s = true) (h2 : ∀ k (hk : k < fs.length), i ≤ k → ltB fs[k].name s = false) : place fs s = i := by
  unfold place
  rcases Nat.lt_or_ge i fs.length with h | h
  · rw [List.findIdx_eq h]
    exact ⟨by simp [h2 i h (Nat.le_refl _)], fun j hj => by simp [h1 j (by omega) hj]⟩
  · obtain rfl : i = fs.length := by omega
    rw [List.findIdx_eq_length]
    intro x hx
    obtain ⟨j, hj, rfl⟩ := List.mem_iff_getElem.1 hx
    simp [h1 j hj hj]
theorem isAt_of {fs : List FileR} {s : List UInt8} {i : Nat} (h : place fs s = i) : isAt fs s = (match fs[i]? with | some f => decide (f.name = s) | none => false) := by unfold isAt; rw [h]

theorem bsearch_ok (m : AMem) (a : Option Addr) (cap : Nat) (fs : List FileR) (s : List UInt8) (hF : FilesV m (.slice a fs.length cap) fs) (hS : Sorted fs) (hn : fs.length ≤ 1000000) :
    PureC Try.prog 0 57 [.slice a fs.length cap, .string ⟨s.toArray⟩, .func (.func 58) #[] #[]] m (.tuple #[.int .i64 (place fs s), .bool (isAt fs s)]) := by
  refine pure_of_W (fn := Try.f57) rfl rfl F57_ok (by simp [F57]) (.tuple2 (.int _ _) (.bool _)) ?_
  simp (implicitDefEqProofs := false) (maxSteps := 1000000) (disch := first | omega | with_reducible assumption | (simp only [lenT, Nat.reduceAdd]; omega)) only [amT, cut, bnd, Nat.reduceBEq, reduceCtorEq, Nat.reduceEqDiff, Nat.reduceAdd, Nat.reduceMul, Nat.reduceSub, Int.reduceToNat, Int.reduceEq, Int.reduceLT, Int.reduceLE, Int.reduceAdd, Int.reduceSub, Int.reduceMul, reduceIte, resVs, resV, packV, initT, addr, F57]
  refine W_loop (fun N qs => ∃ (i j : Nat), N = j - i ∧ qs.ds = [] ∧ qs.m = mx m [] ∧ qs.t 0 = .slice a fs.length cap ∧ qs.t 1 = .string ⟨s.toArray⟩ ∧ qs.t 2 = .func (.func 58) #[] #[] ∧ qs.t 8 = .int .i64 fs.length ∧ qs.t 9 = .int .i64 i ∧ qs.t 10 = .int .i64 j ∧ i ≤ j ∧ j ≤ fs.length ∧ (∀ k (hk : k < fs.length), k < i → ltB fs[k].name s = true) ∧ (∀ k (hk : k < fs.length), j ≤ k → ltB fs[k].name s = false)) ((fs.length) - (0)) ⟨0, fs.length, rfl, rfl, ?qm, ?q0, ?q1, ?q2, ?q8, ?q9, ?q10, ?_⟩ ?_
  case qm | q0 | q1 | q2 | q8 | q9 | q10 => first | rfl | (simp (implicitDefEqProofs := false) (maxSteps := 1000000) (disch := first | omega | with_reducible assumption | (simp only [lenT, Nat.reduceAdd]; omega)) only [amT, cut, bnd, Nat.reduceBEq, reduceCtorEq, Nat.reduceEqDiff, Nat.reduceAdd, Nat.reduceMul, Nat.reduceSub, Int.reduceToNat, Int.reduceEq, Int.reduceLT, Int.reduceLE, Int.reduceAdd, Int.reduceSub, Int.reduceMul, reduceIte, resVs, resV, packV, initT, addr]; first | done | rfl | (congr 1; omega))
  · exact ⟨by omega, by omega, fun k _ h => by omega, fun k h1 h2 => by omega⟩
  · rintro N t m1 ds ⟨i, j, rfl, hds, hm, t0, t1, t2, t8, t9, t10, hp⟩
    simp only at hds hm t0 t1 t2 t8 t9 t10
    subst hds; replace hm := hm.symm; subst hm
    obtain ⟨hi, hj, p1, p2⟩ := hp
    have hp := List.pairwise_iff_getElem.1 hS
    by_cases h1 : (i : Int) < (j : Int)
    · have hsh : shr .u64 ((i : Int) + (j : Int)) 1 = (((i + j) / 2 : Nat) : Int) := by
        have := shr_nat .u64 (i + j) 1 (by decide)
        rw [Nat.shiftRight_eq_div_pow, Nat.pow_one] at this
        rw [← this]; norm_cast
      have hm : (i + j) / 2 < fs.length := by omega
      obtain ⟨b, a1, c1, a2, c2, rfl, hb, hr, _⟩ := hF.get hm
      rw [rd_def] at hr
      have k := fun M => DetC.known (cmp58_ok M fs[(i + j) / 2].name s a1 fs[(i + j) / 2].dry.length c1 a2 fs[(i + j) / 2].wet.length c2 fs[(i + j) / 2].born)
      repeat first | simp (implicitDefEqProofs := false) (maxSteps := 1000000) (disch := first | omega | with_reducible assumption | (simp only [lenT, Nat.reduceAdd]; omega)) only [amT, cut, bnd, Nat.reduceBEq, reduceCtorEq, Nat.reduceEqDiff, Nat.reduceAdd, Nat.reduceMul, Nat.reduceSub, Int.reduceToNat, Int.reduceEq, Int.reduceLT, Int.reduceLE, Int.reduceAdd, Int.reduceSub, Int.reduceMul, reduceIte, resVs, resV, packV, initT, addr, F57_l0, t0, t1, t2, t8, t9, t10, h1, hsh, binV_shr, hr, fRow, k] | refine OrW.go ?_
      refine BoolW_dec (fun h => ?_) (fun h => ?_)
      · rw [cmpB_lt] at h
        rw [LoopK_normal]; refine ⟨_, ?_, (i + j) / 2 + 1, j, rfl, rfl, ?qm, ?q0, ?q1, ?q2, ?q8, ?q9, ?q10, ?_⟩
        case qm | q0 | q1 | q2 | q8 | q9 | q10 => first | rfl | (simp (implicitDefEqProofs := false) (maxSteps := 1000000) (disch := first | omega | with_reducible assumption | (simp only [lenT, Nat.reduceAdd]; omega)) only [amT, cut, bnd, Nat.reduceBEq, reduceCtorEq, Nat.reduceEqDiff, Nat.reduceAdd, Nat.reduceMul, Nat.reduceSub, Int.reduceToNat, Int.reduceEq, Int.reduceLT, Int.reduceLE, Int.reduceAdd, Int.reduceSub, Int.reduceMul, reduceIte, resVs, resV, packV, initT, addr, t0, t1, t2, t8, t9, t10]; first | done | rfl | (congr 1; omega))
        · omega
        · refine ⟨by omega, hj, fun k hk hki => ?_, p2⟩
          rcases Nat.lt_or_ge k ((i + j) / 2) with h' | h'
          · exact ltB_trans (hp k ((i + j) / 2) hk hm h') h
          · obtain rfl : k = (i + j) / 2 := by omega
            exact h
      · rw [cmpB_lt] at h
        rw [LoopK_normal]; refine ⟨_, ?_, i, (i + j) / 2, rfl, rfl, ?qm, ?q0, ?q1, ?q2, ?q8, ?q9, ?q10, ?_⟩
        case qm | q0 | q1 | q2 | q8 | q9 | q10 => first | rfl | (simp (implicitDefEqProofs := false) (maxSteps := 1000000) (disch := first | omega | with_reducible assumption | (simp only [lenT, Nat.reduceAdd]; omega)) only [amT, cut, bnd, Nat.reduceBEq, reduceCtorEq, Nat.reduceEqDiff, Nat.reduceAdd, Nat.reduceMul, Nat.reduceSub, Int.reduceToNat, Int.reduceEq, Int.reduceLT, Int.reduceLE, Int.reduceAdd, Int.reduceSub, Int.reduceMul, reduceIte, resVs, resV, packV, initT, addr, t0, t1, t2, t8, t9, t10]; first | done | rfl | (congr 1; omega))
        · omega
        · refine ⟨by omega, by omega, p1, fun k hk hki => ?_⟩
          cases hl : ltB fs[k].name s with
          | false => rfl
          | true =>
            rcases Nat.eq_or_lt_of_le hki with h' | h'
            · subst h'; exact absurd hl h
            · exact absurd (ltB_trans (hp _ k hm hk h') hl) h
    · obtain rfl : i = j := by omega
      have hpl := place_of hj p1 p2
      rw [isAt_of hpl, hpl]
      by_cases h2 : (i : Int) < (fs.length : Int)
      · have hm : i < fs.length := by omega
        obtain ⟨b, a1, c1, a2, c2, rfl, hb, hr, _⟩ := hF.get hm
        rw [rd_def] at hr
        have k := fun M => DetC.known (cmp58_ok M fs[i].name s a1 fs[i].dry.length c1 a2 fs[i].wet.length c2 fs[i].born)
        repeat first | simp (implicitDefEqProofs := false) (maxSteps := 1000000) (disch := first | omega | with_reducible assumption | (simp only [lenT, Nat.reduceAdd]; omega)) only [amT, cut, bnd, Nat.reduceBEq, reduceCtorEq, Nat.reduceEqDiff, Nat.reduceAdd, Nat.reduceMul, Nat.reduceSub, Int.reduceToNat, Int.reduceEq, Int.reduceLT, Int.reduceLE, Int.reduceAdd, Int.reduceSub, Int.reduceMul, reduceIte, resVs, resV, packV, initT, addr, F57_l0, t0, t1, t2, t8, t9, t10, h1, h2, hr, fRow, k] | refine OrW.go ?_
        simp [hm, cmpB_eq]
      · have hm : ¬ i < fs.length := by omega
        repeat first | simp (implicitDefEqProofs := false) (maxSteps := 1000000) (disch := first | omega | with_reducible assumption | (simp only [lenT, Nat.reduceAdd]; omega)) only [amT, cut, bnd, Nat.reduceBEq, reduceCtorEq, Nat.reduceEqDiff, Nat.reduceAdd, Nat.reduceMul, Nat.reduceSub, Int.reduceToNat, Int.reduceEq, Int.reduceLT, Int.reduceLE, Int.reduceAdd, Int.reduceSub, Int.reduceMul, reduceIte, resVs, resV, packV, initT, addr, F57_l0, t0, t1, t2, t8, t9, t10, h1, h2] | refine OrW.go ?_
        simp [hm]

theorem find_ok (m : AMem) (p : Nat) (a : Option Addr) (cap : Nat) (fs : List FileR) (s : List UInt8) (hp : p < m.size) {q st se off : Value} {e2 : TypeId} {w2 : Bool} {sp2 : Spare} (hd : m.get p = .cells [.slice a fs.length cap, q, st, se, off] e2 w2 sp2)
    (hF : FilesV m (.slice a fs.length cap) fs) (hS : Sorted fs) (hn : fs.length ≤ 1000000) :
    PureC Try.prog 0 33 [.pointer (some ⟨p, 0, none⟩), .string ⟨s.toArray⟩] m (.tuple #[.int .i64 (place fs s), .bool (isAt fs s)]) := by
  refine pure_of_W (fn := Try.f33) rfl rfl F33_ok (by simp [F33]) (.tuple2 (.int _ _) (.bool _)) ?_
  have k := DetC.known (bsearch_ok (mx m []) a cap fs s (hF.old (Old.here _ _)) hS hn)
  repeat first | simp (implicitDefEqProofs := false) (maxSteps := 1000000) (disch := first | omega | with_reducible assumption | (simp only [lenT, Nat.reduceAdd]; omega)) only [amT, cut, bnd, Nat.reduceBEq, reduceCtorEq, Nat.reduceEqDiff, Nat.reduceAdd, Nat.reduceMul, Nat.reduceSub, Int.reduceToNat, Int.reduceEq, Int.reduceLT, Int.reduceLE, Int.reduceAdd, Int.reduceSub, Int.reduceMul, reduceIte, resVs, resV, packV, initT, addr, F33, hd, k] | refine OrW.go ?_

theorem size34_ok (m : AMem) (f : FileR) (a1 : Option Addr) (c1 : Nat) (a2 : Option Addr) (c2 : Nat) (h : f.size ≤ 9223372036854775807) : PureC Try.prog 0 34 [.agg (fRow f a1 c1 a2 c2).toArray] m (.int .i64 f.size) := by
  refine pure_of_W (fn := Try.f34) rfl rfl F34_ok (by simp [F34]) (.int _ _) ?_
  have e : f.size = f.dry.length + f.wet.length := rfl
  rw [e] at h
  repeat first | simp (implicitDefEqProofs := false) (maxSteps := 1000000) (disch := first | omega | with_reducible assumption | (simp only [lenT, Nat.reduceAdd]; omega)) only [amT, cut, bnd, Nat.reduceBEq, reduceCtorEq, Nat.reduceEqDiff, Nat.reduceAdd, Nat.reduceMul, Nat.reduceSub, Int.reduceToNat, Int.reduceEq, Int.reduceLT, Int.reduceLE, Int.reduceAdd, Int.reduceSub, Int.reduceMul, reduceIte, resVs, resV, packV, initT, addr, F34, fRow, cellsOf_row4] | refine OrW.go ?_
  simp [e]
end Go.Proofs.Ytbmjhiifinjieaa
namespace Go.Proofs.Ytbmjhiifinjieaa
open Go Go.AM
set_option linter.unusedVariables false
set_option linter.unusedSimpArgs false

theorem rep_byte (n : Nat) : rep [.int .u8 0] n = (List.replicate n (0 : UInt8)).map byteV := by simp [rep, byteV]
theorem grow_ok (m : AMem) (n : Nat) (h0 : 0 < n) (hn : n ≤ 100000000) :
    DetC Try.prog 0 60 [.slice none 0 0, .int .i64 n] m (.slice (some ⟨m.size, 0, none⟩) 0 openCap) (mx m [.cells ((List.replicate n (0 : UInt8)).map byteV) 5 true (.room [.int .u8 0])]) := by
  refine det_exact (fn := Try.f60) rfl rfl F60_ok (by simp [F60]) ?_
  have e : appendTo 5 1 1 [.int .u8 0] (.slice none 0 0) n (rep [.int .u8 0] n) (mx m []) = some (.slice (some ⟨m.size, 0, none⟩) n openCap, mx m [.cells ((List.replicate n (0 : UInt8)).map byteV) 5 true (.room [.int .u8 0])]) := by
    rw [appendTo_nil h0 (by omega) (by omega), mx_push, mx_nil_size, rep_byte]; rfl
  have e1 : slVv 1 (.slice none 0 0) none (some (.int .i64 0)) none (mx m []) = some (.slice none 0 0, mx m []) := by
    simp only [slVv, if_neg (Nat.ne_of_lt zeroCap_lt)]; rfl
  have e2 : slVv 1 (.slice (some ⟨m.size, 0, none⟩) n openCap) none (some (.int .i64 0)) none (mx m [.cells ((List.replicate n (0 : UInt8)).map byteV) 5 true (.room [.int .u8 0])]) = some (.slice (some ⟨m.size, 0, none⟩) 0 openCap, mx m [.cells ((List.replicate n (0 : UInt8)).map byteV) 5 true (.room [.int .u8 0])]) := by
    simp only [slVv, if_true, mx_new0, List.getD_cons_zero, Spare.size, List.length_map, List.length_replicate]
    rw [if_pos (by simp)]
    simp [cutV]
  have h1 : ¬ (n : Int) < 0 := by omega
  have h2 : (0 : Int) < (n : Int) := by omega
  have h3 : 0 ≤ (n : Int) ∧ (n : Int) * ((1 : Nat) : Int) ≤ 281474976710656 ∧ (n : Int) ≤ 9223372036854775807 ∧ [Value.int .u8 0].length = 1 ∧ 0 < 1 := ⟨by omega, by omega, by omega, rfl, by omega⟩
  simp (implicitDefEqProofs := false) (maxSteps := 1000000) (disch := first | omega | with_reducible assumption | (simp only [lenT, Nat.reduceAdd]; omega)) only [amT, cut, bnd, Nat.reduceBEq, reduceCtorEq, Nat.reduceEqDiff, Nat.reduceAdd, Nat.reduceMul, Nat.reduceSub, Int.reduceToNat, Int.reduceEq, Int.reduceLT, Int.reduceLE, Int.reduceAdd, Int.reduceSub, Int.reduceMul, reduceIte, resVs, resV, packV, initT, addr, F60, stepOp_appN, stepOp_slV_v, e1, e, e2, h1, h2, Int.sub_zero]

theorem grow_nil (m : AMem) : PureC Try.prog 0 60 [.slice none 0 0, .int .i64 0] m (.slice none 0 0) := by
  refine pure_of_W (fn := Try.f60) rfl rfl F60_ok (by simp [F60]) (.nilSlice _ _) ?_
  simp (implicitDefEqProofs := false) (maxSteps := 1000000) (disch := first | omega | with_reducible assumption | (simp only [lenT, Nat.reduceAdd]; omega)) only [amT, cut, bnd, Nat.reduceBEq, reduceCtorEq, Nat.reduceEqDiff, Nat.reduceAdd, Nat.reduceMul, Nat.reduceSub, Int.reduceToNat, Int.reduceEq, Int.reduceLT, Int.reduceLE, Int.reduceAdd, Int.reduceSub, Int.reduceMul, reduceIte, resVs, resV, packV, initT, addr, F60, Int.sub_zero]
theorem flat_take_succ {ls : List (List UInt8)} {i : Nat} (h : i < ls.length) : (ls.take (i + 1)).flatten = (ls.take i).flatten ++ ls[i] := by
  rw [List.take_succ_eq_append_getElem h, List.flatten_append]; simp
theorem flat_take_le (ls : List (List UInt8)) (i : Nat) : (ls.take i).flatten.length ≤ ls.flatten.length := by
  conv => rhs; rw [← List.take_append_drop i ls, List.flatten_append, List.length_append]
  omega
theorem app_nilB {M : AMem} {a : Option Addr} {cap : Nat} {e : TypeId} (hs : BSl M a cap []) : appV e 1 1 [.int .u8 0] (.slice none 0 0) (.slice a 0 cap) (mx M []) = some (.slice none 0 0, mx M []) := by
  have hsrc : srcCells 1 0 (.slice a 0 cap) (mx M []) = some [] := by
    have := (hs.old (Old.here M [])).src (n := 0) (Nat.le_refl _)
    simpa using this
  simp only [appV, srcLen_slice, hsrc]
  simp [appendTo]

/-- The first loop: how many bytes there are. -/
theorem concat_nil (m : AMem) (a : Option Addr) (cap : Nat) (ls : List (List UInt8)) (hls : BSS m a ls) (hl : ls.length ≤ 1000) (hn : ls.flatten = []) :
    PureC Try.prog 0 35 [.slice a ls.length cap] m (.slice none 0 0) := by
  have hz : ∀ i, (ls.take i).flatten = [] := fun i => by
    have := flat_take_le ls i
    rw [hn] at this
    exact List.length_eq_zero_iff.1 (by simpa using this)
  refine pure_of_W (fn := Try.f35) rfl rfl F35_ok (by simp [F35]) (.nilSlice _ _) ?_
  simp (implicitDefEqProofs := false) (maxSteps := 1000000) (disch := first | omega | with_reducible assumption | (simp only [lenT, Nat.reduceAdd]; omega)) only [amT, cut, bnd, Nat.reduceBEq, reduceCtorEq, Nat.reduceEqDiff, Nat.reduceAdd, Nat.reduceMul, Nat.reduceSub, Int.reduceToNat, Int.reduceEq, Int.reduceLT, Int.reduceLE, Int.reduceAdd, Int.reduceSub, Int.reduceMul, reduceIte, resVs, resV, packV, initT, addr, F35]
  refine W_loop (fun N qs => ∃ (i : Nat), N = ls.length - i ∧ qs.ds = [] ∧ qs.m = mx m [] ∧ qs.t 0 = .slice a ls.length cap ∧ qs.t 3 = .int .i64 0 ∧ qs.t 9 = .slice a ls.length cap ∧ qs.t 10 = .int .i64 ls.length ∧ qs.t 11 = .int .i64 i ∧ i ≤ ls.length) (ls.length - (0)) ⟨0, rfl, rfl, ?qm, ?q0, ?q3, ?q9, ?q10, ?q11, ?_⟩ ?_
  case qm | q0 | q3 | q9 | q10 | q11 => first | rfl | (simp (implicitDefEqProofs := false) (maxSteps := 1000000) (disch := first | omega | with_reducible assumption | (simp only [lenT, Nat.reduceAdd]; omega)) only [amT, cut, bnd, Nat.reduceBEq, reduceCtorEq, Nat.reduceEqDiff, Nat.reduceAdd, Nat.reduceMul, Nat.reduceSub, Int.reduceToNat, Int.reduceEq, Int.reduceLT, Int.reduceLE, Int.reduceAdd, Int.reduceSub, Int.reduceMul, reduceIte, resVs, resV, packV, initT, addr]; first | done | rfl | (congr 1; omega))
  · omega
  · rintro N t m1 ds ⟨i, rfl, hds, hm, t0, t3, t9, t10, t11, hp⟩
    simp only at hds hm t0 t3 t9 t10 t11
    subst hds; replace hm := hm.symm; subst hm
    by_cases h1 : (i : Int) < (ls.length : Int)
    · have hi : i < ls.length := by omega
      obtain ⟨b, o, a', cap', rfl, hb, hr, hBl⟩ := hls.get hi
      rw [rd_def] at hr
      have hns := flat_take_succ hi
      rw [hz, hz, List.nil_append] at hns
      rw [← hns] at hr
      simp (implicitDefEqProofs := false) (maxSteps := 1000000) (disch := first | omega | with_reducible assumption | (simp only [lenT, Nat.reduceAdd]; omega)) only [amT, cut, bnd, Nat.reduceBEq, reduceCtorEq, Nat.reduceEqDiff, Nat.reduceAdd, Nat.reduceMul, Nat.reduceSub, Int.reduceToNat, Int.reduceEq, Int.reduceLT, Int.reduceLE, Int.reduceAdd, Int.reduceSub, Int.reduceMul, reduceIte, resVs, resV, packV, initT, addr, F35_l0, t0, t3, t9, t10, t11, h1, hr]
      rw [LoopK_normal]; refine ⟨_, ?_, i + 1, rfl, rfl, ?qm, ?q0, ?q3, ?q9, ?q10, ?q11, ?_⟩
      case qm | q0 | q3 | q9 | q10 | q11 => first | rfl | (simp (implicitDefEqProofs := false) (maxSteps := 1000000) (disch := first | omega | with_reducible assumption | (simp only [lenT, Nat.reduceAdd]; omega)) only [amT, cut, bnd, Nat.reduceBEq, reduceCtorEq, Nat.reduceEqDiff, Nat.reduceAdd, Nat.reduceMul, Nat.reduceSub, Int.reduceToNat, Int.reduceEq, Int.reduceLT, Int.reduceLE, Int.reduceAdd, Int.reduceSub, Int.reduceMul, reduceIte, resVs, resV, packV, initT, addr, t0, t3, t9, t10, t11]; first | done | rfl | (congr 1; omega))
      · omega
      · omega
    · have k := fun M => DetC.known (grow_nil M)
      repeat first | simp (implicitDefEqProofs := false) (maxSteps := 1000000) (disch := first | omega | with_reducible assumption | (simp only [lenT, Nat.reduceAdd]; omega)) only [amT, cut, bnd, Nat.reduceBEq, reduceCtorEq, Nat.reduceEqDiff, Nat.reduceAdd, Nat.reduceMul, Nat.reduceSub, Int.reduceToNat, Int.reduceEq, Int.reduceLT, Int.reduceLE, Int.reduceAdd, Int.reduceSub, Int.reduceMul, reduceIte, resVs, resV, packV, initT, addr, F35_l0, t0, t3, t9, t10, t11, h1, k] | refine OrW.go ?_
      refine W_loop (fun N qs => ∃ (i : Nat), N = ls.length - i ∧ qs.ds = [] ∧ qs.m = mx m [] ∧ qs.t 6 = .slice none 0 0 ∧ qs.t 25 = .slice a ls.length cap ∧ qs.t 26 = .int .i64 ls.length ∧ qs.t 27 = .int .i64 i ∧ i ≤ ls.length) (ls.length - (0)) ⟨0, rfl, rfl, ?qm, ?q6, ?q25, ?q26, ?q27, ?_⟩ ?_
      case qm | q6 | q25 | q26 | q27 => first | rfl | (simp (implicitDefEqProofs := false) (maxSteps := 1000000) (disch := first | omega | with_reducible assumption | (simp only [lenT, Nat.reduceAdd]; omega)) only [amT, cut, bnd, Nat.reduceBEq, reduceCtorEq, Nat.reduceEqDiff, Nat.reduceAdd, Nat.reduceMul, Nat.reduceSub, Int.reduceToNat, Int.reduceEq, Int.reduceLT, Int.reduceLE, Int.reduceAdd, Int.reduceSub, Int.reduceMul, reduceIte, resVs, resV, packV, initT, addr, t0, t3, t9, t10, t11]; first | done | rfl | (congr 1; omega))
      · omega
      · rintro N t m1 ds ⟨i, rfl, hds, hm, t6, t25, t26, t27, hp⟩
        simp only at hds hm t6 t25 t26 t27
        subst hds; replace hm := hm.symm; subst hm
        by_cases h1 : (i : Int) < (ls.length : Int)
        · have hi : i < ls.length := by omega
          obtain ⟨b, o, a', cap', rfl, hb, hr, hBl⟩ := hls.get hi
          rw [rd_def] at hr
          have hns := flat_take_succ hi
          rw [hz, hz, List.nil_append] at hns
          rw [← hns] at hr hBl
          have happ := app_nilB (e := 5) hBl
          simp (implicitDefEqProofs := false) (maxSteps := 1000000) (disch := first | omega | with_reducible assumption | (simp only [lenT, Nat.reduceAdd]; omega)) only [amT, cut, bnd, Nat.reduceBEq, reduceCtorEq, Nat.reduceEqDiff, Nat.reduceAdd, Nat.reduceMul, Nat.reduceSub, Int.reduceToNat, Int.reduceEq, Int.reduceLT, Int.reduceLE, Int.reduceAdd, Int.reduceSub, Int.reduceMul, reduceIte, resVs, resV, packV, initT, addr, F35_l1, t6, t25, t26, t27, h1, hr, stepOp_app_v, happ]
          rw [LoopK_normal]; refine ⟨_, ?_, i + 1, rfl, rfl, ?qm, ?q6, ?q25, ?q26, ?q27, ?_⟩
          case qm | q6 | q25 | q26 | q27 => first | rfl | (simp (implicitDefEqProofs := false) (maxSteps := 1000000) (disch := first | omega | with_reducible assumption | (simp only [lenT, Nat.reduceAdd]; omega)) only [amT, cut, bnd, Nat.reduceBEq, reduceCtorEq, Nat.reduceEqDiff, Nat.reduceAdd, Nat.reduceMul, Nat.reduceSub, Int.reduceToNat, Int.reduceEq, Int.reduceLT, Int.reduceLE, Int.reduceAdd, Int.reduceSub, Int.reduceMul, reduceIte, resVs, resV, packV, initT, addr, t6, t25, t26, t27]; first | done | rfl | (congr 1; omega))
          · omega
          · omega
        · simp (implicitDefEqProofs := false) (maxSteps := 1000000) (disch := first | omega | with_reducible assumption | (simp only [lenT, Nat.reduceAdd]; omega)) only [amT, cut, bnd, Nat.reduceBEq, reduceCtorEq, Nat.reduceEqDiff, Nat.reduceAdd, Nat.reduceMul, Nat.reduceSub, Int.reduceToNat, Int.reduceEq, Int.reduceLT, Int.reduceLE, Int.reduceAdd, Int.reduceSub, Int.reduceMul, reduceIte, resVs, resV, packV, initT, addr, F35_l1, t6, t25, t26, t27, h1]

theorem app_in {m : AMem} {a : Option Addr} {cap tot : Nat} {done news : List UInt8} (hs : BSl m a cap news) (ht : done.length + news.length ≤ tot) (hb : tot ≤ 100000000) :
    appV 5 1 1 [.int .u8 0] (.slice (some ⟨m.size, 0, none⟩) done.length openCap) (.slice a news.length cap) (mx m [.cells ((done ++ List.replicate (tot - done.length) 0).map byteV) 5 true (.room [.int .u8 0])]) =
      some (.slice (some ⟨m.size, 0, none⟩) (done ++ news).length openCap, mx m [.cells ((done ++ news ++ List.replicate (tot - (done ++ news).length) 0).map byteV) 5 true (.room [.int .u8 0])]) := by
  have hsrc : srcCells 1 news.length (.slice a news.length cap) (mx m [.cells ((done ++ List.replicate (tot - done.length) 0).map byteV) 5 true (.room [.int .u8 0])]) = some (news.map byteV) := by
    rw [(hs.old (Old.here m _)).src (Nat.le_refl _), List.take_length]
  simp only [appV, srcLen_slice, hsrc]
  rw [if_pos ⟨rfl, by omega, all_bytes _, by simp⟩]
  simp only [appendTo, if_true, mx_new0, List.getD_cons_zero, Spare.size, List.length_cons, List.length_nil]
  rw [if_pos (by simp; omega)]
  by_cases h0 : news.length = 0
  · obtain rfl : news = [] := List.length_eq_zero_iff.1 h0
    simp
  · rw [if_neg h0]
    simp only [List.length_append, Option.some.injEq, Prod.mk.injEq, true_and]
    rw [mx_set0 _ _ _ (by simp)]
    simp only [List.set_cons_zero]
    congr 3
    simp only [splice, List.map_append, List.map_replicate, Nat.zero_add, Nat.mul_one]
    rw [List.take_left' (by simp), List.append_assoc, List.append_assoc]
    congr 2
    rw [List.drop_append, List.drop_of_length_le (by simp)]
    simp; omega

theorem concat_row (m : AMem) (a : Option Addr) (cap : Nat) (ls : List (List UInt8)) (hls : BSS m a ls) (hl : ls.length ≤ 1000) (hn : 0 < ls.flatten.length) (hb : ls.flatten.length ≤ 100000000) :
    DetC Try.prog 0 35 [.slice a ls.length cap] m (.slice (some ⟨m.size, 0, none⟩) ls.flatten.length openCap) (mx m [.cells (ls.flatten.map byteV) 5 true (.room [.int .u8 0])]) := by
  refine det_exact (fn := Try.f35) rfl rfl F35_ok (by simp [F35]) ?_
  simp (implicitDefEqProofs := false) (maxSteps := 1000000) (disch := first | omega | with_reducible assumption | (simp only [lenT, Nat.reduceAdd]; omega)) only [amT, cut, bnd, Nat.reduceBEq, reduceCtorEq, Nat.reduceEqDiff, Nat.reduceAdd, Nat.reduceMul, Nat.reduceSub, Int.reduceToNat, Int.reduceEq, Int.reduceLT, Int.reduceLE, Int.reduceAdd, Int.reduceSub, Int.reduceMul, reduceIte, resVs, resV, packV, initT, addr, F35]
  refine W_loop (fun N qs => ∃ (i : Nat), N = ls.length - i ∧ qs.ds = [] ∧ qs.m = mx m [] ∧ qs.t 0 = .slice a ls.length cap ∧ qs.t 3 = .int .i64 (ls.take i).flatten.length ∧ qs.t 9 = .slice a ls.length cap ∧ qs.t 10 = .int .i64 ls.length ∧ qs.t 11 = .int .i64 i ∧ i ≤ ls.length) (ls.length - (0)) ⟨0, rfl, rfl, ?qm, ?q0, ?q3, ?q9, ?q10, ?q11, ?_⟩ ?_
  case qm | q0 | q3 | q9 | q10 | q11 => first | rfl | (simp (implicitDefEqProofs := false) (maxSteps := 1000000) (disch := first | omega | with_reducible assumption | (simp only [lenT, Nat.reduceAdd]; omega)) only [amT, cut, bnd, Nat.reduceBEq, reduceCtorEq, Nat.reduceEqDiff, Nat.reduceAdd, Nat.reduceMul, Nat.reduceSub, Int.reduceToNat, Int.reduceEq, Int.reduceLT, Int.reduceLE, Int.reduceAdd, Int.reduceSub, Int.reduceMul, reduceIte, resVs, resV, packV, initT, addr, List.take_zero, List.flatten_nil]; first | done | rfl | (congr 1; omega))
  · omega
  · rintro N t m1 ds ⟨i, rfl, hds, hm, t0, t3, t9, t10, t11, hp⟩
    simp only at hds hm t0 t3 t9 t10 t11
    subst hds; replace hm := hm.symm; subst hm
    have hfl := flat_take_le ls i
    by_cases h1 : (i : Int) < (ls.length : Int)
    · have hi : i < ls.length := by omega
      obtain ⟨b, o, a', cap', rfl, hbb, hr, hBl⟩ := hls.get hi
      rw [rd_def] at hr
      have hns := flat_take_succ hi
      have hfl2 := flat_take_le ls (i + 1)
      have hlen : (ls.take (i + 1)).flatten.length = (ls.take i).flatten.length + ls[i].length := by rw [hns, List.length_append]
      have hneg : ¬ ((ls.take i).flatten.length : Int) + (ls[i].length : Int) < 0 := by omega
      simp (implicitDefEqProofs := false) (maxSteps := 1000000) (disch := first | omega | with_reducible assumption | (simp only [lenT, Nat.reduceAdd]; omega)) only [amT, cut, bnd, Nat.reduceBEq, reduceCtorEq, Nat.reduceEqDiff, Nat.reduceAdd, Nat.reduceMul, Nat.reduceSub, Int.reduceToNat, Int.reduceEq, Int.reduceLT, Int.reduceLE, Int.reduceAdd, Int.reduceSub, Int.reduceMul, reduceIte, resVs, resV, packV, initT, addr, F35_l0, t0, t3, t9, t10, t11, h1, hr, hneg]
      rw [LoopK_normal]; refine ⟨_, ?_, i + 1, rfl, rfl, ?qm, ?q0, ?q3, ?q9, ?q10, ?q11, ?_⟩
      case qm | q0 | q3 | q9 | q10 | q11 => first | rfl | (simp (implicitDefEqProofs := false) (maxSteps := 1000000) (disch := first | omega | with_reducible assumption | (simp only [lenT, Nat.reduceAdd]; omega)) only [amT, cut, bnd, Nat.reduceBEq, reduceCtorEq, Nat.reduceEqDiff, Nat.reduceAdd, Nat.reduceMul, Nat.reduceSub, Int.reduceToNat, Int.reduceEq, Int.reduceLT, Int.reduceLE, Int.reduceAdd, Int.reduceSub, Int.reduceMul, reduceIte, resVs, resV, packV, initT, addr, t0, t3, t9, t10, t11, hlen, Int.natCast_add]; first | done | rfl | (congr 1; omega))
      · omega
      · omega
    · obtain rfl : i = ls.length := by omega
      rw [List.take_length] at t3
      have k := DetC.known (grow_ok (mx m []) ls.flatten.length hn hb)
      rw [mx_mx, List.nil_append, mx_nil_size] at k
      repeat first | simp (implicitDefEqProofs := false) (maxSteps := 1000000) (disch := first | omega | with_reducible assumption | (simp only [lenT, Nat.reduceAdd]; omega)) only [amT, cut, bnd, Nat.reduceBEq, reduceCtorEq, Nat.reduceEqDiff, Nat.reduceAdd, Nat.reduceMul, Nat.reduceSub, Int.reduceToNat, Int.reduceEq, Int.reduceLT, Int.reduceLE, Int.reduceAdd, Int.reduceSub, Int.reduceMul, reduceIte, resVs, resV, packV, initT, addr, F35_l0, t0, t3, t9, t10, t11, h1, k] | refine OrW.go ?_
      refine W_loop (fun N qs => ∃ (i : Nat), N = ls.length - i ∧ qs.ds = [] ∧ qs.m = mx m [.cells (((ls.take i).flatten ++ List.replicate (ls.flatten.length - (ls.take i).flatten.length) 0).map byteV) 5 true (.room [.int .u8 0])] ∧ qs.t 6 = .slice (some ⟨m.size, 0, none⟩) (ls.take i).flatten.length openCap ∧ qs.t 25 = .slice a ls.length cap ∧ qs.t 26 = .int .i64 ls.length ∧ qs.t 27 = .int .i64 i ∧ i ≤ ls.length) (ls.length - (0)) ⟨0, rfl, rfl, ?qm, ?q6, ?q25, ?q26, ?q27, ?_⟩ ?_
      case qm | q6 | q25 | q26 | q27 => first | rfl | (simp (implicitDefEqProofs := false) (maxSteps := 1000000) (disch := first | omega | with_reducible assumption | (simp only [lenT, Nat.reduceAdd]; omega)) only [amT, cut, bnd, Nat.reduceBEq, reduceCtorEq, Nat.reduceEqDiff, Nat.reduceAdd, Nat.reduceMul, Nat.reduceSub, Int.reduceToNat, Int.reduceEq, Int.reduceLT, Int.reduceLE, Int.reduceAdd, Int.reduceSub, Int.reduceMul, reduceIte, resVs, resV, packV, initT, addr, t0, t3, t9, t10, t11, List.take_zero, List.flatten_nil]; first | done | rfl | (congr 1; omega))
      · omega
      · rintro N t m1 ds ⟨i, rfl, hds, hm, t6, t25, t26, t27, hp⟩
        simp only at hds hm t6 t25 t26 t27
        subst hds; replace hm := hm.symm; subst hm
        have hfl := flat_take_le ls i
        by_cases h1 : (i : Int) < (ls.length : Int)
        · have hi : i < ls.length := by omega
          obtain ⟨b, o, a', cap', rfl, hbb, hr, hBl⟩ := hls.get hi
          rw [rd_def] at hr
          have hfl2 := flat_take_le ls (i + 1)
          have hns := flat_take_succ hi
          rw [hns, List.length_append] at hfl2
          have happ := app_in hBl hfl2 hb
          rw [← hns] at happ
          simp (implicitDefEqProofs := false) (maxSteps := 1000000) (disch := first | omega | with_reducible assumption | (simp only [lenT, Nat.reduceAdd]; omega)) only [amT, cut, bnd, Nat.reduceBEq, reduceCtorEq, Nat.reduceEqDiff, Nat.reduceAdd, Nat.reduceMul, Nat.reduceSub, Int.reduceToNat, Int.reduceEq, Int.reduceLT, Int.reduceLE, Int.reduceAdd, Int.reduceSub, Int.reduceMul, reduceIte, resVs, resV, packV, initT, addr, F35_l1, t6, t25, t26, t27, h1, hr, stepOp_app_v, happ]
          rw [LoopK_normal]; refine ⟨_, ?_, i + 1, rfl, rfl, ?qm, ?q6, ?q25, ?q26, ?q27, ?_⟩
          case qm | q6 | q25 | q26 | q27 => first | rfl | (simp (implicitDefEqProofs := false) (maxSteps := 1000000) (disch := first | omega | with_reducible assumption | (simp only [lenT, Nat.reduceAdd]; omega)) only [amT, cut, bnd, Nat.reduceBEq, reduceCtorEq, Nat.reduceEqDiff, Nat.reduceAdd, Nat.reduceMul, Nat.reduceSub, Int.reduceToNat, Int.reduceEq, Int.reduceLT, Int.reduceLE, Int.reduceAdd, Int.reduceSub, Int.reduceMul, reduceIte, resVs, resV, packV, initT, addr, t6, t25, t26, t27]; first | done | rfl | (congr 1; omega))
          · omega
          · omega
        · obtain rfl : i = ls.length := by omega
          rw [List.take_length] at t6
          simp (implicitDefEqProofs := false) (maxSteps := 1000000) (disch := first | omega | with_reducible assumption | (simp only [lenT, Nat.reduceAdd]; omega)) only [amT, cut, bnd, Nat.reduceBEq, reduceCtorEq, Nat.reduceEqDiff, Nat.reduceAdd, Nat.reduceMul, Nat.reduceSub, Int.reduceToNat, Int.reduceEq, Int.reduceLT, Int.reduceLE, Int.reduceAdd, Int.reduceSub, Int.reduceMul, reduceIte, resVs, resV, packV, initT, addr, F35_l1, t6, t25, t26, t27, h1]
          simp
end Go.Proofs.Ytbmjhiifinjieaa
namespace Go.AM
theorem Buf.base {m m2 M : AMem} {v : Value} {c : List Value} {e : TypeId} {z : Value} (h : Buf m2 M v c e z) (hs : m.size ≤ m2.size) : Buf m M v c e z := by
  rcases h with h | ⟨b, h1, h2, h3, h4⟩
  · exact .inl h
  · exact .inr ⟨b, Nat.le_trans hs h1, h2, h3, h4⟩
theorem Buf.keep {m M M' : AMem} {v : Value} {c : List Value} {e : TypeId} {z : Value} (h : Buf m M v c e z) (hs : M.size ≤ M'.size) (hk : ∀ b, m.size ≤ b → b < M.size → M'.get b = M.get b) : Buf m M' v c e z := by
  rcases h with h | ⟨b, h1, h2, h3, h4⟩
  · exact .inl h
  · exact .inr ⟨b, h1, Nat.lt_of_lt_of_le h2 hs, h3, by rw [hk b h1 h2]; exact h4⟩
/-- A slice of texts. -/
def StrsV (m : AMem) (v : Value) (l : List (List UInt8)) : Prop :=
  (l = [] ∧ v = .slice none 0 0) ∨ ∃ b cap e w sp, v = .slice (some ⟨b, 0, none⟩) l.length cap ∧ b < m.size ∧ m.get b = .cells (l.map strV) e w sp
theorem StrsV.old {m m' : AMem} {v : Value} {l : List (List UInt8)} (h : StrsV m v l) (hk : Old m m') : StrsV m' v l := by
  rcases h with h | ⟨b, cap, e, w, sp, h1, h2, h3⟩
  · exact .inl h
  · exact .inr ⟨b, cap, e, w, sp, h1, Nat.lt_of_lt_of_le h2 hk.1, by rw [hk.2 b h2]; exact h3⟩
theorem StrsV.len {m : AMem} {v : Value} {l : List (List UInt8)} (h : StrsV m v l) : ∃ a cap, v = .slice a l.length cap := by
  rcases h with ⟨rfl, rfl⟩ | ⟨b, cap, e, w, sp, rfl, _⟩
  · exact ⟨_, _, rfl⟩
  · exact ⟨_, _, rfl⟩
theorem StrsV.get {m : AMem} {a : Option Addr} {n cap : Nat} {l : List (List UInt8)} (h : StrsV m (.slice a n cap) l) {i : Nat} (hi : i < l.length) : ∃ b, a = some ⟨b, 0, none⟩ ∧ b < m.size ∧ rd m b i 1 = some [.string ⟨l[i].toArray⟩] := by
  rcases h with ⟨rfl, _⟩ | ⟨b, cap', e, w, sp, h1, h2, h3⟩
  · simp at hi
  · cases h1
    refine ⟨b, rfl, h2, ?_⟩
    rw [rd_def, h3, rdO_cells, cutL_one, strs_get hi]; rfl
end Go.AM
namespace Go.Proofs.Ytbmjhiifinjieaa
open Go Go.AM
set_option linter.unusedVariables false
set_option linter.unusedSimpArgs false
set_option linter.unusedSectionVars false
variable [Ex]

theorem concat_ok (m : AMem) (a : Option Addr) (cap : Nat) (ls : List (List UInt8)) (hls : BSS m a ls) (hl : ls.length ≤ 1000) (hb : ls.flatten.length ≤ 100000000) :
    RelC Try.prog 0 35 [.slice a ls.length cap] m fun v m' => Old m m' ∧ Buf m m' v (ls.flatten.map byteV) 5 (.int .u8 0) := by
  by_cases h0 : ls.flatten = []
  · refine (DetC.rel (concat_nil m a cap ls hls hl h0)).mono ?_
    rintro v m' ⟨rfl, rfl⟩
    rw [h0]
    exact ⟨.refl _, .nil _ _ _ _⟩
  · refine (DetC.rel (concat_row m a cap ls hls hl (List.length_pos_iff.2 h0) hb)).mono ?_
    rintro v m' ⟨rfl, rfl⟩
    exact ⟨Old.here _ _, .inr ⟨m.size, Nat.le_refl _, by rw [mx_size]; simp, by rw [List.length_map], mx_new0 _ _⟩⟩

theorem bss2 {M : AMem} {b : Nat} {v1 v2 : Value} {c1 c2 : List UInt8} {e : TypeId} (hb : b < M.size) (h : M.get b = .cells [v1, v2] e true .exact) (h1 : ByV 5 M v1 c1) (h2 : ByV 5 M v2 c2) : BSS M (some ⟨b, 0, none⟩) [c1, c2] := by
  obtain ⟨a1, k1, rfl, g1⟩ := h1.bsl
  obtain ⟨a2, k2, rfl, g2⟩ := h2.bsl
  refine .inr ⟨b, 0, _, _, _, _, rfl, hb, h, fun i hi => ?_⟩
  have : i = 0 ∨ i = 1 := by simp at hi; omega
  rcases this with rfl | rfl
  · exact ⟨a1, k1, rfl, g1⟩
  · exact ⟨a2, k2, rfl, g2⟩

theorem all_ok (m : AMem) (f : FileR) (a1 : Option Addr) (c1 : Nat) (a2 : Option Addr) (c2 : Nat) (h1 : ByV 5 m (.slice a1 f.dry.length c1) f.dry) (h2 : ByV 5 m (.slice a2 f.wet.length c2) f.wet) (hb : f.size ≤ 100000000) :
    RelC Try.prog 0 40 [.agg (fRow f a1 c1 a2 c2).toArray] m fun v m' => Old m m' ∧ Buf m m' v (f.all.map byteV) 5 (.int .u8 0) := by
  refine rel_of_W (fn := Try.f40) rfl rfl F40_ok (by simp [F40]) ?_
  simp (implicitDefEqProofs := false) (maxSteps := 1000000) (disch := first | omega | with_reducible assumption | (simp only [lenT, Nat.reduceAdd]; omega)) only [amT, cut, bnd, Nat.reduceBEq, reduceCtorEq, Nat.reduceEqDiff, Nat.reduceAdd, Nat.reduceMul, Nat.reduceSub, Int.reduceToNat, Int.reduceEq, Int.reduceLT, Int.reduceLE, Int.reduceAdd, Int.reduceSub, Int.reduceMul, reduceIte, resVs, resV, packV, initT, addr, F40, fRow, cellsOf_row4]
  have hbss := bss2 (e := 30) (M := mx m [.cells (fRow f a1 c1 a2 c2) 63 true .exact, .cells [.slice a1 f.dry.length c1, .slice a2 f.wet.length c2] 30 true .exact]) (by rw [mx_size]; simp) (mx_new _ _ 1) (h1.old (Old.here _ _)) (h2.old (Old.here _ _))
  refine RelC.call (concat_ok _ _ 2 [f.dry, f.wet] hbss (by simp) (by simpa [FileR.size] using hb)) ?_
  rintro v M ⟨hO, hB⟩
  simp (implicitDefEqProofs := false) (maxSteps := 1000000) (disch := first | omega | with_reducible assumption | (simp only [lenT, Nat.reduceAdd]; omega)) only [amT, cut, bnd, Nat.reduceBEq, reduceCtorEq, Nat.reduceEqDiff, Nat.reduceAdd, Nat.reduceMul, Nat.reduceSub, Int.reduceToNat, Int.reduceEq, Int.reduceLT, Int.reduceLE, Int.reduceAdd, Int.reduceSub, Int.reduceMul, reduceIte, resVs, resV, packV, initT, addr]
  refine ⟨_, rfl, fun _ => ?_⟩
  have hO1 := (Old.here m _).trans hO
  refine ⟨hO1.mx _, ?_⟩
  have e : [f.dry, f.wet].flatten = f.all := by simp [FileR.all]
  rw [e] at hB
  exact (hB.keep (by rw [mx_nil_size]; exact Nat.le_refl _) fun b _ hb => mx_old hb).base (by rw [mx_size]; omega)

theorem crash_ok (m : AMem) (p : Nat) (hp : p < m.size) {v q st se off : Value} {e : TypeId} {sp : Spare} (hd : m.get p = .cells [v, q, st, se, off] e true sp) :
    DetC Try.prog 0 16 [.pointer (some ⟨p, 0, none⟩)] m (.tuple #[]) (mx (m.set p (.cells [v, q, st, .int .i64 (-1), .bool true] e true sp)) []) := by
  refine det_exact (fn := Try.f16) rfl rfl F16_ok (by simp [F16]) ?_
  simp (implicitDefEqProofs := false) (maxSteps := 1000000) (disch := first | omega | with_reducible assumption | (simp only [lenT, Nat.reduceAdd]; omega)) only [amT, cut, bnd, Nat.reduceBEq, reduceCtorEq, Nat.reduceEqDiff, Nat.reduceAdd, Nat.reduceMul, Nat.reduceSub, Int.reduceToNat, Int.reduceEq, Int.reduceLT, Int.reduceLE, Int.reduceAdd, Int.reduceSub, Int.reduceMul, reduceIte, resVs, resV, packV, initT, addr, F16, eqV_pn, hd]

theorem crash_nil (m : AMem) : DetC Try.prog 0 16 [.pointer none] m (.tuple #[]) m := by
  refine (pure_of_W (fn := Try.f16) rfl rfl F16_ok (by simp [F16]) (.tuple (by simp)) ?_)
  simp (implicitDefEqProofs := false) (maxSteps := 1000000) (disch := first | omega | with_reducible assumption | (simp only [lenT, Nat.reduceAdd]; omega)) only [amT, cut, bnd, Nat.reduceBEq, reduceCtorEq, Nat.reduceEqDiff, Nat.reduceAdd, Nat.reduceMul, Nat.reduceSub, Int.reduceToNat, Int.reduceEq, Int.reduceLT, Int.reduceLE, Int.reduceAdd, Int.reduceSub, Int.reduceMul, reduceIte, resVs, resV, packV, initT, addr, F16, eqV_nn]
theorem fail_ok (m : AMem) (p : Nat) (n : Int) (hp : p < m.size) {v q st se off : Value} {e : TypeId} {sp : Spare} (hd : m.get p = .cells [v, q, st, se, off] e true sp) :
    DetC Try.prog 0 12 [.pointer (some ⟨p, 0, none⟩), .int .i64 n] m (.tuple #[]) (mx (m.set p (.cells [v, q, st, .int .i64 (max (-1) n), off] e true sp)) []) := by
  refine det_exact (fn := Try.f12) rfl rfl F12_ok (by simp [F12]) ?_
  simp (implicitDefEqProofs := false) (maxSteps := 1000000) (disch := first | omega | with_reducible assumption | (simp only [lenT, Nat.reduceAdd]; omega)) only [amT, cut, bnd, Nat.reduceBEq, reduceCtorEq, Nat.reduceEqDiff, Nat.reduceAdd, Nat.reduceMul, Nat.reduceSub, Int.reduceToNat, Int.reduceEq, Int.reduceLT, Int.reduceLE, Int.reduceAdd, Int.reduceSub, Int.reduceMul, reduceIte, resVs, resV, packV, initT, addr, F12, eqV_pn, hd, stepOp_mnx, mnx_max]
theorem fail_nil (m : AMem) (n : Int) : DetC Try.prog 0 12 [.pointer none, .int .i64 n] m (.tuple #[]) m := by
  refine (pure_of_W (fn := Try.f12) rfl rfl F12_ok (by simp [F12]) (.tuple (by simp)) ?_)
  simp (implicitDefEqProofs := false) (maxSteps := 1000000) (disch := first | omega | with_reducible assumption | (simp only [lenT, Nat.reduceAdd]; omega)) only [amT, cut, bnd, Nat.reduceBEq, reduceCtorEq, Nat.reduceEqDiff, Nat.reduceAdd, Nat.reduceMul, Nat.reduceSub, Int.reduceToNat, Int.reduceEq, Int.reduceLT, Int.reduceLE, Int.reduceAdd, Int.reduceSub, Int.reduceMul, reduceIte, resVs, resV, packV, initT, addr, F12, eqV_nn]
theorem off_ok (m : AMem) (p : Nat) (hp : p < m.size) {v q st se : Value} {off : Bool} {e : TypeId} {w : Bool} {sp : Spare} (hd : m.get p = .cells [v, q, st, se, .bool off] e w sp) :
    PureC Try.prog 0 13 [.pointer (some ⟨p, 0, none⟩)] m (.bool off) := by
  refine pure_of_W (fn := Try.f13) rfl rfl F13_ok (by simp [F13]) (.bool _) ?_
  simp (implicitDefEqProofs := false) (maxSteps := 1000000) (disch := first | omega | with_reducible assumption | (simp only [lenT, Nat.reduceAdd]; omega)) only [amT, cut, bnd, Nat.reduceBEq, reduceCtorEq, Nat.reduceEqDiff, Nat.reduceAdd, Nat.reduceMul, Nat.reduceSub, Int.reduceToNat, Int.reduceEq, Int.reduceLT, Int.reduceLE, Int.reduceAdd, Int.reduceSub, Int.reduceMul, reduceIte, resVs, resV, packV, initT, addr, F13, eqV_pn, hd]
theorem off_nil (m : AMem) : PureC Try.prog 0 13 [.pointer none] m (.bool true) := by
  refine pure_of_W (fn := Try.f13) rfl rfl F13_ok (by simp [F13]) (.bool _) ?_
  simp (implicitDefEqProofs := false) (maxSteps := 1000000) (disch := first | omega | with_reducible assumption | (simp only [lenT, Nat.reduceAdd]; omega)) only [amT, cut, bnd, Nat.reduceBEq, reduceCtorEq, Nat.reduceEqDiff, Nat.reduceAdd, Nat.reduceMul, Nat.reduceSub, Int.reduceToNat, Int.reduceEq, Int.reduceLT, Int.reduceLE, Int.reduceAdd, Int.reduceSub, Int.reduceMul, reduceIte, resVs, resV, packV, initT, addr, F13, eqV_nn]
theorem steps_ok (m : AMem) (p : Nat) (hp : p < m.size) {v q se off : Value} {st : Int} {e : TypeId} {w : Bool} {sp : Spare} (hd : m.get p = .cells [v, q, .int .i64 st, se, off] e w sp) :
    PureC Try.prog 0 25 [.pointer (some ⟨p, 0, none⟩)] m (.int .i64 st) := by
  refine pure_of_W (fn := Try.f25) rfl rfl F25_ok (by simp [F25]) (.int _ _) ?_
  simp (implicitDefEqProofs := false) (maxSteps := 1000000) (disch := first | omega | with_reducible assumption | (simp only [lenT, Nat.reduceAdd]; omega)) only [amT, cut, bnd, Nat.reduceBEq, reduceCtorEq, Nat.reduceEqDiff, Nat.reduceAdd, Nat.reduceMul, Nat.reduceSub, Int.reduceToNat, Int.reduceEq, Int.reduceLT, Int.reduceLE, Int.reduceAdd, Int.reduceSub, Int.reduceMul, reduceIte, resVs, resV, packV, initT, addr, F25, eqV_pn, hd]
theorem steps_nil (m : AMem) : PureC Try.prog 0 25 [.pointer none] m (.int .i64 0) := by
  refine pure_of_W (fn := Try.f25) rfl rfl F25_ok (by simp [F25]) (.int _ _) ?_
  simp (implicitDefEqProofs := false) (maxSteps := 1000000) (disch := first | omega | with_reducible assumption | (simp only [lenT, Nat.reduceAdd]; omega)) only [amT, cut, bnd, Nat.reduceBEq, reduceCtorEq, Nat.reduceEqDiff, Nat.reduceAdd, Nat.reduceMul, Nat.reduceSub, Int.reduceToNat, Int.reduceEq, Int.reduceLT, Int.reduceLE, Int.reduceAdd, Int.reduceSub, Int.reduceMul, reduceIte, resVs, resV, packV, initT, addr, F25, eqV_nn]

/-- A step more. -/
def stepCells (v q : Value) (st se : Int) (off : Bool) : List Value :=
  if se = 0 then [v, q, .int .i64 (st + 1), .int .i64 (-1), .bool true] else [v, q, .int .i64 (st + 1), .int .i64 (max (-1) (se - 1)), .bool off]
theorem step_ok (m : AMem) (p : Nat) (hp : p < m.size) {v q : Value} {st se : Int} {off : Bool} {e : TypeId} {sp : Spare} (hd : m.get p = .cells [v, q, .int .i64 st, .int .i64 se, .bool off] e true sp) (h0 : 0 ≤ st) (h1 : st ≤ 4611686018427387904) (h2 : -1 ≤ se) (h3 : se ≤ 9223372036854775807) :
    DetC Try.prog 0 37 [.pointer (some ⟨p, 0, none⟩)] m (.bool (!decide (se = 0))) (mx (m.set p (.cells (stepCells v q st se off) e true sp)) []) := by
  refine det_exact (fn := Try.f37) rfl rfl F37_ok (by simp [F37]) ?_
  by_cases hse : se = 0
  · subst hse
    have k := DetC.known (crash_ok (mx (m.set p (.cells [v, q, .int .i64 (st + 1), .int .i64 0, .bool off] e true sp)) []) p (by rw [mx_nil_size, AMem.size_set]; exact hp) (by rw [mx_old (by rw [AMem.size_set]; exact hp), AMem.get_set_self]))
    repeat first | simp (implicitDefEqProofs := false) (maxSteps := 1000000) (disch := first | omega | with_reducible assumption | (simp only [lenT, Nat.reduceAdd]; omega)) only [amT, cut, bnd, Nat.reduceBEq, reduceCtorEq, Nat.reduceEqDiff, Nat.reduceAdd, Nat.reduceMul, Nat.reduceSub, Int.reduceToNat, Int.reduceEq, Int.reduceLT, Int.reduceLE, Int.reduceAdd, Int.reduceSub, Int.reduceMul, reduceIte, resVs, resV, packV, initT, addr, F37, hd, k] | refine OrW.go ?_
    simp [stepCells]
  · repeat first | simp (implicitDefEqProofs := false) (maxSteps := 1000000) (disch := first | omega | with_reducible assumption | (simp only [lenT, Nat.reduceAdd]; omega)) only [amT, cut, bnd, Nat.reduceBEq, reduceCtorEq, Nat.reduceEqDiff, Nat.reduceAdd, Nat.reduceMul, Nat.reduceSub, Int.reduceToNat, Int.reduceEq, Int.reduceLT, Int.reduceLE, Int.reduceAdd, Int.reduceSub, Int.reduceMul, reduceIte, resVs, resV, packV, initT, addr, F37, hd, hse, stepOp_mnx, mnx_max] | refine OrW.go ?_
    simp [stepCells, hse]

/-- How many bytes all files have. -/
def usedR (fs : List FileR) : Nat := (fs.map FileR.size).sum
theorem used_ok (m : AMem) (p : Nat) (a : Option Addr) (cap : Nat) (fs : List FileR) (hp : p < m.size) {q st se off : Value} {e2 : TypeId} {w2 : Bool} {sp2 : Spare} (hd : m.get p = .cells [.slice a fs.length cap, q, st, se, off] e2 w2 sp2)
    (hF : FilesV m (.slice a fs.length cap) fs) (hn : fs.length ≤ 1000000) (hu : usedR fs ≤ 4611686018427387904) :
    PureC Try.prog 0 24 [.pointer (some ⟨p, 0, none⟩)] m (.int .i64 (usedR fs)) := by
  refine pure_of_W (fn := Try.f24) rfl rfl F24_ok (by simp [F24]) (.int _ _) ?_
  simp (implicitDefEqProofs := false) (maxSteps := 1000000) (disch := first | omega | with_reducible assumption | (simp only [lenT, Nat.reduceAdd]; omega)) only [amT, cut, bnd, Nat.reduceBEq, reduceCtorEq, Nat.reduceEqDiff, Nat.reduceAdd, Nat.reduceMul, Nat.reduceSub, Int.reduceToNat, Int.reduceEq, Int.reduceLT, Int.reduceLE, Int.reduceAdd, Int.reduceSub, Int.reduceMul, reduceIte, resVs, resV, packV, initT, addr, F24, eqV_pn, hd]
  refine W_loop (fun N qs => ∃ (i : Nat), N = fs.length - i ∧ qs.ds = [] ∧ Gb m qs.m ∧ qs.t 3 = .int .i64 (usedR (fs.take i)) ∧ qs.t 11 = .slice a fs.length cap ∧ qs.t 12 = .int .i64 fs.length ∧ qs.t 13 = .int .i64 i ∧ i ≤ fs.length) (fs.length - (0)) ⟨0, rfl, rfl, by first | exact .start _ _ | exact .mk (by assumption) _, ?q3, ?q11, ?q12, ?q13, ?_⟩ ?_
  case q3 | q11 | q12 | q13 => first | rfl | (simp (implicitDefEqProofs := false) (maxSteps := 1000000) (disch := first | omega | with_reducible assumption | (simp only [lenT, Nat.reduceAdd]; omega)) only [amT, cut, bnd, Nat.reduceBEq, reduceCtorEq, Nat.reduceEqDiff, Nat.reduceAdd, Nat.reduceMul, Nat.reduceSub, Int.reduceToNat, Int.reduceEq, Int.reduceLT, Int.reduceLE, Int.reduceAdd, Int.reduceSub, Int.reduceMul, reduceIte, resVs, resV, packV, initT, addr, usedR, List.take_zero]; first | done | rfl | (congr 1; omega))
  · omega
  · rintro N t m1 ds ⟨i, rfl, hds, hm, t3, t11, t12, t13, hp⟩
    simp only at hds hm t3 t11 t12 t13
    obtain ⟨M, rfl, hM⟩ := hm.base; subst hds
    by_cases h1 : (i : Int) < (fs.length : Int)
    · have hi : i < fs.length := by omega
      obtain ⟨b, a1, c1, a2, c2, rfl, hb, hr, _⟩ := (hF.old hM).get hi
      rw [rd_def] at hr
      have hs : usedR (fs.take (i + 1)) = usedR (fs.take i) + fs[i].size := by
        unfold usedR; rw [List.take_succ_eq_append_getElem hi, List.map_append, List.sum_append]; simp
      have hle : ∀ j, usedR (fs.take j) ≤ usedR fs := fun j => by
        unfold usedR
        conv => rhs; rw [← List.take_append_drop j fs, List.map_append, List.sum_append]
        omega
      have h2 := hle (i + 1)
      have k := fun X => DetC.known (size34_ok (mx M X) fs[i] a1 c1 a2 c2 (by omega))
      simp only [fRow] at k
      repeat first | simp (implicitDefEqProofs := false) (maxSteps := 1000000) (disch := first | omega | with_reducible assumption | (simp only [lenT, Nat.reduceAdd]; omega)) only [amT, cut, bnd, Nat.reduceBEq, reduceCtorEq, Nat.reduceEqDiff, Nat.reduceAdd, Nat.reduceMul, Nat.reduceSub, Int.reduceToNat, Int.reduceEq, Int.reduceLT, Int.reduceLE, Int.reduceAdd, Int.reduceSub, Int.reduceMul, reduceIte, resVs, resV, packV, initT, addr, F24_l0, t3, t11, t12, t13, h1, hr, fRow, k, cellsOf_row4, splice4, cutL4] | refine OrW.go ?_
      rw [LoopK_normal]; refine ⟨_, ?_, i + 1, rfl, rfl, by first | exact .mk hM _ | (rw [mx_mx]; exact .mk hM _), ?q3, ?q11, ?q12, ?q13, ?_⟩
      case q3 | q11 | q12 | q13 => first | rfl | (simp (implicitDefEqProofs := false) (maxSteps := 1000000) (disch := first | omega | with_reducible assumption | (simp only [lenT, Nat.reduceAdd]; omega)) only [amT, cut, bnd, Nat.reduceBEq, reduceCtorEq, Nat.reduceEqDiff, Nat.reduceAdd, Nat.reduceMul, Nat.reduceSub, Int.reduceToNat, Int.reduceEq, Int.reduceLT, Int.reduceLE, Int.reduceAdd, Int.reduceSub, Int.reduceMul, reduceIte, resVs, resV, packV, initT, addr, t3, t11, t12, t13, hs, Int.natCast_add]; first | done | rfl | (congr 1; omega))
      · omega
      · omega
    · obtain rfl : i = fs.length := by omega
      rw [List.take_length] at t3
      simp (implicitDefEqProofs := false) (maxSteps := 1000000) (disch := first | omega | with_reducible assumption | (simp only [lenT, Nat.reduceAdd]; omega)) only [amT, cut, bnd, Nat.reduceBEq, reduceCtorEq, Nat.reduceEqDiff, Nat.reduceAdd, Nat.reduceMul, Nat.reduceSub, Int.reduceToNat, Int.reduceEq, Int.reduceLT, Int.reduceLE, Int.reduceAdd, Int.reduceSub, Int.reduceMul, reduceIte, resVs, resV, packV, initT, addr, F24_l0, t3, t11, t12, t13, h1]
      exact hM.mx _
theorem used_nil (m : AMem) : PureC Try.prog 0 24 [.pointer none] m (.int .i64 0) := by
  refine pure_of_W (fn := Try.f24) rfl rfl F24_ok (by simp [F24]) (.int _ _) ?_
  simp (implicitDefEqProofs := false) (maxSteps := 1000000) (disch := first | omega | with_reducible assumption | (simp only [lenT, Nat.reduceAdd]; omega)) only [amT, cut, bnd, Nat.reduceBEq, reduceCtorEq, Nat.reduceEqDiff, Nat.reduceAdd, Nat.reduceMul, Nat.reduceSub, Int.reduceToNat, Int.reduceEq, Int.reduceLT, Int.reduceLE, Int.reduceAdd, Int.reduceSub, Int.reduceMul, reduceIte, resVs, resV, packV, initT, addr, F24, eqV_nn]

theorem names_nil (m : AMem) : PureC Try.prog 0 20 [.pointer none] m (.slice none 0 0) := by
  refine pure_of_W (fn := Try.f20) rfl rfl F20_ok (by simp [F20]) (.nilSlice _ _) ?_
  simp (implicitDefEqProofs := false) (maxSteps := 1000000) (disch := first | omega | with_reducible assumption | (simp only [lenT, Nat.reduceAdd]; omega)) only [amT, cut, bnd, Nat.reduceBEq, reduceCtorEq, Nat.reduceEqDiff, Nat.reduceAdd, Nat.reduceMul, Nat.reduceSub, Int.reduceToNat, Int.reduceEq, Int.reduceLT, Int.reduceLE, Int.reduceAdd, Int.reduceSub, Int.reduceMul, reduceIte, resVs, resV, packV, initT, addr, F20, eqV_nn]
theorem names_ok (m : AMem) (p : Nat) (a : Option Addr) (cap : Nat) (fs : List FileR) (hp : p < m.size) {q st se off : Value} {e2 : TypeId} {w2 : Bool} {sp2 : Spare} (hd : m.get p = .cells [.slice a fs.length cap, q, st, se, off] e2 w2 sp2)
    (hF : FilesV m (.slice a fs.length cap) fs) (hn : fs.length ≤ 1000000) :
    RelC Try.prog 0 20 [.pointer (some ⟨p, 0, none⟩)] m fun v m' => Old m m' ∧ StrsV m' v (fs.map FileR.name) := by
  refine rel_of_W (fn := Try.f20) rfl rfl F20_ok (by simp [F20]) ?_
  simp (implicitDefEqProofs := false) (maxSteps := 1000000) (disch := first | omega | with_reducible assumption | (simp only [lenT, Nat.reduceAdd]; omega)) only [amT, cut, bnd, Nat.reduceBEq, reduceCtorEq, Nat.reduceEqDiff, Nat.reduceAdd, Nat.reduceMul, Nat.reduceSub, Int.reduceToNat, Int.reduceEq, Int.reduceLT, Int.reduceLE, Int.reduceAdd, Int.reduceSub, Int.reduceMul, reduceIte, resVs, resV, packV, initT, addr, F20, eqV_pn, hd]
  refine W_loop (fun N qs => ∃ (i : Nat) (M : AMem) (v : Value), N = fs.length - i ∧ qs.ds = [] ∧ qs.m = mx M [] ∧ qs.t 3 = v ∧ qs.t 11 = .slice a fs.length cap ∧ qs.t 12 = .int .i64 fs.length ∧ qs.t 13 = .int .i64 i ∧ i ≤ fs.length ∧ Old m M ∧ Buf m M v ((fs.take i).map fun f => strV f.name) 9 (.string ⟨#[]⟩)) (fs.length - (0)) ⟨0, mx m [], .slice none 0 0, rfl, rfl, ?qm, ?q3, ?q11, ?q12, ?q13, ?_⟩ ?_
  case qm | q3 | q11 | q12 | q13 => first | rfl | (simp (implicitDefEqProofs := false) (maxSteps := 1000000) (disch := first | omega | with_reducible assumption | (simp only [lenT, Nat.reduceAdd]; omega)) only [amT, cut, bnd, Nat.reduceBEq, reduceCtorEq, Nat.reduceEqDiff, Nat.reduceAdd, Nat.reduceMul, Nat.reduceSub, Int.reduceToNat, Int.reduceEq, Int.reduceLT, Int.reduceLE, Int.reduceAdd, Int.reduceSub, Int.reduceMul, reduceIte, resVs, resV, packV, initT, addr, mx_mx, List.append_nil]; first | done | rfl | (congr 1; omega))
  · exact ⟨by omega, Old.here _ _, .nil _ _ _ _⟩
  · rintro N t m1 ds ⟨i, M, v, rfl, hds, hm, t3, t11, t12, t13, hp⟩
    simp only at hds hm t3 t11 t12 t13
    subst hds; replace hm := hm.symm; subst hm
    obtain ⟨hi, hM, hB⟩ := hp
    by_cases h1 : (i : Int) < (fs.length : Int)
    · have hi : i < fs.length := by omega
      obtain ⟨b, a1, c1, a2, c2, rfl, hb, hr, _⟩ := (hF.old hM).get hi
      rw [rd_def] at hr
      have hbv := hB
      obtain ⟨av, cv, rfl⟩ := hB.len
      have hM1 : m.size ≤ M.size := hM.1
      obtain ⟨v', M', happ, hB2, hF2⟩ := (hB.keep (M' := mx M [.cells [.string ⟨fs[i].name.toArray⟩, .slice a1 fs[i].dry.length c1, .slice a2 fs[i].wet.length c2, .bool fs[i].born] 63 true .exact]) (by rw [mx_size]; omega) (fun b _ hb => mx_old hb)).app1 (x := .string ⟨fs[i].name.toArray⟩) (e2 := 9) (bytes := 16) (by rw [mx_size]; omega) rfl rfl (by simp; omega) (by simp; omega)
      rw [mx_mx, mx_size] at happ
      simp only [List.length_map, List.cons_append, List.nil_append, List.length_cons, List.length_nil, Nat.zero_add] at happ
      have hO2 : Old m M' := ((hM.mx _).fr hF2 fun x o l c hx => hbv.new x o l c hx)
      have hs : (fs.take (i + 1)).map (fun f => strV f.name) = (fs.take i).map (fun f => strV f.name) ++ [.string ⟨fs[i].name.toArray⟩] := by
        rw [List.take_succ_eq_append_getElem hi, List.map_append]; rfl
      rw [← hs] at hB2
      simp (implicitDefEqProofs := false) (maxSteps := 1000000) (disch := first | omega | with_reducible assumption | (simp only [lenT, Nat.reduceAdd]; omega)) only [amT, cut, bnd, Nat.reduceBEq, reduceCtorEq, Nat.reduceEqDiff, Nat.reduceAdd, Nat.reduceMul, Nat.reduceSub, Int.reduceToNat, Int.reduceEq, Int.reduceLT, Int.reduceLE, Int.reduceAdd, Int.reduceSub, Int.reduceMul, reduceIte, resVs, resV, packV, initT, addr, F20_l0, t3, t11, t12, t13, h1, hr, fRow, cellsOf_row4, splice4, stepOp_app_v, happ]
      rw [LoopK_normal]; refine ⟨_, ?_, i + 1, M', v', rfl, rfl, ?qm, ?q3, ?q11, ?q12, ?q13, ?_⟩
      case qm | q3 | q11 | q12 | q13 => first | rfl | (simp (implicitDefEqProofs := false) (maxSteps := 1000000) (disch := first | omega | with_reducible assumption | (simp only [lenT, Nat.reduceAdd]; omega)) only [amT, cut, bnd, Nat.reduceBEq, reduceCtorEq, Nat.reduceEqDiff, Nat.reduceAdd, Nat.reduceMul, Nat.reduceSub, Int.reduceToNat, Int.reduceEq, Int.reduceLT, Int.reduceLE, Int.reduceAdd, Int.reduceSub, Int.reduceMul, reduceIte, resVs, resV, packV, initT, addr, t3, t11, t12, t13]; first | done | rfl | (congr 1; omega))
      · omega
      · exact ⟨by omega, hO2, hB2⟩
    · obtain rfl : i = fs.length := by omega
      rw [List.take_length] at hB
      simp (implicitDefEqProofs := false) (maxSteps := 1000000) (disch := first | omega | with_reducible assumption | (simp only [lenT, Nat.reduceAdd]; omega)) only [amT, cut, bnd, Nat.reduceBEq, reduceCtorEq, Nat.reduceEqDiff, Nat.reduceAdd, Nat.reduceMul, Nat.reduceSub, Int.reduceToNat, Int.reduceEq, Int.reduceLT, Int.reduceLE, Int.reduceAdd, Int.reduceSub, Int.reduceMul, reduceIte, resVs, resV, packV, initT, addr, F20_l0, t3, t11, t12, t13, h1]
      refine ⟨v, rfl, fun _ => ⟨hM.mx _, ?_⟩⟩
      rcases hB with ⟨h, rfl⟩ | ⟨b, g1, g2, rfl, g4⟩
      · exact .inl ⟨by simpa using h, rfl⟩
      · exact .inr ⟨b, openCap, 9, true, _, by simp, by rw [mx_size]; simp; exact g2, by rw [mx_old g2, g4, List.map_map]; rfl⟩
end Go.Proofs.Ytbmjhiifinjieaa
namespace Go.Proofs.Ytbmjhiifinjieaa
open Go Go.AM
set_option linter.unusedVariables false
set_option linter.unusedSimpArgs false
set_option linter.unusedSectionVars false
variable [Ex]

theorem cell_take {X : List Value} {n k : Nat} (h : k < n) : cell (X.take (4 * n)) k = cell X k := by
  unfold cell; rw [List.drop_take, List.take_take]; congr 1; omega
theorem cell_drop (X : List Value) (i k : Nat) : cell (X.drop (4 * i)) k = cell X (i + k) := by
  unfold cell; rw [List.drop_drop]; congr 2; omega
theorem cell_app_l {X Y : List Value} {n k : Nat} (hX : 4 * n ≤ X.length) (h : k < n) : cell (X ++ Y) k = cell X k := by
  unfold cell
  rw [List.drop_append_of_le_length (by omega), List.take_append_of_le_length (by rw [List.length_drop]; omega)]
theorem cell_app_r {X Y : List Value} {n k : Nat} (hX : X.length = 4 * n) (h : n ≤ k) : cell (X ++ Y) k = cell Y (k - n) := by
  unfold cell
  rw [List.drop_append, List.drop_of_length_le (by omega), List.nil_append]; congr 2; omega
theorem cell_four {r : List Value} (h : r.length = 4) : cell r 0 = r := by
  unfold cell; rw [Nat.mul_zero, List.drop_zero, List.take_of_length_le (by omega)]
theorem cell_splice {X v : List Value} {j n k : Nat} (hv : v.length = 4 * n) (hl : 4 * j + v.length ≤ X.length) : cell (splice X (4 * j) v) k = if j ≤ k ∧ k < j + n then cell v (k - j) else cell X k := by
  unfold splice
  have h1 : (X.take (4 * j)).length = 4 * j := by rw [List.length_take]; omega
  rw [List.append_assoc]
  by_cases hk : k < j
  · rw [cell_app_l (n := j) (by omega) hk, cell_take hk, if_neg (by omega)]
  · rw [cell_app_r h1 (by omega)]
    by_cases hk2 : k < j + n
    · rw [cell_app_l (n := n) (by omega) (by omega), if_pos (by omega)]
    · rw [cell_app_r hv (by omega), if_neg (by omega), show 4 * j + v.length = 4 * (j + n) by omega, cell_drop]; congr 1; omega
theorem splice_len {X v : List Value} {o : Nat} (hl : o + v.length ≤ X.length) : (splice X o v).length = X.length := by
  simp [splice]; omega

theorem FCell.len {m : AMem} {cs : List Value} {f : FileR} (h : FCell m cs f) : cs.length = 4 := by obtain ⟨_, _, _, _, rfl, _⟩ := h; rfl
theorem FCell.one {m : AMem} {cs : List Value} {f : FileR} (h : FCell m cs f) : cs.all oneCell = true := by obtain ⟨_, _, _, _, rfl, _⟩ := h; rfl
theorem eqPL_zF : eqPL zF zF = true := by decide
theorem eqPL_zF' : eqPL [.string ⟨#[]⟩, .slice none 0 0, .slice none 0 0, .bool false] zF = true := by decide

/-- Only what belongs to v has changed; v' has but that, and new blocks. -/
def VStep (v : Value) (m : AMem) (v' : Value) (m' : AMem) : Prop := Keep (ownV v) m m' ∧ ∀ x, ownV v' x → ownV v x ∨ m.size ≤ x
theorem no5 {m : AMem} {v : Value} {fs : List FileR} (h : FilesV m v fs) : ∀ x X w sp, m.get x = .cells X 5 w sp → ¬ ownV v x := by
  rintro x X w sp hx ⟨o, l, c, rfl⟩
  rcases h with ⟨_, h | ⟨b, h, _, h2⟩⟩ | ⟨b, Y, sp', h, _, h2, _⟩
  · cases h
  · cases h; rw [h2] at hx; cases hx
  · cases h; rw [h2] at hx; cases hx

/-- One behind the others. -/
theorem app_files {m : AMem} {v : Value} {fs : List FileR} {f : FileR} {nb : Nat} {row : List Value} {e : TypeId} {w : Bool} {sp : Spare} (hF : FilesV m v fs) (hn : fs.length ≤ 1000000) (hnb : nb < m.size) (hr : m.get nb = .cells row e w sp) (hc : FCell m row f) (hno : ¬ ownV v nb) :
    ∃ v' M', appV 63 4 72 zF v (.slice (some ⟨nb, 0, none⟩) 1 1) (mx m []) = some (v', mx M' []) ∧ FilesV M' v' (fs ++ [f]) ∧ VStep v m v' M' := by
  have hl := hc.len
  have hsrc : srcCells 4 1 (.slice (some ⟨nb, 0, none⟩) 1 1) (mx m []) = some row := by
    rw [srcCells_slice (Nat.le_refl _), rd_def, mx_old hnb, hr, rdO_cells]
    exact cutL_all hl
  have happ : appV 63 4 72 zF v (.slice (some ⟨nb, 0, none⟩) 1 1) (mx m []) = appendTo 63 4 72 zF v 1 row (mx m []) := by
    simp only [appV, srcLen_slice, hsrc]
    rw [if_pos ⟨rfl, by omega, hc.one, hl⟩]
  rw [happ]
  have hN : ∀ {M : AMem}, Keep (ownV v) m M → FCell M row f := fun hk => hc.keep hk (no5 hF)
  -- a new block
  have new : ∀ (M : AMem) (Y : List Value), Keep (ownV v) m M → Y.length = 4 * (fs.length + 1) → (∀ k (h : k < fs.length), FCell M (cell Y k) fs[k]) → cell Y fs.length = row →
      FilesV (mx M [.cells Y 63 true (.room zF)]) (.slice (some ⟨M.size, 0, none⟩) (fs.length + 1) openCap) (fs ++ [f]) ∧ VStep v m (.slice (some ⟨M.size, 0, none⟩) (fs.length + 1) openCap) (mx M [.cells Y 63 true (.room zF)]) := by
    intro M Y hk hY hcell hlast
    refine ⟨.inr ⟨M.size, Y, _, by simp, by rw [mx_size]; simp, mx_new0 _ _, .inl rfl, by simp; omega, by omega, fun k hk' => ?_⟩, hk.mx _, fun x ⟨o, l, c, hx⟩ => ?_⟩
    · rcases Nat.lt_or_ge k fs.length with h | h
      · rw [List.getElem_append_left h]
        exact (hcell k h).keep (Old.here M _ |>.keep fun _ => False) (fun _ _ _ _ _ h => h)
      · obtain rfl : k = fs.length := by simp at hk'; omega
        rw [hlast]
        simp only [List.getElem_append_right (Nat.le_refl _), Nat.sub_self, List.getElem_cons_zero]
        exact (hN hk).keep (Old.here M _ |>.keep fun _ => False) (fun _ _ _ _ _ h => h)
    · cases hx; right; exact hk.1
  rcases hF with ⟨rfl, rfl | ⟨b, rfl, hb, hm⟩⟩ | ⟨b, X, sp', rfl, hb, hm, hsp, hX, hX4, hcell⟩
  · refine ⟨.slice (some ⟨m.size, 0, none⟩) 1 openCap, mx m [.cells row 63 true (.room zF)], ?_, ?_⟩
    · rw [appendTo_nil (by omega) (by omega) (by omega), mx_push, mx_nil_size, mx_mx]; rfl
    · exact new m row (.refl _ _) hl (fun k h => by simp at h) (cell_four hl)
  · refine ⟨.slice (some ⟨m.size, 0, none⟩) 1 openCap, mx m [.cells row 63 true (.room zF)], ?_, ?_⟩
    · simp only [appendTo, if_neg (Nat.ne_of_lt zeroCap_lt)]
      rw [if_neg (by omega), rd_def, mx_old hb, hm, rdO_cells, show cutL ([] : List Value) 0 (0 * 4) = some [] from rfl]
      simp only
      rw [if_pos (by omega), mx_push, mx_nil_size, mx_mx]; rfl
    · exact new m row (.refl _ _) hl (fun k h => by simp at h) (cell_four hl)
  · have hsz : sp'.size = 4 := by rcases hsp with rfl | rfl <;> rfl
    by_cases hfit : 0 + (fs.length + 1) * 4 ≤ X.length
    · refine ⟨.slice (some ⟨b, 0, none⟩) (fs.length + 1) openCap, m.set b (.cells (splice X (4 * fs.length) row) 63 true sp'), ?_, ?_, ?_⟩
      · simp only [appendTo, if_true, mx_old hb, hm, hsz]
        rw [if_pos hfit, if_neg (by omega), mx_set_old hb, Nat.zero_add, Nat.mul_comm fs.length 4]
      · have hk : Keep (ownV (.slice (some ⟨b, 0, none⟩) fs.length openCap)) m (m.set b (.cells (splice X (4 * fs.length) row) 63 true sp')) := (Keep.refl _ m).set (fun _ => ⟨_, _, _, rfl⟩) _
        refine .inr ⟨b, _, sp', by simp, by rw [AMem.size_set]; exact hb, AMem.get_set_self _ _ _, hsp, by rw [splice_len (by omega)]; simp; omega, by rw [splice_len (by omega)]; exact hX4, fun k hk' => ?_⟩
        rw [cell_splice (n := 1) hl (by omega)]
        rcases Nat.lt_or_ge k fs.length with h | h
        · rw [List.getElem_append_left h, if_neg (by omega)]
          exact (hcell k h).keep hk (no5 (fs := fs) (.inr ⟨b, X, sp', rfl, hb, hm, hsp, hX, hX4, hcell⟩))
        · obtain rfl : k = fs.length := by simp at hk'; omega
          rw [if_pos (by omega), Nat.sub_self, cell_four hl]
          simp only [List.getElem_append_right (Nat.le_refl _), Nat.sub_self, List.getElem_cons_zero]
          exact hN hk
      · exact ⟨(Keep.refl _ m).set (fun _ => ⟨_, _, _, rfl⟩) _, fun x ⟨o, l, c, hx⟩ => by cases hx; exact .inl ⟨_, _, _, rfl⟩⟩
    · have hXl : X.length = 4 * fs.length := by omega
      have h4 : 0 + fs.length * 4 ≤ X.length := by omega
      have hY : ((X.drop 0).take (fs.length * 4) ++ row) = X ++ row := by rw [List.drop_zero, List.take_of_length_le (by omega)]
      have hlen : (X ++ row).length = 4 * (fs.length + 1) := by rw [List.length_append]; omega
      have hlast : cell (X ++ row) fs.length = row := by rw [cell_app_r hXl (Nat.le_refl _), Nat.sub_self, cell_four hl]
      rcases hsp with rfl | rfl
      · have hk : Keep (ownV (.slice (some ⟨b, 0, none⟩) fs.length openCap)) m (m.set b .dead) := (Keep.refl _ m).set (fun _ => ⟨_, _, _, rfl⟩) _
        refine ⟨.slice (some ⟨m.size, 0, none⟩) (fs.length + 1) openCap, mx (m.set b .dead) [.cells (X ++ row) 63 true (.room zF)], ?_, ?_⟩
        · simp only [appendTo, if_true, mx_old hb, hm, hsz]
          rw [if_neg hfit, if_pos ⟨h4, by omega, by omega⟩]
          try simp only
          rw [if_pos ⟨trivial, by simp, trivial, eqPL_zF⟩, mx_set_old hb, mx_push, mx_nil_size, mx_mx, hY]; rfl
        · have := new (m.set b .dead) (X ++ row) hk hlen (fun k h => by
            rw [cell_app_l (n := fs.length) (by omega) h]
            exact (hcell k h).keep hk (no5 (fs := fs) (.inr ⟨b, X, _, rfl, hb, hm, .inl rfl, hX, hX4, hcell⟩))) hlast
          exact this
      · refine ⟨.slice (some ⟨m.size, 0, none⟩) (fs.length + 1) openCap, mx m [.cells (X ++ row) 63 true (.room zF)], ?_, ?_⟩
        · simp only [appendTo, if_true, mx_old hb, hm, hsz]
          rw [if_neg hfit, if_pos ⟨h4, by omega, by omega⟩]
          try simp only
          rw [mx_push, mx_nil_size, mx_mx, hY]; rfl
        · exact new m (X ++ row) (.refl _ _) hlen (fun k h => by rw [cell_app_l (n := fs.length) (by omega) h]; exact hcell k h) hlast
end Go.Proofs.Ytbmjhiifinjieaa
namespace Go.Proofs.Ytbmjhiifinjieaa
open Go Go.AM
set_option linter.unusedVariables false
set_option linter.unusedSimpArgs false
set_option linter.unusedSectionVars false
set_option maxHeartbeats 1000000
set_option maxRecDepth 100000
variable [Ex]

theorem cut4 {l C i h : Nat} (h1 : i ≤ h) (h2 : h ≤ C) : cutV l C (some (.int .i64 (i : Int))) (some (.int .i64 (h : Int))) none = some (i, h, C) := by
  simp only [cutV]; rw [if_pos (by omega)]; simp
theorem cut4lo {l C i : Nat} (h1 : i ≤ l) (h2 : l ≤ C) : cutV l C (some (.int .i64 (i : Int))) none none = some (i, l, C) := by
  simp only [cutV]; rw [if_pos (by omega)]; simp
theorem cut4hi {l C h : Nat} (h2 : h ≤ C) : cutV l C none (some (.int .i64 (h : Int))) none = some (0, h, C) := by
  simp only [cutV]; rw [if_pos (by omega)]; simp
theorem slV4_lo {M : AMem} {b l i : Nat} {X : List Value} {e : TypeId} {w : Bool} {sp : Spare} (hm : M.get b = .cells X e w sp) (hs : sp.size = 4) (hl : 4 * l ≤ X.length) (hi : i ≤ l) :
    slVv 4 (.slice (some ⟨b, 0, none⟩) l openCap) (some (.int .i64 (i : Int))) none none M = some (.slice (some ⟨b, 4 * i, none⟩) (l - i) openCap, M) := by
  simp only [slVv, if_true, hm]
  rw [if_pos ⟨hs, by omega⟩, cut4lo hi (by omega)]
  simp only [Nat.zero_add, Nat.mul_comm i 4]
theorem slV4_hi {M : AMem} {b l h : Nat} {X : List Value} {e : TypeId} {w : Bool} {sp : Spare} (hm : M.get b = .cells X e w sp) (hs : sp.size = 4) (hl : 4 * l ≤ X.length) (hh : 4 * h ≤ X.length) :
    slVv 4 (.slice (some ⟨b, 0, none⟩) l openCap) none (some (.int .i64 (h : Int))) none M = some (.slice (some ⟨b, 0, none⟩) h openCap, M) := by
  simp only [slVv, if_true, hm]
  rw [if_pos ⟨hs, by omega⟩, cut4hi (by omega)]
  simp
theorem slV4_two {M : AMem} {b l i h : Nat} {X : List Value} {e : TypeId} {w : Bool} {sp : Spare} (hm : M.get b = .cells X e w sp) (hs : sp.size = 4) (hl : 4 * l ≤ X.length) (hi : i ≤ h) (hh : 4 * h ≤ X.length) :
    slVv 4 (.slice (some ⟨b, 0, none⟩) l openCap) (some (.int .i64 (i : Int))) (some (.int .i64 (h : Int))) none M = some (.slice (some ⟨b, 4 * i, none⟩) (h - i) openCap, M) := by
  simp only [slVv, if_true, hm]
  rw [if_pos ⟨hs, by omega⟩, cut4 hi (by omega)]
  simp only [Nat.zero_add, Nat.mul_comm i 4]
theorem cpy4 {M : AMem} {b o dl dc b2 o2 l2 c2 k : Nat} {X src : List Value} {e : TypeId} {sp : Spare} (hm : M.get b = .cells X e true sp) (hk : k = min l2 dl) (h0 : 0 < k) (hr : rd M b2 o2 (4 * k) = some src) (hs : src.length = 4 * k) (hone : src.all oneCell = true) (ho : o + 4 * k ≤ X.length) :
    cpyV 4 (.slice (some ⟨b, o, none⟩) dl dc) (.slice (some ⟨b2, o2, none⟩) l2 c2) M = some (.int .i64 k, M.set b (.cells (splice X o src) e true sp)) := by
  subst hk
  simp only [cpyV, srcLen_slice]
  rw [srcCells_slice (Nat.min_le_left _ _), Nat.mul_comm _ 4, hr]
  simp only
  rw [if_pos ⟨by omega, hone⟩, if_neg (by omega), wr_at hm (by omega)]; rfl
theorem cells_one : ∀ (k : Nat) {Y : List Value}, Y.length = 4 * k → (∀ j, j < k → (cell Y j).all oneCell = true) → Y.all oneCell = true
  | 0, Y, h, _ => by have : Y = [] := List.length_eq_zero_iff.1 (by omega); subst this; rfl
  | k + 1, Y, h, hc => by
    rw [← List.take_append_drop 4 Y, List.all_append, Bool.and_eq_true]
    refine ⟨by have := hc 0 (by omega); unfold cell at this; simpa using this, cells_one k (by rw [List.length_drop]; omega) fun j hj => ?_⟩
    have := hc (1 + j) (by omega)
    rw [← cell_drop Y 1 j] at this
    simpa using this

theorem capW_files {m : AMem} {b n : Nat} {X : List Value} {sp : Spare} {K : Value → AMem → Prop} (hb : b < m.size) (hm : m.get b = .cells X 63 true sp) (hsp : sp = .room zF ∨ sp = .full 4) (hX : 4 * n ≤ X.length) (hX4 : X.length % 4 = 0)
    (hK : ∀ X' C, X'.length = 4 * C → n ≤ C → (∀ k, k < n → cell X' k = cell X k) → K (.int .i64 (C : Nat)) (mx (m.set b (.cells X' 63 true (.full 4))) [])) :
    capW 4 (.slice (some ⟨b, 0, none⟩) n openCap) (mx m []) K := by
  simp only [capW, if_true, mx_old hb, hm]
  rcases hsp with rfl | rfl
  · refine ⟨rfl, by omega, trivial, trivial, Nat.zero_le _, fun j => ?_⟩
    rw [mx_set_old hb, Nat.sub_zero]
    have hl : (rep zF j).length = 4 * j := by simp [rep, zF]; omega
    have h1 : X.length = 4 * (X.length / 4) := by omega
    refine hK _ _ (by rw [List.length_append, hl]; omega) (by omega) fun k hk => ?_
    exact cell_app_l hX hk
  · refine ⟨rfl, ?_⟩
    have := hK X (X.length / 4) (by omega) (by omega) fun _ _ => rfl
    rwa [AMem.set_same hm] at this

/-- The files, one among them. -/
def insR (fs : List FileR) (i : Nat) (f : FileR) : List FileR := fs.take i ++ f :: fs.drop i
theorem insR_len {fs : List FileR} {i : Nat} (hi : i ≤ fs.length) (f : FileR) : (insR fs i f).length = fs.length + 1 := by simp [insR]; omega
theorem ins_cells {M : AMem} {fs : List FileR} {i : Nat} {f : FileR} {X Y row : List Value} (hi : i ≤ fs.length) (hX : ∀ k (h : k < fs.length), FCell M (cell X k) fs[k]) (hr : FCell M row f)
    (h1 : ∀ k, k < i → cell Y k = cell X k) (h2 : cell Y i = row) (h3 : ∀ k, i < k → k ≤ fs.length → cell Y k = cell X (k - 1)) : ∀ k (h : k < (insR fs i f).length), FCell M (cell Y k) (insR fs i f)[k] := by
  intro k hk
  rw [insR_len hi] at hk
  have hti : (fs.take i).length = i := by rw [List.length_take]; omega
  rcases Nat.lt_trichotomy k i with h | h | h
  · rw [h1 k h]
    have : (insR fs i f)[k]'(by rw [insR_len hi]; omega) = fs[k] := by
      simp only [insR]; rw [List.getElem_append_left (by omega)]; simp
    rw [this]; exact hX k (by omega)
  · subst h
    rw [h2]
    have : (insR fs k f)[k]'(by rw [insR_len hi]; omega) = f := by
      simp only [insR]; rw [List.getElem_append_right (by omega)]; simp [hti]
    rw [this]; exact hr
  · rw [h3 k h (by omega)]
    have : (insR fs i f)[k]'(by rw [insR_len hi]; omega) = fs[k - 1] := by
      simp only [insR]; rw [List.getElem_append_right (by omega)]
      rw [List.getElem_cons, dif_neg (by omega), List.getElem_drop]
      congr 1; omega
    rw [this]; exact hX (k - 1) (by omega)

theorem insert_ok (m : AMem) (v : Value) (fs : List FileR) (i nb : Nat) (f : FileR) {row : List Value} {e : TypeId} (hF : FilesV m v fs) (hn : fs.length ≤ 100000) (hi : i ≤ fs.length) (hnb : nb < m.size) (hr : m.get nb = .cells row e true .exact) (hc : FCell m row f) (hno : ¬ ownV v nb) :
    RelC Try.prog 0 61 [v, .int .i64 i, .slice (some ⟨nb, 0, none⟩) 1 1] m fun v' m' => FilesV m' v' (insR fs i f) ∧ VStep v m v' m' := by
  refine rel_of_W (fn := Try.f61) rfl rfl F61_ok (by simp [F61]) ?_
  obtain ⟨a, cap, rfl⟩ := hF.len
  by_cases hin : i = fs.length
  · subst hin
    have hs : ∀ M, slVv 4 (.slice a fs.length cap) (some (.int .i64 (fs.length : Int))) none none (mx m []) = M → ∃ x, M = some (x, mx m []) := by
      rintro _ rfl
      rcases hF with ⟨h, h' | ⟨b, h', hb, hm⟩⟩ | ⟨b, X, sp', h', hb, hm, hsp, hX, hX4, hcell⟩
      · subst h
        simp only [List.length_nil, Value.slice.injEq] at h'
        obtain ⟨rfl, -, rfl⟩ := h'
        simp only [slVv, if_neg (Nat.ne_of_lt zeroCap_lt)]; exact ⟨_, rfl⟩
      · subst h
        simp only [List.length_nil, Value.slice.injEq] at h'
        obtain ⟨rfl, -, rfl⟩ := h'
        simp only [slVv, if_neg (Nat.ne_of_lt zeroCap_lt)]; exact ⟨_, rfl⟩
      · cases h'
        exact ⟨_, slV4_lo ((mx_old hb).trans hm) (by rcases hsp with rfl | rfl <;> rfl) hX (Nat.le_refl _)⟩
    obtain ⟨x, hx⟩ := hs _ rfl
    obtain ⟨v', M', happ, hF', hst⟩ := app_files hF (by omega) hnb hr hc hno
    simp only [zF] at happ
    simp (implicitDefEqProofs := false) (maxSteps := 1000000) (disch := first | omega | with_reducible assumption | (simp only [lenT, Nat.reduceAdd]; omega)) only [amT, cut, bnd, Nat.reduceBEq, reduceCtorEq, Nat.reduceEqDiff, Nat.reduceAdd, Nat.reduceMul, Nat.reduceSub, Int.reduceToNat, Int.reduceEq, Int.reduceLT, Int.reduceLE, Int.reduceAdd, Int.reduceSub, Int.reduceMul, reduceIte, resVs, resV, packV, initT, addr, F61, stepOp_slV_v, hx, stepOp_app_v, happ]
    refine ⟨_, rfl, fun _ => ?_⟩
    have e : insR fs fs.length f = fs ++ [f] := by simp [insR]
    rw [e]
    exact ⟨hF'.old (Old.here _ _), hst.1.mx _, hst.2⟩
  · rcases hF with ⟨h, _⟩ | ⟨b, X, sp', h', hb, hm, hsp, hX, hX4, hcell⟩
    · subst h; simp at hi hin; omega
    cases h'
    have hs1 := slV4_lo (M := mx m []) (i := i) ((mx_old hb).trans hm) (show sp'.size = 4 by rcases hsp with rfl | rfl <;> rfl) hX (by omega)
    have hne : ¬ ((i : Int) = (fs.length : Int)) := by omega
    have hF0 : FilesV m (.slice (some ⟨b, 0, none⟩) fs.length openCap) fs := .inr ⟨b, X, sp', rfl, hb, hm, hsp, hX, hX4, hcell⟩
    have hnbb : nb ≠ b := fun e => hno ⟨_, _, _, by rw [e]⟩
    have hrl := hc.len
    simp (implicitDefEqProofs := false) (maxSteps := 1000000) (disch := first | omega | with_reducible assumption | (simp only [lenT, Nat.reduceAdd]; omega)) only [amT, cut, bnd, Nat.reduceBEq, reduceCtorEq, Nat.reduceEqDiff, Nat.reduceAdd, Nat.reduceMul, Nat.reduceSub, Int.reduceToNat, Int.reduceEq, Int.reduceLT, Int.reduceLE, Int.reduceAdd, Int.reduceSub, Int.reduceMul, reduceIte, resVs, resV, packV, initT, addr, F61, stepOp_slV_v, hs1, hne]
    refine capW_files hb hm hsp hX hX4 fun X' C hXC hnC hcl => ?_
    have hk1 : Keep (ownV (.slice (some ⟨b, 0, none⟩) fs.length openCap)) m (m.set b (.cells X' 63 true (.full 4))) := (Keep.refl _ m).set (fun _ => ⟨_, _, _, rfl⟩) _
    have g1 : (m.set b (.cells X' 63 true (.full 4))).get b = .cells X' 63 true (.full 4) := AMem.get_set_self _ _ _
    have g2 : (m.set b (.cells X' 63 true (.full 4))).get nb = .cells row e true .exact := by rw [AMem.get_set_ne _ _ hnbb]; exact hr
    have hms : (m.set b (.cells X' 63 true (.full 4))).size = m.size := rfl
    generalize m.set b (.cells X' 63 true (.full 4)) = M1 at hk1 g1 g2 hms
    have hn5 := no5 hF0
    have hcell' : ∀ k (h : k < fs.length), FCell M1 (cell X' k) fs[k] := fun k h => by rw [hcl k h]; exact (hcell k h).keep hk1 hn5
    have hrow' : FCell M1 row f := hc.keep hk1 hn5
    have hone : ((X'.drop (4 * i)).take (4 * (fs.length - i))).all oneCell = true := cells_one (fs.length - i) (by rw [List.length_take, List.length_drop]; omega) fun j hj => by
      rw [cell_take hj, cell_drop]; exact (hcell' (i + j) (by omega)).one
    by_cases hcap : (C : Int) < (fs.length : Int) + 1
    · have hCn : C = fs.length := by omega
      have q1 := slV4_hi (M := mx M1 []) (h := i) ((mx_old (by omega)).trans g1) rfl (show 4 * fs.length ≤ X'.length by omega) (by omega)
      have hl0 : (X'.take (4 * i)).length = 4 * i := by rw [List.length_take]; omega
      have hl1 : (rep zF (fs.length + 1 - i)).length = 4 * (fs.length + 1 - i) := by simp [rep, zF]; omega
      have hY0 : (X'.take (4 * i) ++ rep zF (fs.length + 1 - i)).length = 4 * (fs.length + 1) := by rw [List.length_append, hl0, hl1]; omega
      have eA : ((fs.length : Int) + 1 - (i : Int)).toNat = fs.length + 1 - i := by omega
      have qA : appendTo 63 4 72 zF (.slice (some ⟨b, 0, none⟩) i openCap) (fs.length + 1 - i) (rep zF (fs.length + 1 - i)) (mx M1 []) = some (.slice (some ⟨M1.size, 0, none⟩) (fs.length + 1) openCap, mx M1 [.cells (X'.take (4 * i) ++ rep zF (fs.length + 1 - i)) 63 true (.room zF)]) := by
        simp only [appendTo, if_true, (mx_old (show b < M1.size by omega)).trans g1, Spare.size]
        rw [if_neg (by omega), if_pos ⟨by omega, by omega, by omega⟩, mx_push, mx_nil_size, List.drop_zero, Nat.mul_comm i 4, show i + (fs.length + 1 - i) = fs.length + 1 by omega]; rfl
      generalize hYe : X'.take (4 * i) ++ rep zF (fs.length + 1 - i) = Y0 at hY0 qA
      have q2 := slV4_lo (M := mx M1 [.cells Y0 63 true (.room zF)]) (b := M1.size) (l := fs.length + 1) (i := i) (mx_new0 _ _) rfl (by omega) (by omega)
      have q3 := cpy4 (M := mx M1 [.cells Y0 63 true (.room zF)]) (b := M1.size) (o := 4 * i) (dl := fs.length + 1 - i) (dc := openCap) (b2 := nb) (o2 := 0) (l2 := 1) (c2 := 1) (k := 1) (mx_new0 _ _) (by omega) (by omega)
        (by rw [rd_def, mx_old (by omega), g2, rdO_cells]; exact cutL_all hrl) hrl hc.one (by omega)
      rw [mx_set0 _ _ _ (by simp)] at q3
      simp only [List.set_cons_zero] at q3
      have hY1 : (splice Y0 (4 * i) row).length = 4 * (fs.length + 1) := by rw [splice_len (by omega)]; exact hY0
      generalize hY1e : splice Y0 (4 * i) row = Y1 at hY1 q3
      have q4 := slV4_lo (M := mx M1 [.cells Y1 63 true (.room zF)]) (b := M1.size) (l := fs.length + 1) (i := i + 1) (mx_new0 _ _) rfl (by omega) (by omega)
      have q5 := slV4_lo (M := mx M1 [.cells Y1 63 true (.room zF)]) (b := b) (l := fs.length) (i := i) ((mx_old (by omega)).trans g1) rfl (by omega) (by omega)
      have q6 := cpy4 (M := mx M1 [.cells Y1 63 true (.room zF)]) (b := M1.size) (o := 4 * (i + 1)) (dl := fs.length + 1 - (i + 1)) (dc := openCap) (b2 := b) (o2 := 4 * i) (l2 := fs.length - i) (c2 := openCap) (k := fs.length - i) (src := (X'.drop (4 * i)).take (4 * (fs.length - i))) (mx_new0 _ _) (by omega) (by omega)
        (by rw [rd_def, mx_old (by omega), g1, rdO_cells]; unfold cutL; rw [if_pos (by omega)]) (by rw [List.length_take, List.length_drop]; omega) hone (by omega)
      rw [mx_set0 _ _ _ (by simp)] at q6
      simp only [List.set_cons_zero] at q6
      simp only [Int.natCast_add, Int.cast_ofNat_Int] at q4
      have hcY : ∀ k, k ≤ fs.length → cell (splice Y1 (4 * (i + 1)) ((X'.drop (4 * i)).take (4 * (fs.length - i)))) k = if k < i then cell X' k else if k = i then row else cell X' (k - 1) := by
        intro k hk
        rw [cell_splice (n := fs.length - i) (by rw [List.length_take, List.length_drop]; omega) (by rw [List.length_take, List.length_drop]; omega)]
        by_cases hki : i + 1 ≤ k
        · rw [if_pos (by omega), if_neg (by omega), if_neg (by omega), cell_take (by omega), cell_drop]; congr 1; omega
        · rw [if_neg (by omega), ← hY1e, cell_splice (n := 1) hrl (by omega)]
          by_cases hke : k = i
          · rw [if_pos (by omega), if_neg (by omega), if_pos hke, hke, Nat.sub_self, cell_four hrl]
          · rw [if_neg (by omega), if_pos (by omega), ← hYe, cell_app_l (n := i) (by omega) (by omega), cell_take (by omega)]
      have hYl : (splice Y1 (4 * (i + 1)) ((X'.drop (4 * i)).take (4 * (fs.length - i)))).length = 4 * (fs.length + 1) := by rw [splice_len (by rw [List.length_take, List.length_drop]; omega)]; exact hY1
      generalize splice Y1 (4 * (i + 1)) ((X'.drop (4 * i)).take (4 * (fs.length - i))) = Y2 at hcY hYl q6
      simp only [zF] at qA q2 q3 q4 q5 q6
      simp (implicitDefEqProofs := false) (maxSteps := 1000000) (disch := first | omega | with_reducible assumption | (simp only [lenT, Nat.reduceAdd]; omega)) only [amT, cut, bnd, Nat.reduceBEq, reduceCtorEq, Nat.reduceEqDiff, Nat.reduceAdd, Nat.reduceMul, Nat.reduceSub, Int.reduceToNat, Int.reduceEq, Int.reduceLT, Int.reduceLE, Int.reduceAdd, Int.reduceSub, Int.reduceMul, reduceIte, resVs, resV, packV, initT, addr, hcap, stepOp_slV_v, q1, stepOp_appN, eA, qA, q2, stepOp_cpy_v, q3, q4, q5, q6]
      refine ⟨_, rfl, fun _ => ⟨.inr ⟨M1.size, Y2, .room zF, by rw [insR_len hi], by rw [mx_size]; simp, mx_new0 _ _, .inl rfl, by rw [insR_len hi]; omega, by omega, ?_⟩, hk1.mx _, fun x ⟨o, l, c, hx⟩ => by cases hx; right; omega⟩⟩
      have ko : Keep (fun _ => False) M1 (mx M1 [.cells Y2 63 true (.room zF)]) := (Old.here M1 _).keep _
      refine ins_cells (X := X') (row := row) hi (fun k h => (hcell' k h).keep ko fun _ _ _ _ _ h => h) (hrow'.keep ko fun _ _ _ _ _ h => h) (fun k hk => ?_) ?_ fun k hk1 hk2 => ?_
      · rw [hcY k (by omega), if_pos hk]
      · rw [hcY i hi, if_neg (by omega), if_pos rfl]
      · rw [hcY k hk2, if_neg (by omega), if_neg (by omega)]
    · have hC : fs.length + 1 ≤ C := by omega
      have g3 : ∀ (Z : List Value), (mx (M1.set b (.cells Z 63 true (.full 4))) []).get b = .cells Z 63 true (.full 4) := fun Z => by rw [mx_old (by rw [AMem.size_set]; omega), AMem.get_set_self]
      have g4 : ∀ (Z : List Value), (mx (M1.set b (.cells Z 63 true (.full 4))) []).get nb = .cells row e true .exact := fun Z => by rw [mx_old (by rw [AMem.size_set]; omega), AMem.get_set_ne _ _ hnbb, g2]
      have g1' : (mx M1 []).get b = .cells X' 63 true (.full 4) := (mx_old (by omega)).trans g1
      have q1 := slV4_hi (M := mx M1 []) (h := fs.length + 1) g1' rfl (show 4 * fs.length ≤ X'.length by omega) (by omega)
      have q2 := slV4_lo (M := mx M1 []) (l := fs.length + 1) (i := i + 1) g1' rfl (by omega) (by omega)
      have k71 := DetC.known (overlaps_ok (mx M1 []) (b := nb) (o := 0) (l := 1) (c := 1) (b2 := b) (o2 := 4 * (i + 1)) (l2 := fs.length + 1 - (i + 1)) (c2 := openCap) hnbb ((mx_old (by omega)).trans g2) (by simp [Spare.size]) (by omega) g1' (by simp [Spare.size]) (fun _ => by omega))
      have q3 := slV4_lo (M := mx M1 []) (l := fs.length + 1) (i := i) g1' rfl (by omega) (by omega)
      have q4 := cpy4 (M := mx M1 []) (b := b) (o := 4 * (i + 1)) (dl := fs.length + 1 - (i + 1)) (dc := openCap) (b2 := b) (o2 := 4 * i) (l2 := fs.length + 1 - i) (c2 := openCap) (k := fs.length - i) (src := (X'.drop (4 * i)).take (4 * (fs.length - i))) g1' (by omega) (by omega)
        (by rw [rd_def, g1', rdO_cells]; unfold cutL; rw [if_pos (by omega)]) (by rw [List.length_take, List.length_drop]; omega) hone (by omega)
      have hY1 : (splice X' (4 * (i + 1)) ((X'.drop (4 * i)).take (4 * (fs.length - i)))).length = 4 * C := by rw [splice_len (by rw [List.length_take, List.length_drop]; omega)]; exact hXC
      rw [mx_set_old (by omega)] at q4
      generalize hY1e : splice X' (4 * (i + 1)) ((X'.drop (4 * i)).take (4 * (fs.length - i))) = Y1 at hY1 q4
      have q5 := slV4_lo (M := mx (M1.set b (.cells Y1 63 true (.full 4))) []) (l := fs.length + 1) (i := i) (g3 Y1) rfl (by omega) (by omega)
      have q6 := cpy4 (M := mx (M1.set b (.cells Y1 63 true (.full 4))) []) (b := b) (o := 4 * i) (dl := fs.length + 1 - i) (dc := openCap) (b2 := nb) (o2 := 0) (l2 := 1) (c2 := 1) (k := 1) (g3 Y1) (by omega) (by omega)
        (by rw [rd_def, g4, rdO_cells]; exact cutL_all hrl) hrl hc.one (by omega)
      rw [mx_set_old (by rw [AMem.size_set]; omega), AMem.set_set] at q6
      have hcY : ∀ k, k ≤ fs.length → cell (splice Y1 (4 * i) row) k = if k < i then cell X' k else if k = i then row else cell X' (k - 1) := by
        intro k hk
        rw [cell_splice (n := 1) hrl (by omega)]
        by_cases hke : k = i
        · rw [if_pos (by omega), if_neg (by omega), if_pos hke, hke, Nat.sub_self, cell_four hrl]
        · rw [if_neg (by omega), ← hY1e, cell_splice (n := fs.length - i) (by rw [List.length_take, List.length_drop]; omega) (by rw [List.length_take, List.length_drop]; omega)]
          by_cases hki : i + 1 ≤ k
          · rw [if_pos (by omega), if_neg (by omega), if_neg (by omega), cell_take (by omega), cell_drop]; congr 1; omega
          · rw [if_neg (by omega), if_pos (by omega)]
      have hYl : (splice Y1 (4 * i) row).length = 4 * C := by rw [splice_len (by omega)]; exact hY1
      generalize splice Y1 (4 * i) row = Y2 at hcY hYl q6
      simp only [Int.natCast_add, Int.cast_ofNat_Int] at q1 q2
      repeat first | simp (implicitDefEqProofs := false) (maxSteps := 1000000) (disch := first | omega | with_reducible assumption | (simp only [lenT, Nat.reduceAdd]; omega)) only [amT, cut, bnd, Nat.reduceBEq, reduceCtorEq, Nat.reduceEqDiff, Nat.reduceAdd, Nat.reduceMul, Nat.reduceSub, Int.reduceToNat, Int.reduceEq, Int.reduceLT, Int.reduceLE, Int.reduceAdd, Int.reduceSub, Int.reduceMul, reduceIte, resVs, resV, packV, initT, addr, hcap, stepOp_slV_v, q1, q2, k71, stepOp_cpy_v, q3, q4, q5, q6] | refine OrW.go ?_
      have hk2 : Keep (ownV (.slice (some ⟨b, 0, none⟩) fs.length openCap)) m (M1.set b (.cells Y2 63 true (.full 4))) := hk1.set (fun _ => ⟨_, _, _, rfl⟩) _
      refine ⟨_, rfl, fun _ => ⟨.inr ⟨b, Y2, .full 4, by rw [insR_len hi], by rw [mx_nil_size, AMem.size_set]; omega, g3 _, .inr rfl, by rw [insR_len hi]; omega, by omega, ?_⟩, hk2.mx _, fun x ⟨o, l, c, hx⟩ => by cases hx; left; exact ⟨_, _, _, rfl⟩⟩⟩
      have ko := hk2.mx []
      refine ins_cells (X := X') (row := row) hi (fun k h => ?_) (hc.keep ko hn5) (fun k hk => ?_) ?_ fun k hk1 hk2 => ?_
      · rw [hcl k h]; exact (hcell k h).keep ko hn5
      · rw [hcY k (by omega), if_pos hk]
      · rw [hcY i hi, if_neg (by omega), if_pos rfl]
      · rw [hcY k hk2, if_neg (by omega), if_neg (by omega)]
end Go.Proofs.Ytbmjhiifinjieaa
namespace Go.Proofs.Ytbmjhiifinjieaa
open Go Go.AM
set_option linter.unusedVariables false
set_option linter.unusedSimpArgs false
set_option linter.unusedSectionVars false
set_option maxHeartbeats 1000000
set_option maxRecDepth 100000
variable [Ex]

theorem rep1 (z : List Value) : rep z 1 = z := by simp [rep]
theorem slV4_mx {M : AMem} {b l i h : Nat} {X : List Value} {e : TypeId} {w : Bool} {sp : Spare} (hm : M.get b = .cells X e w sp) (hs : sp.size = 4) (hl : 4 * l ≤ X.length) (hi : i ≤ h) (hh : h ≤ l) (hil : i < l) (hb : l ≤ 9223372036854775807) :
    slVv 4 (.slice (some ⟨b, 0, none⟩) l openCap) (some (.int .i64 (i : Int))) (some (.int .i64 (h : Int))) (some (.int .i64 (l : Int))) M = some (.slice (some ⟨b, 4 * i, none⟩) (h - i) (l - i), M) := by
  have hc : cutV l (X.length / 4) (some (.int .i64 (i : Int))) (some (.int .i64 (h : Int))) (some (.int .i64 (l : Int))) = some (i, h, l) := by
    simp only [cutV]; rw [if_pos (by omega)]; simp
  simp only [slVv, if_true, hm, Nat.sub_zero]
  rw [if_pos ⟨hs, by omega⟩, hc]
  simp only
  rw [if_pos hb, if_neg (by omega), Nat.zero_add, Nat.mul_comm i 4]

theorem delete_ok (m : AMem) (v : Value) (fs : List FileR) (i : Nat) (hF : FilesV m v fs) (hn : fs.length ≤ 100000) (hi : i < fs.length) :
    RelC Try.prog 0 54 [v, .int .i64 i, .int .i64 ((i : Int) + 1)] m fun v' m' => FilesV m' v' (fs.eraseIdx i) ∧ VStep v m v' m' := by
  refine rel_of_W (fn := Try.f54) rfl rfl F54_ok (by simp [F54]) ?_
  have hF0 := hF
  rcases hF with ⟨h, _⟩ | ⟨b, X, sp, rfl, hb, hm, hsp, hX, hX4, hcell⟩
  · subst h; simp at hi
  have hn5 := no5 hF0
  have hs : sp.size = 4 := by rcases hsp with rfl | rfl <;> rfl
  have hm' : (mx m []).get b = .cells X 63 true sp := (mx_old hb).trans hm
  have q1 := slV4_mx (M := mx m []) (i := i) (h := i + 1) hm' hs hX (by omega) (by omega) hi (by omega)
  have q2 := slV4_hi (M := mx m []) (h := i) hm' hs hX (by omega)
  have q3 := slV4_lo (M := mx m []) (i := i + 1) hm' hs hX (by omega)
  obtain ⟨Y, happ, hYl, hYc⟩ : ∃ Y, appV 63 4 72 zF (.slice (some ⟨b, 0, none⟩) i openCap) (.slice (some ⟨b, 4 * (i + 1), none⟩) (fs.length - (i + 1)) openCap) (mx m []) = some (.slice (some ⟨b, 0, none⟩) (fs.length - 1) openCap, mx (m.set b (.cells Y 63 true sp)) []) ∧
      Y.length = X.length ∧ ∀ k, k < fs.length - 1 → cell Y k = if k < i then cell X k else cell X (k + 1) := by
    have hone : ((X.drop (4 * (i + 1))).take (4 * (fs.length - (i + 1)))).all oneCell = true := cells_one (fs.length - (i + 1)) (by rw [List.length_take, List.length_drop]; omega) fun j hj => by
      rw [cell_take hj, cell_drop]; exact (hcell (i + 1 + j) (by omega)).one
    have hsrc : srcCells 4 (fs.length - (i + 1)) (.slice (some ⟨b, 4 * (i + 1), none⟩) (fs.length - (i + 1)) openCap) (mx m []) = some ((X.drop (4 * (i + 1))).take (4 * (fs.length - (i + 1)))) := by
      rw [srcCells_slice (Nat.le_refl _), rd_def, hm', rdO_cells, Nat.mul_comm _ 4]; unfold cutL; rw [if_pos (by omega)]
    have hlen : ((X.drop (4 * (i + 1))).take (4 * (fs.length - (i + 1)))).length = 4 * (fs.length - (i + 1)) := by rw [List.length_take, List.length_drop]; omega
    have hv : appV 63 4 72 zF (.slice (some ⟨b, 0, none⟩) i openCap) (.slice (some ⟨b, 4 * (i + 1), none⟩) (fs.length - (i + 1)) openCap) (mx m []) = appendTo 63 4 72 zF (.slice (some ⟨b, 0, none⟩) i openCap) (fs.length - (i + 1)) ((X.drop (4 * (i + 1))).take (4 * (fs.length - (i + 1)))) (mx m []) := by
      simp only [appV, srcLen_slice, hsrc]
      rw [if_pos ⟨rfl, by omega, hone, by omega⟩]
    rw [hv]
    simp only [appendTo, if_true, hm', hs]
    rw [if_pos (by omega)]
    by_cases h0 : fs.length - (i + 1) = 0
    · refine ⟨X, ?_, rfl, fun k hk => by rw [if_pos (by omega)]⟩
      rw [if_pos h0, AMem.set_same hm, show i = fs.length - 1 by omega]
    · refine ⟨splice X (4 * i) ((X.drop (4 * (i + 1))).take (4 * (fs.length - (i + 1)))), ?_, splice_len (by omega), fun k hk => ?_⟩
      · rw [if_neg h0, mx_set_old hb, Nat.zero_add, Nat.mul_comm i 4, show i + (fs.length - (i + 1)) = fs.length - 1 by omega]
      · rw [cell_splice (n := fs.length - (i + 1)) hlen (by omega)]
        by_cases hk : k < i
        · rw [if_neg (by omega), if_pos hk]
        · rw [if_pos (by omega), if_neg hk, cell_take (by omega), cell_drop]; congr 1; omega
  have g3 : (mx (m.set b (.cells Y 63 true sp)) []).get b = .cells Y 63 true sp := by rw [mx_old (by rw [AMem.size_set]; exact hb), AMem.get_set_self]
  have q4 := slV4_two (M := mx (m.set b (.cells Y 63 true sp)) []) (l := fs.length - 1) (i := fs.length - 1) (h := fs.length) g3 hs (by omega) (by omega) (by omega)
  rw [show fs.length - (fs.length - 1) = 1 by omega] at q4
  have hne : ¬ ((i : Int) = (i : Int) + 1) := by omega
  simp only [zF] at happ
  simp only [Int.natCast_add, Int.cast_ofNat_Int] at q1 q3
  simp (implicitDefEqProofs := false) (maxSteps := 1000000) (disch := first | omega | with_reducible assumption | (simp only [lenT, Nat.reduceAdd]; omega)) only [amT, cut, bnd, Nat.reduceBEq, reduceCtorEq, Nat.reduceEqDiff, Nat.reduceAdd, Nat.reduceMul, Nat.reduceSub, Int.reduceToNat, Int.reduceEq, Int.reduceLT, Int.reduceLE, Int.reduceAdd, Int.reduceSub, Int.reduceMul, reduceIte, resVs, resV, packV, initT, addr, F54, stepOp_slV_v, q1, q2, q3, hne, stepOp_app_v, happ, q4, stepOp_clr, rep1]
  have hl2 : (splice Y (4 * (fs.length - 1)) zF).length = X.length := by rw [splice_len (by simp [zF]; omega)]; exact hYl
  have hc2 : ∀ k, k < fs.length - 1 → cell (splice Y (4 * (fs.length - 1)) zF) k = if k < i then cell X k else cell X (k + 1) := fun k hk => by
    rw [cell_splice (n := 1) rfl (by simp [zF]; omega), if_neg (by omega)]; exact hYc k hk
  have hk2 : Keep (ownV (.slice (some ⟨b, 0, none⟩) fs.length openCap)) m (m.set b (.cells (splice Y (4 * (fs.length - 1)) zF) 63 true sp)) := (Keep.refl _ m).set (fun _ => ⟨_, _, _, rfl⟩) _
  have hel : (fs.eraseIdx i).length = fs.length - 1 := by rw [List.length_eraseIdx, if_pos hi]
  refine ⟨_, rfl, fun _ => ⟨.inr ⟨b, splice Y (4 * (fs.length - 1)) zF, sp, by rw [hel], by rw [mx_nil_size, AMem.size_set]; omega, by rw [mx_old (by rw [AMem.size_set]; exact hb), AMem.get_set_self]; rfl, hsp, by omega, by omega, fun k hk => ?_⟩, hk2.mx _, fun x ⟨o, l, c, hx⟩ => by cases hx; left; exact ⟨_, _, _, rfl⟩⟩⟩
  rw [hc2 k (by omega), List.getElem_eraseIdx]
  split
  · exact (hcell k (by omega)).keep (hk2.mx _) hn5
  · exact (hcell (k + 1) (by omega)).keep (hk2.mx _) hn5
end Go.Proofs.Ytbmjhiifinjieaa
namespace Go.Proofs.Ytbmjhiifinjieaa
open Go Go.AM
set_option linter.unusedVariables false
set_option linter.unusedSimpArgs false
set_option linter.unusedSectionVars false
set_option maxHeartbeats 1000000
set_option maxRecDepth 100000
variable [Ex]

/-- Only the disk at p, and what belongs to its files, has changed. -/
def DStep (p : Nat) (v : Value) (m : AMem) (v' : Value) (m' : AMem) : Prop := Keep (fun x => x = p ∨ ownV v x) m m' ∧ ∀ x, ownV v' x → ownV v x ∨ m.size ≤ x
theorem DStep.refl (p : Nat) (v : Value) (m : AMem) : DStep p v m v m := ⟨.refl _ _, fun _ h => .inl h⟩
theorem DStep.trans {p : Nat} {v v1 v2 : Value} {m m1 m2 : AMem} (h : DStep p v m v1 m1) (k : DStep p v1 m1 v2 m2) : DStep p v m v2 m2 :=
  ⟨h.1.trans k.1 fun x hx ho => ho.imp id fun ho => (h.2 x ho).resolve_right (by omega), fun x hx => (k.2 x hx).elim (h.2 x) fun hs => .inr (Nat.le_trans h.1.1 hs)⟩
theorem VStep.d {v v' : Value} {m m' : AMem} (h : VStep v m v' m') (p : Nat) : DStep p v m v' m' := ⟨h.1.weak fun _ _ => .inr, h.2⟩
theorem DStep.old {p : Nat} {v v' : Value} {m m1 m' : AMem} (h : DStep p v m1 v' m') (ho : Old m m1) : DStep p v m v' m' :=
  ⟨(ho.keep fun x => x = p ∨ ownV v x).trans h.1 fun _ _ => id, fun x hx => (h.2 x hx).imp id fun hs => Nat.le_trans ho.1 hs⟩
theorem not_own {m : AMem} {v : Value} {fs : List FileR} (h : FilesV m v fs) {p : Nat} {X : List Value} {e : TypeId} {w : Bool} {sp : Spare} (hp : m.get p = .cells X e w sp) (he : e ≠ 63) : ¬ ownV v p := by
  rintro ⟨o, l, c, rfl⟩
  rcases h with ⟨_, h | ⟨b, h, _, h2⟩⟩ | ⟨b, Y, sp', h, _, h2, _⟩
  · cases h
  · cases h; rw [h2] at hp; cases hp; exact he rfl
  · cases h; rw [h2] at hp; cases hp; exact he rfl
theorem own_lt {m : AMem} {v : Value} {fs : List FileR} (h : FilesV m v fs) {x : Nat} (hx : ownV v x) : x < m.size := by
  obtain ⟨o, l, c, rfl⟩ := hx
  rcases h with ⟨_, h | ⟨b, h, h1, _⟩⟩ | ⟨b, Y, sp', h, h1, _⟩
  · cases h
  · cases h; exact h1
  · cases h; exact h1
/-- The disk's own block, written. -/
theorem FilesV.setp {m : AMem} {v : Value} {fs : List FileR} (h : FilesV m v fs) {p : Nat} {X : List Value} {e : TypeId} {w : Bool} {sp : Spare} (hp : m.get p = .cells X e w sp) (he : e ≠ 63) (he5 : e ≠ 5) (o : AObj) : FilesV (m.set p o) v fs := by
  refine h.keep (O := fun x => x = p) ((Keep.refl (fun x => x = p) m).set (fun _ => rfl) o) (fun x Y w' sp' hx e => ?_) (fun x hx e => ?_)
  · subst e; rw [hp] at hx; cases hx; exact he5 rfl
  · subst e; exact not_own h hp he hx
/-- One of them is another one. -/
theorem FilesV.put {m : AMem} {v : Value} {fs : List FileR} (h : FilesV m v fs) {k : Nat} (hk : k < fs.length) {row : List Value} {f : FileR} (hr : FCell m row f) :
    ∃ b X sp, v = .slice (some ⟨b, 0, none⟩) fs.length openCap ∧ b < m.size ∧ m.get b = .cells X 63 true sp ∧ 4 * k + 4 ≤ X.length ∧ FilesV (m.set b (.cells (splice X (4 * k) row) 63 true sp)) v (fs.set k f) := by
  have h0 := h
  rcases h with ⟨h, _⟩ | ⟨b, X, sp, rfl, hb, hm, hsp, hX, hX4, hcell⟩
  · subst h; simp at hk
  have hk1 : Keep (ownV (.slice (some ⟨b, 0, none⟩) fs.length openCap)) m (m.set b (.cells (splice X (4 * k) row) 63 true sp)) := (Keep.refl _ m).set (fun _ => ⟨_, _, _, rfl⟩) _
  have hl := hr.len
  refine ⟨b, X, sp, rfl, hb, hm, by omega, .inr ⟨b, _, sp, by rw [List.length_set], by rw [AMem.size_set]; exact hb, AMem.get_set_self _ _ _, hsp, by rw [splice_len (by omega), List.length_set]; exact hX, by rw [splice_len (by omega)]; exact hX4, fun j hj => ?_⟩⟩
  rw [List.length_set] at hj
  rw [cell_splice (n := 1) hl (by omega), List.getElem_set]
  by_cases hjk : k = j
  · subst hjk
    rw [if_pos (by omega), if_pos rfl, Nat.sub_self, cell_four hl]
    exact hr.keep hk1 (no5 h0)
  · rw [if_neg (by omega), if_neg hjk]
    exact (hcell j hj).keep hk1 (no5 h0)

def layR (fs : List FileR) (f : FileR) : List FileR := if isAt fs f.name then fs.set (place fs f.name) f else insR fs (place fs f.name) f
theorem place_le (fs : List FileR) (s : List UInt8) : place fs s ≤ fs.length := List.findIdx_le_length
theorem isAt_lt {fs : List FileR} {s : List UInt8} (h : isAt fs s = true) : ∃ hl : place fs s < fs.length, fs[place fs s].name = s := by
  unfold isAt at h
  split at h
  · rename_i f hf
    obtain ⟨hl, rfl⟩ := List.getElem?_eq_some_iff.1 hf
    exact ⟨hl, by simpa using h⟩
  · cases h
theorem insR_set (fs : List FileR) (i : Nat) (f : FileR) (hi : i ≤ fs.length) : (insR fs i f).set i f = insR fs i f := by
  have : (fs.take i).length = i := by rw [List.length_take]; omega
  simp only [insR]
  rw [List.set_append_right _ _ (by omega), this, Nat.sub_self]; rfl

theorem lay_ok (m : AMem) (p : Nat) (v : Value) (fs : List FileR) (f : FileR) (a1 : Option Addr) (c1 : Nat) (a2 : Option Addr) (c2 : Nat) (hp : p < m.size) {q st se off : Value} (hd : m.get p = .cells [v, q, st, se, off] 60 true .exact)
    (hF : FilesV m v fs) (hS : Sorted fs) (hn : fs.length ≤ 100000) (hc : FCell m (fRow f a1 c1 a2 c2) f) :
    RelC Try.prog 0 36 [.pointer (some ⟨p, 0, none⟩), .agg (fRow f a1 c1 a2 c2).toArray] m fun r m' => r = .tuple #[] ∧ ∃ v', m'.get p = .cells [v', q, st, se, off] 60 true .exact ∧ FilesV m' v' (layR fs f) ∧ DStep p v m v' m' := by
  refine rel_of_W (fn := Try.f36) rfl rfl F36_ok (by simp [F36]) ?_
  obtain ⟨a, cap, rfl⟩ := hF.len
  have hOx := Old.here m [.cells (fRow f a1 c1 a2 c2) 63 true .exact]
  have k33 := DetC.known (find_ok (mx m [.cells (fRow f a1 c1 a2 c2) 63 true .exact]) p a cap fs f.name (by rw [mx_size]; omega) (by rw [mx_old hp]; exact hd) (hF.old hOx) hS (by omega))
  simp only [fRow] at k33
  cases hat : isAt fs f.name with
  | true =>
    rw [hat] at k33
    obtain ⟨hlt, hnm⟩ := isAt_lt hat
    obtain ⟨b, X, sp, hv, hb, hm, hle, hF'⟩ := hF.put hlt hc
    have hpb : p ≠ b := fun e => by subst e; rw [hd] at hm; cases hm
    have hown : ownV (.slice a fs.length cap) b := ⟨_, _, _, hv⟩
    cases hv
    repeat first | simp (implicitDefEqProofs := false) (maxSteps := 1000000) (disch := first | omega | with_reducible assumption | (simp only [lenT, Nat.reduceAdd]; omega)) only [amT, cut, bnd, Nat.reduceBEq, reduceCtorEq, Nat.reduceEqDiff, Nat.reduceAdd, Nat.reduceMul, Nat.reduceSub, Int.reduceToNat, Int.reduceEq, Int.reduceLT, Int.reduceLE, Int.reduceAdd, Int.reduceSub, Int.reduceMul, reduceIte, resVs, resV, packV, initT, addr, F36, fRow, cellsOf_row4, k33, hd, hm, cutL4, Nat.mul_comm _ 4] | refine OrW.go ?_
    simp only [fRow] at hF'
    have hk := (Keep.refl (fun x => x = p ∨ ownV (.slice (some ⟨b, 0, none⟩) fs.length openCap) x) m).set (b := b) (fun _ => .inr hown) (.cells (splice X (4 * place fs f.name) [.string ⟨f.name.toArray⟩, .slice a1 f.dry.length c1, .slice a2 f.wet.length c2, .bool f.born]) 63 true sp)
    refine ⟨_, rfl, fun _ => ⟨rfl, _, ?_, ?_, hk.mx _, fun x hx => .inl hx⟩⟩
    · rfl
    · have : layR fs f = fs.set (place fs f.name) f := by simp [layR, hat]
      rw [this]; exact hF'.old (Old.here _ _)
  | false =>
    rw [hat] at k33
    have hOy := Old.here m [.cells (fRow f a1 c1 a2 c2) 63 true .exact, .cells (fRow f a1 c1 a2 c2) 63 true .exact]
    have hFy := hF.old hOy
    have hno : ¬ ownV (.slice a fs.length cap) (m.size + 1) := fun h => by have := own_lt hF h; omega
    have hins := insert_ok _ _ fs (place fs f.name) (m.size + 1) f (e := 63) hFy hn (place_le _ _) (by rw [mx_size]; simp) (mx_new _ _ 1) (hc.keep (hOy.keep fun _ => False) fun _ _ _ _ _ h => h) hno
    simp only [fRow] at hins
    repeat first | simp (implicitDefEqProofs := false) (maxSteps := 1000000) (disch := first | omega | with_reducible assumption | (simp only [lenT, Nat.reduceAdd]; omega)) only [amT, cut, bnd, Nat.reduceBEq, reduceCtorEq, Nat.reduceEqDiff, Nat.reduceAdd, Nat.reduceMul, Nat.reduceSub, Int.reduceToNat, Int.reduceEq, Int.reduceLT, Int.reduceLE, Int.reduceAdd, Int.reduceSub, Int.reduceMul, reduceIte, resVs, resV, packV, initT, addr, F36, fRow, cellsOf_row4, k33, hd, cutL4, fill_row4] | refine OrW.go ?_
    refine RelC.call hins ?_
    rintro v' M ⟨hF2, hst⟩
    have hdM : M.get p = .cells [.slice a fs.length cap, q, st, se, off] 60 true .exact := by
      rw [hst.1.2 p (by rw [mx_size]; omega) (not_own hF hd (by decide)), mx_old hp]; exact hd
    have hMs : m.size + 2 ≤ M.size := Nat.le_trans (by rw [mx_size]; simp) hst.1.1
    have hbx : M.get m.size = .cells (fRow f a1 c1 a2 c2) 63 true .exact := by
      rw [hst.1.2 m.size (by rw [mx_size]; simp) fun h => by have := own_lt hF h; omega]; exact mx_new0 _ _
    simp only [fRow] at hbx
    have hpl : place fs f.name < (insR fs (place fs f.name) f).length := by rw [insR_len (place_le _ _)]; have := place_le fs f.name; omega
    have hdp := (hst.d p).old hOy
    have hF3 := hF2.setp hdM (by decide) (by decide) (.cells [v', q, st, se, off] 60 true .exact)
    have hc3 : FCell (M.set p (.cells [v', q, st, se, off] 60 true .exact)) (fRow f a1 c1 a2 c2) f :=
      hc.keep (hdp.1.set (fun _ => .inl rfl) _) fun x X w sp hx h => h.elim (fun e => by subst e; rw [hd] at hx; cases hx) (no5 hF x X w sp hx)
    obtain ⟨b, X, sp, hv, hb, hm, hle, hF'⟩ := hF3.put hpl hc3
    have hpM : p < M.size := by omega
    have hpb : p ≠ b := fun e => by subst e; rw [AMem.get_set_self] at hm; cases hm
    have hdp' : DStep p (.slice a fs.length cap) m v' ((M.set p (.cells [v', q, st, se, off] 60 true .exact)).set b (.cells (splice X (4 * place fs f.name) (fRow f a1 c1 a2 c2)) 63 true sp)) :=
      ⟨(hdp.1.set (fun _ => .inl rfl) _).set (fun hbm => .inr ((hdp.2 b ⟨_, _, _, hv⟩).resolve_right (by omega))) _, hdp.2⟩
    have hmb : M.get b = .cells X 63 true sp := by rw [AMem.get_set_ne _ _ (Ne.symm hpb)] at hm; exact hm
    subst hv
    simp only [AMem.size_set] at hb
    repeat first | simp (implicitDefEqProofs := false) (maxSteps := 1000000) (disch := first | omega | with_reducible assumption | (simp only [lenT, Nat.reduceAdd]; omega)) only [amT, cut, bnd, Nat.reduceBEq, reduceCtorEq, Nat.reduceEqDiff, Nat.reduceAdd, Nat.reduceMul, Nat.reduceSub, Int.reduceToNat, Int.reduceEq, Int.reduceLT, Int.reduceLE, Int.reduceAdd, Int.reduceSub, Int.reduceMul, reduceIte, resVs, resV, packV, initT, addr, hdM, hbx, hm, hmb, cutL4, cellsOf_row4, Nat.mul_comm _ 4] | refine OrW.go ?_
    have e : layR fs f = (insR fs (place fs f.name) f).set (place fs f.name) f := by simp [layR, hat, insR_set _ _ _ (place_le _ _)]
    rw [e]
    simp only [fRow] at hF' hdp'
    exact ⟨_, rfl, fun _ => ⟨rfl, _, rfl, hF'.old (Old.here _ _), hdp'.1.mx _, hdp'.2⟩⟩
end Go.Proofs.Ytbmjhiifinjieaa
namespace Go.AM
theorem Buf.byv [Ex] {m M : AMem} {v : Value} {c : List UInt8} {e : TypeId} (h : Buf m M v (c.map byteV) e (.int .u8 0)) (hx : Ex.x < m.size) : ByV e M v c := by
  rcases h with ⟨h, rfl⟩ | ⟨b, h1, h2, rfl, h4⟩
  · exact .inl ⟨by simpa using h, rfl⟩
  · rw [List.length_map]; exact ByV.whole (by omega) h2 h4
theorem mx_old' {m : AMem} (l : List AObj) {x : Nat} (h : x < m.size) : (mx m l).get x = m.get x := mx_old h
end Go.AM
namespace Go.Proofs.Ytbmjhiifinjieaa
open Go Go.AM
set_option linter.unusedVariables false
set_option linter.unusedSimpArgs false
set_option linter.unusedSectionVars false
set_option maxHeartbeats 1000000
set_option maxRecDepth 100000
variable [Ex]

structure DiskR where
  files : List FileR
  quota : Int
  steps : Int
  set : Int
  off : Bool
def DiskR.cells (d : DiskR) (v : Value) : List Value := [v, .int .i64 d.quota, .int .i64 d.steps, .int .i64 d.set, .bool d.off]
theorem cells_0 (d : DiskR) (v : Value) : (d.cells v)[0]? = some v := rfl
theorem cells_set0 (d : DiskR) (v v1 : Value) : (d.cells v).set 0 v1 = d.cells v1 := rfl
theorem cells_len (d : DiskR) (v : Value) : (d.cells v).length = 5 := rfl
structure DAt (m : AMem) (p : Nat) (v : Value) (d : DiskR) : Prop where
  lt : p < m.size
  get : m.get p = .cells (d.cells v) 60 true .exact
  files : FilesV m v d.files
  ex : Ex.x < m.size
structure DOk (d : DiskR) : Prop where
  sorted : Sorted d.files
  few : d.files.length ≤ 10000
  used : usedR d.files ≤ 50000000
  q0 : 0 ≤ d.quota
  q1 : d.quota ≤ 9223372036854775807
  s0 : 0 ≤ d.steps
  s1 : d.steps ≤ 1000000000
  t0 : -1 ≤ d.set
  t1 : d.set ≤ 9223372036854775807
theorem DAt.old {m m' : AMem} {p : Nat} {v : Value} {d : DiskR} (h : DAt m p v d) (ho : Old m m') : DAt m' p v d := ⟨Nat.lt_of_lt_of_le h.lt ho.1, by rw [ho.2 p h.lt]; exact h.get, h.files.old ho, Nat.lt_of_lt_of_le h.ex ho.1⟩
theorem size_le {fs : List FileR} {k : Nat} (h : k < fs.length) : fs[k].size ≤ usedR fs := by
  unfold usedR
  have : ∀ (l : List Nat) (x : Nat), x ∈ l → x ≤ l.sum := by
    intro l
    induction l with
    | nil => intro x hx; cases hx
    | cons y l ih =>
      intro x hx
      rw [List.sum_cons]
      rcases List.mem_cons.1 hx with rfl | hx
      · omega
      · have := ih x hx; omega
  exact this _ _ (List.mem_map.2 ⟨_, List.getElem_mem h, rfl⟩)

/-- The file of a name. -/
def fileAt (fs : List FileR) (s : List UInt8) : FileR := fs.getD (place fs s) ⟨s, [], [], false⟩
theorem fileAt_eq {fs : List FileR} {s : List UInt8} (h : place fs s < fs.length) : fileAt fs s = fs[place fs s] := by simp [fileAt, h]

def readR (d : DiskR) (s : List UInt8) : Int × List UInt8 := if barsE d.off [s] = 0 then (if isAt d.files s then (0, (fileAt d.files s).all) else (5, [])) else (barsE d.off [s], [])
theorem read_ok (m : AMem) (p : Nat) (v : Value) (d : DiskR) (s : List UInt8) (hs : s.length ≤ 9223372036854775807) (hD : DAt m p v d) (hO : DOk d) :
    RelC Try.prog 0 18 [.pointer (some ⟨p, 0, none⟩), .string ⟨s.toArray⟩] m fun r m' => ∃ b, r = .tuple #[b, .int .i64 (readR d s).1] ∧ Old m m' ∧ Buf m m' b ((readR d s).2.map byteV) 5 (.int .u8 0) := by
  refine rel_of_W (fn := Try.f18) rfl rfl F18_ok (by simp [F18]) ?_
  have hp := hD.lt
  have hd := hD.get
  obtain ⟨a, cap, rfl⟩ := hD.files.len
  have hOx := Old.here m [.cells [.string ⟨s.toArray⟩] 9 true .exact]
  have hDx := hD.old hOx
  have k32 : Known Try.prog 0 32 [.pointer (some ⟨p, 0, none⟩), .slice (some ⟨m.size, 0, none⟩) 1 1] (mx m [.cells [.string ⟨s.toArray⟩] 9 true .exact]) (.int .i64 (barsE d.off [s])) _ :=
    DetC.known (bars_ok _ p m.size 1 [s] (by simp) (by simpa using hs) (by rw [mx_size]; simp) (mx_new0 _ _) hDx.lt hDx.get)
  have k33 := DetC.known (find_ok _ p a cap d.files s hDx.lt hDx.get hDx.files hO.sorted (by have := hO.few; omega))
  simp only [DiskR.cells] at hd
  by_cases hb : barsE d.off [s] = 0
  · rw [hb] at k32
    cases hat : isAt d.files s with
    | false =>
      rw [hat] at k33
      repeat first | simp (implicitDefEqProofs := false) (maxSteps := 1000000) (disch := first | omega | with_reducible assumption | (simp only [lenT, Nat.reduceAdd]; omega)) only [amT, cut, bnd, Nat.reduceBEq, reduceCtorEq, Nat.reduceEqDiff, Nat.reduceAdd, Nat.reduceMul, Nat.reduceSub, Int.reduceToNat, Int.reduceEq, Int.reduceLT, Int.reduceLE, Int.reduceAdd, Int.reduceSub, Int.reduceMul, reduceIte, resVs, resV, packV, initT, addr, F18, k32, k33] | refine OrW.go ?_
      have e : readR d s = (5, []) := by simp [readR, hb, hat]
      rw [e]
      exact ⟨_, rfl, fun _ => ⟨_, rfl, .nil _ _ _ _⟩⟩
    | true =>
      rw [hat] at k33
      obtain ⟨hlt, _⟩ := isAt_lt hat
      obtain ⟨b, a1, c1, a2, c2, rfl, hbs, hr, hb1, hb2⟩ := hDx.files.get hlt
      have ha := all_ok _ d.files[place d.files s] a1 c1 a2 c2 hb1 hb2 (by have := size_le hlt; have := hO.used; omega)
      rw [rd_def] at hr
      simp only [fRow] at hr ha
      have hbs' : b < m.size := by
        rcases hD.files with ⟨h, _⟩ | ⟨b', X, sp, h0, h1, _⟩
        · simp [h] at hlt
        · cases h0; exact h1
      rw [mx_old hbs'] at hr
      repeat first | simp (implicitDefEqProofs := false) (maxSteps := 1000000) (disch := first | omega | with_reducible assumption | (simp only [lenT, Nat.reduceAdd]; omega)) only [amT, cut, bnd, Nat.reduceBEq, reduceCtorEq, Nat.reduceEqDiff, Nat.reduceAdd, Nat.reduceMul, Nat.reduceSub, Int.reduceToNat, Int.reduceEq, Int.reduceLT, Int.reduceLE, Int.reduceAdd, Int.reduceSub, Int.reduceMul, reduceIte, resVs, resV, packV, initT, addr, F18, k32, k33, hd, hr] | refine OrW.go ?_
      refine RelC.call ha ?_
      rintro r M ⟨hM, hB⟩
      repeat first | simp (implicitDefEqProofs := false) (maxSteps := 1000000) (disch := first | omega | with_reducible assumption | (simp only [lenT, Nat.reduceAdd]; omega)) only [amT, cut, bnd, Nat.reduceBEq, reduceCtorEq, Nat.reduceEqDiff, Nat.reduceAdd, Nat.reduceMul, Nat.reduceSub, Int.reduceToNat, Int.reduceEq, Int.reduceLT, Int.reduceLE, Int.reduceAdd, Int.reduceSub, Int.reduceMul, reduceIte, resVs, resV, packV, initT, addr] | refine OrW.go ?_
      have e : readR d s = (0, d.files[place d.files s].all) := by simp [readR, hb, hat, fileAt_eq hlt]
      rw [e]
      exact ⟨_, rfl, fun _ => ⟨_, rfl, (hOx.trans hM).mx _, (hB.keep (by rw [mx_nil_size]; exact Nat.le_refl _) fun b _ hb => mx_old hb).base (by rw [mx_size]; omega)⟩⟩
  · repeat first | simp (implicitDefEqProofs := false) (maxSteps := 1000000) (disch := first | omega | with_reducible assumption | (simp only [lenT, Nat.reduceAdd]; omega)) only [amT, cut, bnd, Nat.reduceBEq, reduceCtorEq, Nat.reduceEqDiff, Nat.reduceAdd, Nat.reduceMul, Nat.reduceSub, Int.reduceToNat, Int.reduceEq, Int.reduceLT, Int.reduceLE, Int.reduceAdd, Int.reduceSub, Int.reduceMul, reduceIte, resVs, resV, packV, initT, addr, F18, k32, k33, hb] | refine OrW.go ?_
    have e : readR d s = (barsE d.off [s], []) := by simp [readR, hb]
    rw [e]
    exact ⟨_, rfl, fun _ => ⟨_, rfl, .nil _ _ _ _⟩⟩

/-- What is left of bytes. -/
def LeftOk (m : AMem) (f : FuncId) (cap : List Value) (L : List UInt8 → Option (List UInt8)) : Prop :=
  ∀ M, Old m M → ∀ v c, c.length ≤ 100000000 → ByV 5 M v c → match L c with
    | some c' => ∃ v', ByV 5 M v' c' ∧ DetC Try.prog 0 f ([v] ++ cap) M (.tuple #[v', .int .i64 0]) (mx M [])
    | none => DetC Try.prog 0 f ([v] ++ cap) M (.tuple #[.slice none 0 0, .int .i64 2]) (mx M [])
def DiskR.step (d : DiskR) : DiskR := if d.set = 0 then { d with steps := d.steps + 1, set := -1, off := true } else { d with steps := d.steps + 1, set := max (-1) (d.set - 1) }
theorem step_cells (d : DiskR) (v : Value) : stepCells v (.int .i64 d.quota) d.steps d.set d.off = d.step.cells v := by
  unfold stepCells DiskR.step; split <;> rfl
theorem step_files (d : DiskR) : d.step.files = d.files := by unfold DiskR.step; split <;> rfl
theorem step_d' (m : AMem) (p : Nat) (v : Value) (d : DiskR) (hD : DAt m p v d) (s0 : 0 ≤ d.steps) (s1 : d.steps ≤ 1000000000) (t0 : -1 ≤ d.set) (t1 : d.set ≤ 9223372036854775807) :
    DetC Try.prog 0 37 [.pointer (some ⟨p, 0, none⟩)] m (.bool (!decide (d.set = 0))) (mx (m.set p (.cells (d.step.cells v) 60 true .exact)) []) := by
  have := step_ok m p hD.lt hD.get s0 (by omega) t0 t1
  rwa [step_cells] at this
theorem step_d (m : AMem) (p : Nat) (v : Value) (d : DiskR) (hD : DAt m p v d) (hO : DOk d) :
    DetC Try.prog 0 37 [.pointer (some ⟨p, 0, none⟩)] m (.bool (!decide (d.set = 0))) (mx (m.set p (.cells (d.step.cells v) 60 true .exact)) []) := step_d' m p v d hD hO.s0 hO.s1 hO.t0 hO.t1
theorem DAt.put {m : AMem} {p : Nat} {v : Value} {d d' : DiskR} (h : DAt m p v d) (he : d'.files = d.files) : DAt (m.set p (.cells (d'.cells v) 60 true .exact)) p v d' :=
  ⟨h.lt, AMem.get_set_self _ _ _, by rw [he]; exact h.files.setp h.get (by decide) (by decide) _, h.ex⟩
theorem DStep.setp (p : Nat) (v : Value) (m : AMem) (o : AObj) : DStep p v m v (m.set p o) := ⟨(Keep.refl (fun x => x = p ∨ ownV v x) m).set (fun _ => .inl rfl) o, fun _ h => .inl h⟩

def driesR (d : DiskR) (frm to : List UInt8) (L : List UInt8 → Option (List UInt8)) : Int × DiskR :=
  if barsE d.off [frm, to] = 0 then
    if isAt d.files frm then match L (fileAt d.files frm).all with
      | none => (2, d)
      | some b => if d.set = 0 then (40, d.step) else (0, { d.step with files := layR (d.files.eraseIdx (place d.files frm)) ⟨to, b, [], true⟩ })
    else (5, d)
  else (barsE d.off [frm, to], d)
theorem Sorted.erase {fs : List FileR} (h : Sorted fs) (i : Nat) : Sorted (fs.eraseIdx i) := List.Pairwise.sublist (List.eraseIdx_sublist _ _) h

theorem dries_ok (m : AMem) (p : Nat) (v : Value) (d : DiskR) (frm to : List UInt8) (f : FuncId) (cp : List Value) (L : List UInt8 → Option (List UInt8)) (hs : frm.length ≤ 9223372036854775807) (ht : to.length ≤ 9223372036854775807) (hD : DAt m p v d) (hO : DOk d) (hL : LeftOk m f cp L) :
    RelC Try.prog 0 38 [.pointer (some ⟨p, 0, none⟩), .string ⟨frm.toArray⟩, .string ⟨to.toArray⟩, .func (.func f) [].toArray cp.toArray] m fun r m' => r = .int .i64 (driesR d frm to L).1 ∧ ∃ v', DAt m' p v' (driesR d frm to L).2 ∧ DStep p v m v' m' := by
  refine rel_of_W (fn := Try.f38) rfl rfl F38_ok (by simp [F38]) ?_
  have hp := hD.lt
  have hd := hD.get
  obtain ⟨a, cap, rfl⟩ := hD.files.len
  have hOx := Old.here m [.cells [.string ⟨frm.toArray⟩, .string ⟨to.toArray⟩] 9 true .exact]
  have hDx := hD.old hOx
  have k32 : Known Try.prog 0 32 [.pointer (some ⟨p, 0, none⟩), .slice (some ⟨m.size, 0, none⟩) 2 2] (mx m [.cells [.string ⟨frm.toArray⟩, .string ⟨to.toArray⟩] 9 true .exact]) (.int .i64 (barsE d.off [frm, to])) _ :=
    DetC.known (bars_ok _ p m.size 2 [frm, to] (by simp) (by intro x hx; simp at hx; rcases hx with rfl | rfl <;> assumption) (by rw [mx_size]; simp) (mx_new0 _ _) hDx.lt hDx.get)
  have k33 := DetC.known (find_ok _ p a cap d.files frm hDx.lt hDx.get hDx.files hO.sorted (by have := hO.few; omega))
  simp only [DiskR.cells] at hd
  have same : ∀ e, driesR d frm to L = (e, d) → ∃ v', DAt (mx m [.cells [.string ⟨frm.toArray⟩, .string ⟨to.toArray⟩] 9 true .exact]) p v' (driesR d frm to L).2 ∧ DStep p (.slice a d.files.length cap) m v' (mx m [.cells [.string ⟨frm.toArray⟩, .string ⟨to.toArray⟩] 9 true .exact]) := fun e h => by
    rw [h]; exact ⟨_, hDx, (Old.here m _).keep _, fun _ h => .inl h⟩
  by_cases hb : barsE d.off [frm, to] = 0
  · rw [hb] at k32
    cases hat : isAt d.files frm with
    | false =>
      rw [hat] at k33
      repeat first | simp (implicitDefEqProofs := false) (maxSteps := 1000000) (disch := first | omega | with_reducible assumption | (simp only [lenT, Nat.reduceAdd]; omega)) only [amT, cut, bnd, Nat.reduceBEq, reduceCtorEq, Nat.reduceEqDiff, Nat.reduceAdd, Nat.reduceMul, Nat.reduceSub, Int.reduceToNat, Int.reduceEq, Int.reduceLT, Int.reduceLE, Int.reduceAdd, Int.reduceSub, Int.reduceMul, reduceIte, resVs, resV, packV, initT, addr, F38, k32, k33] | refine OrW.go ?_
      have e : driesR d frm to L = (5, d) := by simp [driesR, hb, hat]
      exact ⟨_, rfl, fun _ => ⟨by rw [e], same 5 e⟩⟩
    | true =>
      rw [hat] at k33
      obtain ⟨hlt, _⟩ := isAt_lt hat
      obtain ⟨b, a1, c1, a2, c2, rfl, hbs, hr, hb1, hb2⟩ := hDx.files.get hlt
      have ha := all_ok _ d.files[place d.files frm] a1 c1 a2 c2 hb1 hb2 (by have := size_le hlt; have := hO.used; omega)
      rw [rd_def] at hr
      simp only [fRow] at hr ha
      have hbs' : b < m.size := by
        rcases hD.files with ⟨h, _⟩ | ⟨b', X, sp, h0, h1, _⟩
        · simp [h] at hlt
        · cases h0; exact h1
      rw [mx_old hbs'] at hr
      repeat first | simp (implicitDefEqProofs := false) (maxSteps := 1000000) (disch := first | omega | with_reducible assumption | (simp only [lenT, Nat.reduceAdd]; omega)) only [amT, cut, bnd, Nat.reduceBEq, reduceCtorEq, Nat.reduceEqDiff, Nat.reduceAdd, Nat.reduceMul, Nat.reduceSub, Int.reduceToNat, Int.reduceEq, Int.reduceLT, Int.reduceLE, Int.reduceAdd, Int.reduceSub, Int.reduceMul, reduceIte, resVs, resV, packV, initT, addr, F38, k32, k33, hd, hr] | refine OrW.go ?_
      refine RelC.call ha ?_
      rintro r M ⟨hM, hB⟩
      have hbv := hB.byv hDx.ex
      have hOM := hOx.trans hM
      have hDM := hD.old hOM
      have hl := hL M hOM r _ (by have := size_le hlt; have := hO.used; simp only [FileR.all, List.length_append]; simp only [FileR.size] at *; omega) hbv
      have hall : (fileAt d.files frm).all = d.files[place d.files frm].all := by rw [fileAt_eq hlt]
      cases hLc : L d.files[place d.files frm].all with
      | none =>
        rw [hLc] at hl
        have k := DetC.known hl.start
        simp only [List.cons_append, List.nil_append] at k
        have e : driesR d frm to L = (2, d) := by simp [driesR, hb, hat, hall, hLc]
        repeat first | simp (implicitDefEqProofs := false) (maxSteps := 1000000) (disch := first | omega | with_reducible assumption | (simp only [lenT, Nat.reduceAdd]; omega)) only [amT, cut, bnd, Nat.reduceBEq, reduceCtorEq, Nat.reduceEqDiff, Nat.reduceAdd, Nat.reduceMul, Nat.reduceSub, Int.reduceToNat, Int.reduceEq, Int.reduceLT, Int.reduceLE, Int.reduceAdd, Int.reduceSub, Int.reduceMul, reduceIte, resVs, resV, packV, initT, addr, k] | refine OrW.go ?_
        exact ⟨_, rfl, fun _ => ⟨by rw [e], by rw [e]; exact ⟨_, hDM.old (Old.here _ _), (hOM.mx _).keep _, fun _ h => .inl h⟩⟩⟩
      | some c' =>
        rw [hLc] at hl
        obtain ⟨v', hbv', hp'⟩ := hl
        obtain ⟨av, cv, rfl⟩ := hbv'.len
        have k := DetC.known hp'.start
        simp only [List.cons_append, List.nil_append] at k
        have k37 := DetC.known (step_d (mx M []) p _ d (hDM.old (Old.here _ _)) hO)
        have hDS : DAt (M.set p (.cells (d.step.cells (.slice (some ⟨b, 0, none⟩) d.files.length cap)) 60 true .exact)) p (.slice (some ⟨b, 0, none⟩) d.files.length cap) d.step := hDM.put (step_files d)
        have hst1 : DStep p (.slice (some ⟨b, 0, none⟩) d.files.length cap) m (.slice (some ⟨b, 0, none⟩) d.files.length cap) (M.set p (.cells (d.step.cells (.slice (some ⟨b, 0, none⟩) d.files.length cap)) 60 true .exact)) := (DStep.setp p _ M _).old hOM
        have hpM : p < M.size := hDM.lt
        by_cases hset : d.set = 0
        · have e : driesR d frm to L = (40, d.step) := by simp [driesR, hb, hat, hall, hLc, hset]
          repeat first | simp (implicitDefEqProofs := false) (maxSteps := 1000000) (disch := first | omega | with_reducible assumption | (simp only [lenT, Nat.reduceAdd]; omega)) only [amT, cut, bnd, Nat.reduceBEq, reduceCtorEq, Nat.reduceEqDiff, Nat.reduceAdd, Nat.reduceMul, Nat.reduceSub, Int.reduceToNat, Int.reduceEq, Int.reduceLT, Int.reduceLE, Int.reduceAdd, Int.reduceSub, Int.reduceMul, reduceIte, resVs, resV, packV, initT, addr, k, k37, hset] | refine OrW.go ?_
          exact ⟨_, rfl, fun _ => ⟨by rw [e], by rw [e]; exact ⟨_, hDS.old (Old.here _ _), hst1.1.mx _, hst1.2⟩⟩⟩
        · have e : driesR d frm to L = (0, { d.step with files := layR (d.files.eraseIdx (place d.files frm)) ⟨to, c', [], true⟩ }) := by simp [driesR, hb, hat, hall, hLc, hset]
          have hfs := hDS.files
          have hfew := hO.few
          rw [step_files] at hfs
          have hdel := (delete_ok _ _ d.files (place d.files frm) hfs (by have := hO.few; omega) hlt).at
          repeat first | simp (implicitDefEqProofs := false) (maxSteps := 1000000) (disch := first | omega | with_reducible assumption | (simp only [lenT, Nat.reduceAdd]; omega)) only [amT, cut, bnd, Nat.reduceBEq, reduceCtorEq, Nat.reduceEqDiff, Nat.reduceAdd, Nat.reduceMul, Nat.reduceSub, Int.reduceToNat, Int.reduceEq, Int.reduceLT, Int.reduceLE, Int.reduceAdd, Int.reduceSub, Int.reduceMul, reduceIte, resVs, resV, packV, initT, addr, k, k37, hset, cells_0] | refine OrW.go ?_
          refine RelC.call hdel ?_
          rintro v1 M1 ⟨hF1, hst2⟩
          obtain ⟨av1, cv1, rfl⟩ := hF1.len
          have hM1p : M1.get p = .cells (d.step.cells (.slice (some ⟨b, 0, none⟩) d.files.length cap)) 60 true .exact := by
            rw [hst2.1.2 p (by rw [AMem.size_set]; exact hpM) (not_own hfs (AMem.get_set_self _ _ _) (by decide)), AMem.get_set_self]
          have hpM1 : p < M1.size := Nat.lt_of_lt_of_le (by rw [AMem.size_set]; exact hpM) hst2.1.1
          have hF2 := hF1.setp hM1p (by decide) (by decide) (.cells (d.step.cells (.slice av1 (d.files.eraseIdx (place d.files frm)).length cv1)) 60 true .exact)
          have hst3 := hst1.trans ((hst2.d p).trans (DStep.setp p (.slice av1 (d.files.eraseIdx (place d.files frm)).length cv1) M1 (.cells (d.step.cells (.slice av1 (d.files.eraseIdx (place d.files frm)).length cv1)) 60 true .exact)))
          have hbv2 : ByV 5 (M1.set p (.cells (d.step.cells (.slice av1 (d.files.eraseIdx (place d.files frm)).length cv1)) 60 true .exact)) (.slice av c'.length cv) c' := by
            have s1 := (DStep.setp p (.slice (some ⟨b, 0, none⟩) d.files.length cap) M (.cells (d.step.cells (.slice (some ⟨b, 0, none⟩) d.files.length cap)) 60 true .exact)).trans ((hst2.d p).trans (DStep.setp p (.slice av1 (d.files.eraseIdx (place d.files frm)).length cv1) M1 (.cells (d.step.cells (.slice av1 (d.files.eraseIdx (place d.files frm)).length cv1)) 60 true .exact)))
            exact hbv'.keep s1.1 fun x X w sp hx h => h.elim (fun e => by subst e; rw [hDM.get] at hx; cases hx) (no5 hDM.files x X w sp hx)
          have hlay := (lay_ok (M1.set p (.cells (d.step.cells (.slice av1 (d.files.eraseIdx (place d.files frm)).length cv1)) 60 true .exact)) p (.slice av1 (d.files.eraseIdx (place d.files frm)).length cv1) (d.files.eraseIdx (place d.files frm)) ⟨to, c', [], true⟩ av cv none 0 (by rw [AMem.size_set]; exact hpM1) (AMem.get_set_self _ _ _) hF2 (hO.sorted.erase _)
            (by have := List.length_eraseIdx_le d.files (place d.files frm); have := hO.few; omega) ⟨_, _, _, _, rfl, hbv2, ByV.nil _ _⟩).at
          simp only [fRow, List.length_nil] at hlay
          have hcl := cells_len d.step (.slice (some ⟨b, 0, none⟩) d.files.length cap)
          repeat first | simp (implicitDefEqProofs := false) (maxSteps := 1000000) (disch := first | omega | with_reducible assumption | (simp only [lenT, Nat.reduceAdd]; omega)) only [amT, cut, bnd, Nat.reduceBEq, reduceCtorEq, Nat.reduceEqDiff, Nat.reduceAdd, Nat.reduceMul, Nat.reduceSub, Int.reduceToNat, Int.reduceEq, Int.reduceLT, Int.reduceLE, Int.reduceAdd, Int.reduceSub, Int.reduceMul, reduceIte, resVs, resV, packV, initT, addr, hM1p, cells_set0, cells_len] | refine OrW.go ?_
          refine RelC.call hlay ?_
          rintro r2 M2 ⟨rfl, v2, hg2, hF4, hst4⟩
          repeat first | simp (implicitDefEqProofs := false) (maxSteps := 1000000) (disch := first | omega | with_reducible assumption | (simp only [lenT, Nat.reduceAdd]; omega)) only [amT, cut, bnd, Nat.reduceBEq, reduceCtorEq, Nat.reduceEqDiff, Nat.reduceAdd, Nat.reduceMul, Nat.reduceSub, Int.reduceToNat, Int.reduceEq, Int.reduceLT, Int.reduceLE, Int.reduceAdd, Int.reduceSub, Int.reduceMul, reduceIte, resVs, resV, packV, initT, addr] | refine OrW.go ?_
          exact ⟨_, rfl, fun _ => ⟨by rw [e], by rw [e]; exact ⟨v2, (DAt.mk (Nat.lt_of_lt_of_le (by rw [AMem.size_set]; exact hpM1) hst4.1.1) hg2 hF4 (Nat.lt_of_lt_of_le hD.ex (hst3.trans hst4).1.1) : DAt M2 p v2 { d.step with files := layR (d.files.eraseIdx (place d.files frm)) ⟨to, c', [], true⟩ }).old (Old.here _ _), (hst3.trans hst4).1.mx _, (hst3.trans hst4).2⟩⟩⟩
  · repeat first | simp (implicitDefEqProofs := false) (maxSteps := 1000000) (disch := first | omega | with_reducible assumption | (simp only [lenT, Nat.reduceAdd]; omega)) only [amT, cut, bnd, Nat.reduceBEq, reduceCtorEq, Nat.reduceEqDiff, Nat.reduceAdd, Nat.reduceMul, Nat.reduceSub, Int.reduceToNat, Int.reduceEq, Int.reduceLT, Int.reduceLE, Int.reduceAdd, Int.reduceSub, Int.reduceMul, reduceIte, resVs, resV, packV, initT, addr, F38, k32, k33, hb] | refine OrW.go ?_
    have e : driesR d frm to L = (barsE d.off [frm, to], d) := by simp [driesR, hb]
    exact ⟨_, rfl, fun _ => ⟨by rw [e], same _ e⟩⟩
end Go.Proofs.Ytbmjhiifinjieaa
