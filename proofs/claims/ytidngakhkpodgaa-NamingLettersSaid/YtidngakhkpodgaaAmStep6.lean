/-
  Each operation of the abstract machine is what the model does: '=='.
-/
import Derived.Test.YtidngakhkpodgaaAmStep5
set_option linter.unusedVariables false
set_option linter.unusedSimpArgs false
set_option linter.unnecessarySimpa false
namespace Go.AM
set_option linter.unusedVariables false
set_option linter.unusedSimpArgs false

section
variable {P : Program} {G : Nat} {m : AMem} {ρ : Ren} {w : World}

/-- Two values that no guard looks at. -/
def guardless : Value → Value → Bool
  | .nilIface, .nilIface => false
  | .agg _, .agg _ => false
  | _, _ => true

theorem ite_same {α : Sort _} {c : Prop} [Decidable c] {x y r : α} (hx : x = r) (hy : y = r) : (if c then x else y) = r := by split <;> assumption

theorem eqGuard_plain {op : BinOp} {xt : TypeId} {xo yo : Operand} {a b : Value} (h : guardless a b = true) : (eqGuard op xt xo yo a b).run P w = .ok () w := by
  unfold eqGuard
  rw [Sem.run_ite]
  refine ite_same rfl ?_
  split
  · simp [guardless] at h
  · simp [guardless] at h
  · rfl

theorem depth_two (P : Program) : ∃ d, P.depth = d + 1 + 1 := ⟨2 * (P.types.size + Made.depth), rfl⟩

theorem eqGuard_cells {op : BinOp} {xt e : TypeId} {n : Nat} {k : IntKind} {xo yo : Operand} {a b : Array Value} (hu : P.underlying xt = some (.array n e)) (he : P.underlying e = some (.int k)) :
    (eqGuard op xt xo yo (.agg a) (.agg b)).run P w = .ok () w := by
  obtain ⟨d, hd⟩ := depth_two P
  have : P.eqGuardType P.depth xt = false := by
    rw [hd]
    simp only [Program.eqGuardType, hu, he]
  unfold eqGuard
  rw [Sem.run_ite]
  refine ite_same rfl ?_
  simp only [Sem.run_bind, run_program, Result.andThen_ok, this, Bool.not_false, if_true, Sem.run_pure]

theorem eqGuard_nil {op : BinOp} {xt : TypeId} {xo yo : Operand} (h : (isNilC xo || isNilC yo) = true) :
    (eqGuard op xt xo yo .nilIface .nilIface).run P w = .ok () w := by
  unfold eqGuard
  rw [Sem.run_ite]
  refine ite_same rfl ?_
  have hh : (∃ v, xo = .const v) ∨ ∃ v, yo = .const v := by
    simp only [Bool.or_eq_true] at h
    rcases h with h | h
    · left; unfold isNilC at h; split at h <;> simp at h; exact ⟨_, rfl⟩
    · right; unfold isNilC at h; split at h <;> simp at h; exact ⟨_, rfl⟩
  rcases hh with ⟨v, rfl⟩ | ⟨v, rfl⟩
  · simp
  · cases xo <;> simp

theorem eqlRun {t : TypeId} {x y : Value} {b : Bool} (d : Nat) (hd : d = 9998) (h : (Op.equalIn (d + 1 + 1) t x y).run P w = .ok b w)
    (he : binOp .eql t x y = (do pure (.bool (← Op.equal t x y)))) (hn : binOp .neq t x y = (do pure (.bool (!(← Op.equal t x y))))) :
    (binOp .eql t x y).run P w = .ok (.bool b) w ∧ (binOp .neq t x y).run P w = .ok (.bool !b) w := by
  subst hd
  rw [he, hn]
  constructor <;> simp only [equal_unf, Sem.run_bind, h, Result.andThen_ok, Sem.run_pure]

theorem eq_ptr (d : Nat) {t e : TypeId} {s : Nat} (hu : P.underlying t = some (.pointer e)) (hs : szOf P e = some (s + 1)) {x y x' y' : Value} {b : Bool} (hx : VRel ρ x x') (hy : VRel ρ y y') (h : eqV .ptr x y = some b) :
    guardless x' y' = true ∧ (Op.equalIn (d + 1) t x' y').run P w = .ok b w ∧ binOp .eql t x' y' = (do pure (.bool (← Op.equal t x' y'))) ∧ binOp .neq t x' y' = (do pure (.bool (!(← Op.equal t x' y')))) := by
  have hsz := szOf_spec hs w
  cases x with
  | pointer a =>
    cases y with
    | pointer c =>
      cases a with
      | none =>
        simp [eqV] at h
        subst h
        cases hx
        cases hy <;> exact ⟨rfl, by simp [Op.equalIn, run_underlying hu], rfl, rfl⟩
      | some a =>
        cases c with
        | none =>
          simp [eqV] at h
          subst h
          cases hy
          cases hx
          exact ⟨rfl, by simp [Op.equalIn, run_underlying hu], rfl, rfl⟩
        | some c =>
          simp [eqV] at h
          obtain ⟨hbl, rfl⟩ := h
          cases hx with
          | @ptr b1 o1 L1 h1 =>
            cases hy with
            | @ptr b2 o2 L2 h2 =>
              simp at hbl
              subst hbl
              rw [h1] at h2
              cases h2
              refine ⟨rfl, ?_, rfl, rfl⟩
              simp only [Op.equalIn, Sem.run_bind, run_underlying hu, Result.andThen_ok, hsz]
              simp [sameAddr]
              by_cases ho : o1 = o2
              · subst ho; simp
              · have : (o1 == o2) = false := by simpa using ho
                rw [this]
                simp; omega
    | _ => simp [eqV] at h
  | _ => simp [eqV] at h

theorem eq_nilS (d : Nat) {t e : TypeId} (hu : P.underlying t = some (.slice e)) {x y x' y' : Value} {b : Bool} (hx : VRel ρ x x') (hy : VRel ρ y y') (h : eqV .nilS x y = some b) :
    guardless x' y' = true ∧ (Op.equalIn (d + 1) t x' y').run P w = .ok b w ∧ binOp .eql t x' y' = (do pure (.bool (← Op.equal t x' y'))) ∧ binOp .neq t x' y' = (do pure (.bool (!(← Op.equal t x' y')))) := by
  cases x <;> cases y <;> simp [eqV] at h
  rename_i a1 l1 c1 a2 l2 c2
  cases a1 with
  | none =>
    simp [eqV] at h; subst h
    cases hx
    cases hy <;> exact ⟨rfl, by simp [Op.equalIn, run_underlying hu], rfl, rfl⟩
  | some a1 =>
    cases a2 with
    | some _ => simp [eqV] at h
    | none =>
      simp [eqV] at h; subst h
      cases hy
      cases hx <;> exact ⟨rfl, by simp [Op.equalIn, run_underlying hu], rfl, rfl⟩

theorem eq_nilM (d : Nat) {t k e : TypeId} (hu : P.underlying t = some (.map k e)) {x y x' y' : Value} {b : Bool} (hx : VRel ρ x x') (hy : VRel ρ y y') (h : eqV .nilM x y = some b) :
    guardless x' y' = true ∧ (Op.equalIn (d + 1) t x' y').run P w = .ok b w ∧ binOp .eql t x' y' = (do pure (.bool (← Op.equal t x' y'))) ∧ binOp .neq t x' y' = (do pure (.bool (!(← Op.equal t x' y')))) := by
  cases x <;> cases y <;> simp [eqV] at h
  rename_i a1 a2
  cases a1 with
  | none =>
    simp [eqV] at h; subst h
    cases hx
    cases hy <;> exact ⟨rfl, by simp [Op.equalIn, run_underlying hu], rfl, rfl⟩
  | some a1 =>
    cases a2 with
    | some _ => simp [eqV] at h
    | none =>
      simp [eqV] at h; subst h
      cases hy
      cases hx
      exact ⟨rfl, by simp [Op.equalIn, run_underlying hu], rfl, rfl⟩

theorem eq_nilF (d : Nat) {t : TypeId} {p q : Array TypeId} {vr : Bool} (hu : P.underlying t = some (.func p q vr)) {x y x' y' : Value} {b : Bool} (hx : VRel ρ x x') (hy : VRel ρ y y') (h : eqV .nilF x y = some b) :
    guardless x' y' = true ∧ (Op.equalIn (d + 1) t x' y').run P w = .ok b w ∧ binOp .eql t x' y' = (do pure (.bool (← Op.equal t x' y'))) ∧ binOp .neq t x' y' = (do pure (.bool (!(← Op.equal t x' y')))) := by
  cases x <;> cases y <;> simp [eqV] at h
  · subst h
    cases hy
    cases hx <;> exact ⟨rfl, by simp [Op.equalIn, run_underlying hu], rfl, rfl⟩
  · subst h
    cases hx
    cases hy <;> exact ⟨rfl, by simp [Op.equalIn, run_underlying hu], rfl, rfl⟩
  · subst h
    cases hx
    cases hy
    exact ⟨rfl, by simp [Op.equalIn, run_underlying hu], rfl, rfl⟩

theorem eq_cells (d : Nat) {t e : TypeId} {n : Nat} {k : IntKind} (hu : P.underlying t = some (.array n e)) (he : P.underlying e = some (.int k)) (hs : szOf P e = some 1) {a c : Array Value} {x' y' : Value} {b : Bool}
    (hx : VRel ρ (.agg a) x') (hy : VRel ρ (.agg c) y') (h : eqV (.cells n) (.agg a) (.agg c) = some b) :
    ∃ a' c', x' = .agg a' ∧ y' = .agg c' ∧ (Op.equalIn (d + 1 + 1) t x' y').run P w = .ok b w := by
  obtain ⟨a', rfl, hA⟩ := hx.agg_inv
  obtain ⟨c', rfl, hC⟩ := hy.agg_inv
  refine ⟨a', c', rfl, rfl, ?_⟩
  simp only [eqV] at h
  split at h <;> try (simp at h; done)
  rename_i hn
  have h2 := eqCells_rel h hA.toList hC.toList
  unfold szOf at hs
  cases hi : P.info? e with
  | none => simp [hi] at hs
  | some i =>
    have hc1 : P.cellsOf e = 1 := by simp [Program.cellsOf, hi]; simpa [hi] using hs
    rw [run_equalIn_array w (d + 1) a' c' hu hi, hc1, List.range_eq_range']
    exact eqCells_run he d n a'.toList c'.toList b 0 a' c' (by have := hA.1; simp; omega) h2 (fun j _ => by simp) (fun j _ => by simp)

theorem eq_iface (d : Nat) {t : TypeId} {ms : Array (String × TypeId)} (hu : P.underlying t = some (.interface ms)) {x y x' y' : Value} {b : Bool} (hx : VRel ρ x x') (hy : VRel ρ y y') (h : eqV .iface x y = some b) :
    ((guardless x' y' = true) ∨ (x' = .nilIface ∧ y' = .nilIface)) ∧ (Op.equalIn (d + 1) t x' y').run P w = .ok b w ∧ binOp .eql t x' y' = (do pure (.bool (← Op.equal t x' y'))) ∧
      binOp .neq t x' y' = (do pure (.bool (!(← Op.equal t x' y')))) := by
  cases x with
  | nilIface =>
    cases y <;> simp [eqV] at h
    · subst h
      cases hx
      cases hy
      exact ⟨.inl rfl, by simp [Op.equalIn, run_underlying hu], rfl, rfl⟩
    · subst h
      cases hx
      cases hy
      exact ⟨.inr ⟨rfl, rfl⟩, by simp [Op.equalIn, run_underlying hu], rfl, rfl⟩
  | iface t v =>
    cases y <;> simp [eqV] at h
    subst h
    cases hx
    cases hy
    exact ⟨.inl rfl, by simp [Op.equalIn, run_underlying hu], rfl, rfl⟩
  | _ => simp [eqV] at h

end
end Go.AM
