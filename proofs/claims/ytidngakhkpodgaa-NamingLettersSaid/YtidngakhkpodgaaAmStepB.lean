/-
  One step of the abstract machine is what the model does: every operation.
-/
import Derived.Test.YtidngakhkpodgaaAmStepA
set_option linter.unusedVariables false
set_option linter.unusedSimpArgs false
set_option linter.unnecessarySimpa false
namespace Go.AM
set_option linter.unusedVariables false
set_option linter.unusedSimpArgs false

section
variable {P : Program} {G : Nat} {m : AMem} {ρ : Ren} {w : World} {t : Tmps} {a : Act} {dst : Option Tmp} {ty : TypeId} {pos : String} {after : Array Edge} {guard : Option (Nat × Bool)} {ap : AOp} {v : Value} {m' : AMem}

theorem map_some' {α β : Type} {x : Option α} {f : α → β} {y : β} (h : x.map f = some y) : ∃ a, x = some a ∧ f a = y := by
  cases x <;> simp at h; exact ⟨_, rfl, h⟩

/-- What the steps are told about their operands. -/
def EvOk (G : Nat) (ρ : Ren) (t : Tmps) (a : Act) : Prop := ∀ x y, compOpd G x = some y → VRel ρ (y.ev t) (a.eval x)

theorem st_move {x : Operand} (hR : Rep G m ρ w) (hev : EvOk G ρ t a) (hc : compOp P G ⟨dst, .move x, ty, pos, after, guard⟩ = some ap) (hs : stepOp ap t m = some (v, m')) :
    StepsTo P G m ρ w a.eval ⟨dst, .move x, ty, pos, after, guard⟩ v m' := by
  simp only [compOp] at hc
  obtain ⟨y, hy, rfl⟩ := map_some' hc
  simp [stepOp] at hs
  obtain ⟨rfl, rfl⟩ := hs
  exact .same hR rfl (hev x y hy)

theorem st_assign {x : Operand} (hR : Rep G m ρ w) (hev : EvOk G ρ t a) (hc : compOp P G ⟨dst, .assign x, ty, pos, after, guard⟩ = some ap) (hs : stepOp ap t m = some (v, m')) :
    StepsTo P G m ρ w a.eval ⟨dst, .assign x, ty, pos, after, guard⟩ v m' := by
  simp only [compOp] at hc
  obtain ⟨y, hy, rfl⟩ := map_some' hc
  simp [stepOp] at hs
  obtain ⟨rfl, rfl⟩ := hs
  exact .same hR rfl (hev x y hy)

theorem st_pick {c x y : Operand} (hR : Rep G m ρ w) (hev : EvOk G ρ t a) (hc : compOp P G ⟨dst, .pick c x y, ty, pos, after, guard⟩ = some ap) (hs : stepOp ap t m = some (v, m')) :
    StepsTo P G m ρ w a.eval ⟨dst, .pick c x y, ty, pos, after, guard⟩ v m' := by
  simp only [compOp] at hc
  split at hc <;> simp at hc
  rename_i c1 x1 y1 h1 h2 h3
  subst hc
  simp only [stepOp] at hs
  split at hs <;> simp at hs
  rename_i b hb
  obtain ⟨rfl, rfl⟩ := hs
  have hcv := hev c c1 h1
  rw [hb] at hcv
  have hcb := hcv.bool_inv
  refine .same hR (v' := if b then a.eval x else a.eval y) (by simp [execOp, hcb, asBool]) ?_
  cases b
  · simpa using hev y y1 h3
  · simpa using hev x x1 h2

theorem st_alloc {e : TypeId} (hR : Rep G m ρ w) (hev : EvOk G ρ t a) (hc : compOp P G ⟨dst, .alloc e, ty, pos, after, guard⟩ = some ap) (hs : stepOp ap t m = some (v, m')) :
    StepsTo P G m ρ w a.eval ⟨dst, .alloc e, ty, pos, after, guard⟩ v m' := by
  simp only [compOp] at hc
  obtain ⟨z, hz, rfl⟩ := map_some' hc
  simp [stepOp] at hs
  obtain ⟨rfl, rfl⟩ := hs
  exact .of rfl (sound_new hR hz)

theorem st_box {e : TypeId} {x : Operand} (hR : Rep G m ρ w) (hev : EvOk G ρ t a) (hc : compOp P G ⟨dst, .box e x, ty, pos, after, guard⟩ = some ap) (hs : stepOp ap t m = some (v, m')) :
    StepsTo P G m ρ w a.eval ⟨dst, .box e x, ty, pos, after, guard⟩ v m' := by
  simp only [compOp] at hc
  obtain ⟨y, hy, rfl⟩ := map_some' hc
  simp only [stepOp] at hs
  split at hs <;> simp at hs
  rename_i c hcs
  obtain ⟨rfl, rfl⟩ := hs
  exact .of rfl (sound_box hR (hev x y hy) hcs)

theorem st_build {T : TypeId} {ps : Array (Nat × Operand)} (hR : Rep G m ρ w) (hev : EvOk G ρ t a) (hc : compOp P G ⟨dst, .build T ps, ty, pos, after, guard⟩ = some ap) (hs : stepOp ap t m = some (v, m')) :
    StepsTo P G m ρ w a.eval ⟨dst, .build T ps, ty, pos, after, guard⟩ v m' := by
  simp only [compOp] at hc
  split at hc <;> try (simp at hc; done)
  rename_i pl z hp hz
  obtain ⟨qs, hq, rfl⟩ := map_some' hc
  simp only [stepOp] at hs
  split at hs <;> simp at hs
  rename_i c hcs
  obtain ⟨rfl, rfl⟩ := hs
  refine .of (s := Instr.build T (ps.map fun (i, x) => (i, a.eval x))) rfl (sound_bld hR hp hz (ps := qs.map fun p => (p.1, p.2.1, p.2.2.ev t)) ?_ hcs)
  have := compParts_rel hev ps.toList qs hq
  simpa using this

theorem st_buildSlice {T : TypeId} {len : Nat} {ps : Array (Nat × Operand)} (hR : Rep G m ρ w) (hev : EvOk G ρ t a) (hc : compOp P G ⟨dst, .buildSlice T len ps, ty, pos, after, guard⟩ = some ap) (hs : stepOp ap t m = some (v, m')) :
    StepsTo P G m ρ w a.eval ⟨dst, .buildSlice T len ps, ty, pos, after, guard⟩ v m' := by
  simp only [compOp] at hc
  split at hc <;> try (simp at hc; done)
  rename_i e hu
  split at hc <;> try (simp at hc; done)
  rename_i s z hsz hz
  split at hc <;> try (simp at hc; done)
  rename_i hb
  obtain ⟨qs, hq, rfl⟩ := map_some' hc
  simp only [stepOp] at hs
  split at hs <;> simp at hs
  rename_i c hcs
  obtain ⟨rfl, rfl⟩ := hs
  obtain ⟨hb1, hb2, hb3⟩ := hb
  have hpr := compParts_rel hev ps.toList qs hq
  have hex : execOp a.eval ⟨dst, .buildSlice T len ps, ty, pos, after, guard⟩ = (do pure (.value (← Instr.buildSlice T len (ps.map fun p => (p.1, a.eval p.2))))) := rfl
  exact .of hex (sound_bldSl (P := P) (w := w) hR hu hsz hz hb1 hb2 hb3 (by simpa using hpr) hcs)

theorem st_load {T : TypeId} {x : Operand} (hR : Rep G m ρ w) (hev : EvOk G ρ t a) (hc : compOp P G ⟨dst, .load T x, ty, pos, after, guard⟩ = some ap) (hs : stepOp ap t m = some (v, m')) :
    StepsTo P G m ρ w a.eval ⟨dst, .load T x, ty, pos, after, guard⟩ v m' := by
  simp only [compOp] at hc
  split at hc <;> try (simp at hc; done)
  rename_i d n y hu hsz hy
  split at hc <;> simp at hc <;> subst hc
  · rename_i hag
    simp only [stepOp] at hs
    split at hs <;> try (simp at hs; done)
    rename_i b o hb
    split at hs <;> simp at hs
    rename_i c hcs
    obtain ⟨rfl, rfl⟩ := hs
    exact .of (s := Instr.loadAt T (a.eval x)) rfl (sound_ldn hR hu hag hsz (hev x y hy) hb hcs)
  · rename_i hag
    simp only [stepOp] at hs
    split at hs <;> try (simp at hs; done)
    rename_i b o hb
    split at hs <;> simp at hs
    rename_i v1 hcs
    obtain ⟨rfl, rfl⟩ := hs
    exact .of (s := Instr.loadAt T (a.eval x)) rfl (sound_ld1 hR hu (by simpa using hag) (hev x y hy) hb hcs)

theorem st_store {T : TypeId} {x y : Operand} (hR : Rep G m ρ w) (hev : EvOk G ρ t a) (hc : compOp P G ⟨dst, .store T x y, ty, pos, after, guard⟩ = some ap) (hs : stepOp ap t m = some (v, m')) :
    StepsTo P G m ρ w a.eval ⟨dst, .store T x y, ty, pos, after, guard⟩ v m' := by
  simp only [compOp] at hc
  split at hc <;> simp at hc
  rename_i n x1 y1 hsz hx hy
  subst hc
  simp only [stepOp] at hs
  split at hs <;> try (simp at hs; done)
  rename_i b o c hb hcs
  split at hs <;> try (simp at hs; done)
  rename_i hl
  obtain ⟨m1, hw, h2⟩ := map_some' hs
  simp at h2
  obtain ⟨rfl, rfl⟩ := h2
  obtain ⟨w', e1, e2, e3⟩ := sound_st hR hsz (hev x x1 hx) hb (hev y y1 hy) hcs hl hw
  refine ⟨ρ, w', undef, .inr ⟨?_, rfl⟩, Plain.undef ρ, e2, e3⟩
  simp [execOp, e1]

theorem st_nilCheck {x : Operand} (hR : Rep G m ρ w) (hev : EvOk G ρ t a) (hc : compOp P G ⟨dst, .nilCheck x, ty, pos, after, guard⟩ = some ap) (hs : stepOp ap t m = some (v, m')) :
    StepsTo P G m ρ w a.eval ⟨dst, .nilCheck x, ty, pos, after, guard⟩ v m' := by
  simp only [compOp] at hc
  obtain ⟨y, hy, rfl⟩ := map_some' hc
  have hx := hev x y hy
  simp only [stepOp] at hs
  generalize hxv : y.ev t = xv at hx hs
  split at hs <;> simp at hs
  rename_i h1 h2 h3 h4
  obtain ⟨rfl, rfl⟩ := hs
  refine .same hR (v' := a.eval x) ?_ hx
  simp only [execOp]
  generalize a.eval x = x' at hx
  cases hx <;> simp_all

theorem st_bin {op : BinOp} {T T' : TypeId} {x y : Operand} {x1 y1 : AOpd} (hR : Rep G m ρ w) (hvx : VRel ρ (x1.ev t) (a.eval x)) (hvy : VRel ρ (y1.ev t) (a.eval y)) (hs : stepOp (.bin op x1 y1) t m = some (v, m')) :
    StepsTo P G m ρ w a.eval ⟨dst, .binOp op T x y T', ty, pos, after, guard⟩ v m' := by
  simp only [stepOp] at hs
  obtain ⟨v1, hv1, h2⟩ := map_some' hs
  simp at h2
  obtain ⟨rfl, rfl⟩ := h2
  obtain ⟨g1, g2, g3⟩ := sound_bin (P := P) hR (xt := T) hvx hvy hv1
  exact .of (s := do eqGuard op T x y (a.eval x) (a.eval y); binOp op T (a.eval x) (a.eval y)) rfl (.pure hR (v' := v1) (by simp [g1, g2]) g3)

theorem st_eq {neg : Bool} {op : BinOp} {T T' : TypeId} {x y : Operand} {x1 y1 : AOpd} {k : EqTy} (hR : Rep G m ρ w) (hvx : VRel ρ (x1.ev t) (a.eval x)) (hvy : VRel ρ (y1.ev t) (a.eval y)) (hop : op = (if neg then BinOp.neq else BinOp.eql))
    (hk : eqTyOf P T x y = some k) (hs : stepOp (.eql neg k x1 y1) t m = some (v, m')) :
    StepsTo P G m ρ w a.eval ⟨dst, .binOp op T x y T', ty, pos, after, guard⟩ v m' := by
  simp only [stepOp] at hs
  obtain ⟨b, hb, h2⟩ := map_some' hs
  simp at h2
  obtain ⟨rfl, rfl⟩ := h2
  have fin : ((eqGuard op T x y (a.eval x) (a.eval y)).run P w = .ok () w) → ((binOp .eql T (a.eval x) (a.eval y)).run P w = .ok (.bool b) w ∧ (binOp .neq T (a.eval x) (a.eval y)).run P w = .ok (.bool !b) w) →
      StepsTo P G m ρ w a.eval ⟨dst, .binOp op T x y T', ty, pos, after, guard⟩ (.bool (if neg then !b else b)) m := by
    intro hg hbin
    refine .of (s := do eqGuard op T x y (a.eval x) (a.eval y); binOp op T (a.eval x) (a.eval y)) rfl (.pure hR (v' := .bool (if neg then !b else b)) ?_ (.bool _))
    cases neg
    · simp at hop; subst hop; simp [hg, hbin.1]
    · simp at hop; subst hop; simp [hg, hbin.2]
  unfold eqTyOf at hk
  split at hk <;> try (simp at hk; done)
  · rename_i hu
    simp at hk; subst hk
    generalize hX : x1.ev t = X at hvx hb
    generalize hY : y1.ev t = Y at hvy hb
    cases X <;> cases Y <;> simp [eqV] at hb
    subst hb
    have ex := hvx.bool_inv
    have ey := hvy.bool_inv
    rw [ex, ey] at fin
    exact fin (eqGuard_plain rfl) (eqlRun 9998 rfl (run_equalIn_bool w _ _ _ _ hu) rfl rfl)
  · rename_i e hu
    split at hk <;> simp at hk
    rename_i s hsz
    subst hk
    obtain ⟨k1, _, k3, k4⟩ := eq_ptr (P := P) (w := w) 0 hu hsz hvx hvy hb
    obtain ⟨_, k2, _, _⟩ := eq_ptr (P := P) (w := w) (9998 + 1) hu hsz hvx hvy hb
    exact fin (eqGuard_plain k1) (eqlRun 9998 rfl k2 k3 k4)
  · rename_i e hu
    simp at hk; subst hk
    obtain ⟨k1, _, k3, k4⟩ := eq_nilS (P := P) (w := w) 0 hu hvx hvy hb
    obtain ⟨_, k2, _, _⟩ := eq_nilS (P := P) (w := w) (9998 + 1) hu hvx hvy hb
    exact fin (eqGuard_plain k1) (eqlRun 9998 rfl k2 k3 k4)
  · rename_i e hu
    simp at hk; subst hk
    obtain ⟨k1, _, k3, k4⟩ := eq_nilM (P := P) (w := w) 0 hu hvx hvy hb
    obtain ⟨_, k2, _, _⟩ := eq_nilM (P := P) (w := w) (9998 + 1) hu hvx hvy hb
    exact fin (eqGuard_plain k1) (eqlRun 9998 rfl k2 k3 k4)
  · rename_i p q vr hu
    simp at hk; subst hk
    obtain ⟨k1, _, k3, k4⟩ := eq_nilF (P := P) (w := w) 0 hu hvx hvy hb
    obtain ⟨_, k2, _, _⟩ := eq_nilF (P := P) (w := w) (9998 + 1) hu hvx hvy hb
    exact fin (eqGuard_plain k1) (eqlRun 9998 rfl k2 k3 k4)
  · rename_i n e hu
    split at hk <;> simp at hk
    rename_i hcond
    obtain ⟨hi, hsz⟩ := hcond
    subst hk
    obtain ⟨kk, hkk⟩ := Option.isSome_iff_exists.1 hi
    have he : P.underlying e = some (.int kk) := by unfold intB at hkk; split at hkk <;> simp at hkk; subst hkk; assumption
    generalize hX : x1.ev t = X at hvx hb
    generalize hY : y1.ev t = Y at hvy hb
    cases X with
    | agg A =>
      cases Y with
      | agg C =>
        obtain ⟨a', c', e1, e2, e3⟩ := eq_cells (P := P) (w := w) 9998 hu he hsz hvx hvy hb
        rw [e1, e2] at fin e3
        exact fin (eqGuard_cells hu he) (eqlRun 9998 rfl e3 rfl rfl)
      | _ => simp [eqV] at hb
    | _ => simp [eqV] at hb
  · rename_i ms hu
    split at hk <;> simp at hk
    rename_i hcond
    subst hk
    obtain ⟨k1, _, k3, k4⟩ := eq_iface (P := P) (w := w) 0 hu hvx hvy hb
    obtain ⟨_, k2, _, _⟩ := eq_iface (P := P) (w := w) (9998 + 1) hu hvx hvy hb
    refine fin ?_ (eqlRun 9998 rfl k2 k3 k4)
    rcases k1 with k1 | ⟨k5, k6⟩
    · exact eqGuard_plain k1
    · rw [k5, k6]; exact eqGuard_nil hcond

theorem st_binOp {op : BinOp} {T T' : TypeId} {x y : Operand} (hR : Rep G m ρ w) (hev : EvOk G ρ t a) (hc : compOp P G ⟨dst, .binOp op T x y T', ty, pos, after, guard⟩ = some ap) (hs : stepOp ap t m = some (v, m')) :
    StepsTo P G m ρ w a.eval ⟨dst, .binOp op T x y T', ty, pos, after, guard⟩ v m' := by
  simp only [compOp] at hc
  split at hc <;> try (simp at hc; done)
  rename_i x1 y1 hx hy
  have hvx := hev x x1 hx
  have hvy := hev y y1 hy
  split at hc
  · simp at hc; subst hc; exact st_bin hR hvx hvy hs
  · simp at hc; subst hc; exact st_bin hR hvx hvy hs
  · simp at hc; subst hc; exact st_bin hR hvx hvy hs
  · simp at hc; subst hc; exact st_bin hR hvx hvy hs
  · obtain ⟨k, hk, rfl⟩ := map_some' hc
    exact st_eq (neg := false) hR hvx hvy rfl hk hs
  · obtain ⟨k, hk, rfl⟩ := map_some' hc
    exact st_eq (neg := true) hR hvx hvy rfl hk hs
  · simp at hc; subst hc; exact st_bin hR hvx hvy hs

theorem st_unOp {op : UnOp} {T : TypeId} {x : Operand} (hR : Rep G m ρ w) (hev : EvOk G ρ t a) (hc : compOp P G ⟨dst, .unOp op T x, ty, pos, after, guard⟩ = some ap) (hs : stepOp ap t m = some (v, m')) :
    StepsTo P G m ρ w a.eval ⟨dst, .unOp op T x, ty, pos, after, guard⟩ v m' := by
  simp only [compOp] at hc
  obtain ⟨y, hy, rfl⟩ := map_some' hc
  simp only [stepOp] at hs
  obtain ⟨v1, hv1, h2⟩ := map_some' hs
  simp at h2
  obtain ⟨rfl, rfl⟩ := h2
  obtain ⟨g1, g2⟩ := sound_un (P := P) hR (hev x y hy) hv1
  exact .of (s := Op.unary op (a.eval x)) rfl (.pure hR g1 g2)

theorem st_convert {s d : TypeId} {x : Operand} (hR : Rep G m ρ w) (hev : EvOk G ρ t a) (hc : compOp P G ⟨dst, .convert s d x, ty, pos, after, guard⟩ = some ap) (hs : stepOp ap t m = some (v, m')) :
    StepsTo P G m ρ w a.eval ⟨dst, .convert s d x, ty, pos, after, guard⟩ v m' := by
  simp only [compOp] at hc
  split at hc <;> try (simp at hc; done)
  · rename_i k k' x1 hu1 hu2 hx
    simp at hc; subst hc
    simp only [stepOp] at hs
    split at hs <;> simp at hs
    rename_i kk n hn
    obtain ⟨rfl, rfl⟩ := hs
    have hv := hev x x1 hx
    rw [hn] at hv
    have := hv.int_inv
    exact .of (s := convert s d (a.eval x)) rfl (.pure hR (by rw [this]; simp [convert, run_underlying hu1, run_underlying hu2, Conv.intToInt]) (.int _ _))
  · rename_i x1 hu1 hu2 hx
    simp at hc; subst hc
    simp only [stepOp] at hs
    split at hs <;> simp at hs
    rename_i str hn
    obtain ⟨rfl, rfl⟩ := hs
    have hv := hev x x1 hx
    rw [hn] at hv
    have := hv.string_inv
    exact .of (s := convert s d (a.eval x)) rfl (.pure hR (by rw [this]; simp [convert, run_underlying hu1, run_underlying hu2]) (.string _))
  · rename_i e x1 hu1 hu2 hx
    split at hc <;> simp at hc
    rename_i he
    subst hc
    simp only [stepOp] at hs
    split at hs <;> try (simp at hs; done)
    rename_i str hn
    split at hs <;> simp at hs
    rename_i hle
    obtain ⟨rfl, rfl⟩ := hs
    have hv := hev x x1 hx
    rw [hn] at hv
    exact .of rfl (sound_s2b hR hu1 hu2 he hv hle)
  · rename_i e x1 hu1 hu2 hx
    split at hc <;> simp at hc
    rename_i he
    subst hc
    obtain ⟨rfl, h2⟩ := sound_b2s hR hu1 hu2 he (hev x x1 hx) rfl hs
    exact .of rfl h2
  · rename_i e x1 hu1 hu2 hx
    split at hc <;> simp at hc
    rename_i k hk
    subst hc
    obtain ⟨rfl, h2⟩ := sound_toU hR hu1 hu2 hk (hev x x1 hx) rfl hs
    exact .of rfl h2
  · rename_i u x1 hu1 hu2 hx
    split at hc <;> simp at hc
    rename_i k hk
    subst hc
    obtain ⟨rfl, h2⟩ := sound_frU hR hu1 hu2 hk (hev x x1 hx) rfl hs
    exact .of rfl h2

theorem st_arr {T : TypeId} {x : Operand} (hR : Rep G m ρ w) (hev : EvOk G ρ t a) (hc : compOp P G ⟨dst, .sliceToArrayPointer T x, ty, pos, after, guard⟩ = some ap) (hs : stepOp ap t m = some (v, m')) :
    StepsTo P G m ρ w a.eval ⟨dst, .sliceToArrayPointer T x, ty, pos, after, guard⟩ v m' := by
  simp only [compOp] at hc
  split at hc <;> try (simp at hc; done)
  rename_i n e hu
  split at hc <;> try (simp at hc; done)
  rename_i h0
  obtain ⟨y, hy, rfl⟩ := map_some' hc
  have hx := hev x y hy
  simp only [stepOp] at hs
  split at hs <;> try (simp at hs; done)
  rename_i b o l c hv
  split at hs <;> simp at hs
  rename_i hle
  obtain ⟨rfl, rfl⟩ := hs
  rw [hv] at hx
  exact .of rfl (sound_arrAt hR hu hx h0 hle)

theorem st_mkI {T : TypeId} {x : Operand} (hR : Rep G m ρ w) (hev : EvOk G ρ t a) (hc : compOp P G ⟨dst, .makeInterface T x, ty, pos, after, guard⟩ = some ap) (hs : stepOp ap t m = some (v, m')) :
    StepsTo P G m ρ w a.eval ⟨dst, .makeInterface T x, ty, pos, after, guard⟩ v m' := by
  simp only [compOp] at hc
  split at hc <;> try (simp at hc; done)
  rename_i d hnd hu
  obtain ⟨y, hy, rfl⟩ := map_some' hc
  simp [stepOp] at hs
  obtain ⟨rfl, rfl⟩ := hs
  exact .of rfl (sound_mkI hR hu (fun ms hd => hnd ms hd) (hev x y hy))

theorem st_mkF {fn : Fn} {first captured : Array Operand} (hR : Rep G m ρ w) (hev : EvOk G ρ t a) (hc : compOp P G ⟨dst, .makeFunc fn first captured, ty, pos, after, guard⟩ = some ap) (hs : stepOp ap t m = some (v, m')) :
    StepsTo P G m ρ w a.eval ⟨dst, .makeFunc fn first captured, ty, pos, after, guard⟩ v m' := by
  cases fn <;> simp only [compOp] at hc <;> try (simp at hc; done)
  rename_i f
  split at hc <;> simp at hc
  rename_i x1 y1 h1 h2
  subst hc
  simp [stepOp] at hs
  obtain ⟨rfl, rfl⟩ := hs
  have k1 := (compOpds_map hev _ _ h1).toArray
  have k2 := (compOpds_map hev _ _ h2).toArray
  refine .of (s := Instr.makeFunc (.func f) (first.map a.eval) (captured.map a.eval)) rfl (.pure hR (v' := .func (.func f) (first.map a.eval) (captured.map a.eval)) rfl ?_)
  have e1 : (first.toList.map a.eval).toArray = first.map a.eval := by rw [← Array.toList_map, Array.toArray_toList]
  have e2 : (captured.toList.map a.eval).toArray = captured.map a.eval := by rw [← Array.toList_map, Array.toArray_toList]
  rw [e1] at k1
  rw [e2] at k2
  simpa using VRel.func f _ _ _ _ k1.1 k2.1 k1.2 k2.2

theorem st_mkM {T : TypeId} {r : Option Operand} (hR : Rep G m ρ w) (hev : EvOk G ρ t a) (hc : compOp P G ⟨dst, .makeMap T r, ty, pos, after, guard⟩ = some ap) (hs : stepOp ap t m = some (v, m')) :
    StepsTo P G m ρ w a.eval ⟨dst, .makeMap T r, ty, pos, after, guard⟩ v m' := by
  cases r <;> simp [compOp] at hc
  subst hc
  simp [stepOp] at hs
  obtain ⟨rfl, rfl⟩ := hs
  exact .of rfl (sound_mkM hR)

theorem st_mkSl {T : TypeId} {l c : Operand} (hR : Rep G m ρ w) (hev : EvOk G ρ t a) (hc : compOp P G ⟨dst, .makeSlice T l c, ty, pos, after, guard⟩ = some ap) (hs : stepOp ap t m = some (v, m')) :
    StepsTo P G m ρ w a.eval ⟨dst, .makeSlice T l c, ty, pos, after, guard⟩ v m' := by
  simp only [compOp] at hc
  split at hc <;> try (simp at hc; done)
  rename_i e hu
  split at hc <;> try (simp at hc; done)
  rename_i s b z l1 c1 h1 h2 h3 h4 h5
  split at hc <;> simp at hc
  rename_i h0
  subst hc
  simp only [stepOp] at hs
  split at hs <;> try (simp at hs; done)
  rename_i kl l2 kc c2 hl hcc
  split at hs <;> simp at hs
  rename_i hcond
  obtain ⟨rfl, rfl⟩ := hs
  have hvl := hev l l1 h4
  have hvc := hev c c1 h5
  rw [hl] at hvl
  rw [hcc] at hvc
  exact .of rfl (sound_mkSl hR hu h1 h2 h3 h0 hvl hvc hcond)

theorem st_slice {T : TypeId} {x : Operand} {lo hi mx : Option Operand} (hR : Rep G m ρ w) (hev : EvOk G ρ t a) (hc : compOp P G ⟨dst, .slice T x lo hi mx, ty, pos, after, guard⟩ = some ap) (hs : stepOp ap t m = some (v, m')) :
    StepsTo P G m ρ w a.eval ⟨dst, .slice T x lo hi mx, ty, pos, after, guard⟩ v m' := by
  simp only [compOp] at hc
  split at hc <;> try (simp at hc; done)
  rename_i x1 lo1 hi1 mx1 hx h1 h2 h3
  have hv := hev x x1 hx
  split at hc <;> try (simp at hc; done)
  · rename_i hu
    split at hc <;> simp at hc
    rename_i hmx
    subst hc
    simp only [stepOp] at hs
    split at hs <;> try (simp at hs; done)
    rename_i s hsv
    split at hs <;> simp at hs
    rename_i i h k hcut
    obtain ⟨rfl, rfl⟩ := hs
    rw [hsv] at hv
    have hmn : mx.map a.eval = none := (map_none_of h3).2 hmx
    refine .of (s := Instr.sliceAt T (a.eval x) (lo.map a.eval) (hi.map a.eval) (mx.map a.eval)) rfl ?_
    rw [hmn]
    exact sound_slS hR hev hu h1 h2 hv hcut
  · rename_i e hu
    split at hc <;> try (simp at hc; done)
    rename_i s hsz
    split at hc <;> try (simp at hc; done)
    rename_i hcond
    simp at hc
    subst hc
    obtain ⟨rfl, h4⟩ := sound_slV (P := P) hR hev hu hsz hcond.1 hx h1 h2 h3 hcond.2 hs
    exact .of rfl h4
  · rename_i n e hu
    split at hc <;> try (simp at hc; done)
    rename_i s hsz
    split at hc <;> try (simp at hc; done)
    rename_i hcond
    simp at hc
    subst hc
    simp only [stepOp] at hs
    split at hs <;> try (simp at hs; done)
    rename_i b o hb
    split at hs <;> simp at hs
    rename_i i h k hcut
    obtain ⟨rfl, rfl⟩ := hs
    exact .of rfl (sound_slA hR hev hu hsz h1 h2 h3 hcond.1 hcond.2 hv hb hcut)

theorem st_fad {T : TypeId} {x : Operand} {f : Nat} (hR : Rep G m ρ w) (hev : EvOk G ρ t a) (hc : compOp P G ⟨dst, .fieldAddr T x f, ty, pos, after, guard⟩ = some ap) (hs : stepOp ap t m = some (v, m')) :
    StepsTo P G m ρ w a.eval ⟨dst, .fieldAddr T x f, ty, pos, after, guard⟩ v m' := by
  simp only [compOp] at hc
  split at hc <;> try (simp at hc; done)
  rename_i fs hu
  split at hc <;> try (simp at hc; done)
  rename_i fd hf
  split at hc <;> try (simp at hc; done)
  rename_i s hsz
  obtain ⟨y, hy, rfl⟩ := map_some' hc
  simp only [stepOp] at hs
  split at hs <;> simp at hs
  rename_i b o hb
  obtain ⟨rfl, rfl⟩ := hs
  exact .of rfl (sound_fad hR hu hf hsz (hev x y hy) hb)

theorem st_fld {T : TypeId} {x : Operand} {f : Nat} (hR : Rep G m ρ w) (hev : EvOk G ρ t a) (hc : compOp P G ⟨dst, .field T x f, ty, pos, after, guard⟩ = some ap) (hs : stepOp ap t m = some (v, m')) :
    StepsTo P G m ρ w a.eval ⟨dst, .field T x f, ty, pos, after, guard⟩ v m' := by
  simp only [compOp] at hc
  split at hc <;> try (simp at hc; done)
  rename_i fs hu
  split at hc <;> try (simp at hc; done)
  rename_i fd hf
  split at hc <;> try (simp at hc; done)
  rename_i d s hd hsz
  obtain ⟨y, hy, rfl⟩ := map_some' hc
  have hv := hev x y hy
  simp only [stepOp] at hs
  split at hs <;> try (simp at hs; done)
  rename_i c hcv
  rw [hcv] at hv
  refine .of rfl (m' := m') ?_
  split at hs
  · rename_i hag
    simp at hs
    obtain ⟨rfl, rfl⟩ := hs
    exact sound_fld hR hu hf hd hsz hv (by rw [if_pos hag])
  · rename_i hag
    obtain ⟨v1, hv1, h2⟩ := map_some' hs
    simp at h2
    obtain ⟨rfl, rfl⟩ := h2
    exact sound_fld hR hu hf hd hsz hv (by rw [if_neg hag]; exact hv1)

theorem st_iad {T : TypeId} {x i : Operand} (hR : Rep G m ρ w) (hev : EvOk G ρ t a) (hc : compOp P G ⟨dst, .indexAddr T x i, ty, pos, after, guard⟩ = some ap) (hs : stepOp ap t m = some (v, m')) :
    StepsTo P G m ρ w a.eval ⟨dst, .indexAddr T x i, ty, pos, after, guard⟩ v m' := by
  simp only [compOp] at hc
  split at hc <;> try (simp at hc; done)
  · rename_i x1 i1 n e hx hi hu
    obtain ⟨s, hsz, rfl⟩ := map_some' hc
    simp only [stepOp] at hs
    split at hs <;> try (simp at hs; done)
    rename_i b o k j hb hj
    split at hs <;> simp at hs
    rename_i hcond
    obtain ⟨rfl, rfl⟩ := hs
    have hvi := hev i i1 hi
    rw [hj] at hvi
    exact .of rfl (sound_iadA hR hu hsz (hev x x1 hx) hb hvi hcond)
  · rename_i x1 i1 e hx hi hu
    obtain ⟨s, hsz, rfl⟩ := map_some' hc
    simp only [stepOp] at hs
    split at hs <;> try (simp at hs; done)
    rename_i b o l c k j hb hj
    split at hs <;> simp at hs
    rename_i hcond
    obtain ⟨rfl, rfl⟩ := hs
    have hvi := hev i i1 hi
    have hvx := hev x x1 hx
    rw [hj] at hvi
    rw [hb] at hvx
    exact .of rfl (sound_iadV hR hu hsz hvx hvi hcond)

theorem st_ix {T : TypeId} {x i : Operand} (hR : Rep G m ρ w) (hev : EvOk G ρ t a) (hc : compOp P G ⟨dst, .index T x i, ty, pos, after, guard⟩ = some ap) (hs : stepOp ap t m = some (v, m')) :
    StepsTo P G m ρ w a.eval ⟨dst, .index T x i, ty, pos, after, guard⟩ v m' := by
  simp only [compOp] at hc
  split at hc <;> try (simp at hc; done)
  · rename_i x1 i1 n e hx hi hu
    split at hc <;> simp at hc
    rename_i s d hsz hd
    subst hc
    simp only [stepOp] at hs
    split at hs <;> try (simp at hs; done)
    rename_i c k j hcv hj
    split at hs <;> try (simp at hs; done)
    rename_i hcond
    have hvi := hev i i1 hi
    have hvx := hev x x1 hx
    rw [hj] at hvi
    rw [hcv] at hvx
    refine .of rfl (m' := m') ?_
    split at hs
    · rename_i hag
      simp at hs
      obtain ⟨rfl, rfl⟩ := hs
      exact sound_ixA hR hu hsz hd hvx hvi hcond (by rw [if_pos hag])
    · rename_i hag
      obtain ⟨v1, hv1, h2⟩ := map_some' hs
      simp at h2
      obtain ⟨rfl, rfl⟩ := h2
      exact sound_ixA hR hu hsz hd hvx hvi hcond (by rw [if_neg hag]; exact hv1)
  · rename_i x1 i1 hx hi hu
    simp at hc
    subst hc
    simp only [stepOp] at hs
    split at hs <;> try (simp at hs; done)
    rename_i s k j hcv hj
    split at hs <;> try (simp at hs; done)
    rename_i h0
    obtain ⟨b, hb, h2⟩ := map_some' hs
    simp at h2
    obtain ⟨rfl, rfl⟩ := h2
    have hvi := hev i i1 hi
    have hvx := hev x x1 hx
    rw [hj] at hvi
    rw [hcv] at hvx
    exact .of rfl (sound_ixS hR hu hvx hvi h0 hb)

theorem st_ext {x : Operand} {i : Nat} (hR : Rep G m ρ w) (hev : EvOk G ρ t a) (hc : compOp P G ⟨dst, .extract x i, ty, pos, after, guard⟩ = some ap) (hs : stepOp ap t m = some (v, m')) :
    StepsTo P G m ρ w a.eval ⟨dst, .extract x i, ty, pos, after, guard⟩ v m' := by
  simp only [compOp] at hc
  obtain ⟨y, hy, rfl⟩ := map_some' hc
  have hv := hev x y hy
  simp only [stepOp] at hs
  split at hs <;> try (simp at hs; done)
  rename_i vs hvs
  obtain ⟨v1, hv1, h2⟩ := map_some' hs
  simp at h2
  obtain ⟨rfl, rfl⟩ := h2
  rw [hvs] at hv
  exact .of rfl (sound_ext hR hv hv1)

theorem st_rng {T : TypeId} {x : Operand} (hR : Rep G m ρ w) (hev : EvOk G ρ t a) (hc : compOp P G ⟨dst, .range T x, ty, pos, after, guard⟩ = some ap) (hs : stepOp ap t m = some (v, m')) :
    StepsTo P G m ρ w a.eval ⟨dst, .range T x, ty, pos, after, guard⟩ v m' := by
  simp only [compOp] at hc
  split at hc <;> try (simp at hc; done)
  rename_i hu
  obtain ⟨y, hy, rfl⟩ := map_some' hc
  have hv := hev x y hy
  simp only [stepOp] at hs
  split at hs <;> simp at hs
  rename_i s hvs
  obtain ⟨rfl, rfl⟩ := hs
  rw [hvs] at hv
  exact .of rfl (sound_rng hR hu hv)

theorem st_nxt {x : Operand} {b : Bool} (hR : Rep G m ρ w) (hev : EvOk G ρ t a) (hc : compOp P G ⟨dst, .next x b, ty, pos, after, guard⟩ = some ap) (hs : stepOp ap t m = some (v, m')) :
    StepsTo P G m ρ w a.eval ⟨dst, .next x b, ty, pos, after, guard⟩ v m' := by
  cases b <;> simp only [compOp] at hc <;> try (simp at hc; done)
  obtain ⟨y, hy, rfl⟩ := map_some' hc
  have hv := hev x y hy
  simp only [stepOp] at hs
  split at hs <;> try (simp at hs; done)
  rename_i r hr
  split at hs <;> try (simp at hs; done)
  rename_i s pos' hm
  rw [hr] at hv
  exact .of rfl (sound_nxt hR hv hm hs)

theorem st_call {c : Call} (hR : Rep G m ρ w) (hev : EvOk G ρ t a) (hc : compOp P G ⟨dst, .call c, ty, pos, after, guard⟩ = some ap) (hs : stepOp ap t m = some (v, m')) :
    StepsTo P G m ρ w a.eval ⟨dst, .call c, ty, pos, after, guard⟩ v m' := by
  obtain ⟨callee, args, tys⟩ := c
  cases callee <;> simp only [compOp] at hc <;> try (simp at hc; done)
  exact compOp_builtin hR hev hc hs

theorem step_ok {o : Oper} (hR : Rep G m ρ w) (hev : EvOk G ρ t a) (hc : compOp P G o = some ap) (hs : stepOp ap t m = some (v, m')) : StepsTo P G m ρ w a.eval o v m' := by
  obtain ⟨dst, op, ty, pos, after, guard⟩ := o
  cases op with
  | move x => exact st_move hR hev hc hs
  | assign x => exact st_assign hR hev hc hs
  | pick c x y => exact st_pick hR hev hc hs
  | alloc e => exact st_alloc hR hev hc hs
  | box e x => exact st_box hR hev hc hs
  | build T ps => exact st_build hR hev hc hs
  | buildSlice T l ps => exact st_buildSlice hR hev hc hs
  | load T x => exact st_load hR hev hc hs
  | store T x y => exact st_store hR hev hc hs
  | nilCheck x => exact st_nilCheck hR hev hc hs
  | binOp op T x y T' => exact st_binOp hR hev hc hs
  | unOp op T x => exact st_unOp hR hev hc hs
  | convert s d x => exact st_convert hR hev hc hs
  | sliceToArrayPointer T x => exact st_arr hR hev hc hs
  | makeInterface T x => exact st_mkI hR hev hc hs
  | makeFunc fn f c => exact st_mkF hR hev hc hs
  | makeMap T r => exact st_mkM hR hev hc hs
  | makeSlice T l c => exact st_mkSl hR hev hc hs
  | slice T x lo hi mx => exact st_slice hR hev hc hs
  | fieldAddr T x f => exact st_fad hR hev hc hs
  | field T x f => exact st_fld hR hev hc hs
  | indexAddr T x i => exact st_iad hR hev hc hs
  | index T x i => exact st_ix hR hev hc hs
  | extract x i => exact st_ext hR hev hc hs
  | range T x => exact st_rng hR hev hc hs
  | next x b => exact st_nxt hR hev hc hs
  | call c => exact st_call hR hev hc hs
  | _ => simp [compOp] at hc

end
end Go.AM
