/-
  Each operation of the abstract machine is what the model does: the operations that touch no memory.
-/
import Derived.Test.YtidngakhkpodgaaAmComp
import Derived.Laws.Slices
import Derived.Laws.Tables
import Derived.Laws.BytesArg
set_option linter.unusedVariables false
set_option linter.unusedSimpArgs false
set_option linter.unnecessarySimpa false
namespace Go.AM
set_option linter.unusedVariables false
set_option linter.unusedSimpArgs false

/-- The model's computation s does what the abstract step says. -/
def Sound (P : Program) (G : Nat) (m : AMem) (ρ : Ren) (w : World) (s : Sem Value) (v : Value) (m' : AMem) : Prop :=
  ∃ ρ' w' v', s.run P w = .ok v' w' ∧ VRel ρ' v v' ∧ Rep G m' ρ' w' ∧ Ext m ρ w m' ρ' w'

theorem Sound.pure {P : Program} {G : Nat} {m : AMem} {ρ : Ren} {w : World} {s : Sem Value} {v v' : Value} (hR : Rep G m ρ w) (h : s.run P w = .ok v' w) (hv : VRel ρ v v') :
    Sound P G m ρ w s v m := ⟨ρ, w, v', h, hv, hR, Ext.refl _ _ _⟩

theorem szOf_spec {P : Program} {t : TypeId} {n : Nat} (h : szOf P t = some n) (w : World) : (sizeOf t).run P w = .ok n w := by
  unfold szOf at h
  cases hi : P.info? t with
  | none => simp [hi] at h
  | some i => simp [hi] at h; simp [sizeOf, typeInfo, hi, h]

theorem isAgg_spec {P : Program} {t : TypeId} {d : TypeDesc} (h : P.underlying t = some d) (w : World) : (isAgg t).run P w = .ok (aggB d) w := by
  unfold isAgg
  cases d <;> simp [run_underlying h, aggB]

theorem zeroOf_spec {P : Program} {t : TypeId} {z : List Value} (h : zeroOf P t = some z) :
    ∃ i zv, P.info? t = some i ∧ i.zero = some zv ∧ zv.cells = z.toArray ∧ z.length = i.size ∧ ∀ v ∈ z, plainB v = true := by
  unfold zeroOf at h
  cases hi : P.info? t with
  | none => simp [hi] at h
  | some i =>
    cases hz : i.zero with
    | none => simp [hi, hz] at h
    | some zv =>
      simp [hi, hz] at h
      obtain ⟨⟨h1, h2⟩, h3⟩ := h
      refine ⟨i, zv, rfl, hz, by rw [← h3], by rw [← h3]; simpa using h2, fun v hv => ?_⟩
      rw [← h3] at hv
      simp at hv
      obtain ⟨j, hj, rfl⟩ := Array.mem_iff_getElem.1 hv
      exact h1 j hj

theorem zero_run {P : Program} {t : TypeId} {i : TypeInfo} {z : Value} (hi : P.info? t = some i) (hz : i.zero = some z) (w : World) : (zeroValue t).run P w = .ok z w := by
  simp [zeroValue, typeInfo, hi, hz]

/-! Inversions. -/
theorem VRel.int_inv {ρ : Ren} {k : IntKind} {n : Int} {v' : Value} (h : VRel ρ (.int k n) v') : v' = .int k n := by cases h; rfl
theorem VRel.bool_inv {ρ : Ren} {b : Bool} {v' : Value} (h : VRel ρ (.bool b) v') : v' = .bool b := by cases h; rfl
theorem VRel.string_inv {ρ : Ren} {s : ByteArray} {v' : Value} (h : VRel ρ (.string s) v') : v' = .string s := by cases h; rfl
theorem VRel.agg_inv {ρ : Ren} {x : Array Value} {v' : Value} (h : VRel ρ (.agg x) v') : ∃ x', v' = .agg x' ∧ ARel ρ x x' := by cases h; exact ⟨_, rfl, ‹_›, ‹_›⟩
theorem VRel.tuple_inv {ρ : Ren} {x : Array Value} {v' : Value} (h : VRel ρ (.tuple x) v') : ∃ x', v' = .tuple x' ∧ ARel ρ x x' := by cases h; exact ⟨_, rfl, ‹_›, ‹_›⟩
theorem VRel.ptr_inv {ρ : Ren} {b o : Nat} {v' : Value} (h : VRel ρ (.pointer (some ⟨b, o, none⟩)) v') : ∃ L, ρ b = some L ∧ v' = .pointer (some ⟨L.cb, L.co + o, none⟩) := by
  cases h; exact ⟨_, ‹_›, rfl⟩
theorem VRel.ofARel {ρ : Ren} {x x' : Array Value} (h : ARel ρ x x') : VRel ρ (.agg x) (.agg x') := .agg _ _ h.1 h.2
theorem VRel.ofARelT {ρ : Ren} {x x' : Array Value} (h : ARel ρ x x') : VRel ρ (.tuple x) (.tuple x') := .tuple _ _ h.1 h.2

theorem addr_inv {ρ : Ren} {v v' : Value} {b o : Nat} (h : addr v = some (b, o)) (hv : VRel ρ v v') : ∃ L, ρ b = some L ∧ v' = .pointer (some ⟨L.cb, L.co + o, none⟩) := by
  unfold addr at h
  split at h <;> simp at h
  obtain ⟨rfl, rfl⟩ := h
  exact hv.ptr_inv

section
variable {P : Program} {G : Nat} {m : AMem} {ρ : Ren} {w : World}

theorem sound_bin (hR : Rep G m ρ w) {op : BinOp} {xt : TypeId} {x y x' y' v : Value} (hx : VRel ρ x x') (hy : VRel ρ y y') (h : binV op x y = some v) :
    (∀ a b : Operand, (eqGuard op xt a b x' y').run P w = .ok () w) ∧ (binOp op xt x' y').run P w = .ok v w ∧ VRel ρ v v := by
  unfold binV at h
  split at h
  · rename_i k a k' b
    obtain rfl := hx.int_inv
    obtain rfl := hy.int_inv
    refine ⟨fun _ _ => by unfold eqGuard; cases op <;> simp, ?_⟩
    split at h
    · split at h <;> simp at h
      subst h
      refine ⟨?_, .int _ _⟩
      simp [binOp, Op.shift, shl]; omega
    · split at h <;> simp at h
      subst h
      refine ⟨?_, .int _ _⟩
      simp [binOp, Op.shift, shr]; omega
    · rename_i h1 h2
      split at h <;> try (simp at h; done)
      rename_i hk
      subst hk
      cases op <;> simp only [ibin, reduceCtorEq, Option.some.injEq] at h <;> try (first | exact absurd rfl h1 | exact absurd rfl h2)
      all_goals first
        | (subst h; exact ⟨by simp [binOp, Op.intArith, Op.intBits, Op.intCmp, ibits], by first | exact .int _ _ | exact .bool _⟩)
        | (split at h <;> simp at h; subst h; rename_i hy0; exact ⟨by simp [binOp, Op.intDiv, hy0], .int _ _⟩)
  · rename_i a b
    obtain rfl := hx.string_inv
    obtain rfl := hy.string_inv
    refine ⟨fun _ _ => by unfold eqGuard; cases op <;> simp, ?_⟩
    cases op <;> simp only [sbin, reduceCtorEq, Option.some.injEq] at h
    case add =>
      split at h <;> simp at h
      subst h
      rename_i hle
      refine ⟨?_, .string _⟩
      simp only [binOp, Op.stringOp]
      rw [if_neg (by simp [IntKind.max, IntKind.bits, IntKind.signed]; omega)]
      rfl
    all_goals (subst h; exact ⟨by simp [binOp, Op.stringOp, strEq, strLt], .bool _⟩)
  · simp at h

theorem sound_un (hR : Rep G m ρ w) {op : UnOp} {x x' v : Value} (hx : VRel ρ x x') (h : unV op x = some v) : (Op.unary op x').run P w = .ok v w ∧ VRel ρ v v := by
  unfold unV at h
  split at h <;> simp at h
  · obtain rfl := hx.int_inv
    subst h
    exact ⟨by simp [Op.unary, Op.intArith], .int _ _⟩
  · obtain rfl := hx.int_inv
    subst h
    exact ⟨by simp [Op.unary, Op.intBits, ibits], .int _ _⟩
  · obtain rfl := hx.bool_inv
    subst h
    exact ⟨by simp [Op.unary], .bool _⟩

theorem bnd_run {t : Tmps} {a : Act} (hev : ∀ x y, compOpd G x = some y → VRel ρ (y.ev t) (a.eval x)) {x : Option Operand} {y : Option AOpd} (hc : compOpdO G x = some y) {d : Nat} {i : Int}
    (h : bnd y t d = some i) : (x = none ∧ y = none ∧ i = d) ∨ ∃ o p k, x = some o ∧ y = some p ∧ a.eval o = .int k i := by
  cases x with
  | none => simp [compOpdO] at hc; subst hc; simp [bnd] at h; exact .inl ⟨rfl, rfl, h.symm⟩
  | some o =>
    simp [compOpdO] at hc
    obtain ⟨p, hp, rfl⟩ := hc
    simp only [bnd] at h
    split at h <;> simp at h
    rename_i k j hj
    subst h
    have := hev o p hp
    rw [hj] at this
    exact .inr ⟨o, p, k, rfl, rfl, this.int_inv⟩

/-- The bounds of a cut, as the model works them out. -/
theorem cut_run {t : Tmps} {a : Act} (hev : ∀ x y, compOpd G x = some y → VRel ρ (y.ev t) (a.eval x)) {lo hi mx : Option Operand} {lo' hi' mx' : Option AOpd}
    (c1 : compOpdO G lo = some lo') (c2 : compOpdO G hi = some hi') (c3 : compOpdO G mx = some mx') (hmh : mx'.isNone = true ∨ hi'.isSome = true) {isSlice : Bool} {len cap cap' : Nat} {i h k : Nat}
    (hcut : cut len cap lo' hi' mx' t = some (i, h, k)) (hcap : cap ≤ cap') :
    (Instr.sliceBounds isSlice len cap' (lo.map a.eval) (hi.map a.eval) (mx.map a.eval)).run P w = .ok (i, h, if mx'.isNone then cap' else k) w ∧ i ≤ h ∧ h ≤ k ∧ k ≤ cap ∧ (mx'.isNone = true → k = cap) := by
  unfold cut at hcut
  split at hcut <;> try (simp at hcut; done)
  rename_i M H Lo e1 e2 e3
  split at hcut <;> simp at hcut
  rename_i hb
  obtain ⟨b1, b2, b3, b4⟩ := hb
  obtain ⟨rfl, rfl, rfl⟩ := hcut
  rcases bnd_run hev c3 e1 with ⟨rfl, rfl, rfl⟩ | ⟨om, pm, km, rfl, rfl, hm⟩
  · rcases bnd_run hev c2 e2 with ⟨rfl, rfl, rfl⟩ | ⟨oh, ph, kh, rfl, rfl, hh⟩
    · rcases bnd_run hev c1 e3 with ⟨rfl, rfl, rfl⟩ | ⟨ol, pl, kl, rfl, rfl, hl⟩
      · simp [Instr.sliceBounds]; omega
      · simp [Instr.sliceBounds, hl, run_sliceBound_if, b1, b2, show (Lo ≤ (len : Int)) from b2]; omega
    · rcases bnd_run hev c1 e3 with ⟨rfl, rfl, rfl⟩ | ⟨ol, pl, kl, rfl, rfl, hl⟩
      · simp [Instr.sliceBounds, hh, run_sliceBound_if, show (0 : Int) ≤ H by omega, show H ≤ (cap' : Int) by omega]; omega
      · simp [Instr.sliceBounds, hl, hh, run_sliceBound_if, show (0 : Int) ≤ H by omega, show H ≤ (cap' : Int) by omega, b1, b2, show Lo ≤ max H 0 by omega]; omega
  · rcases bnd_run hev c2 e2 with ⟨rfl, rfl, rfl⟩ | ⟨oh, ph, kh, rfl, rfl, hh⟩
    · simp at hmh
    · rcases bnd_run hev c1 e3 with ⟨rfl, rfl, rfl⟩ | ⟨ol, pl, kl, rfl, rfl, hl⟩
      · simp [Instr.sliceBounds, hm, hh, run_sliceBound_if, show (0 : Int) ≤ M by omega, show M ≤ (cap' : Int) by omega, show (0 : Int) ≤ H by omega, show H ≤ max M 0 by omega]; omega
      · simp [Instr.sliceBounds, hm, hl, hh, run_sliceBound_if, show (0 : Int) ≤ M by omega, show M ≤ (cap' : Int) by omega, show (0 : Int) ≤ H by omega, show H ≤ max M 0 by omega, b1, show Lo ≤ max H 0 by omega]; omega

end
end Go.AM
