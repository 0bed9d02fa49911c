/-
  One step of the abstract machine is what the model does.
-/
import Derived.Test.YtidngakhkpodgaaAmStepU
import Derived.BigFrame
set_option linter.unusedVariables false
set_option linter.unusedSimpArgs false
set_option linter.unnecessarySimpa false
namespace Go.AM
set_option linter.unusedVariables false
set_option linter.unusedSimpArgs false

section
variable {P : Program} {G : Nat} {m : AMem} {ρ : Ren} {w : World}

/-- What the model does at an operation. -/
def StepsTo (P : Program) (G : Nat) (m : AMem) (ρ : Ren) (w : World) (ev : Operand → Value) (o : Oper) (v : Value) (m' : AMem) : Prop :=
  ∃ ρ' w' v', ((execOp ev o).run P w = .ok (.value v') w' ∨ ((execOp ev o).run P w = .ok .skip w' ∧ o.dst = none)) ∧ VRel ρ' v v' ∧ Rep G m' ρ' w' ∧ Ext m ρ w m' ρ' w'

theorem StepsTo.of {ev : Operand → Value} {o : Oper} {s : Sem Value} {v : Value} {m' : AMem} (he : execOp ev o = (do pure (.value (← s)))) (h : Sound P G m ρ w s v m') : StepsTo P G m ρ w ev o v m' := by
  obtain ⟨ρ', w', v', h1, h2, h3, h4⟩ := h
  exact ⟨ρ', w', v', .inl (by rw [he]; simp [h1]), h2, h3, h4⟩

theorem StepsTo.same (hR : Rep G m ρ w) {ev : Operand → Value} {o : Oper} {v v' : Value} (he : (execOp ev o).run P w = .ok (.value v') w) (hv : VRel ρ v v') : StepsTo P G m ρ w ev o v m :=
  ⟨ρ, w, v', .inl he, hv, hR, Ext.refl _ _ _⟩

theorem VRel.slice_inv {A : Option Addr} {n c : Nat} {v' : Value} (h : VRel ρ (.slice A n c) v') : ∃ A' c', v' = .slice A' n c' := by
  cases h <;> exact ⟨_, _, rfl⟩

theorem compOp_builtin {dst : Option Tmp} {b : Builtin} {args : Array Operand} {tys : Array TypeId} {ty : TypeId} {pos : String} {after : Array Edge} {guard : Option (Nat × Bool)} {t : Tmps} {a : Act}
    (hR : Rep G m ρ w) (hev : ∀ x y, compOpd G x = some y → VRel ρ (y.ev t) (a.eval x)) {ap : AOp} (hc : compBuiltin P G b tys.toList args.toList = some ap) {v : Value} {m' : AMem} (hs : stepOp ap t m = some (v, m')) :
    StepsTo P G m ρ w a.eval ⟨dst, .call { callee := .builtin b, args, argTypes := tys }, ty, pos, after, guard⟩ v m' := by
  obtain ⟨cs, hex⟩ : ∃ cs, execOp a.eval ⟨dst, .call { callee := .builtin b, args, argTypes := tys }, ty, pos, after, guard⟩ = builtin b tys ty cs (args.map a.eval) := by
    exact ⟨_, rfl⟩
  obtain ⟨args⟩ := args
  obtain ⟨tys⟩ := tys
  simp only at hc
  unfold compBuiltin at hc
  split at hc <;> try (simp at hc; done)
  · -- len
    rename_i _ _ _ T x
    have hex' : execOp a.eval ⟨dst, .call { callee := .builtin .len, args := ⟨[x]⟩, argTypes := ⟨[T]⟩ }, ty, pos, after, guard⟩ = (do pure (.value (← Builtin.len_ #[T] ty #[a.eval x]))) := by rw [hex]; simp only [List.map_toArray, List.map]; rfl
    split at hc <;> try (simp at hc; done)
    · rename_i hu
      simp at hc
      obtain ⟨y, hy, rfl⟩ := hc
      simp only [stepOp] at hs
      split at hs <;> simp at hs
      rename_i s hsv
      obtain ⟨rfl, rfl⟩ := hs
      have hx := hev x y hy
      rw [hsv] at hx
      refine .of hex' (.pure hR (v' := .int .i64 s.size) ?_ (.int _ _))
      rw [hx.string_inv]
      simp [Builtin.len_, run_underlying hu, goInt]
    · rename_i e hu
      simp at hc
      obtain ⟨y, hy, rfl⟩ := hc
      simp only [stepOp] at hs
      split at hs <;> simp at hs
      rename_i A n c hsv
      obtain ⟨rfl, rfl⟩ := hs
      have hx := hev x y hy
      rw [hsv] at hx
      refine .of hex' (.pure hR (v' := .int .i64 n) ?_ (.int _ _))
      obtain ⟨A', c', hx'⟩ := hx.slice_inv
      rw [hx']
      simp [Builtin.len_, run_underlying hu, goInt]
    · rename_i n e hu
      simp at hc
      subst hc
      simp [stepOp] at hs
      obtain ⟨rfl, rfl⟩ := hs
      refine .of hex' (.pure hR (v' := .int .i64 n) ?_ (.int _ _))
      simp [Builtin.len_, run_underlying hu, goInt]
    · rename_i A hu
      split at hc <;> simp at hc
      rename_i n e hu2
      subst hc
      simp [stepOp] at hs
      obtain ⟨rfl, rfl⟩ := hs
      refine .of hex' (.pure hR (v' := .int .i64 n) ?_ (.int _ _))
      simp [Builtin.len_, run_underlying hu, run_underlying hu2, goInt]
  · -- append
    rename_i _ _ _ T U x y
    have hex' : execOp a.eval ⟨dst, .call { callee := .builtin .append, args := ⟨[x, y]⟩, argTypes := ⟨[T, U]⟩ }, ty, pos, after, guard⟩ = (do pure (.value (← Builtin.append_ #[T, U] ty #[a.eval x, a.eval y]))) := by rw [hex]; simp only [List.map_toArray, List.map]; rfl
    have core : ∀ (e : TypeId) (d : TypeDesc), P.underlying T = some (.slice e) → P.underlying U = some d → ((∃ e', P.underlying U = some (.slice e')) ∨ P.underlying U = some .string) →
        (match szOf P e, byOf P e, zeroOf P e, compOpd G x, compOpd G y with
        | some sz, some by_, some z, some x, some y => if 0 < by_ then some (AOp.app e sz by_ z x y) else none
        | _, _, _, _, _ => none) = some ap → StepsTo P G m ρ w a.eval ⟨dst, .call { callee := .builtin .append, args := ⟨[x, y]⟩, argTypes := ⟨[T, U]⟩ }, ty, pos, after, guard⟩ v m' := by
      intro e d hu hud hd hc
      split at hc <;> try (simp at hc; done)
      rename_i _ _ _ _ _ sz by_ z x1 y1 h1 h2 h3 h4 h5
      split at hc <;> simp at hc
      rename_i hb0
      subst hc
      simp only [stepOp] at hs
      split at hs <;> try (simp at hs; done)
      rename_i n hn
      split at hs <;> try (simp at hs; done)
      rename_i news hnews
      split at hs <;> try (simp at hs; done)
      rename_i hcond
      obtain ⟨c1, c2, c3, c4⟩ := hcond
      have hx := hev x x1 h4
      have hy := hev y y1 h5
      obtain ⟨news', k1, k2, k3⟩ := src_run (P := P) hR hy hnews c4 c3
      exact .of hex' (sound_appendTo hR hu h1 h2 hb0 h3 c2 c1 hx (.inl ⟨hd, srcLen_run hy hn, k3⟩) k1 c4 c3 hs)
    split at hc <;> try (simp at hc; done)
    · rename_i e e' hu hud
      exact core e _ hu hud (.inl ⟨e', hud⟩) hc
    · rename_i e hu hud
      exact core e _ hu hud (.inr hud) hc
    · rename_i e kk hu hud
      split at hc <;> try (simp at hc; done)
      rename_i _ _ _ _ _ sz by_ z x1 y1 h1 h2 h3 h4 h5
      split at hc <;> simp at hc
      rename_i hb0
      subst hc
      simp only [stepOp] at hs
      split at hs <;> try (simp at hs; done)
      rename_i kn n hn
      split at hs <;> try (simp at hs; done)
      rename_i hcond
      obtain ⟨c1, c2, c3, c4, c5⟩ := hcond
      have hx := hev x x1 h4
      have hy := hev y y1 h5
      rw [hn] at hy
      obtain ⟨nn, rfl⟩ := Int.eq_ofNat_of_zero_le c1
      obtain ⟨i, zv, hi, hzv, hcells, hzs, hpl⟩ := zeroOf_spec h3
      have hyi := hy.int_inv
      refine .of hex' (sound_appendTo hR hu h1 h2 hb0 h3 c5 c4 hx (.inr ⟨kk, kn, hud, hyi, rfl, by rw [← Int.natCast_mul] at c2; omega, by omega⟩)
        (LRel.plain fun v hv => plain_of (hpl v (rep_mem hv))) (by rw [rep_length, c4]) (List.all_eq_true.2 fun v hv => oneCell_of (hpl v (rep_mem hv))) hs)
  · -- copy
    rename_i _ _ _ T U x y
    split at hc <;> try (simp at hc; done)
    rename_i e hu
    split at hc <;> simp at hc
    rename_i sz x1 y1 h1 h2 h3
    subst hc
    exact .of (by rw [hex]; simp only [List.map_toArray, List.map]; rfl) (sound_cpy hR hu h1 (hev x x1 h2) (hev y y1 h3) rfl rfl hs)
  · -- unsafe slice data
    rename_i _ _ _ T x
    obtain ⟨y, hy, rfl⟩ : ∃ y, compOpd G x = some y ∧ AOp.sdat y = ap := by simpa using hc
    obtain ⟨rfl, v', h1, h2⟩ := sound_sdat (P := P) (tys := #[T]) (ty := ty) hR (hev x y hy) rfl hs
    exact .of (s := Builtin.unsafeSliceData_ #[T] ty #[a.eval x]) (by rw [hex]; simp only [List.map_toArray, List.map]; rfl) (.pure hR (h2 w) h1)
  · -- unsafe string
    rename_i _ _ _ T U x y
    split at hc <;> try (simp at hc; done)
    rename_i e x1 y1 hu h1 h2
    split at hc <;> simp at hc
    rename_i hk
    subst hc
    exact .of (s := Builtin.unsafeString_ #[T, U] ty #[a.eval x, a.eval y]) (by rw [hex]; simp only [List.map_toArray, List.map]; rfl) (sound_ustr (P := P) (it := U) (ty := ty) hR hu hk (hev x x1 h1) (hev y y1 h2) rfl rfl hs)
  · -- min
    rename_i _ _ _ x xs
    split at hc <;> simp at hc
    rename_i x1 xs1 h1 h2
    subst hc
    simp only [stepOp] at hs
    simp at hs
    obtain ⟨vv, hvv, rfl, rfl⟩ := hs
    obtain ⟨v', e1, e2⟩ := sound_mnx (P := P) (w := w) false _ _ _ _ _ (compOpds_map hev xs xs1 h2) (hev x x1 h1) hvv
    refine .of (by rw [hex]; simp only [List.map_toArray, List.map]; rfl) (.pure hR (v' := v') ?_ e2)
    simpa [Builtin.min_] using e1
  · rename_i _ _ _ x xs
    split at hc <;> simp at hc
    rename_i x1 xs1 h1 h2
    subst hc
    simp only [stepOp] at hs
    simp at hs
    obtain ⟨vv, hvv, rfl, rfl⟩ := hs
    obtain ⟨v', e1, e2⟩ := sound_mnx (P := P) (w := w) true _ _ _ _ _ (compOpds_map hev xs xs1 h2) (hev x x1 h1) hvv
    refine .of (by rw [hex]; simp only [List.map_toArray, List.map]; rfl) (.pure hR (v' := v') ?_ e2)
    simpa [Builtin.max_] using e1
  · rename_i _ _ _ T x
    split at hc <;> try (simp at hc; done)
    rename_i e hu
    split at hc <;> try (simp at hc; done)
    rename_i sz z x1 h1 h2 h3
    split at hc <;> simp at hc
    subst hc
    exact .of (by rw [hex]; simp only [List.map_toArray, List.map]; rfl) (sound_clr hR hu h2 (hev x x1 h3) rfl hs)

end
end Go.AM
