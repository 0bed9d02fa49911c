/-
  Copy and clear of the abstract machine are what the model does; and all operations together.
-/
import Derived.Test.YtidngakhkpodgaaAmStep6
import Derived.Test.YtidngakhkpodgaaAmStep8
set_option linter.unusedVariables false
set_option linter.unusedSimpArgs false
set_option linter.unnecessarySimpa false
namespace Go.AM
set_option linter.unusedVariables false
set_option linter.unusedSimpArgs false

section
variable {P : Program} {G : Nat} {m : AMem} {ρ : Ren} {w : World}

theorem srcLen_run {v v' : Value} {n : Nat} (hv : VRel ρ v v') (h : srcLen v = some n) : (Builtin.lenOf v').run P w = .ok n w := by
  unfold srcLen at h
  split at h <;> simp at h
  · subst h
    cases hv <;> simp [Builtin.lenOf]
  · subst h
    obtain rfl := hv.string_inv
    simp [Builtin.lenOf]

theorem sound_cpy (hR : Rep G m ρ w) {dT sT ty e : TypeId} {sz : Nat} (hu : P.underlying dT = some (.slice e)) (hs : szOf P e = some sz) {x y x' y' : Value} (hx : VRel ρ x x') (hy : VRel ρ y y')
    {t : Tmps} {xo yo : AOpd} (hxo : xo.ev t = x) (hyo : yo.ev t = y) {v : Value} {m' : AMem} (h : stepOp (.cpy sz xo yo) t m = some (v, m')) :
    Sound P G m ρ w (Builtin.copy_ #[dT, sT] ty #[x', y']) v m' := by
  simp only [stepOp, hxo, hyo] at h
  split at h <;> try (simp at h; done)
  rename_i _ _ a dl c n hn
  split at h <;> try (simp at h; done)
  rename_i _ cs hcs
  split at h <;> try (simp at h; done)
  rename_i hc
  have hlen := srcLen_run (P := P) (w := w) hy hn
  obtain ⟨cs', k1, k2, k3⟩ := src_run (P := P) hR hy hcs hc.1 hc.2
  have k3' := k3 w.drawn
  rw [show ({ w with drawn := w.drawn } : World) = w from rfl] at k3'
  have hmin : n.min dl = min n dl := rfl
  have run : ∀ (base : Option Addr) (c' : Nat) (w' : World), (∀ A, base = some A → (storeCells A cs').run P w = .ok () w') → (base = none → w' = w) →
      (Builtin.copy_ #[dT, sT] ty #[.slice base dl c', y']).run P w = .ok (.int .i64 (min n dl : Nat)) w' := by
    intro base c' w' h1 h2
    cases base with
    | none => simp [Builtin.copy_, run_underlying hu, hlen, szOf_spec hs, hmin, k3', h2 rfl, goInt]
    | some A => simp [Builtin.copy_, run_underlying hu, hlen, szOf_spec hs, hmin, k3', h1 A rfl, goInt]
  have hnil : min n dl = 0 → cs' = [] := fun h0 => List.eq_nil_of_length_eq_zero (by rw [← k1.1, hc.1, h0]; simp)
  split at h <;> try (simp at h; done)
  · split at h <;> simp at h
    rename_i h0
    obtain ⟨rfl, rfl⟩ := h
    cases hx
    have := run none c w (fun A hA => by cases hA) (fun _ => rfl)
    rw [h0] at this
    exact .pure hR this (.int _ _)
  · rename_i _ b o
    split at h
    · rename_i h0
      simp at h
      obtain ⟨rfl, rfl⟩ := h
      have hst : ∀ A, (storeCells A cs').run P w = .ok () w := fun A => by rw [hnil h0]; simp [storeCells]
      obtain ⟨a', c', rfl⟩ : ∃ a' c', x' = .slice (some a') dl c' := by cases hx <;> exact ⟨_, _, rfl⟩
      have := run (some a') c' w (fun A hA => hst A) (fun hh => by cases hh)
      rw [h0] at this
      exact .pure hR this (.int _ _)
    · rename_i h0
      simp at h
      obtain ⟨hw, rfl⟩ := h
      obtain ⟨L, c', rfl, hL⟩ : ∃ L c', x' = .slice (some ⟨L.cb, L.co + o, none⟩) dl c' ∧ ρ b = some L := by
        cases hx with
        | slice hL _ => exact ⟨_, _, rfl, hL⟩
        | sliceOpen hL _ _ => exact ⟨_, _, rfl, hL⟩
        | sliceEnd hL _ => simp at h0
      obtain ⟨e1, e2, e3⟩ := hR.wr hL hw k1 P k2
      exact ⟨ρ, _, _, run _ c' _ (fun A hA => by simp at hA; subst hA; exact e1) (fun hh => by cases hh), .int _ _, e2, e3⟩

theorem sound_clr (hR : Rep G m ρ w) {T ty e : TypeId} {sz : Nat} {z : List Value} (hu : P.underlying T = some (.slice e)) (hz : zeroOf P e = some z) {x x' : Value} (hx : VRel ρ x x') {t : Tmps} {xo : AOpd}
    (hxo : xo.ev t = x) {v : Value} {m' : AMem} (h : stepOp (.clr sz z xo) t m = some (v, m')) : Sound P G m ρ w (Builtin.clear_ #[T] ty #[x']) v m' := by
  obtain ⟨i, zv, hi, hzv, hcells, hzs, hpl⟩ := zeroOf_spec hz
  simp only [stepOp, hxo] at h
  split at h <;> try (simp at h; done)
  · simp at h
    obtain ⟨rfl, rfl⟩ := h
    cases hx
    exact .pure hR (v' := .tuple #[]) (by simp [Builtin.clear_, run_underlying hu]) (Plain.tuple (by simp) ρ)
  · rename_i _ b o n c
    split at h
    · rename_i h0
      subst h0
      simp at h
      obtain ⟨rfl, rfl⟩ := h
      cases hx <;> exact .pure hR (v' := .tuple #[]) (by simp [Builtin.clear_, run_underlying hu]) (Plain.tuple (by simp) ρ)
    · rename_i h0
      split at h <;> simp at h
      obtain ⟨hw, rfl⟩ := h
      obtain ⟨L, c', rfl, hL⟩ : ∃ L c', x' = .slice (some ⟨L.cb, L.co + o, none⟩) n c' ∧ ρ b = some L := by
        cases hx with
        | slice hL _ => exact ⟨_, _, rfl, hL⟩
        | sliceOpen hL _ _ => exact ⟨_, _, rfl, hL⟩
        | sliceEnd hL _ => simp at h0
      have hp : ∀ v ∈ rep z n, plainB v = true := fun v hv => hpl v (rep_mem hv)
      obtain ⟨e1, e2, e3⟩ := hR.wr hL hw (LRel.plain fun v hv => plain_of (hp v hv)) P (fun u hu => by
        have := oneCell_of (hp u hu)
        have h2 := (plain_of (hp u hu) ρ).oneCell this
        exact h2)
      refine ⟨ρ, _, .tuple #[], ?_, Plain.tuple (by simp) ρ, e2, e3⟩
      simp [Builtin.clear_, run_underlying hu, h0, zero_run hi hzv, hcells, zeroCells_rep, e1]

theorem compOpds_map {t : Tmps} {a : Act} (hev : ∀ x y, compOpd G x = some y → VRel ρ (y.ev t) (a.eval x)) : ∀ (xs : List Operand) (ys : List AOpd), compOpds G xs = some ys →
    LRel ρ (ys.map (·.ev t)) (xs.map a.eval)
  | [], ys, h => by simp [compOpds] at h; subst h; exact LRel.nil ρ
  | x :: r, ys, h => by
    simp only [compOpds] at h
    split at h <;> simp at h
    rename_i y b h1 h2
    subst h
    exact LRel.cons (hev x y h1) (compOpds_map hev r b h2)

end
end Go.AM
