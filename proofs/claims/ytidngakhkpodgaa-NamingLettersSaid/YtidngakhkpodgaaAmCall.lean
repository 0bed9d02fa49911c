/-
  Calls: of functions without a body; what a call made for itself, forgotten.
-/
import Derived.Test.YtidngakhkpodgaaAmVal
import Derived.Laws.Externs
set_option linter.unusedVariables false
set_option linter.unusedSimpArgs false
set_option linter.unnecessarySimpa false
namespace Go.AM
set_option linter.unusedVariables false

section
variable {P : Program} {G : Nat} {m : AMem} {ρ ρ' : Ren} {w w' : World}

/-- What is related further on, and was related before, is related before. -/
theorem VRel.back (hr : ρ.le ρ') : ∀ {v v1 : Value}, VRel ρ v v1 → ∀ {v2 : Value}, VRel ρ' v v2 → VRel ρ v v2 := by
  intro v v1 h
  have eqL : ∀ {b : Nat} {L L' : Loc}, ρ b = some L → ρ' b = some L' → L' = L := fun h h' => by
    rw [hr _ _ h] at h'; cases h'; rfl
  induction h with
  | bool b => intro v2 k; cases k; exact .bool _
  | int k n => intro v2 k; cases k; exact .int _ _
  | float k n => intro v2 k; cases k; exact .float _ _
  | complex k n m => intro v2 k; cases k; exact .complex _ _ _
  | string s => intro v2 k; cases k; exact .string _
  | nilPtr => intro v2 k; cases k; exact .nilPtr
  | ptr h => intro v2 k; cases k with | ptr h' => cases eqL h h'; exact .ptr h
  | nilSlice l c => intro v2 k; cases k; exact .nilSlice _ _
  | slice h hc => intro v2 k; cases k with
    | slice h' hc' => cases eqL h h'; exact .slice h hc'
    | sliceOpen h' hc' hs => cases eqL h h'; exact .sliceOpen h hc' hs
    | sliceEnd h' hc' => cases eqL h h'; exact .sliceEnd h hc'
  | sliceOpen h hc hs => intro v2 k; cases k with
    | slice h' hc' => cases eqL h h'; exact .slice h hc'
    | sliceOpen h' hc' hs => cases eqL h h'; exact .sliceOpen h hc' hs
    | sliceEnd h' hc' => cases eqL h h'; exact .sliceEnd h hc'
  | sliceEnd h hc => intro v2 k; cases k with
    | slice h' hc' => cases eqL h h'; exact .slice h hc'
    | sliceOpen h' hc' hs => cases eqL h h'; exact .sliceOpen h hc' hs
    | sliceEnd h' hc' => cases eqL h h'; exact .sliceEnd h hc'
  | nilMap => intro v2 k; cases k; exact .nilMap
  | map h => intro v2 k; cases k with | map h' => cases eqL h h'; exact .map h
  | func f x x' y y' hx hy _ _ ih1 ih2 => intro v2 k; cases k with
    | func f x z y u hx' hy' h1 h2 =>
      exact .func f _ _ _ _ hx' hy' (fun i a b => ih1 i a (by omega) (h1 i a b)) (fun i a b => ih2 i a (by omega) (h2 i a b))
  | yield h => intro v2 k; cases k with | yield h' => cases eqL h h'; exact .yield h
  | nilFunc => intro v2 k; cases k; exact .nilFunc
  | iface t _ ih => intro v2 k; cases k with | iface t h => exact .iface t (ih h)
  | nilIface => intro v2 k; cases k; exact .nilIface
  | agg x x' hx _ ih => intro v2 k; cases k with
    | agg x z hx' h => exact .agg _ _ hx' (fun i a b => ih i a (by omega) (h i a b))
  | tuple x x' hx _ ih => intro v2 k; cases k with
    | tuple x z hx' h => exact .tuple _ _ hx' (fun i a b => ih i a (by omega) (h i a b))

theorem ObjRel.back (hr : ρ.le ρ') {o : AObj} {L : Loc} (h : ObjRel ρ o L w) (k : ObjRel ρ' o L w') : ObjRel ρ o L w' := by
  cases o with
  | dead => trivial
  | cells c e wr sp =>
    obtain ⟨carr, frz, h1, h2, h3, h4, h8, h5, h6, h7⟩ := h
    obtain ⟨carr', frz', k1, k2, k3, k4, k8, k5, k6, k7⟩ := k
    exact ⟨carr', frz', k1, k2, k3, k4, k8, fun j hj => (h5 j hj).back hr (k5 j hj), k6, k7⟩
  | iter s pos => exact k
  | map es clock => exact k

/-- What a call made for itself may be forgotten. -/
theorem ACall.forget {f : FuncId} {args : List Value} {Q Q' : AEnd → AMem → Prop} (h : ACall P G f args m Q)
    (hq : ∀ r m', Q r m' → (∃ v, r = .ret v ∧ Plain v) ∧ (∀ b, b < m.size → m'.get b = m.get b) ∧ Q' r m) : ACall P G f args m Q' := by
  intro ρ w args' hR hA
  have main : ∀ e w', (∃ ρ' m' r, Q r m' ∧ EndRel ρ' r e ∧ Rep G m' ρ' w' ∧ Ext m ρ w m' ρ' w') → ∃ ρ' m' r, Q' r m' ∧ EndRel ρ' r e ∧ Rep G m' ρ' w' ∧ Ext m ρ w m' ρ' w' := by
    rintro e w' ⟨ρ', m', r, h1, h2, h3, h4⟩
    obtain ⟨⟨v, rfl, hv⟩, h5, h6⟩ := hq r m' h1
    refine ⟨ρ, m, .ret v, h6, ?_, ⟨hR.dom, fun b L hb => ?_, hR.sep, hR.glob⟩, ⟨.refl ρ, h4.os, h4.tape, h4.output, h4.size, h4.keep, fun _ _ h => h⟩⟩
    · cases h2 with
      | ret h => exact .ret ((hv ρ).back h4.ren h)
    · have := h3.obj b L (h4.ren b L hb)
      rw [h5 b (hR.dom b L hb)] at this
      exact (hR.obj b L hb).back h4.ren this
  have := h ρ w args' hR hA
  split at this
  · exact this.mono fun e w' h => main e w' h
  · exact main _ _ this
  · exact this

/-- A function without a body. -/
theorem ACall_ext {f : FuncId} {fn : Func} {e : Array Value → Sem Value} (hf : P.funcs[f]? = some fn) (hname : (fn.name == "runtime.NumGoroutine") = false)
    (hb : fn.body.isNone = true) (hn : Extern.findNext fn = none) (he : Extern.find fn = some e) {args : List Value} {Q : AEnd → AMem → Prop}
    (h : ∀ ρ w args', Rep G m ρ w → LRel ρ args args'.toList → ∃ v v', (e args').run P w = .ok v' w ∧ VRel ρ v v' ∧ Q (.ret v) m) : ACall P G f args m Q := by
  intro ρ w args' hR hA
  obtain ⟨v, v', h1, h2, h3⟩ := h ρ w args' hR hA
  rw [run_callFunc_extern hf hname hb hn he args' w, h1]
  exact ⟨ρ, m, .ret v, h3, .ret h2, hR, Ext.refl _ _ _⟩

end
end Go.AM
