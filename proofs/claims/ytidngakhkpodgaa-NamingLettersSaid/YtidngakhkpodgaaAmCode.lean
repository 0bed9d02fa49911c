/-
  The abstract machine's code, its predicate transformer, and what a call is.
-/
import Derived.Test.YtidngakhkpodgaaAmStepB
set_option linter.unusedVariables false
set_option linter.unusedSimpArgs false
set_option linter.unnecessarySimpa false
namespace Go.AM
set_option linter.unusedVariables false
set_option linter.unusedSimpArgs false

structure ASt where
  t : Tmps
  m : AMem
  ds : List Deferred

inductive AExit where
  | normal
  | exit (id : Nat)
  | goto (l : Nat)
  | ret
  | pan (chain : List PanicEntry)

inductive AEnd where
  | ret (v : Value)
  | pan (chain : List PanicEntry)

def PRel (ρ : Ren) (c c' : List PanicEntry) : Prop := c.length = c'.length ∧ ∀ i (h : i < c.length) (h' : i < c'.length), VRel ρ c[i].v c'[i].v ∧ c[i].recovered = c'[i].recovered ∧ c[i].goexit = c'[i].goexit

inductive EndRel (ρ : Ren) : AEnd → Ending → Prop
  | ret {v v' : Value} (h : VRel ρ v v') : EndRel ρ (.ret v) (.returned v')
  | pan {c c' : List PanicEntry} (h : PRel ρ c c') : EndRel ρ (.pan c) (.panicked c')

inductive XRel (ρ : Ren) : AExit → Exit → Prop
  | normal : XRel ρ .normal .normal
  | exit (id : Nat) : XRel ρ (.exit id) (.exit id)
  | goto (l : Nat) : XRel ρ (.goto l) (.goto l)
  | ret : XRel ρ .ret .ret
  | pan {c c' : List PanicEntry} (h : PRel ρ c c') : XRel ρ (.pan c) (.panic c')

/-- Deferred calls of functions. -/
def DRel (ρ : Ren) (d d' : Deferred) : Prop :=
  ARel ρ d.args d'.args ∧ ∃ f c c', d.target = .fn (.func f) c ∧ d'.target = .fn (.func f) c' ∧ ARel ρ c c'

def DsRel (ρ : Ren) (d d' : List Deferred) : Prop := d.length = d'.length ∧ ∀ i (h : i < d.length) (h' : i < d'.length), DRel ρ d[i] d'[i]

theorem PRel.mono {ρ ρ' : Ren} (hr : ρ.le ρ') {c c' : List PanicEntry} (h : PRel ρ c c') : PRel ρ' c c' := ⟨h.1, fun i a b => ⟨(h.2 i a b).1.mono hr, (h.2 i a b).2⟩⟩
theorem DRel.mono {ρ ρ' : Ren} (hr : ρ.le ρ') {d d' : Deferred} (h : DRel ρ d d') : DRel ρ' d d' := by
  obtain ⟨h1, f, c, c', h2, h3, h4⟩ := h
  exact ⟨h1.mono hr, f, c, c', h2, h3, h4.mono hr⟩
theorem DsRel.mono {ρ ρ' : Ren} (hr : ρ.le ρ') {d d' : List Deferred} (h : DsRel ρ d d') : DsRel ρ' d d' := ⟨h.1, fun i a b => (h.2 i a b).mono hr⟩
theorem DsRel.nil (ρ : Ren) : DsRel ρ [] [] := ⟨rfl, fun i h => by simp at h⟩

/-- The frame's slots. -/
structure SRel (N : Nat) (ρ : Ren) (s : ASt) (a : Act) : Prop where
  size : a.tmps.size = N
  tmps : ∀ i, VRel ρ (s.t i) (a.tmps.getD i undef)
  ds : DsRel ρ s.ds a.defers

/-- What a function does when it is called, whatever concrete memory stands for m. -/
def ACall (P : Program) (G : Nat) (f : FuncId) (args : List Value) (m : AMem) (Q : AEnd → AMem → Prop) : Prop :=
  ∀ (ρ : Ren) (w : World) (args' : Array Value), Rep G m ρ w → LRel ρ args args'.toList →
    match (callFunc f args').run P w with
    | .ok (.enter g as) w1 => Calls P g as w1 fun e w' => ∃ ρ' m' r, Q r m' ∧ EndRel ρ' r e ∧ Rep G m' ρ' w' ∧ Ext m ρ w m' ρ' w'
    | .ok (.value v) w' => ∃ ρ' m' r, Q r m' ∧ EndRel ρ' r (.returned v) ∧ Rep G m' ρ' w' ∧ Ext m ρ w m' ρ' w'
    | _ => False

theorem ACall.mono {P : Program} {G : Nat} {f : FuncId} {args : List Value} {m : AMem} {Q Q' : AEnd → AMem → Prop} (h : ACall P G f args m Q) (hq : ∀ r m', Q r m' → Q' r m') : ACall P G f args m Q' := by
  intro ρ w args' hR hA
  have := h ρ w args' hR hA
  split at this
  · exact this.mono fun e w' ⟨ρ', m', r, h1, h2⟩ => ⟨ρ', m', r, hq _ _ h1, h2⟩
  · obtain ⟨ρ', m', r, h1, h2⟩ := this
    exact ⟨ρ', m', r, hq _ _ h1, h2⟩
  · exact this

/-! ### Code -/

inductive AIns where
  | op (g : Option (Nat × Bool)) (dst : Option Nat) (o : AOp)
  | call (g : Option (Nat × Bool)) (dst : Option Nat) (f : FuncId) (args : List AOpd)
  | callv (g : Option (Nat × Bool)) (dst : Option Nat) (f : AOpd) (args : List AOpd)
  | panic (g : Option (Nat × Bool)) (dst : Option Nat) (x : AOpd)
  | cap (g : Option (Nat × Bool)) (dst : Option Nat) (sz : Nat) (x : AOpd)
  deriving Inhabited

def wanted (g : Option (Nat × Bool)) (t : Tmps) : Bool :=
  match g with
  | none => true
  | some (d, b) => match t d with | .bool c => c == b | _ => false

def AIns.guard : AIns → Option (Nat × Bool)
  | .op g _ _ | .call g _ _ _ | .callv g _ _ _ | .panic g _ _ | .cap g _ _ _ => g
def AIns.dst : AIns → Option Nat
  | .op _ d _ | .call _ d _ _ | .callv _ d _ _ | .cap _ d _ _ | .panic _ d _ => d

/-- Behind a call. -/
def CallK (dst : Option Nat) (s : ASt) (K : ASt → Prop) (Q : AExit → ASt → Prop) : AEnd → AMem → Prop
  | .ret v, m' => K { s with t := updO s.t dst v, m := m' }
  | .pan c, m' => Q (.pan c) { s with m := m' }

/-- cap(x), of a slice: where nobody knows, whatever it may be. -/
def capW (sz : Nat) (v : Value) (m : AMem) (K : Value → AMem → Prop) : Prop :=
  match v with
  | .slice none _ c => c ≠ openCap ∧ K (.int .i64 c) m
  | .slice (some ⟨b, o, none⟩) l c =>
    if c = openCap then
      match m.get b with
      | .cells x e w sp =>
        match sp with
        | .full k => k = sz ∧ K (.int .i64 ((x.length - o) / sz : Nat)) m
        | .room z => z.length = sz ∧ 0 < sz ∧ o % sz = 0 ∧ w = true ∧ o ≤ x.length ∧
            ∀ n, K (.int .i64 ((x.length - o) / sz + n : Nat)) (m.set b (.cells (x ++ rep z n) e w (.full sz)))
        | .exact => False
      | _ => False
    else K (.int .i64 c) m
  | _ => False

/-- One instruction that is wanted. -/
def WI1 (P : Program) (G : Nat) (i : AIns) (K : ASt → Prop) (Q : AExit → ASt → Prop) (s : ASt) : Prop :=
  match i with
  | .op _ dst o => match stepOp o s.t s.m with
    | some (v, m') => K { s with t := updO s.t dst v, m := m' }
    | none => False
  | .call _ dst f args => ACall P G f (args.map (·.ev s.t)) s.m (CallK dst s K Q)
  | .callv _ dst x args => match x.ev s.t with
    | .func (.func f) first captured => ACall P G f (first.toList ++ args.map (·.ev s.t) ++ captured.toList) s.m (CallK dst s K Q)
    | _ => False
  | .panic _ _ x => match x.ev s.t with
    | .iface T v => Q (.pan [{ v := .iface T v, recovered := false }]) s
    | _ => False
  | .cap _ dst sz x => capW sz (x.ev s.t) s.m fun v m' => K { s with t := updO s.t dst v, m := m' }

def WI (P : Program) (G : Nat) : List AIns → (AExit → ASt → Prop) → ASt → Prop
  | [], Q, s => Q .normal s
  | i :: r, Q, s => if wanted i.guard s.t then WI1 P G i (WI P G r Q) Q s else WI P G r Q { s with t := updO s.t i.dst undef }

theorem WI_mono {P : Program} {G : Nat} : ∀ (is : List AIns) (Q Q' : AExit → ASt → Prop) (s : ASt), (∀ e s, Q e s → Q' e s) → WI P G is Q s → WI P G is Q' s
  | [], Q, Q', s, hq, h => hq _ _ h
  | i :: r, Q, Q', s, hq, h => by
    have hk : ∀ s, WI P G r Q s → WI P G r Q' s := fun s => WI_mono r Q Q' s hq
    have hcallk : ∀ dst r' m', CallK dst s (WI P G r Q) Q r' m' → CallK dst s (WI P G r Q') Q' r' m' := by
      intro dst r' m' h
      cases r' with
      | ret v => exact hk _ h
      | pan c => exact hq _ _ h
    unfold WI at h ⊢
    split
    · rename_i hw
      rw [if_pos hw] at h
      cases i with
      | op g dst o =>
        simp only [WI1] at h ⊢
        split at h
        · exact hk _ h
        · exact h.elim
      | call g dst f args => exact ACall.mono h fun r m' => hcallk dst r m'
      | callv g dst x args =>
        simp only [WI1] at h ⊢
        split at h
        · exact ACall.mono h fun r m' => hcallk dst r m'
        · exact h.elim
      | panic g dst x =>
        simp only [WI1] at h ⊢
        split at h
        · exact hq _ _ h
        · exact h.elim
      | cap g dst sz x =>
        simp only [WI1] at h ⊢
        unfold capW at h ⊢
        split at h <;> try exact h.elim
        · exact ⟨h.1, hk _ h.2⟩
        · split at h
          · rename_i hc
            rw [if_pos hc]
            split at h <;> try exact h.elim
            split at h <;> try exact h.elim
            · exact ⟨h.1, hk _ h.2⟩
            · exact ⟨h.1, h.2.1, h.2.2.1, h.2.2.2.1, h.2.2.2.2.1, fun n => hk _ (h.2.2.2.2.2 n)⟩
          · rename_i hc
            rw [if_neg hc]
            exact hk _ h
    · rename_i hw
      rw [if_neg hw] at h
      exact hk _ h

end Go.AM
