/-
  A region whose operations may be done in any order: one order, with what makes all others alike.
-/
import Derived.Test.YtidngakhkpodgaaAmDraw
import Derived.Orders
set_option linter.unusedVariables false
set_option linter.unusedSimpArgs false
set_option linter.unnecessarySimpa false
namespace Go.AM
set_option linter.unusedVariables false
set_option linter.unusedSimpArgs false

def AIns.opds : AIns → List AOpd
  | .op _ _ o => o.opds
  | .call _ _ _ as => as
  | .callv _ _ x as => x :: as
  | .panic _ _ x => [x]
  | .cap _ _ _ x => [x]

def regsOf : List AOpd → List Nat
  | [] => []
  | .t i :: r => i :: regsOf r
  | .c _ :: r => regsOf r

def AIns.reads (i : AIns) : List Nat := regsOf i.opds ++ (match i.guard with | some (d, _) => [d] | none => [])

def AIns.float : AIns → Bool
  | .op _ _ o => o.pure
  | _ => false
def AIns.indep : AIns → Bool
  | .op _ _ o => o.indep
  | _ => false

/-- What a float gives. -/
def valF (i : AIns) (t : Tmps) (m : AMem) : Option Value :=
  match i with
  | .op g _ o => if wanted g t then (stepOp o t m).map (·.1) else some undef
  | _ => none

theorem regsOf_mem {l : List AOpd} {i : Nat} : i ∈ regsOf l ↔ .t i ∈ l := by
  induction l with
  | nil => simp [regsOf]
  | cons x r ih => cases x <;> simp [regsOf, ih]

theorem ev_congr {l : List AOpd} {t t' : Tmps} (h : ∀ r ∈ regsOf l, t r = t' r) : ∀ x ∈ l, x.ev t = x.ev t' := by
  intro x hx
  cases x with
  | t i => exact h i (regsOf_mem.2 hx)
  | c v => rfl

theorem wanted_congr {i : AIns} {t t' : Tmps} (h : ∀ r ∈ i.reads, t r = t' r) : wanted i.guard t = wanted i.guard t' := by
  unfold wanted
  cases hg : i.guard with
  | none => rfl
  | some g =>
    obtain ⟨d, b⟩ := g
    have : t d = t' d := h d (by simp [AIns.reads, hg])
    simp only [this]

theorem valF_congr {i : AIns} {t t' : Tmps} {m : AMem} (h : ∀ r ∈ i.reads, t r = t' r) : valF i t m = valF i t' m := by
  have hw := wanted_congr h
  cases i with
  | op g d o =>
    have ho := stepOp_congr (m := m) (ev_congr (l := o.opds) (t := t) (t' := t') fun r hr => h r (List.mem_append_left _ hr))
    simp only [AIns.guard] at hw
    simp only [valF, hw, ho]
  | _ => rfl

theorem valF_indep {i : AIns} (hi : i.indep = true) {t : Tmps} {m m2 : AMem} {v : Value} (h : valF i t m = some v) : valF i t m2 = some v := by
  cases i with
  | op g d o =>
    simp only [AIns.indep] at hi
    simp only [valF] at h ⊢
    split at h
    · rename_i hw
      rw [if_pos hw]
      simp only [Option.map_eq_some_iff] at h
      obtain ⟨⟨v', m'⟩, h1, rfl⟩ := h
      have hp : o.pure = true := by cases o <;> simp_all [AOp.indep, AOp.pure]
      have := stepOp_pure hp h1
      subst this
      rw [stepOp_indep hi h1 m2]
      rfl
    · rename_i hw
      rw [if_neg hw]; exact h
  | _ => simp [AIns.indep] at hi

variable {P : Program} {G : Nat}

def Aone (P : Program) (G : Nat) (i : AIns) (K : ASt → Prop) (Q : AExit → ASt → Prop) (s : ASt) : Prop :=
  if wanted i.guard s.t then WI1 P G i K Q s else K { s with t := updO s.t i.dst undef }

theorem Aone_float {i : AIns} (hf : i.float = true) {K : ASt → Prop} {Q : AExit → ASt → Prop} {s : ASt} {v : Value} (h : valF i s.t s.m = some v) (hK : K { s with t := updO s.t i.dst v }) : Aone P G i K Q s := by
  cases i with
  | op g d o =>
    simp only [AIns.float] at hf
    change (if wanted g s.t then WI1 P G (.op g d o) K Q s else K { s with t := updO s.t d undef })
    change K { s with t := updO s.t d v } at hK
    simp only [valF] at h
    split at h
    · rename_i hw
      rw [if_pos hw]
      simp only [Option.map_eq_some_iff] at h
      obtain ⟨⟨v', m'⟩, h1, rfl⟩ := h
      have := stepOp_pure hf h1
      simp only [WI1, h1]
      subst this
      exact hK
    · rename_i hw
      rw [if_neg hw]
      simp at h; subst h
      exact hK
  | _ => simp [AIns.float] at hf

/-- Behind it: what was done to the registers, and nothing of the other ones. -/
theorem Aone_congr {i : AIns} {K K' : ASt → Prop} {Q Q' : AExit → ASt → Prop} {t t' : Tmps} {m : AMem} {ds : List Deferred} (h : ∀ r ∈ i.reads, t r = t' r)
    (hK : ∀ v m', K ⟨updO t i.dst v, m', ds⟩ → K' ⟨updO t' i.dst v, m', ds⟩) (hQ : ∀ c m', Q (.pan c) ⟨t, m', ds⟩ → Q' (.pan c) ⟨t', m', ds⟩) (hh : Aone P G i K Q ⟨t, m, ds⟩) : Aone P G i K' Q' ⟨t', m, ds⟩ := by
  have hw := wanted_congr h
  have hev := ev_congr (l := i.opds) (t := t) (t' := t') fun r hr => h r (List.mem_append_left _ hr)
  unfold Aone at hh ⊢
  simp only at hh ⊢
  rw [← hw]
  have hcall : ∀ (d : Option Nat), d = i.dst → ∀ r m', CallK d ⟨t, m, ds⟩ K Q r m' → CallK d ⟨t', m, ds⟩ K' Q' r m' := by
    intro d hd r m' h
    subst hd
    cases r with
    | ret v => exact hK _ _ h
    | pan c => exact hQ _ _ h
  split at hh
  · rename_i hwt
    rw [if_pos hwt]
    cases i with
    | op g d o =>
      simp only [WI1] at hh ⊢
      rw [← stepOp_congr hev]
      split at hh
      · exact hK _ _ hh
      · exact hh.elim
    | call g d f as =>
      simp only [WI1] at hh ⊢
      rw [← map_ev_congr (xs := as) hev]
      exact hh.mono (hcall d rfl)
    | callv g d x as =>
      have h1 := hev x (by simp [AIns.opds])
      have h2 := map_ev_congr (xs := as) (t := t) (t' := t') fun y hy => hev y (by simp [AIns.opds, hy])
      simp only [WI1] at hh ⊢
      rw [← h1]
      split at hh
      · rw [← h2]; exact hh.mono (hcall d rfl)
      · exact hh.elim
    | panic g d x =>
      have h1 := hev x (by simp [AIns.opds])
      simp only [WI1] at hh ⊢
      rw [← h1]
      split at hh
      · exact hQ _ _ hh
      · exact hh.elim
    | cap g d sz x =>
      have h1 := hev x (by simp [AIns.opds])
      simp only [WI1] at hh ⊢
      rw [← h1]
      unfold capW at hh ⊢
      split at hh <;> try exact hh.elim
      · exact ⟨hh.1, hK _ _ hh.2⟩
      · split at hh
        · rename_i hc
          rw [if_pos hc]
          split at hh <;> try exact hh.elim
          split at hh <;> try exact hh.elim
          · exact ⟨hh.1, hK _ _ hh.2⟩
          · exact ⟨hh.1, hh.2.1, hh.2.2.1, hh.2.2.2.1, hh.2.2.2.2.1, fun n => hK _ _ (hh.2.2.2.2.2 n)⟩
        · rename_i hc
          rw [if_neg hc]
          exact hK _ _ hh
  · rename_i hwt
    rw [if_neg hwt]
    exact hK _ _ hh

/-! ### One order -/

inductive DIx where
  | f (i : Nat)
  | b (i : Nat) (chk : List Nat)
  deriving Inhabited

def DIx.ix : DIx → Nat | .f i | .b i _ => i

def PanAny (Q : AExit → ASt → Prop) : AExit → ASt → Prop
  | .pan c, s => ∀ t, Q (.pan c) { s with t := t }
  | e, s => Q e s

inductive DItem where
  | f (i : AIns)
  | b (i : AIns) (chk : List AIns)
  deriving Inhabited

def chkOk (s : ASt) : List AIns → Prop
  | [] => True
  | c :: r => (match c.dst with | some d => valF c s.t s.m = some (s.t d) | none => (valF c s.t s.m).isSome = true) ∧ chkOk s r

def DW (P : Program) (G : Nat) : List DItem → (AExit → ASt → Prop) → ASt → Prop
  | [], Q, s => Q .normal s
  | .f i :: r, Q, s => ∃ v, valF i s.t s.m = some v ∧ DW P G r Q { s with t := updO s.t i.dst v }
  | .b i chk :: r, Q, s => Aone P G i (fun s' => chkOk s' chk ∧ DW P G r Q s') (PanAny Q) s

def DIx.item (ins : Nat → AIns) : DIx → DItem
  | .f i => .f (ins i)
  | .b i chk => .b (ins i) (chk.map ins)

/-! ### Which order will do -/

section
variable (n : Nat) (ins : Nat → AIns) (pre : Nat → List Nat) (anc : Nat → List Nat)

def isBar (A : List (Nat × Bool)) : List Nat := (A.filter (·.2)).map (·.1)

def dok : List (Nat × Bool) → List DIx → Bool
  | A, [] => (List.range n).all fun i => (A.map (·.1)).contains i
  | A, x :: r =>
    decide (x.ix < n) && !(A.map (·.1)).contains x.ix && (anc x.ix).all (fun j => (A.map (·.1)).contains j) && (isBar A).all (fun b => (anc x.ix).contains b) &&
    (match x with
     | .f i => (ins i).float && dok ((i, false) :: A) r
     | .b i chk => A.all (fun f => f.2 || (anc i).contains f.1 || (ins f.1).indep || (chk.contains f.1 && (List.range n).all fun k => match (ins k).dst with | some d => !(ins f.1).reads.contains d || (anc f.1).contains k | none => true)) &&
        dok ((i, true) :: A) r)

def dregs : Bool :=
  (List.range n).all fun i => (pre i).all (fun k => decide (k < i) && (anc i).contains k) &&
    (anc i).all (fun k => decide (k < i) && ((pre i).contains k || (pre i).any fun l => (anc l).contains k)) &&
    (List.range n).all fun j => i == j || (match (ins j).dst with
      | some d => (ins i).dst != some d && (!(ins i).reads.contains d || (anc i).contains j || (anc j).contains i)
      | none => true)
end

end Go.AM
