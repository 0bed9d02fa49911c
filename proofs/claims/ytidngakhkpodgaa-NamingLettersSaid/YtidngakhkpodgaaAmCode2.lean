/-
  Code, and its transformer.
-/
import Derived.Test.YtidngakhkpodgaaAmDraw3
set_option linter.unusedVariables false
set_option linter.unusedSimpArgs false
set_option linter.unnecessarySimpa false
namespace Go.AM
set_option linter.unusedVariables false

inductive ACode where
  | skip
  | reg (is : List AIns)
  | draw (ds : List DItem)
  | seq (a b : ACode)
  | cond (c : AOpd) (a b : ACode)
  | block (id : Nat) (a : ACode)
  | loop (a : ACode)
  | exit (id : Nat)
  | ret
  | refuse
  deriving Inhabited

def SeqK (K : ASt → Prop) (Q : AExit → ASt → Prop) : AExit → ASt → Prop
  | .normal, s => K s
  | e, s => Q e s

def BlockK (id : Nat) (Q : AExit → ASt → Prop) : AExit → ASt → Prop
  | .exit i, s => if i = id then Q .normal s else Q (.exit i) s
  | e, s => Q e s

def LoopK (I : Nat → ASt → Prop) (n : Nat) (Q : AExit → ASt → Prop) : AExit → ASt → Prop
  | .normal, s => ∃ k, k < n ∧ I k s
  | e, s => Q e s

def W (P : Program) (G : Nat) : ACode → (AExit → ASt → Prop) → ASt → Prop
  | .skip, Q, s => Q .normal s
  | .reg is, Q, s => WI P G is Q s
  | .draw d, Q, s => DW P G d Q s
  | .seq a b, Q, s => W P G a (SeqK (W P G b Q) Q) s
  | .cond c a b, Q, s => match c.ev s.t with
    | .bool c => if c then W P G a Q s else W P G b Q s
    | _ => False
  | .block id a, Q, s => W P G a (BlockK id Q) s
  | .loop a, Q, s => ∃ I : Nat → ASt → Prop, (∃ n, I n s) ∧ ∀ n s, I n s → W P G a (LoopK I n Q) s
  | .exit id, Q, s => Q (.exit id) s
  | .ret, Q, s => Q .ret s
  | .refuse, _, _ => False


theorem DW_mono {P : Program} {G : Nat} : ∀ (d : List DItem) (Q Q' : AExit → ASt → Prop) (s : ASt), (∀ e s, Q e s → Q' e s) → DW P G d Q s → DW P G d Q' s
  | [], Q, Q', s, hq, h => hq _ _ h
  | .f i :: r, Q, Q', s, hq, h => by
    obtain ⟨v, h1, h2⟩ := h
    exact ⟨v, h1, DW_mono r Q Q' _ hq h2⟩
  | .b i chk :: r, Q, Q', s, hq, h => by
    obtain ⟨t, m, ds⟩ := s
    refine Aone_congr (Q := PanAny Q) (t := t) (fun r _ => rfl) ?_ ?_ h
    · rintro v m' ⟨h1, h2⟩
      exact ⟨h1, DW_mono r Q Q' _ hq h2⟩
    · intro c m' h t
      exact hq _ _ (h t)

theorem W_mono {P : Program} {G : Nat} : ∀ (c : ACode) (Q Q' : AExit → ASt → Prop) (s : ASt), (∀ e s, Q e s → Q' e s) → W P G c Q s → W P G c Q' s
  | .skip, Q, Q', s, hq, h => hq _ _ h
  | .reg is, Q, Q', s, hq, h => WI_mono is Q Q' s hq h
  | .draw d, Q, Q', s, hq, h => DW_mono d Q Q' s hq h
  | .seq a b, Q, Q', s, hq, h => W_mono a _ _ s (fun e s h => by
      cases e with
      | normal => exact W_mono b Q Q' s hq h
      | _ => exact hq _ _ h) h
  | .cond c a b, Q, Q', s, hq, h => by
    simp only [W] at h ⊢
    split at h
    · split at h
      · rename_i hc; rw [if_pos hc]; exact W_mono a Q Q' s hq h
      · rename_i hc; rw [if_neg hc]; exact W_mono b Q Q' s hq h
    · exact h.elim
  | .block id a, Q, Q', s, hq, h => W_mono a _ _ s (fun e s h => by
      cases e with
      | exit i =>
        simp only [BlockK] at h ⊢
        split at h
        · rename_i hi; rw [if_pos hi]; exact hq _ _ h
        · rename_i hi; rw [if_neg hi]; exact hq _ _ h
      | _ => exact hq _ _ h) h
  | .loop a, Q, Q', s, hq, h => by
    obtain ⟨I, h1, h2⟩ := h
    exact ⟨I, h1, fun n s hI => W_mono a _ _ s (fun e s h => by
      cases e with
      | normal => exact h
      | _ => exact hq _ _ h) (h2 n s hI)⟩
  | .exit id, Q, Q', s, hq, h => hq _ _ h
  | .ret, Q, Q', s, hq, h => hq _ _ h
  | .refuse, _, _, _, _, h => h.elim


end Go.AM
