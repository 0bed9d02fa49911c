/-
  What the abstract machine's transformer says of code and of functions, the model does.
-/
import Derived.Test.YtidngakhkpodgaaAmSound2
set_option linter.unusedVariables false
set_option linter.unusedSimpArgs false
set_option linter.unnecessarySimpa false
namespace Go.AM
set_option linter.unusedVariables false
set_option linter.unusedSimpArgs false

section
variable {P : Program} {G N : Nat} {m0 : AMem} {ρ0 : Ren} {w0 : World}

/-- A loop, with a number that goes down. -/
theorem wp_loopN {Q : Exit → Act → World → Prop} {c : Code} (I : Nat → Act → World → Prop) (round : ∀ n a w, I n a w → c.wp P (Exit.then (fun a' w' => ∃ k, k < n ∧ I k a' w') Q) a w) :
    ∀ n a w, I n a w → (Code.loop c).wp P Q a w := by
  intro n a w h₀ b k cs
  have key : ∀ n a w, I n a w →
      ∃ e a' w', Q e a' w' ∧ Arrives P (lone (b.at a (.code c :: .inLoop c :: k)) cs w) b k cs e a' w' := by
    intro n
    induction n using Nat.strongRecOn with
    | _ n ih =>
      intro a w hI
      obtain ⟨e, a₁, w₁, hq, harr⟩ := round n a w hI b (.inLoop c :: k) cs
      cases e with
      | normal =>
        obtain ⟨j, hlt, hI₁⟩ := hq
        obtain ⟨e₂, a₂, w₂, hq₂, harr₂⟩ := ih j hlt a₁ w₁ hI₁
        exact ⟨e₂, a₂, w₂, hq₂, .of_steps (Steps.trans harr (.one step_inLoop)) harr₂⟩
      | exit id => exact ⟨_, a₁, w₁, hq, .pass (x := .inLoop c) rfl (fun _ _ => .inl (by simp)) harr⟩
      | goto l => exact ⟨_, a₁, w₁, hq, .pass (x := .inLoop c) rfl (fun _ _ => .inl (by simp)) harr⟩
      | ret => exact ⟨_, a₁, w₁, hq, .pass (x := .inLoop c) rfl (fun _ _ => .inl (by simp)) harr⟩
      | panic ch => exact ⟨_, a₁, w₁, hq, .pass (x := .inLoop c) rfl (fun _ _ => .inl (by simp)) harr⟩
      | outgrown => exact ⟨_, a₁, w₁, hq, .pass (x := .inLoop c) rfl (fun _ _ => .inl (by simp)) harr⟩
  obtain ⟨e, a', w', hq, harr⟩ := key n a w h₀
  exact ⟨e, a', w', hq, .of_steps (.one step_loop) harr⟩

theorem W_ok : ∀ (c : Code) (ac : ACode), compCode P G N c = some ac → ∀ (Q : AExit → ASt → Prop) (m0 : AMem) (ρ0 : Ren) (w0 : World) (s : ASt) (a : Act) (ρ : Ren) (w : World),
    Rep G s.m ρ w → SRel N ρ s a → Ext m0 ρ0 w0 s.m ρ w → W P G ac Q s → c.wp P (QC G N Q m0 ρ0 w0) a w := by
  intro c
  induction c with
  | skip =>
    intro ac hc Q m0 ρ0 w0 s a ρ w hR hS hE h
    simp [compCode] at hc; subst hc
    exact wp_skip ⟨ρ, s, .normal, h, .normal, hS, hR, hE⟩
  | region id ops draw =>
    intro ac hc Q m0 ρ0 w0 s a ρ w hR hS hE h
    cases draw with
    | true =>
      simp only [compCode] at hc
      obtain ⟨d, hd, rfl⟩ := map_some' hc
      exact draw_ok hd hR hS hE h
    | false =>
      simp only [compCode] at hc
      obtain ⟨is, his, rfl⟩ := map_some' hc
      refine wp_region ?_
      have := WI_ok (Q := Q) is ops.toList 0 (by simp) his s a ρ w hR hS hE h
      simpa [List.range_eq_range'] using this
  | seq x y ihx ihy =>
    intro ac hc Q m0 ρ0 w0 s a ρ w hR hS hE h
    simp only [compCode] at hc
    split at hc <;> simp at hc
    rename_i x1 y1 hx hy
    subst hc
    refine wp_seq (wp_mono (ihx x1 hx _ m0 ρ0 w0 s a ρ w hR hS hE h) fun e a' w' hh => ?_)
    obtain ⟨ρ', s', e', h1, h2, h3, h4, h5⟩ := hh
    cases h2 with
    | normal => exact ihy y1 hy Q m0 ρ0 w0 s' a' ρ' w' h4 h3 h5 h1
    | exit id => exact ⟨ρ', s', _, h1, .exit id, h3, h4, h5⟩
    | goto l => exact ⟨ρ', s', _, h1, .goto l, h3, h4, h5⟩
    | ret => exact ⟨ρ', s', _, h1, .ret, h3, h4, h5⟩
    | pan hp => exact ⟨ρ', s', _, h1, .pan hp, h3, h4, h5⟩
  | cond c x y ihx ihy =>
    intro ac hc Q m0 ρ0 w0 s a ρ w hR hS hE h
    simp only [compCode] at hc
    split at hc <;> simp at hc
    rename_i c1 x1 y1 hcc hx hy
    subst hc
    simp only [W] at h
    split at h <;> try exact h.elim
    rename_i b hb
    have hv := evOk hR hS c c1 hcc
    rw [hb] at hv
    have hbb := hv.bool_inv
    refine wp_cond hbb ?_
    cases b
    · exact ihy y1 hy Q m0 ρ0 w0 s a ρ w hR hS hE (by simpa using h)
    · exact ihx x1 hx Q m0 ρ0 w0 s a ρ w hR hS hE (by simpa using h)
  | block id x ih =>
    intro ac hc Q m0 ρ0 w0 s a ρ w hR hS hE h
    simp only [compCode] at hc
    obtain ⟨x1, hx, rfl⟩ := map_some' hc
    refine wp_block (wp_mono (ih x1 hx _ m0 ρ0 w0 s a ρ w hR hS hE h) fun e a' w' hh => ?_)
    obtain ⟨ρ', s', e', h1, h2, h3, h4, h5⟩ := hh
    cases h2 with
    | normal => exact ⟨ρ', s', _, h1, .normal, h3, h4, h5⟩
    | exit i =>
      simp only [BlockK] at h1
      simp only [Exit.inBlock]
      split at h1
      · rename_i hi
        rw [if_pos hi]
        exact ⟨ρ', s', _, h1, .normal, h3, h4, h5⟩
      · rename_i hi
        rw [if_neg hi]
        exact ⟨ρ', s', _, h1, .exit i, h3, h4, h5⟩
    | goto l => exact ⟨ρ', s', _, h1, .goto l, h3, h4, h5⟩
    | ret => exact ⟨ρ', s', _, h1, .ret, h3, h4, h5⟩
    | pan hp => exact ⟨ρ', s', _, h1, .pan hp, h3, h4, h5⟩
  | loop x ih =>
    intro ac hc Q m0 ρ0 w0 s a ρ w hR hS hE h
    simp only [compCode] at hc
    obtain ⟨x1, hx, rfl⟩ := map_some' hc
    obtain ⟨I, ⟨n, hI⟩, hround⟩ := h
    refine wp_loopN (fun n a w => ∃ ρ s, I n s ∧ SRel N ρ s a ∧ Rep G s.m ρ w ∧ Ext m0 ρ0 w0 s.m ρ w) ?_ n a w ⟨ρ, s, hI, hS, hR, hE⟩
    rintro n a w ⟨ρ, s, hI, hS, hR, hE⟩
    refine wp_mono (ih x1 hx _ m0 ρ0 w0 s a ρ w hR hS hE (hround n s hI)) fun e a' w' hh => ?_
    obtain ⟨ρ', s', e', h1, h2, h3, h4, h5⟩ := hh
    cases h2 with
    | normal =>
      obtain ⟨k, hk, hI'⟩ := h1
      exact ⟨k, hk, ρ', s', hI', h3, h4, h5⟩
    | exit id => exact ⟨ρ', s', _, h1, .exit id, h3, h4, h5⟩
    | goto l => exact ⟨ρ', s', _, h1, .goto l, h3, h4, h5⟩
    | ret => exact ⟨ρ', s', _, h1, .ret, h3, h4, h5⟩
    | pan hp => exact ⟨ρ', s', _, h1, .pan hp, h3, h4, h5⟩
  | exit id =>
    intro ac hc Q m0 ρ0 w0 s a ρ w hR hS hE h
    simp [compCode] at hc; subst hc
    exact wp_exit ⟨ρ, s, _, h, .exit id, hS, hR, hE⟩
  | ret =>
    intro ac hc Q m0 ρ0 w0 s a ρ w hR hS hE h
    simp [compCode] at hc; subst hc
    exact wp_ret ⟨ρ, s, _, h, .ret, hS, hR, hE⟩
  | refuse why =>
    intro ac hc Q m0 ρ0 w0 s a ρ w hR hS hE h
    simp [compCode] at hc; subst hc
    exact h.elim
  | _ =>
    intro ac hc
    simp [compCode] at hc

/-! ### Functions -/

inductive ARes where
  | t (i : Nat)
  | c1 (i : Nat)
  | cn (i n : Nat)
  deriving Inhabited

def compRes (P : Program) : List ResultVar → Option (List ARes)
  | [] => some []
  | .tmp i :: r => (compRes P r).map (.t i :: ·)
  | .cell i t :: r => match P.underlying t, szOf P t, compRes P r with
    | some d, some n, some l => some ((if aggB d then .cn i n else .c1 i) :: l)
    | _, _, _ => none

def resV (r : ARes) (t : Tmps) (m : AMem) : Option Value :=
  match r with
  | .t i => some (t i)
  | .c1 i => match addr (t i) with | some (b, o) => (match rd m b o 1 with | some [v] => some v | _ => none) | none => none
  | .cn i n => match addr (t i) with | some (b, o) => (rd m b o n).map fun c => .agg c.toArray | none => none

def resVs : List ARes → Tmps → AMem → Option (List Value)
  | [], _, _ => some []
  | r :: l, t, m => match resV r t m, resVs l t m with | some v, some vs => some (v :: vs) | _, _ => none

def packV (l : List Value) : Value := match l with | [v] => v | l => .tuple l.toArray

/-- A function, compiled: how many slots, what it does, what it hands back. -/
structure AFun where
  n : Nat
  code : ACode
  res : List ARes

def compFun (P : Program) (G : Nat) (fn : Func) : Option AFun :=
  match fn.body with
  | some c => match compCode P G fn.ntmps c, compRes P fn.results.toList with
    | some a, some r => some ⟨fn.ntmps, a, r⟩
    | _, _ => none
  | none => none

/-- The end of a function that defers nothing. -/
def RetK (res : List ARes) (Q : AEnd → AMem → Prop) : AExit → ASt → Prop
  | .normal, s | .ret, s => s.ds = [] ∧ match resVs res s.t s.m with | some l => Q (.ret (packV l)) s.m | none => False
  | .pan c, s => s.ds = [] ∧ Q (.pan c) s.m
  | _, _ => False

def initT (args : List Value) : Tmps := fun i => args.getD i undef

/-- What the model makes of one result. -/
def resSem (a : Act) (r : ResultVar) : Sem Value :=
  match r with
  | .tmp t => pure (a.tmps.getD t undef)
  | .cell b t => do loadVar t (← asAddr (a.tmps.getD b undef))

theorem resVs_run {res : List ARes} : ∀ (rs : List ResultVar), compRes P rs = some res → ∀ {s : ASt} {a : Act} {ρ : Ren} {w : World} {l : List Value}, Rep G s.m ρ w → SRel N ρ s a → resVs res s.t s.m = some l →
    ∃ l', LRel ρ l l' ∧ (rs.mapM (resSem a)).run P w = .ok l' w := by
  induction res with
  | nil =>
    intro rs hc s a ρ w l hR hS h
    cases rs with
    | nil => simp [resVs] at h; subst h; exact ⟨[], LRel.nil ρ, by simp⟩
    | cons r rs =>
      cases r with
      | tmp t => simp only [compRes] at hc; obtain ⟨_, _, h2⟩ := map_some' hc; simp at h2
      | cell b t => simp only [compRes] at hc; split at hc <;> simp at hc
  | cons x res ih =>
    intro rs hc s a ρ w l hR hS h
    simp only [resVs] at h
    split at h <;> simp at h
    rename_i v vs hv hvs
    subst h
    cases rs with
    | nil => simp [compRes] at hc
    | cons r rs =>
      cases r with
      | tmp t =>
        simp only [compRes] at hc
        obtain ⟨l0, h1, h2⟩ := map_some' hc
        simp at h2
        obtain ⟨rfl, rfl⟩ := h2
        obtain ⟨l', k1, k2⟩ := ih rs h1 hR hS hvs
        simp [resV] at hv
        subst hv
        exact ⟨a.tmps.getD t undef :: l', LRel.cons (hS.tmps t) k1, by simp [List.mapM_cons, k2, resSem]⟩
      | cell b t =>
        simp only [compRes] at hc
        split at hc <;> simp at hc
        rename_i d n l0 hd hn hl0
        obtain ⟨hx, rfl⟩ := hc
        obtain ⟨l', k1, k2⟩ := ih rs hl0 hR hS hvs
        have hb := hS.tmps b
        subst hx
        split at hv
        · rename_i hag
          simp only [resV] at hv
          split at hv <;> simp at hv
          rename_i bb o hbo
          obtain ⟨c, hc, rfl⟩ := hv
          obtain ⟨L, hL, hbe⟩ := addr_inv hbo hb
          obtain ⟨cs, h1, h2, h3, h4⟩ := hR.rd hL hc
          have hl := run_loadCells_list (P := P) w ⟨L.cb, L.co + o, none⟩ cs h4
          rw [h1] at hl
          have hrun : (loadVar t ⟨L.cb, L.co + o, none⟩).run P w = .ok (.agg cs.toArray) w := by simp [loadVar, isAgg_spec hd, hag, szOf_spec hn, hl]
          refine ⟨.agg cs.toArray :: l', LRel.cons (.ofARel h3.toArray) k1, ?_⟩
          simp only [List.mapM_cons, resSem, hbe, asAddr]
          simp [hrun, k2]
        · rename_i hag
          simp only [resV] at hv
          split at hv <;> try (simp at hv; done)
          rename_i bb o hbo
          split at hv <;> simp at hv
          rename_i v1 hv1
          subst hv
          obtain ⟨L, hL, hbe⟩ := addr_inv hbo hb
          obtain ⟨cs, h1, h2, h3, h4⟩ := hR.rd hL hv1
          match cs, h1 with
          | [v'], _ =>
            have h5 := h4 0 v' rfl
            rw [add_mk, Nat.add_zero] at h5
            have hrun : (loadVar t ⟨L.cb, L.co + o, none⟩).run P w = .ok v' w := by simp [loadVar, isAgg_spec hd, hag, h5]
            refine ⟨v' :: l', LRel.cons (h3.2 0 (by simp) (by simp)) k1, ?_⟩
            simp only [List.mapM_cons, resSem, hbe, asAddr]
            simp [hrun, k2]

theorem results_run {fn : Func} {res : List ARes} (hc : compRes P fn.results.toList = some res) {s : ASt} {a : Act} {ρ : Ren} {w : World} {l : List Value} (hR : Rep G s.m ρ w) (hS : SRel N ρ s a)
    (h : resVs res s.t s.m = some l) : ∃ v', VRel ρ (packV l) v' ∧ (results fn a.tmps).run P w = .ok v' w := by
  obtain ⟨l', h1, h2⟩ := resVs_run fn.results.toList hc hR hS h
  have hm : (fn.results.mapM (resSem a)).run P w = .ok l'.toArray w := by
    have e1 : fn.results = fn.results.toList.toArray := by simp
    rw [e1, List.mapM_toArray]
    simp [h2]
  have e2 : results fn a.tmps = (fn.results.mapM (resSem a) >>= fun vs => pure (if h : vs.size = 1 then vs[0] else .tuple vs)) := by
    unfold results
    congr 1
  rw [e2]
  simp only [Sem.run_bind, hm, Result.andThen_ok, Sem.run_pure]
  have hl := h1.1
  unfold packV
  match l, l', h1 with
  | [], [], _ => exact ⟨_, .ofARelT (LRel.nil ρ).toArray, by simp⟩
  | [v], [v'], h1 => exact ⟨v', h1.uncons.1, by simp⟩
  | v :: u :: r, v' :: u' :: r', h1 => exact ⟨_, .ofARelT h1.toArray, by simp⟩
  | [], _ :: _, h1 => have := h1.1; simp at this
  | _ :: _, [], h1 => have := h1.1; simp at this
  | [v], _ :: _ :: _, h1 => have := h1.1; simp at this
  | _ :: _ :: _, [v], h1 => have := h1.1; simp at this

/-- A call, out of what the transformer says of the function's code. -/
theorem ACall_of_W {f : FuncId} {fn : Func} {A : AFun} (hf : P.funcs[f]? = some fn) (hn : (fn.name == "runtime.NumGoroutine") = false) (hA : compFun P G fn = some A) {args : List Value} (hlen : args.length ≤ A.n) {m : AMem}
    {Q : AEnd → AMem → Prop} (h : W P G A.code (RetK A.res Q) { t := initT args, m := m, ds := [] }) : ACall P G f args m Q := by
  intro ρ w args' hR hL
  unfold compFun at hA
  split at hA <;> try (simp at hA; done)
  rename_i c hbody
  split at hA <;> simp at hA
  rename_i ac res hac hres
  subst hA
  have hn' : ¬ fn.name = "runtime.NumGoroutine" := by simpa using hn
  have hrun : (callFunc f args').run P w = .ok (.enter f args') w := by simp [callFunc, hf, hn', hbody]
  rw [hrun]
  simp only
  refine calls_of_wp hf hbody ?_
  have hl := hL.1
  simp at hl
  have hS : SRel fn.ntmps ρ { t := initT args, m := m, ds := [] } { tmps := args' ++ Array.replicate (fn.ntmps - args'.size) undef, defers := [] } := by
    refine ⟨by simp at hlen ⊢; omega, fun i => ?_, DsRel.nil ρ⟩
    simp only [initT]
    by_cases hi : i < args.length
    · have h2 := hL.2 i hi (by simp; omega)
      simp at h2
      have hi' : i < args'.size := by omega
      simp [List.getD_eq_getElem?_getD, hi, Array.getD_eq_getD_getElem?, Array.getElem?_append, hi']
      exact h2
    · have hi' : ¬ i < args'.size := by omega
      simp [List.getD_eq_getElem?_getD, List.getElem?_eq_none (Nat.le_of_not_lt hi), Array.getD_eq_getD_getElem?, Array.getElem?_append, hi']
      have : ((Array.replicate (fn.ntmps - args'.size) undef)[i - args'.size]?).getD undef = undef := by
        rw [Array.getElem?_replicate]; split <;> rfl
      rw [Array.getElem?_replicate] at this
      first
        | (rw [this]; exact Plain.undef ρ)
        | (simp only [Array.getElem?_replicate]; rw [this]; exact Plain.undef ρ)
  refine wp_mono (W_ok c ac hac _ m ρ w _ _ ρ w hR hS (Ext.refl _ _ _) h) fun e a' w' hh => ?_
  obtain ⟨ρ', s', e', h1, h2, h3, h4, h5⟩ := hh
  have fin : (s'.ds = [] ∧ match resVs res s'.t s'.m with | some l => Q (.ret (packV l)) s'.m | none => False) →
      a'.defers = [] ∧ ∃ v, (results fn a'.tmps).run P w' = .ok v w' ∧ ∃ ρ' m' r, Q r m' ∧ EndRel ρ' r (.returned v) ∧ Rep G m' ρ' w' ∧ Ext m ρ w m' ρ' w' := by
    rintro ⟨hds, hq⟩
    split at hq
    · rename_i l hl
      obtain ⟨v', k1, k2⟩ := results_run hres h4 h3 hl
      refine ⟨?_, v', k2, ρ', s'.m, _, hq, .ret k1, h4, h5⟩
      have := h3.ds.1
      rw [hds] at this
      simp at this
      exact List.eq_nil_of_length_eq_zero (by omega)
    · exact hq.elim
  cases h2 with
  | normal => exact fin h1
  | exit id => exact h1.elim
  | goto l => exact h1.elim
  | ret => exact fin h1
  | pan hp =>
    obtain ⟨hds, hq⟩ := h1
    refine ⟨?_, ρ', s'.m, _, hq, .pan hp, h4, h5⟩
    have := h3.ds.1
    rw [hds] at this
    simp at this
    exact List.eq_nil_of_length_eq_zero (by omega)

end
end Go.AM
