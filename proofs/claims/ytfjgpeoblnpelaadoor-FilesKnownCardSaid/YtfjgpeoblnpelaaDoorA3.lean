/-
  What the abstract machine's transformer says, the model does.
-/
import Derived.Test.YtfjgpeoblnpelaaDoorA2
import Derived.OrdersIn
import Derived.ScopeJumps
set_option linter.unusedVariables false
set_option linter.unusedSimpArgs false
set_option linter.unnecessarySimpa false
namespace Go.AM
set_option linter.unusedVariables false
set_option linter.unusedSimpArgs false

def compGuard (ops : Array Oper) : Option (Nat × Bool) → Option (Option (Nat × Bool))
  | none => some none
  | some (j, b) => match (ops[j]?).bind (·.dst) with
    | some d => some (some (d, b))
    | none => none

def dstOk (N : Nat) : Option Tmp → Bool
  | none => true
  | some d => decide (d < N)

def compIns (P : Program) (G N : Nat) (ops : Array Oper) (o : Oper) : Option AIns :=
  match compGuard ops o.guard with
  | none => none
  | some g =>
    if dstOk N o.dst then
      match o.op with
      | .call { callee := .value (.func f), args, .. } => (compOpds G args.toList).map (.call g o.dst f)
      | .call { callee := .value x, args, .. } => match compOpd G x, compOpds G args.toList with
        | some x, some as => some (.callv g o.dst x as)
        | _, _ => none
      | .call { callee := .builtin .cap, args, argTypes } => match args.toList, argTypes.toList with
        | [x], [t] => match P.underlying t with
          | some (.slice e) => match szOf P e, compOpd G x with
            | some s, some x => if 0 < s then some (.cap g o.dst s x) else none
            | _, _ => none
          | _ => none
        | _, _ => none
      | .panic x => (compOpd G x).map (.panic g o.dst)
      | _ => (compOp P G o).map (.op g o.dst)
    else none

def compList (P : Program) (G N : Nat) (ops : Array Oper) : List Oper → Option (List AIns)
  | [] => some []
  | o :: r => match compIns P G N ops o, compList P G N ops r with
    | some i, some l => some (i :: l)
    | _, _ => none

def preOf (ops : Array Oper) (i : Nat) : List Nat := match ops[i]? with
  | some o => (o.after.toList.filter (Region.binds .any)).map (·.on)
  | none => []

def ancTab (pre : Nat → List Nat) : Nat → List (List Nat)
  | 0 => []
  | j + 1 => let T := ancTab pre j; T ++ [(pre j ++ (pre j).flatMap fun k => T.getD k []).eraseDups]

def dOrder (n : Nat) (ins : Nat → AIns) (anc : Nat → List Nat) : List DIx :=
  let bars := (List.range n).filter fun i => !(ins i).float
  let stage := fun i => ((anc i).filter fun j => !(ins j).float).length
  (List.range (bars.length + 1)).flatMap fun s =>
    (((List.range n).filter fun i => (ins i).float && stage i == s).map .f) ++
    ((bars.filter fun b => stage b == s).map fun b => .b b ((List.range n).filter fun f => (ins f).float && decide (stage f ≤ s) && !(anc b).contains f && !(ins f).indep))

def compDraw (P : Program) (G N : Nat) (ops : Array Oper) : Option (List DItem) :=
  match compList P G N ops ops.toList with
  | none => none
  | some is =>
    let ins := fun i => is.getD i default
    let T := ancTab (preOf ops) ops.size
    let anc := fun i => T.getD i []
    let d := dOrder ops.size ins anc
    if P.follows .mixedOrders && dregs ops.size ins (preOf ops) anc && dok ops.size ins anc [] d then some (d.map (DIx.item ins)) else none

def aOrder (n : Nat) (ins : Nat → AIns) (anc : Nat → List Nat) (slot : Nat → Option Nat) : List AIx :=
  let bars := (List.range n).filter fun i => !(ins i).float && (slot i).isNone
  let stage := fun i => ((anc i).filter fun j => !(ins j).float && (slot j).isNone).length
  (List.range (bars.length + 1)).flatMap fun s =>
    (((List.range n).filter fun i => ((ins i).float || (slot i).isSome) && stage i == s).map fun i => match slot i with | some j => .a i j | none => .f i) ++
    ((bars.filter fun b => stage b == s).map fun b => .b b ((List.range n).filter fun f => (ins f).float && decide (stage f ≤ s) && !(anc b).contains f && !(ins f).indep)
      (((List.range n).filter fun f => decide (stage f ≤ s) && !(anc b).contains f).filterMap slot))

def compDrawA (P : Program) (G N : Nat) (ops : Array Oper) : Option ACode :=
  match compList P G N ops ops.toList with
  | none => none
  | some is =>
    let ins := fun i => is.getD i default
    let T := ancTab (preOf ops) ops.size
    let anc := fun i => T.getD i []
    let al := (List.range ops.size).filter fun i => (ins i).alloc
    let S := (List.range ops.size).map fun i => if (ins i).alloc then al.idxOf? i else none
    let slot := fun i => S.getD i none
    let d := aOrder ops.size ins anc slot
    if P.follows .mixedOrders && dregs ops.size ins (preOf ops) anc && dokA ops.size ins anc slot [] d &&
        ((List.range ops.size).all fun i => match slot i with | some j => decide (j < al.length) && (List.range ops.size).all fun k => k == i || slot k != some j | none => true) then
      some (.drawA al.length (d.map (AIx.item ins))) else none

def compAny (P : Program) (G N : Nat) (ops : Array Oper) : Option ACode := match compList P G N ops ops.toList with
  | some is => if P.follows .mixedOrders then some (.any is ((List.range ops.size).map (preOf ops))) else none
  | none => none

def flat : Code → Bool
  | .region _ ops _ => ops.toList.all fun o => match o.op with | .defer _ => false | _ => true
  | .seq a b => flat a && flat b
  | .cond _ a b => flat a && flat b
  | .block _ a => flat a
  | .loop a => flat a
  | .scope a => flat a
  | .rangeFunc _ _ _ _ => false
  | _ => true

def compDfr (P : Program) (G N : Nat) (ops : Array Oper) : Option ACode := match ops.toList.reverse with
  | o :: r => match o.op, o.guard, o.dst with
    | .defer { callee := .value x, args, .. }, none, none => match compList P G N ops r.reverse, compOpd G x, compOpds G args.toList with
      | some is, some x, some as => some (.dfr is x as)
      | _, _, _ => none
    | _, _, _ => none
  | [] => none

def compCode (P : Program) (G N : Nat) : Code → Option ACode
  | .skip => some .skip
  | .region _ ops false => match compList P G N ops ops.toList with | some is => some (.reg is) | none => compDfr P G N ops
  | .region _ ops true => match compDraw P G N ops with | some d => some (.draw d) | none => match compDrawA P G N ops with | some c => some c | none => compAny P G N ops
  | .seq a b => match compCode P G N a, compCode P G N b with | some a, some b => some (.seq a b) | _, _ => none
  | .cond c a b => match compOpd G c, compCode P G N a, compCode P G N b with | some c, some a, some b => some (.cond c a b) | _, _, _ => none
  | .block id a => (compCode P G N a).map (.block id)
  | .loop a => (compCode P G N a).map .loop
  | .exit id => some (.exit id)
  | .ret => some .ret
  | .refuse _ => some .refuse
  | .scope c => match compCode P G N c with
    | some a => match labA a with
      | some l => match findA a l with
        | some r => some (.scope l a r)
        | none => none
      | none => none
    | none => none
  | .label l => some (.label l)
  | .goto l => some (.goto l)
  | .rangeFunc f ps a b => if flat a && flat b && ps.toList.all (fun i => decide (i < N)) then match compOpd G f, compCode P G N a, compCode P G N b with
    | some f, some a, some b => some (.rangeF f ps.toList a b)
    | _, _, _ => none
    else none

def QC (G N : Nat) (Q : AExit → ASt → Prop) (m0 : AMem) (ρ0 : Ren) (w0 : World) : Exit → Act → World → Prop := fun e a w =>
  ∃ ρ s e', Q e' s ∧ XRel ρ e' e ∧ SRel N ρ s a ∧ Rep G s.m ρ w ∧ Ext m0 ρ0 w0 s.m ρ w

theorem ex_builtin (ev : Operand → Value) (dst : Option Tmp) (b : Builtin) (xs : Array Operand) (ats : Array TypeId) (ty : TypeId) (pos : String) (after : Array Edge) (guard : Option (Nat × Bool)) :
    ∃ cs, execOp ev ⟨dst, .call { callee := .builtin b, args := xs, argTypes := ats }, ty, pos, after, guard⟩ = builtin b ats ty cs (xs.map ev) := ⟨_, rfl⟩

section
variable {P : Program} {G N : Nat} {m0 : AMem} {ρ0 : Ren} {w0 : World}

theorem evOk {s : ASt} {a : Act} {ρ : Ren} {w : World} (hR : Rep G s.m ρ w) (hS : SRel N ρ s a) : EvOk G ρ s.t a := by
  intro x y h
  cases x with
  | tmp t =>
    simp [compOpd] at h
    subst h
    exact hS.tmps t
  | const v =>
    simp [compOpd] at h
    obtain ⟨h1, rfl⟩ := h
    exact plain_of2 h1 ρ
  | global g =>
    simp [compOpd] at h
    obtain ⟨h1, rfl⟩ := h
    obtain ⟨L, h2, h3, h4⟩ := hR.glob g h1
    have := VRel.ptr (o := 0) h2
    rw [h3, h4] at this
    exact this
  | func f =>
    simp [compOpd] at h
    subst h
    exact Plain.func f ρ

theorem SRel.put {s : ASt} {a : Act} {ρ ρ' : Ren} (hS : SRel N ρ s a) (hr : ρ.le ρ') {dst : Option Nat} (hd : dstOk N dst = true) {v v' : Value} (hv : VRel ρ' v v') {m : AMem} :
    SRel N ρ' { s with t := updO s.t dst v, m := m } (a.put dst v') := by
  cases dst with
  | none => exact ⟨hS.size, fun i => (hS.tmps i).mono hr, hS.ds.mono hr⟩
  | some d =>
    have hd' : d < N := by simpa [dstOk] using hd
    refine ⟨by simp [Act.put, hS.size], fun i => ?_, hS.ds.mono hr⟩
    have hsz := hS.size
    by_cases hi : i = d
    · subst hi
      have hlt : i < a.tmps.size := by rw [hsz]; exact hd'
      simp only [updO, upd, if_true, Act.put]
      simp [Array.getD_eq_getD_getElem?, Array.getElem?_setIfInBounds, hlt]
      exact hv
    · simp only [updO, upd, if_neg hi, Act.put]
      simp only [Array.getD_eq_getD_getElem?, Array.getElem?_setIfInBounds, if_neg (Ne.symm hi)]
      have := (hS.tmps i).mono hr
      simpa [Array.getD_eq_getD_getElem?] using this

theorem SRel.mono {s : ASt} {a : Act} {ρ ρ' : Ren} (hS : SRel N ρ s a) (hr : ρ.le ρ') (m : AMem) : SRel N ρ' { s with m := m } a :=
  ⟨hS.size, fun i => (hS.tmps i).mono hr, hS.ds.mono hr⟩

theorem wanted_ok {s : ASt} {a : Act} {ρ : Ren} (hS : SRel N ρ s a) {ops : Array Oper} {o : Oper} {g : Option (Nat × Bool)} (hg : compGuard ops o.guard = some g) :
    Region.wanted o (yielded ops a.tmps) = wanted g s.t := by
  unfold compGuard at hg
  split at hg
  · rename_i h
    simp at hg; subst hg
    simp [Region.wanted, h, wanted]
  · rename_i j b h
    split at hg <;> simp at hg
    rename_i d hd
    subst hg
    simp only [Region.wanted, h, wanted, yielded, hd, Option.bind_some]
    have hv := hS.tmps d
    by_cases hlt : d < a.tmps.size
    · have : a.tmps[d]? = some (a.tmps.getD d undef) := by simp [Array.getD_eq_getD_getElem?, hlt]
      rw [this]
      generalize a.tmps.getD d undef = v' at hv
      generalize s.t d = v at hv
      cases hv <;> simp
    · have h1 : a.tmps[d]? = none := Array.getElem?_eq_none (Nat.le_of_not_lt hlt)
      rw [h1]
      have h2 : a.tmps.getD d undef = undef := by simp [Array.getD_eq_getD_getElem?, h1]
      rw [h2] at hv
      generalize s.t d = v at hv
      unfold undef at hv
      cases hv
      simp

abbrev FW (r : Option Nat) : Fence := { Fence.wide with round := r }
theorem callsIn_FW {r : Option Nat} {n : Nat} {P : Program} {f : FuncId} {args : Array Value} {w : World} {R : Ending → World → Prop} : CallsIn (FW r) n P f args w R ↔ Calls P f args w R :=
  callsIn_wide (n := n)
theorem rowsIn_FW {r : Option Nat} {n : Nat} {P : Program} {row : String} {args : Array Value} {w : World} {R : Value → World → Prop} (h : Rows P row args w R) : RowsIn (FW r) n P row args w R := fun c cs _ =>
  let ⟨v, w', r, s⟩ := h c cs; ⟨v, w', r, stepsIn_wide.2 s⟩
theorem Oper.wpIn_of_wp {P : Program} {r : Option Nat} {o : Oper} {a : Act} {w : World} {next : Act → World → Prop} {Q : Exit → Act → World → Prop} (hd : ∀ c, o.op ≠ .defer c) (h : o.wp P a w next Q) : o.wpIn (FW r) 0 P a w next Q := by
  refine ⟨fun f _ => trivial, ?_⟩
  rw [Oper.semAt_eq _ _ _ hd]
  unfold Oper.wp at h
  generalize (execOp a.eval o).run P w = res at h ⊢
  unfold Oper.upon at h
  unfold Oper.uponIn
  split at h
  · exact h
  · exact h
  · exact h
  · exact ⟨(fun h => by cases h), callsIn_FW.2 h⟩
  · exact ⟨(fun h => by cases h), rowsIn_FW h⟩
  · exact h
  · exact h.elim
theorem WI1_wp {Q : AExit → ASt → Prop} {K : ASt → Prop} {next : Act → World → Prop} {ops : Array Oper} {o : Oper} {i : AIns} (hi : compIns P G N ops o = some i) {s : ASt} {a : Act} {ρ : Ren} {w : World}
    (hR : Rep G s.m ρ w) (hS : SRel N ρ s a) (hE : Ext m0 ρ0 w0 s.m ρ w) (hK : ∀ s' a' ρ' w', K s' → Rep G s'.m ρ' w' → SRel N ρ' s' a' → Ext m0 ρ0 w0 s'.m ρ' w' → next a' w')
    (hny : ∀ g d x as, i = .callv g d x as → ∀ l b c, x.ev s.t ≠ .func (.yield l) b c) (h : WI1 P G i K Q s) : o.wp P a w next (QC G N Q m0 ρ0 w0) := by
  have hev := evOk hR hS
  unfold compIns at hi
  split at hi <;> try (simp at hi; done)
  rename_i g hg
  split at hi <;> try (simp at hi; done)
  rename_i hd
  -- a call, once its arguments are known
  have call : ∀ (f : FuncId) (args : List Value) (args' : Array Value), LRel ρ args args'.toList → (execOp a.eval o).run P w = (callFunc f args').run P w → ACall P G f args s.m (CallK o.dst s K Q) →
      o.wp P a w next (QC G N Q m0 ρ0 w0) := by
    intro f args args' hA hrun hcall
    have := hcall ρ w args' hR hA
    unfold Oper.wp
    rw [hrun]
    split at this
    · rename_i f' as w1 he
      rw [he]
      simp only [Oper.upon]
      refine this.mono fun e w' hh => ?_
      obtain ⟨ρ', m', r, h1, h2, h3, h4⟩ := hh
      cases h2 with
      | ret hv => exact hK _ _ _ _ h1 h3 (hS.put h4.ren hd hv) (hE.trans h4)
      | pan hp => exact ⟨ρ', { s with m := m' }, _, h1, .pan hp, hS.mono h4.ren _, h3, hE.trans h4⟩
    · rename_i v w' he
      rw [he]
      simp only [Oper.upon]
      obtain ⟨ρ', m', r, h1, h2, h3, h4⟩ := this
      cases h2 with
      | ret hv => exact hK _ _ _ _ h1 h3 (hS.put h4.ren hd hv) (hE.trans h4)
    · exact this.elim
  have plain : ∀ ap, compOp P G o = some ap → i = .op g o.dst ap → o.wp P a w next (QC G N Q m0 ρ0 w0) := by
    intro ap hap he
    subst he
    simp only [WI1] at h
    split at h <;> try exact h.elim
    rename_i v m' hs
    obtain ⟨ρ', w', v', h1, h2, h3, h4⟩ := step_ok hR hev hap hs
    unfold Oper.wp
    rcases h1 with h1 | ⟨h1, hdn⟩
    · rw [h1]
      exact hK _ _ _ _ h h3 (hS.put h4.ren hd h2) (hE.trans h4)
    · rw [h1]
      rw [hdn] at h
      simp only [Oper.upon, hdn, Act.put]
      exact hK _ _ _ _ h h3 ⟨hS.size, fun i => (hS.tmps i).mono h4.ren, hS.ds.mono h4.ren⟩ (hE.trans h4)
  obtain ⟨dst, op, ty, pos, after, guard⟩ := o
  simp only at hi hd plain call
  split at hi
  · -- a call of a function
    rename_i f args tys
    obtain ⟨as, has, rfl⟩ := map_some' hi
    have hm := compOpds_map hev _ _ has
    refine call f _ (args.map a.eval) (by simpa using hm) ?_ h
    simp [execOp, resolve, Deferred.ofValue, Act.eval, invoke]
  · rename_i x args tys hnf
    split at hi <;> simp at hi
    rename_i x1 as hx has
    subst hi
    simp only [WI1] at h
    split at h <;> try exact h.elim
    case h_2 => exact absurd ‹_› (hny _ _ _ _ rfl _ _ _)
    rename_i f first captured hxv
    have hm := compOpds_map hev _ _ has
    have hv := hev _ _ hx
    rw [hxv] at hv
    obtain ⟨first', captured', e1, e2, e3⟩ : ∃ first' captured', a.eval x = .func (.func f) first' captured' ∧ ARel ρ first first' ∧ ARel ρ captured captured' := by
      generalize a.eval x = x' at hv
      cases hv with
      | func f x x' y y' hx hy h k => exact ⟨_, _, rfl, ⟨hx, h⟩, ⟨hy, k⟩⟩
    refine call f _ (first' ++ args.map a.eval ++ captured') ?_ ?_ h
    · simp only [Array.toList_append, Array.toList_map]
      exact (e2.toList.append hm).append e3.toList
    · simp [execOp, resolve, Deferred.ofValue, e1, invoke]
  · -- cap
    rename_i args tys
    split at hi <;> try (simp at hi; done)
    rename_i x T hargs htys
    split at hi <;> try (simp at hi; done)
    rename_i e hu
    split at hi <;> try (simp at hi; done)
    rename_i sz x1 hsz hx
    split at hi <;> simp at hi
    rename_i h0
    subst hi
    simp only [WI1] at h
    have hv := hev _ _ hx
    have hargs' : args = #[x] := by rw [← Array.toList_inj]; simpa using hargs
    have htys' : tys = #[T] := by rw [← Array.toList_inj]; simpa using htys
    subst hargs' htys'
    generalize hX : x1.ev s.t = X at hv h
    have run : ∀ (A : Option Addr) (l c : Nat), a.eval x = .slice A l c → (execOp a.eval ⟨dst, .call { callee := .builtin .cap, args := #[x], argTypes := #[T] }, ty, pos, after, guard⟩).run P w = .ok (.value (.int .i64 c)) w := by
      intro A l c he
      obtain ⟨cs, hex⟩ : ∃ cs, execOp a.eval ⟨dst, .call { callee := .builtin .cap, args := #[x], argTypes := #[T] }, ty, pos, after, guard⟩ = builtin .cap #[T] ty cs (#[x].map a.eval) := ex_builtin _ _ _ _ _ _ _ _ _
      rw [hex]
      simp only [List.map_toArray, List.map, he]
      show ((do pure (.value (← Builtin.cap_ #[T] ty #[.slice A l c])) : Sem Next)).run P w = _
      simp [Builtin.cap_, run_underlying hu, goInt]
    unfold capW at h
    unfold Oper.wp
    split at h <;> try exact h.elim
    · rename_i l c
      have he : a.eval x = .slice none l c := by generalize a.eval x = x' at hv; cases hv; rfl
      rw [run _ _ _ he]
      exact hK _ _ _ _ h.2 hR (hS.put (Ren.le.refl _) hd (.int _ _)) hE
    · rename_i b o l c
      split at h
      · rename_i hc
        subst hc
        split at h <;> try exact h.elim
        rename_i cells e' wb sp hm
        have hcase : (∃ L c', a.eval x = .slice (some ⟨L.cb, L.co + o, none⟩) l c' ∧ ρ b = some L ∧ c' * L.sz + o = L.cc) ∨ (∃ L a', a.eval x = .slice (some a') 0 0 ∧ ρ b = some L ∧ L.cc = o) := by
          generalize a.eval x = x' at hv
          cases hv with
          | slice hL hc => exact absurd rfl (Nat.ne_of_lt hc)
          | sliceOpen hL hc hsz => exact .inl ⟨_, _, rfl, hL, hc⟩
          | sliceEnd hL hc =>
            rcases hc with hc | hc
            · have : (0 : Nat) < openCap := openCap_lt (by omega)
              omega
            · exact .inr ⟨_, _, rfl, hL, hc.2⟩
        split at h <;> try exact h.elim
        · -- full
          rename_i k
          obtain ⟨hk, hKK⟩ := h
          subst hk
          rcases hcase with ⟨L, c', he, hL, hc⟩ | ⟨L, a', he, hL, hcc⟩
          · obtain ⟨carr, frz, hB⟩ := hR.blk hL hm
            obtain ⟨f1, f2, f3⟩ := hB.full k rfl
            rw [run _ _ _ he]
            have : c' = (cells.length - o) / k := by
              rw [f2, f1] at hc
              rw [← hc, Nat.add_sub_cancel, Nat.mul_div_cancel _ f3]
            rw [this]
            exact hK _ _ _ _ hKK hR (hS.put (Ren.le.refl _) hd (.int _ _)) hE
          · obtain ⟨carr, frz, hB⟩ := hR.blk hL hm
            obtain ⟨f1, f2, f3⟩ := hB.full k rfl
            rw [run _ _ _ he]
            have : 0 = (cells.length - o) / k := by rw [show cells.length - o = 0 by omega]; simp
            rw [this]
            exact hK _ _ _ _ hKK hR (hS.put (Ren.le.refl _) hd (.int _ _)) hE
        · -- room
          rename_i z
          obtain ⟨hz1, hz2, hz3, hz4, hz5, hKK⟩ := h
          subst hz4
          have main : ∀ (L : Loc) (c' : Nat), ρ b = some L → c' * sz + o = L.cc → a.eval x = .slice (match a.eval x with | .slice A _ _ => A | _ => none) (match a.eval x with | .slice _ l _ => l | _ => 0) c' →
              Oper.upon P ⟨dst, .call { callee := .builtin .cap, args := #[x], argTypes := #[T] }, ty, pos, after, guard⟩ a next (QC G N Q m0 ρ0 w0)
                ((execOp a.eval ⟨dst, .call { callee := .builtin .cap, args := #[x], argTypes := #[T] }, ty, pos, after, guard⟩).run P w) := by
            intro L c' hL hc he
            obtain ⟨carr, frz, hB⟩ := hR.blk hL hm
            obtain ⟨q1, q2, q3, q4, q5, q6⟩ := hB.spare z rfl
            have hLs : L.sz = sz := by omega
            rw [run _ _ _ he]
            have hlen := hB.len
            rw [hLs] at q3 q4 q6
            -- cells.length = o + p * sz, L.cc = o + c' * sz
            obtain ⟨p, hp⟩ : ∃ p, cells.length - o = p * sz := by
              refine ⟨(cells.length - o) / sz, (Nat.div_mul_cancel ?_).symm⟩
              exact (Nat.dvd_sub (Nat.dvd_of_mod_eq_zero q3) (Nat.dvd_of_mod_eq_zero hz3))
            have hdiv : (cells.length - o) / sz = p := by rw [hp, Nat.mul_div_cancel _ hz2]
            have hpc : p ≤ c' := by
              have : p * sz ≤ c' * sz := by omega
              exact Nat.le_of_mul_le_mul_right this hz2
            have hK' := hKK (c' - p)
            rw [hdiv, show p + (c' - p) = c' by omega] at hK'
            have hreplen : (rep z (c' - p)).length = (c' - p) * sz := by rw [rep_length, hz1]
            have htot : (cells ++ rep z (c' - p)).length = L.cc := by
              rw [List.length_append, hreplen, Nat.sub_mul]
              have : p * sz ≤ c' * sz := Nat.mul_le_mul_right _ hpc
              omega
            refine hK _ _ ρ w hK' ?_ (hS.put (Ren.le.refl _) hd (.int _ _)) ?_
            · refine hR.set hL (BlkAt.obj (carr := carr) (frz := frz) ⟨hB.heap, hB.size, by omega, (fun hh => by cases hh), (fun k hh => by cases hh; exact ⟨htot.symm, hLs, hz2⟩), fun j hj => ?_, (fun z' hh => by cases hh), (fun hh => ⟨(hB.free hh).1, fun hk => (hB.free hh).2 (by simp only [Spare.size] at hk ⊢; omega)⟩)⟩) (by rw [hm]; rfl) (by rw [hm]; rfl) (fun _ => by rw [hm]; rfl) (fun _ _ _ => rfl)
              by_cases hjl : j < cells.length
              · rw [List.getElem_append_left hjl]; exact hB.cell j hjl
              · rw [List.getElem_append_right (by omega), q6 j (by omega) (by omega)]
                have hjr : j - cells.length < (c' - p) * z.length := by
                  have hj2 := hj
                  rw [List.length_append, hreplen] at hj2
                  rw [hz1]; omega
                have h5 := rep_get z (c' - p) (j - cells.length) hjr
                have hmod : (j - cells.length) % z.length = j % sz := by
                  rw [hz1]
                  obtain ⟨qq, hqq⟩ : ∃ qq, cells.length = qq * sz := ⟨cells.length / sz, by rw [Nat.div_mul_cancel (Nat.dvd_of_mod_eq_zero q3)]⟩
                  obtain ⟨r, hr⟩ : ∃ r, j = qq * sz + r := ⟨j - qq * sz, by omega⟩
                  rw [hqq, hr, show qq * sz + r - qq * sz = r by omega, Nat.add_comm, Nat.add_mul_mod_self_right]
                rw [hmod] at h5
                have h6 : (rep z (c' - p))[j - cells.length]'(by rw [rep_length]; exact hjr) = z.getD (j % sz) undef := by
                  rw [← h5]
                  simp [List.getD_eq_getElem?_getD, List.getElem?_eq_getElem (show j - cells.length < (rep z (c' - p)).length by rw [rep_length]; exact hjr)]
                rw [h6]
                have hzm : j % sz < z.length := by rw [hz1]; exact Nat.mod_lt _ hz2
                have : z.getD (j % sz) undef ∈ z := by
                  rw [List.getD_eq_getElem?_getD, List.getElem?_eq_getElem hzm]
                  exact List.getElem_mem hzm
                exact q5 _ this ρ
            · exact hE.trans (Ext.set hR hL (by rw [hm]; rfl) (fun _ _ _ => rfl) rfl rfl rfl (Nat.le_refl _))
          rcases hcase with ⟨L, c', he, hL, hc⟩ | ⟨L, a', he, hL, hcc⟩
          · obtain ⟨carr, frz, hB⟩ := hR.blk hL hm
            have hLs : L.sz = sz := by have := (hB.spare z rfl).1; omega
            rw [hLs] at hc
            exact main L c' hL hc (by rw [he])
          · exact main L 0 hL (by omega) (by rw [he])
      · rename_i hc
        have he : ∃ A, a.eval x = .slice A l c := by
          generalize a.eval x = x' at hv
          cases hv with
          | slice hL _ => exact ⟨_, rfl⟩
          | sliceOpen hL _ _ => exact absurd rfl hc
          | sliceEnd hL hcc => rcases hcc with hcc | hcc; subst hcc; exact ⟨_, rfl⟩; exact absurd hcc.1 hc
        obtain ⟨A, he⟩ := he
        rw [run _ _ _ he]
        exact hK _ _ _ _ h hR (hS.put (Ren.le.refl _) hd (.int _ _)) hE
  · -- panic
    rename_i x
    obtain ⟨x1, hx, rfl⟩ := map_some' hi
    simp only [WI1] at h
    split at h <;> try exact h.elim
    rename_i T v hxv
    have hv := hev _ _ hx
    rw [hxv] at hv
    obtain ⟨v', e1, e2⟩ : ∃ v', a.eval x = .iface T v' ∧ VRel ρ v v' := by
      generalize a.eval x = x' at hv
      cases hv; exact ⟨_, rfl, ‹_›⟩
    have hrun : (execOp a.eval ⟨dst, .panic x, ty, pos, after, guard⟩).run P w = .halt (.panic (.iface T v')) w := by
      simp [execOp, e1, Instr.panic]
    unfold Oper.wp
    rw [hrun]
    refine ⟨ρ, s, _, h, .pan ⟨rfl, fun i h1 h2 => ?_⟩, hS, hR, hE⟩
    have : i = 0 := by simp at h1; omega
    subst this
    exact ⟨.iface T e2, rfl, rfl⟩
  · obtain ⟨ap, hap, rfl⟩ := map_some' hi
    exact plain ap hap rfl

theorem compIns_nodefer {ops : Array Oper} {o : Oper} {i : AIns} (hi : compIns P G N ops o = some i) : ∀ c, o.op ≠ .defer c := by
  intro c hc
  obtain ⟨dst, op, ty, pos, after, guard⟩ := o
  simp only at hc
  subst hc
  unfold compIns at hi
  split at hi <;> try (simp at hi; done)
  split at hi <;> try (simp at hi; done)
  simp [compOp] at hi
theorem WI1_ok {r : Option Nat} {Q : AExit → ASt → Prop} {K : ASt → Prop} {next : Act → World → Prop} {ops : Array Oper} {o : Oper} {i : AIns} (hi : compIns P G N ops o = some i) {s : ASt} {a : Act} {ρ : Ren} {w : World}
    (hR : Rep G s.m ρ w) (hS : SRel N ρ s a) (hE : Ext m0 ρ0 w0 s.m ρ w) (hK : ∀ s' a' ρ' w', K s' → Rep G s'.m ρ' w' → SRel N ρ' s' a' → Ext m0 ρ0 w0 s'.m ρ' w' → next a' w')
    (h : WI1 P G i K Q s) : o.wpIn (FW r) 0 P a w next (QC G N Q m0 ρ0 w0) := by
  by_cases hy : ∃ g d x as l b c, i = .callv g d x as ∧ x.ev s.t = .func (.yield l) b c
  case neg =>
    exact Oper.wpIn_of_wp (compIns_nodefer hi) (WI1_wp hi hR hS hE hK (fun g d x as e l b c e' => hy ⟨g, d, x, as, l, b, c, e, e'⟩) h)
  obtain ⟨g0, d0, x0, as0, l, b, c, rfl, hxv⟩ := hy
  have hev := evOk hR hS
  have hnd := compIns_nodefer hi
  refine ⟨fun f _ => trivial, ?_⟩
  rw [Oper.semAt_eq _ _ _ hnd]
  unfold compIns at hi
  split at hi <;> try (simp at hi; done)
  rename_i g hg
  split at hi <;> try (simp at hi; done)
  rename_i hd
  obtain ⟨dst, op, ty, pos, after, guard⟩ := o
  simp only at hi hd hnd
  split at hi
  · obtain ⟨as, has, e⟩ := map_some' hi
    cases e
  · rename_i x args tys hnf
    split at hi <;> simp at hi
    rename_i x1 as hx has
    obtain ⟨rfl, rfl, rfl, rfl⟩ := hi
    simp only [WI1, hxv] at h
    have hm := compOpds_map hev _ _ has
    have hv := hev _ _ hx
    rw [hxv] at hv
    obtain ⟨L, e1, hL⟩ : ∃ L : Loc, a.eval x = .func (.yield L.cb) #[] #[] ∧ ρ l = some L := by
      generalize a.eval x = x' at hv
      cases hv with
      | yield h => exact ⟨_, rfl, h⟩
    obtain ⟨f, tmps, as', body, hy, hr⟩ := h ρ w (args.map a.eval) L hR (by simpa using hm) hL
    have hrun : (execOp a.eval ⟨dst, .call { callee := .value x, args := args, argTypes := tys }, ty, pos, after, guard⟩).run P w = (Instr.yield L.cb (args.map a.eval)).run P w := by
      simp [execOp, resolve, Deferred.ofValue, e1, invoke]
    rw [hrun, hy]
    refine ⟨fun h => (by cases h), RoundIn.mono hr fun e w' hh => ?_⟩
    obtain ⟨ρ', m', r, h1, h2, h3, h4⟩ := hh
    cases h2 with
    | ret hv => exact hK _ _ _ _ h1 h3 (hS.put h4.ren hd hv) (hE.trans h4)
    | pan hp => exact ⟨ρ', { s with m := m' }, _, h1, .pan hp, hS.mono h4.ren _, h3, hE.trans h4⟩
  · split at hi <;> try (simp at hi; done)
    split at hi <;> try (simp at hi; done)
    split at hi <;> try (simp at hi; done)
  · obtain ⟨as, has, e⟩ := map_some' hi
    cases e
  · obtain ⟨ap, hap, e⟩ := map_some' hi
    cases e
theorem compIns_guard {ops : Array Oper} {o : Oper} {i : AIns} (hi : compIns P G N ops o = some i) : compGuard ops o.guard = some i.guard ∧ i.dst = o.dst ∧ dstOk N o.dst = true := by
  unfold compIns at hi
  split at hi <;> try (simp at hi; done)
  rename_i g hg
  split at hi <;> try (simp at hi; done)
  rename_i hd
  refine ⟨?_, ?_, hd⟩
  all_goals
    split at hi
    · obtain ⟨as, has, rfl⟩ := map_some' hi
      first | exact hg | exact rfl
    · split at hi <;> simp at hi
      subst hi
      first | exact hg | exact rfl
    · split at hi <;> try (simp at hi; done)
      split at hi <;> try (simp at hi; done)
      split at hi <;> try (simp at hi; done)
      split at hi <;> simp at hi
      subst hi
      first | exact hg | exact rfl
    · obtain ⟨as, has, rfl⟩ := map_some' hi
      first | exact hg | exact rfl
    · obtain ⟨as, has, rfl⟩ := map_some' hi
      first | exact hg | exact rfl

end
end Go.AM
namespace Go.AM
set_option linter.unusedVariables false
set_option linter.unusedSimpArgs false

section
variable {P : Program} {G N : Nat} {m0 : AMem} {ρ0 : Ren} {w0 : World}

theorem WI_ok {rd : Option Nat} {Q : AExit → ASt → Prop} {ops : Array Oper} : ∀ (is : List AIns) (l : List Oper) (k : Nat), ops.toList.drop k = l → compList P G N ops l = some is → ∀ (s : ASt) (a : Act) (ρ : Ren) (w : World),
    Rep G s.m ρ w → SRel N ρ s a → Ext m0 ρ0 w0 s.m ρ w → WI P G is Q s → wpOpsIn (FW rd) 0 P ops (QC G N Q m0 ρ0 w0) (List.range' k l.length) a w
  | [], l, k, hl, hc, s, a, ρ, w, hR, hS, hE, h => by
    cases l with
    | nil => exact ⟨ρ, s, .normal, h, .normal, hS, hR, hE⟩
    | cons o r =>
      simp only [compList] at hc
      split at hc <;> simp at hc
  | i :: is, l, k, hl, hc, s, a, ρ, w, hR, hS, hE, h => by
    cases l with
    | nil => simp [compList] at hc
    | cons o r =>
      simp only [compList] at hc
      split at hc <;> simp at hc
      rename_i i1 is1 hi his
      obtain ⟨rfl, rfl⟩ := hc
      have hok : ops[k]? = some o := by
        have : (ops.toList.drop k)[0]? = some o := by rw [hl]; rfl
        simpa using this
      have hr : ops.toList.drop (k + 1) = r := by
        rw [← List.drop_drop, hl]; rfl
      have ih := WI_ok (rd := rd) (Q := Q) is1 r (k + 1) hr his
      obtain ⟨hg, hdst, hd⟩ := compIns_guard hi
      have hw := wanted_ok hS hg
      simp only [List.length_cons]
      rw [show List.range' k (r.length + 1) = k :: List.range' (k + 1) r.length from rfl]
      simp only [wpOpsIn, hok]
      unfold WI at h
      rw [hw]
      split at h
      · rename_i hwt
        rw [if_pos hwt]
        exact (WI1_ok hi hR hS hE (fun s' a' ρ' w' hK hR' hS' hE' => ih s' a' ρ' w' hR' hS' hE' hK) h)
      · rename_i hwt
        rw [if_neg hwt]
        rw [hdst] at h
        exact ⟨fun f _ => trivial, ih { s with t := updO s.t o.dst undef } _ ρ w hR (hS.put (Ren.le.refl _) hd (Plain.undef ρ)) hE h⟩

theorem WI1_exits {i : AIns} {K K2 : ASt → Prop} {Q : AExit → ASt → Prop} {s : ASt} (h : WI1 P G i K (SeqK K2 Q) s) : WI1 P G i K Q s := by
  have hk : ∀ d r m', CallK d s K (SeqK K2 Q) r m' → CallK d s K Q r m' := fun d r m' h => by cases r <;> exact h
  cases i with
  | op g d o => exact h
  | call g d f as => exact ACall.mono h fun r m' => hk d r m'
  | callv g d x as =>
    simp only [WI1] at h ⊢
    split at h
    · exact ACall.mono h fun r m' => hk d r m'
    · exact AYield.mono h fun r m' => hk d r m'
    · exact h.elim
  | panic g d x =>
    simp only [WI1] at h ⊢
    split at h
    · exact h
    · exact h.elim
  | cap g d sz x => exact h
theorem WI_ok2 {rd : Option Nat} {Q : AExit → ASt → Prop} {K : ASt → Prop} {ops : Array Oper} (r : List Oper) : ∀ (is : List AIns) (l : List Oper) (k : Nat), ops.toList.drop k = l ++ r → compList P G N ops l = some is →
    (∀ (s : ASt) (a : Act) (ρ : Ren) (w : World), Rep G s.m ρ w → SRel N ρ s a → Ext m0 ρ0 w0 s.m ρ w → K s → wpOpsIn (FW rd) 0 P ops (QC G N Q m0 ρ0 w0) (List.range' (k + l.length) r.length) a w) →
    ∀ (s : ASt) (a : Act) (ρ : Ren) (w : World), Rep G s.m ρ w → SRel N ρ s a → Ext m0 ρ0 w0 s.m ρ w → WI P G is (SeqK K Q) s → wpOpsIn (FW rd) 0 P ops (QC G N Q m0 ρ0 w0) (List.range' k (l.length + r.length)) a w
  | [], l, k, hl, hc, hK, s, a, ρ, w, hR, hS, hE, h => by
    cases l with
    | nil => simpa using hK s a ρ w hR hS hE h
    | cons o r =>
      simp only [compList] at hc
      split at hc <;> simp at hc
  | i :: is, l, k, hl, hc, hK, s, a, ρ, w, hR, hS, hE, h => by
    cases l with
    | nil => simp [compList] at hc
    | cons o l =>
      simp only [compList] at hc
      split at hc <;> simp at hc
      rename_i i1 is1 hi his
      obtain ⟨rfl, rfl⟩ := hc
      have hok : ops[k]? = some o := by
        have : (ops.toList.drop k)[0]? = some o := by rw [hl]; rfl
        simpa using this
      have hr : ops.toList.drop (k + 1) = l ++ r := by
        rw [← List.drop_drop, hl]; rfl
      have ih := WI_ok2 (rd := rd) (Q := Q) (K := K) r is1 l (k + 1) hr his (fun s a ρ w hR hS hE hk => by
        have := hK s a ρ w hR hS hE hk
        rwa [List.length_cons, show k + (l.length + 1) = k + 1 + l.length by omega] at this)
      obtain ⟨hg, hdst, hd⟩ := compIns_guard hi
      have hw := wanted_ok hS hg
      simp only [List.length_cons]
      rw [show l.length + 1 + r.length = (l.length + r.length) + 1 by omega, show List.range' k ((l.length + r.length) + 1) = k :: List.range' (k + 1) (l.length + r.length) from rfl]
      simp only [wpOpsIn, hok]
      unfold WI at h
      rw [hw]
      split at h
      · rename_i hwt
        rw [if_pos hwt]
        exact (WI1_ok hi hR hS hE (fun s' a' ρ' w' hK hR' hS' hE' => ih s' a' ρ' w' hR' hS' hE' hK) (WI1_exits h))
      · rename_i hwt
        rw [if_neg hwt]
        rw [hdst] at h
        exact ⟨fun f _ => trivial, ih { s with t := updO s.t o.dst undef } _ ρ w hR (hS.put (Ren.le.refl _) hd (Plain.undef ρ)) hE h⟩
theorem dfr_ok {Q : AExit → ASt → Prop} {id : Nat} {ops : Array Oper} {c : ACode} (hc : compDfr P G N ops = some c) {s : ASt} {a : Act} {ρ : Ren} {w : World}
    (hR : Rep G s.m ρ w) (hS : SRel N ρ s a) (hE : Ext m0 ρ0 w0 s.m ρ w) (h : W P G c Q s) : (Code.region id ops false).wpIn (FW none) 0 P (QC G N Q m0 ρ0 w0) a w := by
  unfold compDfr at hc
  split at hc <;> try (cases hc; done)
  rename_i o r hrev
  split at hc <;> try (cases hc; done)
  rename_i x args tys hop hgu hds
  split at hc <;> try (cases hc; done)
  rename_i is x1 as hl hx has
  cases hc
  have hops : ops.toList = r.reverse ++ [o] := by
    have := congrArg List.reverse hrev
    simpa using this
  have hsz : ops.size = r.reverse.length + 1 := by
    have := congrArg List.length hops
    simpa using this
  refine wpIn_region ?_
  have key := WI_ok2 (P := P) (G := G) (N := N) (m0 := m0) (ρ0 := ρ0) (w0 := w0) (rd := none) (Q := Q) (K := DfrK x1 as Q) (ops := ops) [o] is r.reverse 0 (by simpa using hops) hl (fun s a ρ w hR hS hE hk => ?_) s a ρ w hR hS hE h
  · rw [List.range_eq_range', hsz]; exact key
  have hget : ops[0 + r.reverse.length]? = some o := by
    have : ops.toList[r.reverse.length]? = some o := by rw [hops]; simp
    simpa using this
  show wpOpsIn (FW none) 0 P ops _ [0 + r.reverse.length] a w
  have hev := evOk hR hS
  simp only [wpOpsIn, hget]
  rw [if_pos (by simp [Region.wanted, hgu])]
  refine ⟨fun f _ => trivial, ?_⟩
  unfold DfrK at hk
  split at hk <;> try exact hk.elim
  rename_i f first cap hfv
  have hv := hev _ _ hx
  rw [hfv] at hv
  obtain ⟨first', cap', e1, e2, e3⟩ : ∃ first' captured', a.eval x = .func (.func f) first' captured' ∧ ARel ρ first first' ∧ ARel ρ cap captured' := by
    generalize a.eval x = x' at hv
    cases hv with
    | func f x x' y y' hx hy h k => exact ⟨_, _, rfl, ⟨hx, h⟩, ⟨hy, k⟩⟩
  have hm := compOpds_map hev _ _ has
  have hrun : (o.semAt (FW none).round a.eval).run P w = .ok (.defer { target := .fn (.func f) cap', args := first' ++ args.map a.eval }) w := by
    rw [show (FW none).round = none from rfl, Oper.semAt_none]
    simp [execOp, hop, resolve, Deferred.ofValue, e1]
  rw [hrun]
  simp only [Oper.uponIn, hds, Act.put]
  refine ⟨ρ, _, .normal, hk, .normal, ⟨hS.size, hS.tmps, ?_⟩, hR, hE⟩
  have hA : ARel ρ (first ++ (as.map (·.ev s.t)).toArray) (first' ++ args.map a.eval) := by
    have h1 := (e2.toList.append (show LRel ρ (as.map (·.ev s.t)) (args.toList.map a.eval) by simpa using hm))
    have h2 := h1.toArray
    have q1 : (first.toList ++ as.map (·.ev s.t)).toArray = first ++ (as.map (·.ev s.t)).toArray := by apply Array.ext'; simp
    have q2 : (first'.toList ++ args.toList.map a.eval).toArray = first' ++ args.map a.eval := by apply Array.ext'; simp
    rw [q1, q2] at h2
    exact h2
  refine ⟨by have := hS.ds.1; simp [this], fun i h1 h2 => ?_⟩
  cases i with
  | zero => exact .inl ⟨hA, f, cap, cap', rfl, rfl, e3⟩
  | succ i => exact hS.ds.2 i (by simpa using h1) (by simpa using h2)

theorem compList_get {ops : Array Oper} : ∀ {l : List Oper} {is : List AIns}, compList P G N ops l = some is → ∀ {i : Nat} {o : Oper}, l[i]? = some o → compIns P G N ops o = some (is.getD i default)
  | [], is, h, i, o, ho => by simp at ho
  | o1 :: r, is, h, i, o, ho => by
    simp only [compList] at h
    split at h <;> simp at h
    rename_i i1 l hi hl
    subst h
    cases i with
    | zero => simp at ho; subst ho; simpa using hi
    | succ i => simp at ho; simpa using compList_get hl ho

theorem AAny_ok {rd : Option Nat} {Q : AExit → ASt → Prop} {ops : Array Oper} {is : List AIns} (hc : compList P G N ops ops.toList = some is) : ∀ (k : Nat) (listed : Array Bool) (L : Nat → Bool), listed.size = ops.size → (∀ j, listed.getD j false = L j) →
    ∀ (s : ASt) (a : Act) (ρ : Ren) (w : World), Rep G s.m ρ w → SRel N ρ s a → Ext m0 ρ0 w0 s.m ρ w → AAny P G ops.size (fun i => is.getD i default) (preOf ops) Q k L s →
    wpAnyIn (FW rd) 0 P .any ops (QC G N Q m0 ρ0 w0) k listed a w := by
  have hready : ∀ (listed : Array Bool) (L : Nat → Bool), listed.size = ops.size → (∀ j, listed.getD j false = L j) → ∀ i, i ∈ Region.ready .any ops listed ↔ Rdy ops.size (preOf ops) L i := by
    intro listed L hsz hL i
    rw [mem_ready]
    constructor
    · rintro ⟨h0, o, ho, h1⟩
      have hlt : i < ops.size := (Array.getElem?_eq_some_iff.1 ho).1
      refine ⟨hlt, ?_, fun k hk => ?_⟩
      · rw [← hL]
        have : i < listed.size := by omega
        simp [this] at h0 ⊢; exact h0
      · simp only [preOf, ho, List.mem_map, List.mem_filter] at hk
        obtain ⟨e, ⟨he, hb⟩, rfl⟩ := hk
        rw [← hL]
        exact h1 e (by simpa using he) hb
    · rintro ⟨hlt, hl, h1⟩
      refine ⟨?_, ops[i], by simp [hlt], fun e he hb => ?_⟩
      · rw [← hL] at hl
        have : i < listed.size := by omega
        simp [this] at hl ⊢; exact hl
      · rw [hL]
        refine h1 _ ?_
        have : ops[i]? = some ops[i] := by simp [hlt]
        simp only [preOf, this, List.mem_map, List.mem_filter]
        exact ⟨e, ⟨by simpa using he, hb⟩, rfl⟩
  have hnil : ∀ (listed : Array Bool) (L : Nat → Bool), listed.size = ops.size → (∀ j, listed.getD j false = L j) → (Region.ready .any ops listed = [] ↔ ∀ i, ¬ Rdy ops.size (preOf ops) L i) := by
    intro listed L hsz hL
    rw [List.eq_nil_iff_forall_not_mem]
    exact forall_congr' fun i => not_congr (hready listed L hsz hL i)
  intro k
  induction k with
  | zero =>
    intro listed L hsz hL s a ρ w hR hS hE h
    exact ⟨(hnil listed L hsz hL).2 h.1, ρ, s, .normal, h.2, .normal, hS, hR, hE⟩
  | succ k ih =>
    intro listed L hsz hL s a ρ w hR hS hE h
    refine ⟨fun h0 => ⟨ρ, s, .normal, h.1 ((hnil listed L hsz hL).1 h0), .normal, hS, hR, hE⟩, fun i hi => ?_⟩
    have hr := (hready listed L hsz hL i).1 hi
    have hone := h.2 i hr
    have hin : i < ops.size := hr.1
    have ho : ops[i]? = some (ops[i]'hin) := by simp [hin]
    have hci := compList_get hc (i := i) (o := ops[i]'hin) (by simp [hin])
    obtain ⟨hg, hdst, hd⟩ := compIns_guard hci
    have hw := wanted_ok hS hg
    have hL' : ∀ j, (listed.setIfInBounds i true).getD j false = setL L i j := by
      intro j
      simp only [setL]
      split
      · rename_i he; subst he
        have : j < listed.size := by have := hr.1; omega
        simp [this]
      · rename_i hne
        rw [← hL]
        simp [Array.getD_eq_getD_getElem?, Array.getElem?_setIfInBounds_ne (Ne.symm hne)]
    have ih' := ih (listed.setIfInBounds i true) (setL L i) (by simp [hsz]) hL'
    simp only [wpOpIn, ho]
    unfold Aone at hone
    rw [hw]
    split at hone
    · rename_i hwt
      rw [if_pos hwt]
      exact (WI1_ok hci hR hS hE (fun s' a' ρ' w' hK hR' hS' hE' => ih' s' a' ρ' w' hR' hS' hE' hK) hone)
    · rename_i hwt
      rw [if_neg hwt]
      rw [hdst] at hone
      exact ⟨fun f _ => trivial, ih' { s with t := updO s.t (ops[i]'hin).dst undef } _ ρ w hR (hS.put (Ren.le.refl _) hd (Plain.undef ρ)) hE hone⟩

theorem AAny_fr {n : Nat} {ins : Nat → AIns} {pre : Nat → List Nat} {t0 : Tmps} {E : List Nat} {Q : AExit → ASt → Prop} (hE : ∀ j, j < n → ∀ d, (ins j).dst = some d → E.contains d = true) : ∀ (k : Nat) (L : Nat → Bool) (s : ASt),
    (∀ i, E.contains i = false → s.t i = t0 i) → AAny P G n ins pre (QD t0 E Q) k L s → AAny P G n ins pre Q k L s
  | 0, L, s, ht, h => h
  | k + 1, L, s, ht, h => ⟨fun hn => h.1 hn, fun i hi => by
      obtain ⟨t, m, ds⟩ := s
      refine Aone_congr (t := t) (fun r _ => rfl) (fun v m' hh => AAny_fr hE k _ _ (fun r hr => ?_) hh) (fun c m' hh => hh ht) (h.2 i hi)
      have hd := hE i hi.1
      cases hq : (ins i).dst with
      | none => exact ht r hr
      | some d =>
        have : d ≠ r := fun e => by
          subst e
          rw [hd d hq] at hr; cases hr
        simp only [updO, upd]
        rw [if_neg (Ne.symm this)]
        exact ht r hr⟩
theorem draw_ok {rd : Option Nat} {Q : AExit → ASt → Prop} {id : Nat} {ops : Array Oper} {d : List DItem} (hc : compDraw P G N ops = some d) {s : ASt} {a : Act} {ρ : Ren} {w : World}
    (hR : Rep G s.m ρ w) (hS : SRel N ρ s a) (hE : Ext m0 ρ0 w0 s.m ρ w) (h : W P G (.draw d) Q s) : (Code.region id ops true).wpIn (FW rd) 0 P (QC G N Q m0 ρ0 w0) a w := by
  unfold compDraw at hc
  split at hc
  · cases hc
  · rename_i is his
    simp only at hc
    split at hc <;> simp at hc
    rename_i hh
    simp only [Bool.and_eq_true] at hh
    subst hc
    have hA := AAny_fr (fun j hj d hd => ?_) _ _ _ (fun _ _ => rfl) (AAny_of_DW hh.1.2 hh.2 (show DW P G _ (QD s.t _ Q) s from h))
    case refine_1 =>
      have hm := (dok_all hh.2 j hj).resolve_left (by simp [ixs])
      obtain ⟨y, hy, rfl⟩ := List.mem_map.1 hm
      rw [List.contains_iff_mem]
      refine List.mem_filterMap.2 ⟨_, List.mem_map.2 ⟨y, hy, rfl⟩, ?_⟩
      cases y <;> exact hd
    refine wpIn_region_any hh.1.1 (AAny_ok his ops.size _ _ (by simp) (fun j => ?_) s a ρ _ (hR.world fun _ _ _ _ => rfl) hS (hE.trans (Ext.drawn _ _ _ _)) hA)
    simp only [Array.getD_eq_getD_getElem?, Array.getElem?_replicate]
    split <;> rfl

theorem any_ok {rd : Option Nat} {Q : AExit → ASt → Prop} {id : Nat} {ops : Array Oper} {c : ACode} (hc : compAny P G N ops = some c) {s : ASt} {a : Act} {ρ : Ren} {w : World}
    (hR : Rep G s.m ρ w) (hS : SRel N ρ s a) (hE : Ext m0 ρ0 w0 s.m ρ w) (h : W P G c Q s) : (Code.region id ops true).wpIn (FW rd) 0 P (QC G N Q m0 ρ0 w0) a w := by
  unfold compAny at hc
  split at hc
  · rename_i is his
    split at hc
    · rename_i hm
      cases hc
      have hp : (fun i => ((List.range ops.size).map (preOf ops)).getD i []) = preOf ops := by
        funext i
        by_cases hi : i < ops.size
        · simp [List.getD, hi]
        · simp [List.getD, preOf, hi]
      simp only [W] at h
      rw [hp, List.length_map, List.length_range] at h
      refine wpIn_region_any hm (AAny_ok his ops.size _ _ (by simp) (fun j => ?_) s a ρ _ (hR.world fun _ _ _ _ => rfl) hS (hE.trans (Ext.drawn _ _ _ _)) h)
      simp only [Array.getD_eq_getD_getElem?, Array.getElem?_replicate]
      split <;> rfl
    · cases hc
  · cases hc

end
end Go.AM
namespace Go.AM
set_option linter.unusedVariables false
set_option linter.unusedSimpArgs false

section
variable {P : Program} {G : Nat} {m : AMem} {ρ ρ' : Ren} {w w' : World}

theorem VRel.back (hr : ρ.le ρ') : ∀ {v v1 : Value}, VRel ρ v v1 → ∀ {v2 : Value}, VRel ρ' v v2 → VRel ρ v v2 := by
  intro v v1 h
  have eqL : ∀ {b : Nat} {L L' : Loc}, ρ b = some L → ρ' b = some L' → L' = L := fun h h' => by
    rw [hr _ _ h] at h'; cases h'; rfl
  induction h with
  | bool b => intro v2 k; cases k; exact .bool _
  | int k n => intro v2 k; cases k; exact .int _ _
  | float k n => intro v2 k; cases k; exact .float _ _
  | complex k n m => intro v2 k; cases k; exact .complex _ _ _
  | string s => intro v2 k; cases k; exact .string _
  | nilPtr => intro v2 k; cases k; exact .nilPtr
  | ptr h => intro v2 k; cases k with | ptr h' => cases eqL h h'; exact .ptr h
  | nilSlice l c => intro v2 k; cases k; exact .nilSlice _ _
  | slice h hc => intro v2 k; cases k with
    | slice h' hc' => cases eqL h h'; exact .slice h hc'
    | sliceOpen h' hc' hs => cases eqL h h'; exact .sliceOpen h hc' hs
    | sliceEnd h' hc' => cases eqL h h'; exact .sliceEnd h hc'
  | sliceOpen h hc hs => intro v2 k; cases k with
    | slice h' hc' => cases eqL h h'; exact .slice h hc'
    | sliceOpen h' hc' hs => cases eqL h h'; exact .sliceOpen h hc' hs
    | sliceEnd h' hc' => cases eqL h h'; exact .sliceEnd h hc'
  | sliceEnd h hc => intro v2 k; cases k with
    | slice h' hc' => cases eqL h h'; exact .slice h hc'
    | sliceOpen h' hc' hs => cases eqL h h'; exact .sliceOpen h hc' hs
    | sliceEnd h' hc' => cases eqL h h'; exact .sliceEnd h hc'
  | nilMap => intro v2 k; cases k; exact .nilMap
  | map h => intro v2 k; cases k with | map h' => cases eqL h h'; exact .map h
  | func f x x' y y' hx hy _ _ ih1 ih2 => intro v2 k; cases k with
    | func f x z y u hx' hy' h1 h2 =>
      exact .func f _ _ _ _ hx' hy' (fun i a b => ih1 i a (by omega) (h1 i a b)) (fun i a b => ih2 i a (by omega) (h2 i a b))
  | yield h => intro v2 k; cases k with | yield h' => cases eqL h h'; exact .yield h
  | nilFunc => intro v2 k; cases k; exact .nilFunc
  | iface t _ ih => intro v2 k; cases k with | iface t h => exact .iface t (ih h)
  | nilIface => intro v2 k; cases k; exact .nilIface
  | agg x x' hx _ ih => intro v2 k; cases k with
    | agg x z hx' h => exact .agg _ _ hx' (fun i a b => ih i a (by omega) (h i a b))
  | tuple x x' hx _ ih => intro v2 k; cases k with
    | tuple x z hx' h => exact .tuple _ _ hx' (fun i a b => ih i a (by omega) (h i a b))

theorem ObjRel.back (hr : ρ.le ρ') {o : AObj} {L : Loc} (h : ObjRel ρ o L w) (k : ObjRel ρ' o L w') : ObjRel ρ o L w' := by
  cases o with
  | dead => trivial
  | cells c e wr sp =>
    obtain ⟨carr, frz, h1, h2, h3, h4, h8, h5, h6, h7⟩ := h
    obtain ⟨carr', frz', k1, k2, k3, k4, k8, k5, k6, k7⟩ := k
    exact ⟨carr', frz', k1, k2, k3, k4, k8, fun j hj => (h5 j hj).back hr (k5 j hj), k6, k7⟩
  | iter s pos => exact k
  | map es clock => exact k
  | defd => exact k
  | loop st pend t rec => exact ⟨k.1, k.2.1, fun i => (h.2.2 i).back hr (k.2.2 i)⟩

end

inductive NewV (b b' : Nat) : Value → Value → Prop
  | ptr : NewV b b' (.pointer (some ⟨b, 0, none⟩)) (.pointer (some ⟨b', 0, none⟩))
  | slice (l c : Nat) : NewV b b' (.slice (some ⟨b, 0, none⟩) l c) (.slice (some ⟨b', 0, none⟩) l c)
  | map : NewV b b' (.map (some b)) (.map (some b'))

def LiveV (ρ : Ren) (v : Value) : Prop := ∃ c, VRel ρ v c
def LiveO (ρ : Ren) : AObj → Prop
  | .cells c _ _ _ => ∀ v ∈ c, LiveV ρ v
  | .map _ _ => True
  | _ => False

theorem allocV_step {o : AOp} {t : Tmps} {m : AMem} {b : Nat} {v : Value} {ob : AObj} (h : allocV o t b = some (v, ob)) : ∃ v', stepOp o t m = some (v', m.push ob) ∧ NewV b m.size v v' := by
  cases o <;> simp only [allocV] at h <;> (try (simp at h; done)) <;> simp only [stepOp]
  case new e z => simp at h; obtain ⟨rfl, rfl⟩ := h; exact ⟨_, rfl, .ptr⟩
  case mkM => simp at h; obtain ⟨rfl, rfl⟩ := h; exact ⟨_, rfl, .map⟩
  case box e x =>
    split at h <;> simp at h
    rename_i c hc; obtain ⟨rfl, rfl⟩ := h
    rw [hc]; exact ⟨_, rfl, .ptr⟩
  case bldSl e len z ps =>
    split at h <;> simp at h
    rename_i c hc; obtain ⟨rfl, rfl⟩ := h
    rw [hc]; exact ⟨_, rfl, .slice _ _⟩
  case s2b e x =>
    split at h <;> try (simp at h; done)
    rename_i s hs
    split at h <;> simp at h
    rename_i h1; obtain ⟨rfl, rfl⟩ := h
    rw [hs]; simp only [if_pos h1]; exact ⟨_, rfl, .slice _ _⟩
  case mkSl e sz z bytes l c =>
    split at h <;> try (simp at h; done)
    rename_i k1 l' k2 c' hl hc
    split at h <;> simp at h
    rename_i h1; obtain ⟨rfl, rfl⟩ := h
    rw [hl, hc]; simp only [if_pos h1]; exact ⟨_, rfl, .slice _ _⟩

section
variable {P : Program} {G N : Nat} {m0 m : AMem} {ρ0 ρ ρ' : Ren} {w0 w w' : World}

theorem LiveV.plain {v : Value} (h : Plain v) : LiveV ρ v := ⟨v, h ρ⟩
theorem live_plainL {z : List Value} (h : z.all plainB = true) : ∀ v ∈ z, LiveV ρ v := fun v hv => .plain (plain_of (List.all_eq_true.1 h v hv))
theorem live_opd {x : AOpd} {t : Tmps} (ht : ∀ i, LiveV ρ (t i)) (h : constOk x = true) : LiveV ρ (x.ev t) := by
  cases x with
  | t i => exact ht i
  | c v => exact .plain (plain_of2 h)
theorem live_cells {v : Value} {c : List Value} (h : cellsOf v = some c) (hv : LiveV ρ v) : ∀ x ∈ c, LiveV ρ x := by
  obtain ⟨k, hk⟩ := hv
  unfold cellsOf at h
  split at h
  · rename_i a
    split at h <;> simp at h
    subst h
    cases hk with
    | agg _ y hs hy =>
      intro x hx
      obtain ⟨i, hi, rfl⟩ := List.mem_iff_getElem.1 hx
      simp at hi
      exact ⟨_, by simpa using hy i hi (by omega)⟩
  · cases h
  · simp at h; subst h
    intro x hx; simp at hx; subst hx; exact ⟨k, hk⟩
theorem live_fill : ∀ {ps : List (Nat × Nat × Value)} {z c : List Value}, fill z ps = some c → (∀ v ∈ z, LiveV ρ v) → (∀ p ∈ ps, LiveV ρ p.2.2) → ∀ v ∈ c, LiveV ρ v
  | [], z, c, h, hz, hp => by simp [fill] at h; subst h; exact hz
  | (off, size, v) :: r, z, c, h, hz, hp => by
    simp only [fill] at h
    split at h <;> try (simp at h; done)
    rename_i cv hcv
    split at h <;> try (simp at h; done)
    refine live_fill h (fun x hx => ?_) (fun p hp' => hp p (List.mem_cons_of_mem _ hp'))
    simp only [splice, List.mem_append] at hx
    rcases hx with (hx | hx) | hx
    · exact hz x (List.mem_of_mem_take hx)
    · exact live_cells hcv (hp _ List.mem_cons_self) x hx
    · exact hz x (List.mem_of_mem_drop hx)
theorem mem_rep {z : List Value} {n : Nat} {v : Value} (h : v ∈ rep z n) : v ∈ z := by
  simp only [rep, List.mem_flatten] at h
  obtain ⟨l, h1, h2⟩ := h
  rw [(List.mem_replicate.1 h1).2] at h2; exact h2

theorem live_alloc {o : AOp} {t : Tmps} {b : Nat} {v : Value} {ob : AObj} (ha : o.alloc = true) (ht : ∀ i, LiveV ρ (t i)) (h : allocV o t b = some (v, ob)) : LiveO ρ ob := by
  cases o <;> simp only [allocV] at h <;> (try (simp at h; done)) <;> simp only [AOp.alloc] at ha
  case new e z => simp at h; obtain ⟨rfl, rfl⟩ := h; exact live_plainL ha
  case mkM => simp at h; obtain ⟨rfl, rfl⟩ := h; trivial
  case box e x =>
    split at h <;> simp at h
    rename_i c hc; obtain ⟨rfl, rfl⟩ := h
    exact live_cells hc (live_opd ht ha)
  case bldSl e len z ps =>
    split at h <;> simp at h
    rename_i c hc; obtain ⟨rfl, rfl⟩ := h
    simp only [Bool.and_eq_true, List.all_eq_true] at ha
    refine live_fill hc (live_plainL (List.all_eq_true.2 ha.1)) fun p hp => ?_
    obtain ⟨q, hq, rfl⟩ := List.mem_map.1 hp
    exact live_opd ht (ha.2 q hq)
  case s2b e x =>
    split at h <;> try (simp at h; done)
    split at h <;> simp at h
    obtain ⟨rfl, rfl⟩ := h
    intro v hv
    obtain ⟨y, _, rfl⟩ := List.mem_map.1 hv
    exact .plain (.int _ _)
  case mkSl e sz z bytes l c =>
    split at h <;> try (simp at h; done)
    split at h <;> simp at h
    obtain ⟨rfl, rfl⟩ := h
    exact fun v hv => live_plainL ha v (mem_rep hv)

def slotR (ρ ρ' : Ren) (n b : Nat) : Ren := fun x => if x = b then ρ' n else ρ x

theorem slot_le {b n : Nat} (hb : ρ b = none) : ρ.le (slotR ρ ρ' n b) := fun x L h => by
  have : x ≠ b := fun e => by rw [e, hb] at h; cases h
  simp [slotR, this, h]

theorem slot_val {b n : Nat} {v v' c : Value} (hv : NewV b n v v') (h : VRel ρ' v' c) : VRel (slotR ρ ρ' n b) v c := by
  have e : ∀ {L}, ρ' n = some L → slotR ρ ρ' n b b = some L := fun h => by simp [slotR, h]
  cases hv with
  | ptr => cases h with
    | ptr h => exact .ptr (e h)
  | slice l k => cases h with
    | slice h hc => exact .slice (e h) hc
    | sliceOpen h hc hs => exact .sliceOpen (e h) hc hs
    | sliceEnd h hc => exact .sliceEnd (e h) hc
  | map => cases h with
    | map h => exact .map (e h)

theorem slot_obj {ob : AObj} {L : Loc} {n b : Nat} (hb : ρ b = none) (hr : ρ.le ρ') (hl : LiveO ρ ob) (h : ObjRel ρ' ob L w') : ObjRel (slotR ρ ρ' n b) ob L w' := by
  cases ob with
  | dead => exact hl.elim
  | iter s p => exact hl.elim
  | defd => exact hl.elim
  | loop st pend t rec => exact hl.elim
  | map es c => exact h
  | cells c e wr sp =>
    obtain ⟨carr, frz, h1, h2, h3, h4, h8, h5, h6, h7⟩ := h
    refine ⟨carr, frz, h1, h2, h3, h4, h8, fun j hj => ?_, h6, h7⟩
    obtain ⟨k, hk⟩ := hl c[j] (List.getElem_mem hj)
    exact (hk.back hr (h5 j hj)).mono (slot_le hb)

theorem slot_rep {ob : AObj} {b : Nat} (hR : Rep G m ρ w) (hR' : Rep G (m.push ob) ρ' w') (hE : Ext m ρ w (m.push ob) ρ' w') (hb : ρ b = none) (hlt : b < m.size) (hl : LiveO ρ ob) :
    Rep G (m.set b ob) (slotR ρ ρ' m.size b) w' := by
  have hcase : ∀ {x L}, slotR ρ ρ' m.size b x = some L → (x = b ∧ ρ' m.size = some L) ∨ (x ≠ b ∧ ρ x = some L ∧ x < m.size ∧ ρ' x = some L) := fun {x L} h => by
    by_cases e : x = b
    · subst e; simp [slotR] at h; exact .inl ⟨rfl, h⟩
    · simp [slotR, e] at h; exact .inr ⟨e, h, hR.dom x L h, hE.ren x L h⟩
  refine ⟨fun x L h => ?_, fun x L h => ?_, fun x y L L' hx hy hne h1 h2 h3 => ?_, fun g hg => ?_⟩
  · rw [AMem.size_set]
    rcases hcase h with ⟨rfl, _⟩ | ⟨_, _, h, _⟩
    · exact hlt
    · exact h
  · rcases hcase h with ⟨rfl, h1⟩ | ⟨h0, h1, h2, h3⟩
    · rw [AMem.get_set_self]
      have := hR'.obj m.size L h1
      rw [AMem.get_push_self] at this
      exact slot_obj hb hE.ren hl this
    · rw [AMem.get_set_ne _ _ h0]
      have := hR'.obj x L h3
      rw [AMem.get_push_ne _ _ (by omega)] at this
      exact ((hR.obj x L h1).back hE.ren this).mono (slot_le hb)
  · have key : ∀ {x L}, slotR ρ ρ' m.size b x = some L → ∃ x', ρ' x' = some L ∧ (m.push ob).get x' = (m.set b ob).get x ∧ x' = (if x = b then m.size else x) ∧ (x = b ∨ x < m.size) := fun {x L} h => by
      rcases hcase h with ⟨rfl, q1⟩ | ⟨h0, q1, q2, q3⟩
      · exact ⟨m.size, q1, by rw [AMem.get_set_self, AMem.get_push_self], by simp, .inl rfl⟩
      · exact ⟨x, q3, by rw [AMem.get_set_ne _ _ h0, AMem.get_push_ne _ _ (by omega)], by simp [h0], .inr q2⟩
    obtain ⟨x', a1, a2, a3, a4⟩ := key hx
    obtain ⟨y', b1, b2, b3, b4⟩ := key hy
    rw [← a2] at h1 h3; rw [← b2] at h2
    refine hR'.sep x' y' L L' a1 b1 ?_ h1 h2 h3
    subst a3 b3
    split <;> split <;> omega
  · obtain ⟨L, h1, h2, h3⟩ := hR.glob g hg
    exact ⟨L, slot_le hb g L h1, h2, h3⟩

theorem slot_ext {ob : AObj} {b : Nat} (h0 : Ext m0 ρ0 w0 m ρ w) (hE : Ext m ρ w (m.push ob) ρ' w') (hR : Rep G m ρ w) (hb : ρ b = none) (hb0 : m0.size ≤ b) : Ext m0 ρ0 w0 (m.set b ob) (slotR ρ ρ' m.size b) w' := by
  have h := h0.trans hE
  refine ⟨h0.ren.trans (slot_le hb), h.os, h.tape, h.output, h.size, h.keep, fun i hi hI => ?_, fun x hx => ?_, by rw [AMem.size_set]; exact h0.grow⟩
  · refine h.img i hi ?_
    obtain ⟨x, L, h1, h2, h3⟩ := hI
    by_cases e : x = b
    · subst e; simp [slotR] at h1; rw [AMem.get_set_self] at h2
      exact ⟨m.size, L, h1, by rw [AMem.get_push_self]; exact h2, h3⟩
    · simp [slotR, e] at h1; rw [AMem.get_set_ne _ _ e] at h2
      exact ⟨x, L, hE.ren x L h1, by rw [AMem.get_push_ne _ _ (by have := hR.dom x L h1; omega)]; exact h2, h3⟩
  · have : x ≠ b := by omega
    simp only [slotR, if_neg this]; exact h0.late x hx

theorem slot_ok {Q : Exit → Act → World → Prop} {next : Act → World → Prop} {ops : Array Oper} {o : Oper} {g : Option (Nat × Bool)} {d : Option Nat} {op : AOp} (hi : compIns P G N ops o = some (.op g d op)) (ha : op.alloc = true)
    {s : ASt} {a : Act} (hR : Rep G s.m ρ w) (hS : SRel N ρ s a) (hE : Ext m0 ρ0 w0 s.m ρ w) {b : Nat} (hb : ρ b = none) (hlt : b < s.m.size) (hb0 : m0.size ≤ b) {v : Value} {ob : AObj} (hv : allocV op s.t b = some (v, ob))
    (hK : ∀ a' ρ1 w', Rep G (s.m.set b ob) ρ1 w' → SRel N ρ1 ⟨updO s.t d v, s.m.set b ob, s.ds⟩ a' → Ext m0 ρ0 w0 (s.m.set b ob) ρ1 w' → (∀ x, x ≠ b → ρ1 x = ρ x) → next a' w') : o.wp P a w next Q := by
  obtain ⟨v', hs, hn⟩ := allocV_step (m := s.m) hv
  have hc : compOp P G o = some op ∧ d = o.dst ∧ dstOk N o.dst = true := by
    obtain ⟨_, h2, h3⟩ := compIns_guard hi
    refine ⟨?_, h2, h3⟩
    unfold compIns at hi
    split at hi <;> try (simp at hi; done)
    simp only [if_pos h3] at hi
    split at hi
    · obtain ⟨as, _, hh⟩ := map_some' hi; cases hh
    · split at hi <;> simp at hi
    · split at hi <;> try (simp at hi; done)
      split at hi <;> try (simp at hi; done)
      split at hi <;> try (simp at hi; done)
      try (split at hi <;> simp at hi; done)
    · obtain ⟨as, _, hh⟩ := map_some' hi; cases hh
    · obtain ⟨as, h1, hh⟩ := map_some' hi; cases hh; exact h1
  obtain ⟨hop, rfl, hd⟩ := hc
  obtain ⟨ρ', w', v1, h1, h2, h3, h4⟩ := step_ok hR (evOk hR hS) hop hs
  have hlive := live_alloc ha (fun i => ⟨_, hS.tmps i⟩) hv
  have hrep := slot_rep hR h3 h4 hb hlt hlive
  have hext := slot_ext hE h4 hR hb hb0
  have hval := slot_val (ρ := ρ) hn h2
  have hoth : ∀ x, x ≠ b → slotR ρ ρ' s.m.size b x = ρ x := fun x hx => by simp [slotR, hx]
  unfold Oper.wp
  rcases h1 with h1 | ⟨h1, hdn⟩
  · rw [h1]
    exact hK _ _ _ hrep (hS.put (slot_le hb) hd hval) hext hoth
  · rw [h1]
    simp only [Oper.upon, hdn, Act.put]
    refine hK _ _ _ hrep ?_ hext hoth
    rw [hdn]
    exact ⟨hS.size, fun i => (hS.tmps i).mono (slot_le hb), hS.ds.mono (slot_le hb)⟩

theorem Rep.unseen {m2 : AMem} (hR : Rep G m ρ w) (hs : m2.size = m.size) (hg : ∀ b, ρ b ≠ none → m2.get b = m.get b) : Rep G m2 ρ w := by
  have e : ∀ {b L}, ρ b = some L → m2.get b = m.get b := fun {b L} h => hg b (by rw [h]; simp)
  refine ⟨fun b L h => by rw [hs]; exact hR.dom b L h, fun b L h => by rw [e h]; exact hR.obj b L h, fun b b' L L' h1 h2 hne k1 k2 k3 => ?_, hR.glob⟩
  rw [e h1] at k1 k3; rw [e h2] at k2
  exact hR.sep b b' L L' h1 h2 hne k1 k2 k3
theorem Ext.unseen {m2 : AMem} (hE : Ext m0 ρ0 w0 m ρ w) (hs : m2.size = m.size) (hg : ∀ b, ρ b ≠ none → m2.get b = m.get b) : Ext m0 ρ0 w0 m2 ρ w := by
  refine ⟨hE.ren, hE.os, hE.tape, hE.output, hE.size, hE.keep, fun i hi ⟨b, L, h1, h2, h3⟩ => hE.img i hi ⟨b, L, h1, ?_, h3⟩, hE.late, by rw [hs]; exact hE.grow⟩
  rw [hg b (by rw [h1]; simp)] at h2; exact h2
end
theorem AMem.set_same {m : AMem} {b : Nat} {o : AObj} (h : m.get b = o) : m.set b o = m := by
  refine AMem.ext' rfl fun x => ?_
  simp only [AMem.get_set]; split
  · rename_i e; rw [e, h]
  · rfl
end Go.AM
namespace Go.AM
set_option linter.unusedVariables false
set_option linter.unusedSimpArgs false

theorem stepOp_fill {o : AOp} (hp : o.pure = true) {t : Tmps} {m : AMem} {v : Value} {m' : AMem} {b : Nat} (hb : m.get b = .dead) (x : AObj) (h : stepOp o t m = some (v, m')) : ∃ m2, stepOp o t (m.set b x) = some (v, m2) := by
  have hrd : ∀ {c k n l}, rd m c k n = some l → rd (m.set b x) c k n = some l := by
    intro c k n l hh
    by_cases e : c = b
    · subst e; simp [rd, hb] at hh
    · simp only [rd, AMem.get_set_ne _ _ e]; exact hh
  by_cases hi : o.indep = true
  · have := stepOp_pure hp h; subst this
    exact ⟨_, stepOp_indep hi h _⟩
  · cases o <;> simp only [AOp.indep, AOp.pure, Bool.false_eq_true, not_true_eq_false, not_false_eq_true] at hi hp <;> simp only [stepOp] at h ⊢
    case lkp z ok y i =>
      split at h <;> try (simp at h; done)
      · rename_i s hy hi2
        simp at h
        simp only [hy, hi2, h.1]; exact ⟨_, rfl⟩
      · rename_i r s hy hi2
        split at h <;> try (simp at h; done)
        rename_i es c hg
        have hne : r ≠ b := fun e => by subst e; rw [hb] at hg; cases hg
        simp only [hy, hi2, AMem.get_set_ne _ _ hne, hg]
        split at h <;> try (simp at h; done)
        rename_i o ho
        simp at h
        simp only [ho, h.1]; exact ⟨_, rfl⟩
    case ld1 a =>
      split at h <;> try (simp at h; done)
      rename_i c k hc
      split at h <;> try (simp at h; done)
      rename_i v1 hr
      simp at h
      simp only [hc, hrd hr, h.1]; exact ⟨_, rfl⟩
    case ldn n a =>
      split at h <;> try (simp at h; done)
      rename_i c k hc
      split at h <;> try (simp at h; done)
      rename_i v1 hr
      simp at h
      simp only [hc, hrd hr, h.1]; exact ⟨_, rfl⟩
    case slV sz y lo hi mx =>
      split at h <;> try (simp at h; done)
      rename_i a l c hy
      try simp only [hy]
      split at h
      · rename_i hcc
        rw [if_pos hcc]
        split at h <;> try (simp at h; done)
        rename_i c0 k0
        split at h <;> try (simp at h; done)
        rename_i cs e w sp hg
        have hne : c0 ≠ b := fun e => by subst e; rw [hb] at hg; cases hg
        simp only [AMem.get_set_ne _ _ hne, hg]
        split at h <;> try (simp at h; done)
        rename_i h1
        rw [if_pos h1]
        split at h <;> try (simp at h; done)
        rename_i i1 i2 i3 hcut
        try simp only [hcut]
        split at h
        · simp at h; simp only [h.1]; exact ⟨_, rfl⟩
        · split at h <;> simp at h
          rename_i h2
          rw [if_pos h2]; simp only [h.1]; exact ⟨_, rfl⟩
      · rename_i hcc
        rw [if_neg hcc]
        split at h <;> try (simp at h; done)
        rename_i i1 i2 i3 hcut
        try simp only [hcut]
        split at h <;> simp at h
        · simp only [h.1]; exact ⟨_, rfl⟩
        · simp only [h.1]; exact ⟨_, rfl⟩
    case b2s y =>
      split at h <;> try (simp at h; done)
      · rename_i hy; simp at h; simp only [hy, h.1]; exact ⟨_, rfl⟩
      · rename_i c0 k0 l c hy
        try simp only [hy]
        split at h
        · rename_i h0
          rw [if_pos h0]; simp at h; simp only [h.1]; exact ⟨_, rfl⟩
        rename_i h0
        rw [if_neg h0]
        split at h <;> try (simp at h; done)
        rename_i cs hr
        simp only [hrd hr]
        simp only [Option.map_eq_some_iff, Prod.mk.injEq] at h ⊢
        obtain ⟨q, h1, h2, h3⟩ := h
        exact ⟨_, q, h1, h2, rfl⟩
    case toU y =>
      split at h <;> try (simp at h; done)
      · rename_i hy; simp at h; simp only [hy, h.1]; exact ⟨_, rfl⟩
      · rename_i c0 k0 hy
        try simp only [hy]
        split at h <;> try (simp at h; done)
        rename_i cs e w sp hg
        have hne : c0 ≠ b := fun e => by subst e; rw [hb] at hg; cases hg
        simp only [AMem.get_set_ne _ _ hne, hg]
        split at h <;> simp at h
        rename_i h1
        rw [if_pos h1]; simp only [h.1]; exact ⟨_, rfl⟩
    case frU u s y =>
      split at h <;> try (simp at h; done)
      · rename_i hy; simp at h; simp only [hy, h.1]; exact ⟨_, rfl⟩
      · rename_i c0 k0 hy
        try simp only [hy]
        split at h <;> try (simp at h; done)
        rename_i cs e w hg
        have hne : c0 ≠ b := fun e => by subst e; rw [hb] at hg; cases hg
        simp only [AMem.get_set_ne _ _ hne, hg]
        split at h <;> simp at h
        rename_i h1
        rw [if_pos h1]; simp only [h.1]; exact ⟨_, rfl⟩
    case sdat y =>
      split at h <;> try (simp at h; done)
      · rename_i hy; simp at h; simp only [hy, h.1]; exact ⟨_, rfl⟩
      · rename_i c0 k0 l c hy
        try simp only [hy]
        split at h
        · simp at h
        · rename_i hl
          rw [if_neg hl]
          split at h
          · rename_i hcc
            rw [if_pos hcc]
            split at h <;> try (simp at h; done)
            rename_i cs e w sp hg
            have hne : c0 ≠ b := fun e => by subst e; rw [hb] at hg; cases hg
            simp only [AMem.get_set_ne _ _ hne, hg]
            split at h <;> simp at h
            rename_i h1
            rw [if_pos h1]; simp only [h.1]; exact ⟨_, rfl⟩
          · rename_i hcc
            rw [if_neg hcc]
            split at h <;> simp at h
            rename_i h1
            rw [if_pos h1]; simp only [h.1]; exact ⟨_, rfl⟩

theorem valF_fill {i : AIns} (hf : i.float = true) {t : Tmps} {m : AMem} {v : Value} {b : Nat} (hb : m.get b = .dead) (x : AObj) (h : valF i t m = some v) : valF i t (m.set b x) = some v := by
  cases i with
  | op g d o =>
    simp only [AIns.float] at hf
    simp only [valF] at h ⊢
    split at h
    · rename_i hw
      rw [if_pos hw]
      simp only [Option.map_eq_some_iff] at h
      obtain ⟨⟨v', m'⟩, h1, rfl⟩ := h
      obtain ⟨m2, h2⟩ := stepOp_fill hf hb x h1
      rw [h2]; rfl
    · rename_i hw
      rw [if_neg hw]; exact h
  | _ => simp [AIns.float] at hf

theorem allocV_congr {o : AOp} {t t' : Tmps} {b : Nat} (h : ∀ x ∈ o.opds, x.ev t = x.ev t') : allocV o t b = allocV o t' b := by
  cases o <;> simp only [AOp.opds] at h <;> simp only [allocV]
  case bldSl e n z ps => simp only [map_ps_congr h]
  all_goals (try simp only [List.mem_cons, List.not_mem_nil, or_false, forall_eq_or_imp, forall_eq] at h)
  all_goals (try simp only [h])
theorem allocI_congr {i : AIns} {t t' : Tmps} {b : Nat} (h : ∀ r ∈ i.reads, t r = t' r) : allocI i t b = allocI i t' b := by
  cases i with
  | op g d o => exact allocV_congr (ev_congr (l := o.opds) (t := t) (t' := t') fun r hr => h r (List.mem_append_left _ hr))
  | _ => rfl

/-! ### Any order -/
section
variable {P : Program} {G N n : Nat} {ins : Nat → AIns} {pre anc : Nat → List Nat} {slot : Nat → Option Nat} {base : Nat} {Q : AExit → ASt → Prop} {t0 : Tmps} {ds : List Deferred}

def US (n : Nat) (slot : Nat → Option Nat) (base : Nat) (L : Nat → Bool) (b : Nat) : Prop := ∃ i j, i < n ∧ slot i = some j ∧ b = base + j ∧ L i = false

def AoneA (P : Program) (G : Nat) (slot : Nat → Option Nat) (base : Nat) (i : Nat) (x : AIns) (K : ASt → Prop) (Q : AExit → ASt → Prop) (s : ASt) : Prop :=
  match slot i with
  | none => Aone P G x K Q s
  | some j => x.alloc = true ∧ if wanted x.guard s.t then ∃ v o, allocI x s.t (base + j) = some (v, o) ∧ K { s with t := updO s.t x.dst v, m := s.m.set (base + j) o } else K { s with t := updO s.t x.dst undef }

def AAnyA (P : Program) (G n : Nat) (ins : Nat → AIns) (pre : Nat → List Nat) (slot : Nat → Option Nat) (base : Nat) (Q : AExit → ASt → Prop) : Nat → (Nat → Bool) → ASt → Prop
  | 0, L, s => (∀ j, ¬ Rdy n pre L j) ∧ ∃ m2, m2.size = s.m.size ∧ (∀ b, ¬ US n slot base L b → m2.get b = s.m.get b) ∧ Q .normal { s with m := m2 }
  | k + 1, L, s => ∃ m2, m2.size = s.m.size ∧ (∀ b, ¬ US n slot base L b → m2.get b = s.m.get b) ∧ ((∀ j, ¬ Rdy n pre L j) → Q .normal { s with m := m2 }) ∧
      ∀ i, Rdy n pre L i → AoneA P G slot base i (ins i) (AAnyA P G n ins pre slot base Q k (setL L i)) Q { s with m := m2 }

structure InvA (P : Program) (G n : Nat) (ins : Nat → AIns) (pre anc : Nat → List Nat) (slot : Nat → Option Nat) (base : Nat) (Q : AExit → ASt → Prop) (t0 : Tmps) (ds : List Deferred)
    (A : List (Nat × Bool)) (r : List AIx) (L : Nat → Bool) (t : Tmps) (m : AMem) (s : ASt) : Prop where
  hs : m.size = s.m.size
  hm : ∀ b, ¬ US n slot base L b → m.get b = s.m.get b
  hds : s.ds = ds
  a1 : dokA n ins anc slot A r = true
  a2 : ∀ i, L i = true → i ∈ ixs A
  a3 : ∀ i, (i, true) ∈ A → L i = true ∧ slot i = none
  a4 : ∀ i ∈ ixs A, i < n ∧ ∀ k ∈ anc i, k ∈ ixs A
  a5 : Closed n pre L
  a6 : ∀ i ∈ ixs A, ∀ j, slot i = some j → (ins i).alloc = true ∧ ∀ k, k < n → slot k = some j → k = i
  u : ∀ r', (∀ j ∈ ixs A, (ins j).dst ≠ some r') → t r' = t0 r'
  x1 : ∀ r', (∀ i ∈ ixs A, L i = false → (ins i).dst ≠ some r') → s.t r' = t r'
  x2 : ∀ i ∈ ixs A, L i = false → ∀ r', (ins i).dst = some r' → s.t r' = t0 r'
  p : ∀ i, (i, false) ∈ A → L i = false → slot i = none → (ins i).float = true ∧ ∃ v, valF (ins i) (env ins anc t0 t i) m = some v ∧ ∀ d, (ins i).dst = some d → t d = v
  q : ∀ i, (i, false) ∈ A → L i = false → ∀ j, slot i = some j → ∃ v, (if wanted (ins i).guard (env ins anc t0 t i) then ∃ o, allocI (ins i) (env ins anc t0 t i) (base + j) = some (v, o) ∧ m.get (base + j) = o else v = undef) ∧ ∀ d, (ins i).dst = some d → t d = v
  w : DWA P G base (r.map (AIx.item ins)) Q ⟨t, m, ds⟩

theorem dokA_common {A : List (Nat × Bool)} {x : AIx} {r : List AIx} (h : dokA n ins anc slot A (x :: r) = true) :
    x.ix < n ∧ x.ix ∉ ixs A ∧ (∀ j ∈ anc x.ix, j ∈ ixs A) ∧ (∀ b, (b, true) ∈ A → b ∈ anc x.ix) := by
  unfold dokA at h
  simp only [Bool.and_eq_true, decide_eq_true_eq, Bool.not_eq_true', List.all_eq_true, List.contains_iff_mem] at h
  obtain ⟨⟨⟨⟨h1, h2⟩, h3⟩, h4⟩, h5⟩ := h
  refine ⟨h1, ?_, h3, fun b hb => h4 b ?_⟩
  · intro hx
    have : (A.map (·.1)).contains x.ix = true := List.contains_iff_mem.2 hx
    rw [h2] at this; cases this
  · simp only [isBar, List.mem_map, List.mem_filter]
    exact ⟨(b, true), ⟨hb, rfl⟩, rfl⟩
theorem dokA_f {A : List (Nat × Bool)} {i : Nat} {r : List AIx} (h : dokA n ins anc slot A (.f i :: r) = true) : (ins i).float = true ∧ slot i = none ∧ dokA n ins anc slot ((i, false) :: A) r = true := by
  unfold dokA at h
  simp only [Bool.and_eq_true, Option.isNone_iff_eq_none] at h
  exact ⟨h.2.1.1, h.2.1.2, h.2.2⟩
theorem dokA_a {A : List (Nat × Bool)} {i j : Nat} {r : List AIx} (h : dokA n ins anc slot A (.a i j :: r) = true) : (ins i).alloc = true ∧ slot i = some j ∧ (∀ k, k < n → slot k = some j → k = i) ∧ dokA n ins anc slot ((i, false) :: A) r = true := by
  unfold dokA at h
  simp only [Bool.and_eq_true, List.all_eq_true, List.mem_range, Bool.or_eq_true, beq_iff_eq, bne_iff_ne] at h
  refine ⟨h.2.1.1.1, h.2.1.1.2, fun k hk hs => ?_, h.2.2⟩
  exact (h.2.1.2 k hk).resolve_right fun hn => hn hs
theorem dokA_b {A : List (Nat × Bool)} {i : Nat} {chk sl : List Nat} {r : List AIx} (h : dokA n ins anc slot A (.b i chk sl :: r) = true) :
    slot i = none ∧ dokA n ins anc slot ((i, true) :: A) r = true ∧ ∀ f, (f, false) ∈ A → f ∈ anc i ∨ (∃ j, slot f = some j ∧ j ∈ sl) ∨ (slot f = none ∧ ((ins f).indep = true ∨ (f ∈ chk ∧ ∀ k, k < n → ∀ d, (ins k).dst = some d → d ∈ (ins f).reads → k ∈ anc f))) := by
  unfold dokA at h
  simp only [Bool.and_eq_true, List.all_eq_true, Bool.or_eq_true, List.contains_iff_mem, List.mem_range, Option.isNone_iff_eq_none] at h
  refine ⟨h.2.1.1, h.2.2, fun f hf => ?_⟩
  have := h.2.1.2 _ hf
  rcases this with (h1 | h1) | h1
  · cases h1
  · exact .inl h1
  · cases hs : slot f with
    | some j => simp only [hs, List.contains_iff_mem] at h1; exact .inr (.inl ⟨j, rfl, h1⟩)
    | none =>
      simp only [hs, Bool.or_eq_true, Bool.and_eq_true, List.contains_iff_mem, List.all_eq_true, List.mem_range] at h1
      refine .inr (.inr ⟨rfl, ?_⟩)
      rcases h1 with h1 | ⟨h1, h2⟩
      · exact .inl h1
      · refine .inr ⟨h1, fun k hk d hd hr => ?_⟩
        have := h2 k hk
        simp only [hd, Bool.or_eq_true, Bool.not_eq_true'] at this
        rcases this with h3 | h3
        · have : (ins f).reads.contains d = true := List.contains_iff_mem.2 hr
          rw [h3] at this; cases this
        · exact List.contains_iff_mem.1 h3

theorem dokA_after {b : Nat} : ∀ {r : List AIx} {A : List (Nat × Bool)}, dokA n ins anc slot A r = true → (b, true) ∈ A → ∀ x ∈ r, b ∈ anc x.ix
  | [], A, h, hb, x, hx => by cases hx
  | y :: r, A, h, hb, x, hx => by
    rcases List.mem_cons.1 hx with rfl | hx2
    · exact (dokA_common h).2.2.2 b hb
    · cases y with
      | f i => exact dokA_after (dokA_f h).2.2 (List.mem_cons_of_mem _ hb) x hx2
      | a i j => exact dokA_after (dokA_a h).2.2.2 (List.mem_cons_of_mem _ hb) x hx2
      | b i chk sl => exact dokA_after (dokA_b h).2.1 (List.mem_cons_of_mem _ hb) x hx2
theorem dokA_all : ∀ {r : List AIx} {A : List (Nat × Bool)}, dokA n ins anc slot A r = true → ∀ i, i < n → i ∈ ixs A ∨ i ∈ r.map AIx.ix
  | [], A, h, i, hi => by
    simp only [dokA, List.all_eq_true, List.mem_range, List.contains_iff_mem] at h
    exact .inl (h i hi)
  | y :: r, A, h, i, hi => by
    have key : ∀ {j b}, dokA n ins anc slot ((j, b) :: A) r = true → y.ix = j → i ∈ ixs A ∨ i ∈ (y :: r).map AIx.ix := by
      intro j b hj hy
      rcases dokA_all hj i hi with h1 | h1
      · simp only [ixs, List.map_cons, List.mem_cons] at h1
        rcases h1 with h1 | h1
        · exact .inr (by simp [hy, h1])
        · exact .inl h1
      · exact .inr (by simp only [List.map_cons, List.mem_cons]; exact .inr h1)
    cases y with
    | f j => exact key (dokA_f h).2.2 rfl
    | a j k => exact key (dokA_a h).2.2.2 rfl
    | b j chk sl => exact key (dokA_b h).2.1 rfl

theorem InvA.reads (D : DReg n ins pre anc) {A : List (Nat × Bool)} {y : AIx} {r : List AIx} {L : Nat → Bool} {t : Tmps} {m : AMem} {s : ASt} (h : InvA P G n ins pre anc slot base Q t0 ds A (y :: r) L t m s) (v : Value) :
    ∀ r' ∈ (ins y.ix).reads, t r' = env ins anc t0 (updO t (ins y.ix).dst v) y.ix r' := by
  obtain ⟨c1, c2, c3, c4⟩ := dokA_common h.a1
  intro r' hr
  unfold env
  split
  · rename_i hh
    simp only [List.any_eq_true, beq_iff_eq] at hh
    obtain ⟨j, h1, h2⟩ := hh
    have hj := c3 j h1
    have hne : y.ix ≠ j := fun e => c2 (e ▸ hj)
    exact (upd_other (D.d3 y.ix c1 j (h.a4 j hj).1 hne r' h2).1).symm
  · rename_i hh
    apply h.u
    intro j hj hjd
    apply hh
    simp only [List.any_eq_true, beq_iff_eq]
    have hne : y.ix ≠ j := fun e => c2 (e ▸ hj)
    rcases (D.d3 y.ix c1 j (h.a4 j hj).1 hne r' hjd).2 hr with h1 | h1
    · exact ⟨j, h1, hjd⟩
    · exact absurd ((h.a4 j hj).2 y.ix h1) c2

theorem InvA.wait (D : DReg n ins pre anc) {A : List (Nat × Bool)} {y : AIx} {r : List AIx} {L : Nat → Bool} {t : Tmps} {m m1 : AMem} {s : ASt} (h : InvA P G n ins pre anc slot base Q t0 ds A (y :: r) L t m s)
    {v : Value} {x : Nat} (hx : y.ix = x) (hok : dokA n ins anc slot ((x, false) :: A) r = true) (hsz : m1.size = m.size) (hm1 : ∀ b, ¬ US n slot base L b → m1.get b = m.get b)
    (hal : ∀ j, slot x = some j → (ins x).alloc = true ∧ ∀ k, k < n → slot k = some j → k = x)
    (hp : slot x = none → (ins x).float = true ∧ valF (ins x) t m1 = some v)
    (hq : ∀ j, slot x = some j → if wanted (ins x).guard t then ∃ o, allocI (ins x) t (base + j) = some (v, o) ∧ m1.get (base + j) = o else v = undef)
    (hkf : ∀ i t v, (ins i).float = true → valF (ins i) t m = some v → valF (ins i) t m1 = some v)
    (hka : ∀ i ∈ ixs A, ∀ j, slot i = some j → m1.get (base + j) = m.get (base + j))
    (hw : DWA P G base (r.map (AIx.item ins)) Q ⟨updO t (ins x).dst v, m1, ds⟩) :
    InvA P G n ins pre anc slot base Q t0 ds ((x, false) :: A) r L (updO t (ins x).dst v) m1 s := by
  obtain ⟨c1, c2, c3, c4⟩ := dokA_common h.a1
  have hread := h.reads D v
  rw [hx] at hread c1 c2 c3 c4
  have hxL : L x = false := by
    cases hl : L x with
    | false => rfl
    | true => exact absurd (h.a2 x hl) c2
  have hgd : wanted (ins x).guard (env ins anc t0 (updO t (ins x).dst v) x) = wanted (ins x).guard t := (wanted_congr hread).symm
  refine ⟨hsz.trans h.hs, fun b hb => (hm1 b hb).trans (h.hm b hb), h.hds, hok, fun i hi => List.mem_cons_of_mem _ (h.a2 i hi), ?_, ?_, h.a5, ?_, ?_, ?_, ?_, ?_, ?_, hw⟩
  · intro i hi
    rcases List.mem_cons.1 hi with h1 | h1
    · cases h1
    · exact h.a3 i h1
  · intro i hi
    simp only [ixs, List.map_cons, List.mem_cons] at hi
    rcases hi with rfl | hi
    · exact ⟨c1, fun k hk => List.mem_cons_of_mem _ (c3 k hk)⟩
    · exact ⟨(h.a4 i hi).1, fun k hk => List.mem_cons_of_mem _ ((h.a4 i hi).2 k hk)⟩
  · intro i hi j hj
    simp only [ixs, List.map_cons, List.mem_cons] at hi
    rcases hi with rfl | hi
    · exact hal j hj
    · exact h.a6 i hi j hj
  · intro r' hr
    rw [upd_other (hr x (by simp [ixs]))]
    exact h.u r' fun j hj => hr j (List.mem_cons_of_mem _ hj)
  · intro r' hr
    rw [upd_other (hr x (by simp [ixs]) hxL)]
    exact h.x1 r' fun i hi hl => hr i (List.mem_cons_of_mem _ hi) hl
  · intro i hi hl r' hd
    simp only [ixs, List.map_cons, List.mem_cons] at hi
    rcases hi with rfl | hi
    · have h1 : ∀ j ∈ ixs A, (ins j).dst ≠ some r' := fun j hj hjd => by
        have hne : j ≠ i := fun e => c2 (e ▸ hj)
        exact (D.d3 j (h.a4 j hj).1 i c1 hne r' hd).1 hjd
      rw [h.x1 r' fun j hj _ => h1 j hj, h.u r' h1]
    · exact h.x2 i hi hl r' hd
  · intro i hi hl hs
    rcases List.mem_cons.1 hi with h1 | h1
    · cases h1
      obtain ⟨p1, p2⟩ := hp hs
      exact ⟨p1, v, by rw [← valF_congr hread]; exact p2, fun d hd => upd_same hd⟩
    · obtain ⟨p1, v', p2, p3⟩ := h.p i h1 hl hs
      refine ⟨p1, v', by rw [env_keep D h.a4 c1 c2 (ixs_mem h1)]; exact hkf _ _ _ p1 p2, fun d hd => ?_⟩
      rw [upd_other]
      · exact p3 d hd
      · have hne : x ≠ i := fun e => c2 (e ▸ ixs_mem h1)
        exact (D.d3 x c1 i (h.a4 i (ixs_mem h1)).1 hne d hd).1
  · intro i hi hl j hs
    rcases List.mem_cons.1 hi with h1 | h1
    · cases h1
      refine ⟨v, ?_, fun d hd => upd_same hd⟩
      have := hq j hs
      rw [hgd]
      split
      · rename_i hw'
        rw [if_pos hw'] at this
        obtain ⟨o, e1, e2⟩ := this
        exact ⟨o, by rw [← allocI_congr hread]; exact e1, e2⟩
      · rename_i hw'
        rw [if_neg hw'] at this; exact this
    · obtain ⟨v', p2, p3⟩ := h.q i h1 hl j hs
      rw [env_keep D h.a4 c1 c2 (ixs_mem h1)]
      refine ⟨v', ?_, fun d hd => ?_⟩
      · split
        · rename_i hw'
          rw [if_pos hw'] at p2
          obtain ⟨o, e1, e2⟩ := p2
          exact ⟨o, e1, (hka i (ixs_mem h1) j hs).trans e2⟩
        · rename_i hw'
          rw [if_neg hw'] at p2; exact p2
      · rw [upd_other]
        · exact p3 d hd
        · have hne : x ≠ i := fun e => c2 (e ▸ ixs_mem h1)
          exact (D.d3 x c1 i (h.a4 i (ixs_mem h1)).1 hne d hd).1

theorem InvA.float (D : DReg n ins pre anc) {A : List (Nat × Bool)} {x : Nat} {r : List AIx} {L : Nat → Bool} {t : Tmps} {m : AMem} {s : ASt} (h : InvA P G n ins pre anc slot base Q t0 ds A (.f x :: r) L t m s) :
    ∃ t' m', InvA P G n ins pre anc slot base Q t0 ds ((x, false) :: A) r L t' m' s := by
  obtain ⟨hf, hs, hok⟩ := dokA_f h.a1
  obtain ⟨v, hv, hw⟩ := h.w
  exact ⟨_, m, h.wait D (v := v) (x := x) rfl hok rfl (fun _ _ => rfl) (fun j hj => by rw [hs] at hj; cases hj) (fun _ => ⟨hf, hv⟩) (fun j hj => by rw [hs] at hj; cases hj) (fun _ _ _ _ h => h) (fun _ _ _ _ => rfl) hw⟩

theorem InvA.block (D : DReg n ins pre anc) {A : List (Nat × Bool)} {x j : Nat} {r : List AIx} {L : Nat → Bool} {t : Tmps} {m : AMem} {s : ASt} (h : InvA P G n ins pre anc slot base Q t0 ds A (.a x j :: r) L t m s) :
    ∃ t' m', InvA P G n ins pre anc slot base Q t0 ds ((x, false) :: A) r L t' m' s := by
  obtain ⟨ha, hs, hu, hok⟩ := dokA_a h.a1
  obtain ⟨c1, c2, c3, c4⟩ := dokA_common h.a1
  simp only [AIx.ix] at c1 c2 c3 c4
  have hxL : L x = false := by
    cases hl : L x with
    | false => rfl
    | true => exact absurd (h.a2 x hl) c2
  have hU : US n slot base L (base + j) := ⟨x, j, c1, hs, rfl, hxL⟩
  obtain ⟨hdead, hw⟩ := h.w
  have hkn : slot x = none → False := fun e => by rw [hs] at e; cases e
  have hal : ∀ k, slot x = some k → (ins x).alloc = true ∧ ∀ k', k' < n → slot k' = some k → k' = x := fun k hk => by
    rw [hs] at hk; cases hk; exact ⟨ha, hu⟩
  simp only at hw
  split at hw
  · rename_i hwt
    obtain ⟨v, o, hv, hw⟩ := hw
    refine ⟨_, m.set (base + j) o, h.wait D (v := v) (x := x) rfl hok rfl (fun b hb => AMem.get_set_ne _ _ (fun e => hb (e ▸ hU))) hal (fun e => (hkn e).elim) (fun k hk => ?_) (fun i t v hf hv => valF_fill hf hdead o hv) (fun i hi k hk => ?_) hw⟩
    · rw [hs] at hk; cases hk
      rw [if_pos hwt]; exact ⟨o, hv, AMem.get_set_self _ _ _⟩
    · refine AMem.get_set_ne _ _ fun e => ?_
      have : k = j := by omega
      subst this
      exact c2 ((hu i (h.a4 i hi).1 hk) ▸ hi)
  · rename_i hwt
    refine ⟨_, m, h.wait D (v := undef) (x := x) rfl hok rfl (fun _ _ => rfl) hal (fun e => (hkn e).elim) (fun k hk => ?_) (fun _ _ _ _ h => h) (fun _ _ _ _ => rfl) hw⟩
    rw [if_neg hwt]

theorem InvA.advance (D : DReg n ins pre anc) : ∀ (r : List AIx) {A : List (Nat × Bool)} {L : Nat → Bool} {t : Tmps} {m : AMem} {s : ASt}, InvA P G n ins pre anc slot base Q t0 ds A r L t m s →
    ∃ A' r' t' m', InvA P G n ins pre anc slot base Q t0 ds A' r' L t' m' s ∧ (r' = [] ∨ ∃ x chk sl r'', r' = .b x chk sl :: r'')
  | [], A, L, t, m, s, h => ⟨A, [], t, m, h, .inl rfl⟩
  | .f x :: r, A, L, t, m, s, h => by
    obtain ⟨t', m', h'⟩ := h.float D
    exact InvA.advance D r h'
  | .a x j :: r, A, L, t, m, s, h => by
    obtain ⟨t', m', h'⟩ := h.block D
    exact InvA.advance D r h'
  | .b x chk sl :: r, A, L, t, m, s, h => ⟨A, _, t, m, h, .inr ⟨x, chk, sl, r, rfl⟩⟩

theorem InvA.done (D : DReg n ins pre anc) {A : List (Nat × Bool)} {r : List AIx} {L : Nat → Bool} {t : Tmps} {m : AMem} {s : ASt} (h : InvA P G n ins pre anc slot base Q t0 ds A r L t m s)
    (hr : r = [] ∨ ∃ x chk sl r'', r = .b x chk sl :: r'') (hn : ∀ j, ¬ Rdy n pre L j) : Q .normal { s with m := m } := by
  have hall := none_ready D hn
  rcases hr with rfl | ⟨x, chk, sl, r'', rfl⟩
  · have hw := h.w
    have ht : s.t = t := by
      funext r'
      exact h.x1 r' fun i hi hl => by rw [hall i (h.a4 i hi).1] at hl; cases hl
    have : { s with m := m } = (⟨t, m, ds⟩ : ASt) := by
      obtain ⟨st, sm, sd⟩ := s
      have h2 := h.hds
      simp only at h2 ht
      subst h2 ht; rfl
    rw [this]
    exact hw
  · obtain ⟨c1, c2, _, _⟩ := dokA_common h.a1
    exact absurd (h.a2 _ (hall _ c1)) c2

theorem slOk_mem {m m' : AMem} {j : Nat} : ∀ {sl : List Nat}, slOk base m m' sl → j ∈ sl → m'.get (base + j) = m.get (base + j)
  | c :: r, h, hj => by
    rcases List.mem_cons.1 hj with rfl | hj
    · exact h.1
    · exact slOk_mem h.2 hj

theorem AAnyA_of_inv (D : DReg n ins pre anc) : ∀ (k : Nat) {A : List (Nat × Bool)} {r : List AIx} {L : Nat → Bool} {t : Tmps} {m : AMem} {s : ASt},
    InvA P G n ins pre anc slot base Q t0 ds A r L t m s → unl n L ≤ k → AAnyA P G n ins pre slot base Q k L s := by
  intro k
  induction k with
  | zero =>
    intro A r L t m s h hk
    obtain ⟨A', r', t', m', h', hr⟩ := h.advance D
    have hn : ∀ j, ¬ Rdy n pre L j := fun j hj => by
      have := unl_set hj.1 hj.2.1
      omega
    exact ⟨hn, m', h'.hs, h'.hm, h'.done D hr hn⟩
  | succ k ih =>
    intro A r L t m s h hk
    obtain ⟨A, r, t, m, h, hr⟩ := h.advance D
    refine ⟨m, h.hs, h.hm, h.done D hr, fun i hi => ?_⟩
    have hu := unl_set hi.1 hi.2.1
    have hanc := anc_ready D h.a5 hi
    have hds := h.hds
    by_cases hiA : i ∈ ixs A
    · -- one that waits
      rcases mem_ixs hiA with hb | hf
      · have := (h.a3 i hb).1
        rw [hi.2.1] at this; cases this
      · have hread : ∀ r' ∈ (ins i).reads, s.t r' = env ins anc t0 t i r' := by
          intro r' hr'
          unfold env
          split
          · rename_i hh
            simp only [List.any_eq_true, beq_iff_eq] at hh
            obtain ⟨j, h1, h2⟩ := hh
            refine h.x1 r' fun k hk hl hkd => ?_
            have hjA := (h.a4 i hiA).2 j h1
            have hne : k ≠ j := fun e => by rw [e, hanc j h1] at hl; cases hl
            exact (D.d3 k (h.a4 k hk).1 j (h.a4 j hjA).1 hne r' h2).1 hkd
          · rename_i hh
            by_cases hex : ∃ j ∈ ixs A, (ins j).dst = some r'
            · obtain ⟨j, hj, hjd⟩ := hex
              by_cases hji : j = i
              · subst hji; exact h.x2 j hj hi.2.1 r' hjd
              · rcases (D.d3 i hi.1 j (h.a4 j hj).1 (Ne.symm hji) r' hjd).2 hr' with h1 | h1
                · exact absurd (by simp only [List.any_eq_true, beq_iff_eq]; exact ⟨j, h1, hjd⟩) hh
                · refine h.x2 j hj ?_ r' hjd
                  cases hl : L j with
                  | false => rfl
                  | true =>
                    have := anc_closed D h.a5 j (h.a4 j hj).1 hl i h1
                    rw [hi.2.1] at this; cases this
            · have hno : ∀ j ∈ ixs A, (ins j).dst ≠ some r' := fun j hj hjd => hex ⟨j, hj, hjd⟩
              rw [h.x1 r' fun j hj _ => hno j hj, h.u r' hno]
        have hus : ∀ b, US n slot base (setL L i) b → US n slot base L b := fun b ⟨i', j', e1, e2, e3, e4⟩ => ⟨i', j', e1, e2, e3, by simp only [setL] at e4; split at e4 <;> simp_all⟩
        -- it is done, and gives v
        have go : ∀ v, (∀ d, (ins i).dst = some d → t d = v) → AAnyA P G n ins pre slot base Q k (setL L i) ⟨updO s.t (ins i).dst v, m, s.ds⟩ := by
          intro v hv
          refine ih (A := A) (r := r) (t := t) (m := m) ⟨rfl, fun _ _ => rfl, hds, h.a1, ?_, ?_, h.a4, h.a5.set hi, h.a6, h.u, ?_, ?_, ?_, ?_, h.w⟩ (by omega)
          · intro j hj
            simp only [setL] at hj
            split at hj
            · rename_i he; subst he; exact hiA
            · exact h.a2 j hj
          · intro j hj
            refine ⟨?_, (h.a3 j hj).2⟩
            simp only [setL]
            split
            · rfl
            · exact (h.a3 j hj).1
          · intro r' hr'
            by_cases hd : (ins i).dst = some r'
            · simp only [upd_same hd]
              exact (hv r' hd).symm
            · simp only [upd_other hd]
              refine h.x1 r' fun j hj hl => ?_
              by_cases hji : j = i
              · subst hji; exact hd
              · exact hr' j hj (by simp only [setL, if_neg hji]; exact hl)
          · intro j hj hl r' hd
            simp only [setL] at hl
            split at hl
            · cases hl
            · rename_i hji
              have := (D.d3 i hi.1 j (h.a4 j hj).1 (Ne.symm hji) r' hd).1
              simp only [upd_other this]
              exact h.x2 j hj hl r' hd
          · intro j hj hl
            simp only [setL] at hl
            split at hl
            · cases hl
            · exact h.p j hj hl
          · intro j hj hl
            simp only [setL] at hl
            split at hl
            · cases hl
            · exact h.q j hj hl
        unfold AoneA
        split
        · rename_i hsl
          obtain ⟨p1, v, p2, p3⟩ := h.p i hf hi.2.1 hsl
          have hv : valF (ins i) s.t m = some v := by rw [valF_congr hread]; exact p2
          exact Aone_float p1 hv (go v p3)
        · rename_i j hsl
          refine ⟨(h.a6 i hiA j hsl).1, ?_⟩
          obtain ⟨v, p2, p3⟩ := h.q i hf hi.2.1 j hsl
          simp only
          rw [wanted_congr hread]
          split
          · rename_i hwt
            rw [if_pos hwt] at p2
            obtain ⟨o, e1, e2⟩ := p2
            refine ⟨v, o, by rw [allocI_congr hread]; exact e1, ?_⟩
            rw [AMem.set_same e2]
            exact go v p3
          · rename_i hwt
            rw [if_neg hwt] at p2
            subst p2
            exact go _ p3
    · -- the next bar
      obtain ⟨x, chk, sl, r, rfl, rfl⟩ : ∃ x chk sl r'', r = .b x chk sl :: r'' ∧ i = x := by
        rcases (dokA_all h.a1 i hi.1).resolve_left hiA with hin
        rcases hr with rfl | ⟨x, chk, sl, r'', rfl⟩
        · cases hin
        · refine ⟨x, chk, sl, r'', rfl, ?_⟩
          simp only [List.map_cons, List.mem_cons, AIx.ix] at hin
          rcases hin with h1 | h1
          · exact h1
          · obtain ⟨y, hy, he⟩ := List.mem_map.1 h1
            have := dokA_after (b := x) (dokA_b h.a1).2.1 List.mem_cons_self y hy
            rw [he] at this
            have := h.a2 x (hanc x this)
            exact absurd this (dokA_common h.a1).2.1
      obtain ⟨c1, c2, c3, c4⟩ := dokA_common h.a1
      simp only [AIx.ix] at c1 c2 c3 c4
      obtain ⟨hsl0, hok, hchk⟩ := dokA_b h.a1
      have hw : Aone P G (ins i) (fun s' => slOk base m s'.m sl ∧ chkOk s' (chk.map ins) ∧ DWA P G base (r.map (AIx.item ins)) Q s') (PanAny Q) ⟨t, m, ds⟩ := h.w
      have hread : ∀ r' ∈ (ins i).reads, t r' = s.t r' := by
        intro r' hr'
        refine (h.x1 r' fun k hk hl hkd => ?_).symm
        have hne : i ≠ k := fun e => c2 (e ▸ hk)
        rcases (D.d3 i c1 k (h.a4 k hk).1 hne r' hkd).2 hr' with h1 | h1
        · rw [hanc k h1] at hl; cases hl
        · exact c2 ((h.a4 k hk).2 i h1)
      unfold AoneA
      rw [hsl0]
      simp only [hds]
      refine Aone_congr hread ?_ (fun c m' hq => hq s.t) hw
      rintro v m' ⟨hsl, hc, hd⟩
      have hAne : ∀ j ∈ ixs A, j ≠ i := fun j hj e => c2 (e ▸ hj)
      have hu' : ∀ r', (∀ j ∈ ixs ((i, true) :: A), (ins j).dst ≠ some r') → updO t (ins i).dst v r' = t0 r' := by
        intro r' hr'
        rw [upd_other (hr' i (by simp [ixs]))]
        exact h.u r' fun j hj => hr' j (List.mem_cons_of_mem _ hj)
      refine ih (A := (i, true) :: A) (r := r) (t := updO t (ins i).dst v) (m := m') ⟨rfl, fun _ _ => rfl, rfl, hok, ?_, ?_, ?_, h.a5.set hi, ?_, hu', ?_, ?_, ?_, ?_, hd⟩ (by omega)
      · intro j hj
        simp only [setL] at hj
        split at hj
        · rename_i he; subst he; simp [ixs]
        · exact List.mem_cons_of_mem _ (h.a2 j hj)
      · intro j hj
        rcases List.mem_cons.1 hj with h1 | h1
        · cases h1
          exact ⟨by simp [setL], hsl0⟩
        · refine ⟨?_, (h.a3 j h1).2⟩
          simp only [setL]
          split
          · rfl
          · exact (h.a3 j h1).1
      · intro j hj
        simp only [ixs, List.map_cons, List.mem_cons] at hj
        rcases hj with rfl | hj
        · exact ⟨c1, fun k hk => List.mem_cons_of_mem _ (c3 k hk)⟩
        · exact ⟨(h.a4 j hj).1, fun k hk => List.mem_cons_of_mem _ ((h.a4 j hj).2 k hk)⟩
      · intro j hj k hk
        simp only [ixs, List.map_cons, List.mem_cons] at hj
        rcases hj with rfl | hj
        · rw [hsl0] at hk; cases hk
        · exact h.a6 j hj k hk
      · intro r' hr'
        by_cases hdd : (ins i).dst = some r'
        · simp only [upd_same hdd]
        · simp only [upd_other hdd]
          refine h.x1 r' fun j hj hl => hr' j (List.mem_cons_of_mem _ hj) ?_
          simp only [setL, if_neg (hAne j hj)]; exact hl
      · intro j hj hl r' hdj
        simp only [setL] at hl
        split at hl
        · cases hl
        · rename_i hne
          simp only [ixs, List.map_cons, List.mem_cons] at hj
          have hj := hj.resolve_left hne
          have := (D.d3 i c1 j (h.a4 j hj).1 (Ne.symm hne) r' hdj).1
          simp only [upd_other this]
          exact h.x2 j hj hl r' hdj
      · intro j hj hl hsj
        simp only [setL] at hl
        split at hl
        · cases hl
        · rename_i hne
          have hj : (j, false) ∈ A := by
            rcases List.mem_cons.1 hj with h1 | h1
            · cases h1
            · exact h1
          have hjA := ixs_mem hj
          obtain ⟨p1, v', p2, p3⟩ := h.p j hj hl hsj
          refine ⟨p1, ?_⟩
          have hkeep := env_keep (t0 := t0) D h.a4 c1 c2 hjA t v
          have hdst : ∀ d, (ins j).dst = some d → updO t (ins i).dst v d = t d := fun d hdj =>
            upd_other (D.d3 i c1 j (h.a4 j hjA).1 (Ne.symm hne) d hdj).1
          rcases hchk j hj with h1 | ⟨jj, h1, _⟩ | ⟨_, h1 | ⟨h1, h2⟩⟩
          · rw [hanc j h1] at hl; cases hl
          · rw [hsj] at h1; cases h1
          · exact ⟨v', by rw [hkeep]; exact valF_indep h1 p2, fun d hdj => by rw [hdst d hdj]; exact p3 d hdj⟩
          · obtain ⟨v2, q1, q2⟩ := chkOk_mem hc h1
            refine ⟨v2, ?_, q2⟩
            rw [← valF_congr (t := updO t (ins i).dst v)]
            · exact q1
            · intro r' hr'
              unfold env
              split
              · rfl
              · rename_i hh
                refine hu' r' fun k hk hkd => hh ?_
                have hkn : k < n := by
                  simp only [ixs, List.map_cons, List.mem_cons] at hk
                  rcases hk with rfl | hk
                  · exact c1
                  · exact (h.a4 k hk).1
                simp only [List.any_eq_true, beq_iff_eq]
                exact ⟨k, h2 k hkn r' hkd hr', hkd⟩
      · intro j hj hl jj hsj
        simp only [setL] at hl
        split at hl
        · cases hl
        · rename_i hne
          have hj : (j, false) ∈ A := by
            rcases List.mem_cons.1 hj with h1 | h1
            · cases h1
            · exact h1
          have hjA := ixs_mem hj
          obtain ⟨v', p2, p3⟩ := h.q j hj hl jj hsj
          have hkeep := env_keep (t0 := t0) D h.a4 c1 c2 hjA t v
          have hdst : ∀ d, (ins j).dst = some d → updO t (ins i).dst v d = t d := fun d hdj =>
            upd_other (D.d3 i c1 j (h.a4 j hjA).1 (Ne.symm hne) d hdj).1
          have hin : jj ∈ sl := by
            rcases hchk j hj with h1 | ⟨j2, h1, h2⟩ | ⟨h1, _⟩
            · rw [hanc j h1] at hl; cases hl
            · rw [hsj] at h1; cases h1; exact h2
            · rw [hsj] at h1; cases h1
          rw [hkeep]
          refine ⟨v', ?_, fun d hdj => by rw [hdst d hdj]; exact p3 d hdj⟩
          split
          · rename_i hwt
            rw [if_pos hwt] at p2
            obtain ⟨o, e1, e2⟩ := p2
            exact ⟨o, e1, (slOk_mem hsl hin).trans e2⟩
          · rename_i hwt
            rw [if_neg hwt] at p2; exact p2

theorem AAnyA_of_DWA (hd : dregs n ins pre anc = true) {dsx : List AIx} (ho : dokA n ins anc slot [] dsx = true) {s : ASt} (h : DWA P G base (dsx.map (AIx.item ins)) Q s) : AAnyA P G n ins pre slot base Q n (fun _ => false) s := by
  refine AAnyA_of_inv (dregs_spec hd) n (t0 := s.t) (ds := s.ds) (A := []) (r := dsx) (t := s.t) (m := s.m) ⟨rfl, fun _ _ => rfl, rfl, ho, ?_, ?_, ?_, ?_, ?_, ?_, ?_, ?_, ?_, ?_, h⟩ ?_
  · intro i hi; cases hi
  · intro i hi; cases hi
  · intro i hi; cases hi
  · intro j hj hl; cases hl
  · intro i hi; cases hi
  · intro r' _; rfl
  · intro r' _; rfl
  · intro i hi; cases hi
  · intro i hi; cases hi
  · intro i hi; cases hi
  · simp [unl]
    exact Nat.le_trans (List.length_filter_le _ _) (by simp)

/-! ### In the model -/
theorem Oper.wpIn_monoQ {F : Fence} {n : Nat} {o : Oper} {a : Act} {w : World} {K K' : Act → World → Prop} {Q Q' : Exit → Act → World → Prop} (h : ∀ a w, K a w → K' a w) (hq : ∀ e a w, Q e a w → Q' e a w)
    (hh : o.wpIn F n P a w K Q) : o.wpIn F n P a w K' Q' := by
  refine ⟨hh.1, ?_⟩
  have hh := hh.2
  have hl : LetsOut Q → LetsOut Q' := fun ⟨a, w, h⟩ => ⟨a, w, hq _ _ _ h⟩
  generalize (o.semAt F.round a.eval).run P w = r at *
  cases r with
  | ok x w' =>
    cases x <;> simp only [Oper.uponIn] at hh ⊢ <;>
      first
        | exact h _ _ hh
        | exact ⟨hh.1, CallsIn.mono hh.2 (fun e w'' he => by cases e <;> first | exact h _ _ he | exact hq _ _ _ he | exact hl he)⟩
        | exact ⟨hh.1, RowsIn.mono hh.2 (fun _ _ he => h _ _ he)⟩
        | exact ⟨hh.1, RoundIn.mono hh.2 (fun e w'' he => by cases e <;> first | exact h _ _ he | exact hq _ _ _ he | exact hl he)⟩
        | exact hh
  | halt x w' => cases x <;> simp only [Oper.uponIn] at hh ⊢ <;> first | exact hq _ _ _ hh | exact hh

theorem QC_ext {m0 m : AMem} {ρ0 ρ : Ren} {w0 w : World} (hE : Ext m0 ρ0 w0 m ρ w) {e : Exit} {a : Act} {w' : World} (h : QC G N Q m ρ w e a w') : QC G N Q m0 ρ0 w0 e a w' := by
  obtain ⟨ρ', s, e', h1, h2, h3, h4, h5⟩ := h
  exact ⟨ρ', s, e', h1, h2, h3, h4, hE.trans h5⟩

theorem AAnyA_ok {rd : Option Nat} {m0 : AMem} {ρ0 : Ren} {w0 : World} {ops : Array Oper} {is : List AIns} (hc : compList P G N ops ops.toList = some is) (hinj : ∀ i k j, i < ops.size → k < ops.size → slot i = some j → slot k = some j → i = k) (hb0 : m0.size ≤ base) :
    ∀ (k : Nat) (listed : Array Bool) (L : Nat → Bool), listed.size = ops.size → (∀ j, listed.getD j false = L j) →
    ∀ (s : ASt) (a : Act) (ρ : Ren) (w : World), Rep G s.m ρ w → SRel N ρ s a → Ext m0 ρ0 w0 s.m ρ w → (∀ b, US ops.size slot base L b → ρ b = none ∧ b < s.m.size) →
    AAnyA P G ops.size (fun i => is.getD i default) (preOf ops) slot base Q k L s → wpAnyIn (FW rd) 0 P .any ops (QC G N Q m0 ρ0 w0) k listed a w := by
  have hready : ∀ (listed : Array Bool) (L : Nat → Bool), listed.size = ops.size → (∀ j, listed.getD j false = L j) → ∀ i, i ∈ Region.ready .any ops listed ↔ Rdy ops.size (preOf ops) L i := by
    intro listed L hsz hL i
    rw [mem_ready]
    constructor
    · rintro ⟨h0, o, ho, h1⟩
      have hlt : i < ops.size := (Array.getElem?_eq_some_iff.1 ho).1
      refine ⟨hlt, ?_, fun k hk => ?_⟩
      · rw [← hL]
        have : i < listed.size := by omega
        simp [this] at h0 ⊢; exact h0
      · simp only [preOf, ho, List.mem_map, List.mem_filter] at hk
        obtain ⟨e, ⟨he, hb⟩, rfl⟩ := hk
        rw [← hL]
        exact h1 e (by simpa using he) hb
    · rintro ⟨hlt, hl, h1⟩
      refine ⟨?_, ops[i], by simp [hlt], fun e he hb => ?_⟩
      · rw [← hL] at hl
        have : i < listed.size := by omega
        simp [this] at hl ⊢; exact hl
      · rw [hL]
        refine h1 _ ?_
        have : ops[i]? = some ops[i] := by simp [hlt]
        simp only [preOf, this, List.mem_map, List.mem_filter]
        exact ⟨e, ⟨by simpa using he, hb⟩, rfl⟩
  have hnil : ∀ (listed : Array Bool) (L : Nat → Bool), listed.size = ops.size → (∀ j, listed.getD j false = L j) → (Region.ready .any ops listed = [] ↔ ∀ i, ¬ Rdy ops.size (preOf ops) L i) := by
    intro listed L hsz hL
    rw [List.eq_nil_iff_forall_not_mem]
    exact forall_congr' fun i => not_congr (hready listed L hsz hL i)
  have unseen : ∀ {L : Nat → Bool} {m m2 : AMem} {ρ : Ren}, (∀ b, US ops.size slot base L b → ρ b = none ∧ b < m.size) → (∀ b, ¬ US ops.size slot base L b → m2.get b = m.get b) → ∀ b, ρ b ≠ none → m2.get b = m.get b := fun hU hg b hb => hg b fun hu => hb (hU b hu).1
  intro k
  induction k with
  | zero =>
    intro listed L hsz hL s a ρ w hR hS hE hU h
    obtain ⟨h1, m2, h2, h3, h4⟩ := h
    have hg := unseen hU h3
    exact ⟨(hnil listed L hsz hL).2 h1, ρ, { s with m := m2 }, .normal, h4, .normal, ⟨hS.size, hS.tmps, hS.ds⟩, hR.unseen h2 hg, hE.unseen h2 hg⟩
  | succ k ih =>
    intro listed L hsz hL s a ρ w hR hS hE hU h
    obtain ⟨m2, h2, h3, h4, h5⟩ := h
    have hg := unseen hU h3
    have hR2 := hR.unseen h2 hg
    have hE2 := hE.unseen h2 hg
    have hS2 : SRel N ρ { s with m := m2 } a := ⟨hS.size, hS.tmps, hS.ds⟩
    have hU2 : ∀ b, US ops.size slot base L b → ρ b = none ∧ b < m2.size := fun b hb => by rw [h2]; exact hU b hb
    refine ⟨fun h0 => ⟨ρ, { s with m := m2 }, .normal, h4 ((hnil listed L hsz hL).1 h0), .normal, hS2, hR2, hE2⟩, fun i hi => ?_⟩
    have hr := (hready listed L hsz hL i).1 hi
    have hone := h5 i hr
    have hin : i < ops.size := hr.1
    have ho : ops[i]? = some (ops[i]'hin) := by simp [hin]
    have hci := compList_get hc (i := i) (o := ops[i]'hin) (by simp [hin])
    obtain ⟨hgd, hdst, hd⟩ := compIns_guard hci
    have hw := wanted_ok hS2 hgd
    have hL' : ∀ j, (listed.setIfInBounds i true).getD j false = setL L i j := by
      intro j
      simp only [setL]
      split
      · rename_i he; subst he
        have : j < listed.size := by have := hr.1; omega
        simp [this]
      · rename_i hne
        rw [← hL]
        simp [Array.getD_eq_getD_getElem?, Array.getElem?_setIfInBounds_ne (Ne.symm hne)]
    have ih' := ih (listed.setIfInBounds i true) (setL L i) (by simp [hsz]) hL'
    have hUs : ∀ b, US ops.size slot base (setL L i) b → US ops.size slot base L b := fun b ⟨i', j', e1, e2, e3, e4⟩ => ⟨i', j', e1, e2, e3, by simp only [setL] at e4; split at e4 <;> simp_all⟩
    simp only [wpOpIn, ho]
    rw [hw]
    unfold AoneA at hone
    split at hone
    · rename_i hsl
      unfold Aone at hone
      split at hone
      · rename_i hwt
        rw [if_pos hwt]
        refine (Oper.wpIn_monoQ (K := fun a' w' => ∃ s' ρ', AAnyA P G ops.size (fun i => is.getD i default) (preOf ops) slot base Q k (setL L i) s' ∧ Rep G s'.m ρ' w' ∧ SRel N ρ' s' a' ∧ Ext m2 ρ w s'.m ρ' w') (fun a' w' ⟨s', ρ', hK, hR', hS', hE'⟩ => ?_) (fun e a' w' hq => QC_ext hE2 hq) (WI1_ok hci hR2 hS2 (.refl _ _ _) (fun s' a' ρ' w' hK hR' hS' hE' => ⟨s', ρ', hK, hR', hS', hE'⟩) hone))
        refine ih' s' a' ρ' w' hR' hS' (hE2.trans hE') (fun b hb => ?_) hK
        obtain ⟨e1, e2⟩ := hU2 b (hUs b hb)
        exact ⟨by rw [hE'.late b e2]; exact e1, Nat.lt_of_lt_of_le e2 hE'.grow⟩
      · rename_i hwt
        rw [if_neg hwt]
        rw [hdst] at hone
        exact ⟨fun f _ => trivial, ih' _ _ ρ w hR2 (hS2.put (Ren.le.refl _) hd (Plain.undef ρ)) hE2 (fun b hb => hU2 b (hUs b hb)) hone⟩
    · rename_i j hsl
      obtain ⟨hal, hone⟩ := hone
      have hbU : US ops.size slot base L (base + j) := ⟨i, j, hin, hsl, rfl, hr.2.1⟩
      obtain ⟨hb1, hb2⟩ := hU2 _ hbU
      have hnot : ∀ b, US ops.size slot base (setL L i) b → b ≠ base + j := fun b ⟨i', j', e1, e2, e3, e4⟩ e => by
        have : j' = j := by omega
        subst this
        have := hinj i' i j' e1 hin e2 hsl
        subst this
        simp [setL] at e4
      simp only at hone
      split at hone
      · rename_i hwt
        rw [if_pos hwt]
        obtain ⟨v, ob, hv, hK⟩ := hone
        cases hx : is.getD i default with
        | op g d op =>
          simp only [hx] at hal hv hK hci
          refine Oper.wpIn_of_wp (compIns_nodefer hci) (slot_ok hci hal hR2 hS2 hE2 hb1 hb2 (by omega) hv fun a' ρ1 w' hR' hS' hE' hoth => ih' _ a' ρ1 w' hR' hS' hE' (fun b hb => ?_) hK)
          obtain ⟨e1, e2⟩ := hU2 b (hUs b hb)
          exact ⟨by rw [hoth b (hnot b hb)]; exact e1, by simpa [AMem.size_set] using e2⟩
        | _ =>
          simp only [hx] at hal
          cases hal
      · rename_i hwt
        rw [if_neg hwt]
        rw [hdst] at hone
        exact ⟨fun f _ => trivial, ih' _ _ ρ w hR2 (hS2.put (Ren.le.refl _) hd (Plain.undef ρ)) hE2 (fun b hb => hU2 b (hUs b hb)) hone⟩

theorem Rep.reserve {m : AMem} {ρ : Ren} {w : World} (hR : Rep G m ρ w) (k : Nat) : Rep G (m.reserve k) ρ w := by
  have e : ∀ {b L}, ρ b = some L → (m.reserve k).get b = m.get b := fun {b L} h => if_pos (hR.dom b L h)
  refine ⟨fun b L h => by have := hR.dom b L h; simp only [AMem.reserve]; omega, fun b L h => by rw [e h]; exact hR.obj b L h, fun b b' L L' h1 h2 hne k1 k2 k3 => ?_, hR.glob⟩
  rw [e h1] at k1 k3; rw [e h2] at k2
  exact hR.sep b b' L L' h1 h2 hne k1 k2 k3
theorem Ext.reserve {m m0 : AMem} {ρ ρ0 : Ren} {w w0 : World} (hE : Ext m0 ρ0 w0 m ρ w) (hR : Rep G m ρ w) (k : Nat) : Ext m0 ρ0 w0 (m.reserve k) ρ w := by
  refine ⟨hE.ren, hE.os, hE.tape, hE.output, hE.size, hE.keep, fun i hi ⟨b, L, h1, h2, h3⟩ => hE.img i hi ⟨b, L, h1, ?_, h3⟩, hE.late, by have := hE.grow; simp only [AMem.reserve]; omega⟩
  rw [show (m.reserve k).get b = m.get b from if_pos (hR.dom b L h1)] at h2; exact h2

theorem drawA_ok {rd : Option Nat} {m0 : AMem} {ρ0 : Ren} {w0 : World} {id : Nat} {ops : Array Oper} {c : ACode} (hc : compDrawA P G N ops = some c) {s : ASt} {a : Act} {ρ : Ren} {w : World}
    (hR : Rep G s.m ρ w) (hS : SRel N ρ s a) (hE : Ext m0 ρ0 w0 s.m ρ w) (h : W P G c Q s) : (Code.region id ops true).wpIn (FW rd) 0 P (QC G N Q m0 ρ0 w0) a w := by
  unfold compDrawA at hc
  split at hc
  · cases hc
  · rename_i is his
    simp only at hc
    split at hc
    case isFalse => cases hc
    rename_i hh
    simp only [Bool.and_eq_true] at hh
    replace hc := (Option.some.inj hc).symm
    subst hc
    obtain ⟨⟨⟨hm, hd⟩, ho⟩, hs⟩ := hh
    simp only [W] at h
    have hA := AAnyA_of_DWA hd ho h
    have hR1 : Rep G s.m ρ { w with drawn := w.drawn + 1 } := hR.world fun _ _ _ _ => rfl
    have hE1 : Ext m0 ρ0 w0 s.m ρ { w with drawn := w.drawn + 1 } := hE.trans (Ext.drawn _ _ _ _)
    refine wpIn_region_any hm (AAnyA_ok his (fun i k j hi hk h1 h2 => ?_) hE.grow ops.size _ _ (by simp) (fun j => ?_) { s with m := s.m.reserve _ } a ρ _ (hR1.reserve _) ⟨hS.size, hS.tmps, hS.ds⟩
      (hE1.reserve hR1 _) (fun b hb => ?_) hA)
    · have := List.all_eq_true.1 hs i (List.mem_range.2 hi)
      simp only [h1, Bool.and_eq_true, List.all_eq_true, List.mem_range, Bool.or_eq_true, beq_iff_eq, bne_iff_ne] at this
      exact ((this.2 k hk).resolve_right fun hn => hn h2).symm
    · simp only [Array.getD_eq_getD_getElem?, Array.getElem?_replicate]
      split <;> rfl
    · obtain ⟨i, j, hi, hj, rfl, _⟩ := hb
      have := List.all_eq_true.1 hs i (List.mem_range.2 hi)
      simp only [hj, Bool.and_eq_true, decide_eq_true_eq] at this
      have := this.1
      exact ⟨hR.none_of_ge (by omega), by simp only [AMem.reserve]; omega⟩
end
end Go.AM
namespace Go.AM
set_option linter.unusedVariables false
set_option linter.unusedSimpArgs false
section
variable {P : Program} {r : Option Nat}

theorem stepR_scope {b : Frame} {a : Act} {k : List Item} {cs : List Frame} {w : World} {c : Code} : step P (lone (b.atR a (.code (.scope c) :: k)) cs w) = .next (lone (b.atR a (.code c :: .inScope c :: k)) cs w) :=
  step_lone_go (by simp [stepG, stepG.exec, Frame.atR])
theorem stepR_inScope {b : Frame} {a : Act} {k : List Item} {cs : List Frame} {w : World} {c : Code} : step P (lone (b.atR a (.inScope c :: k)) cs w) = .next (lone (b.atR a k) cs w) :=
  step_lone_go (by simp [stepG, stepG.exec, Frame.atR])

abbrev FI (P : Program) : Machine → Prop := Machine.fenced P Fence.wide
theorem one_step {m m' : Machine} (h : step P m = .next m') : StepsIn (FI P) P m m' := .one (fenced_wide P m) h

def wpV (r : Option Nat) (P : Program) (c : Code) (Q : Exit → Act → World → Prop) (a : Act) (w : World) : Prop :=
  ∀ (b : Frame) (k : List Item) (cs : List Frame), b.roundOf = r → (P.funcs[b.fn]?).isSome = true →
    ∃ e a' w', Q e a' w' ∧ ArrivesIn (FI P) P (lone (b.atR a (.code c :: k)) cs w) b k cs e a' w'
theorem wpV_of_wpIn {c : Code} {Q : Exit → Act → World → Prop} {a : Act} {w : World} (h : c.wpIn (FW r) 0 P Q a w) : wpV r P c Q a w :=
  fun b k cs hr _ => h b k cs hr trivial (fun d hd => by cases hd)
theorem wpV_mono {c : Code} {Q Q' : Exit → Act → World → Prop} {a : Act} {w : World} (h : wpV r P c Q a w) (hq : ∀ e a w, Q e a w → Q' e a w) : wpV r P c Q' a w :=
  fun b k cs hr hv => let ⟨e, a', w', q, s⟩ := h b k cs hr hv; ⟨e, a', w', hq _ _ _ q, s⟩
variable {Q : Exit → Act → World → Prop} {a : Act} {w : World}
theorem wpV_seq {x y : Code} (h : wpV r P x (Exit.then (wpV r P y Q) Q) a w) : wpV r P (.seq x y) Q a w := by
  intro b k cs hr hv
  have s0 : StepsIn (FI P) P (lone (b.atR a (.code (.seq x y) :: k)) cs w) (lone (b.atR a (.code x :: .code y :: k)) cs w) := one_step stepR_seq
  obtain ⟨e, a₁, w₁, hq, harr⟩ := h b (.code y :: k) cs hr hv
  cases e with
  | normal =>
    obtain ⟨e₂, a₂, w₂, hq₂, harr₂⟩ := hq b k cs hr hv
    exact ⟨e₂, a₂, w₂, hq₂, .of_steps (StepsIn.trans s0 harr) harr₂⟩
  | exit id => exact ⟨_, a₁, w₁, hq, .of_steps s0 (.pass (x := .code y) rfl (fun _ _ => .inl (by simp)) harr)⟩
  | goto l => exact ⟨_, a₁, w₁, hq, .of_steps s0 (.pass (x := .code y) rfl (fun _ _ => .inl (by simp)) harr)⟩
  | ret => exact ⟨_, a₁, w₁, hq, .of_steps s0 (.pass (x := .code y) rfl (fun _ _ => .inl (by simp)) harr)⟩
  | panic ch => exact ⟨_, a₁, w₁, hq, .of_steps s0 (.pass (x := .code y) rfl (fun _ _ => .inl (by simp)) harr)⟩
  | outgrown => exact ⟨_, a₁, w₁, hq, .of_steps s0 (.pass (x := .code y) rfl (fun _ _ => .inl (by simp)) harr)⟩
theorem wpV_cond {c : Operand} {x y : Code} {t : Bool} (hc : a.eval c = .bool t) (h : wpV r P (if t then x else y) Q a w) : wpV r P (.cond c x y) Q a w :=
  fun b k cs hr hv => let ⟨e, a', w', q, s⟩ := h b k cs hr hv; ⟨e, a', w', q, .of_steps (one_step (stepR_cond hc)) s⟩
theorem wpV_block {id : Nat} {c : Code} (h : wpV r P c (Exit.inBlock id Q) a w) : wpV r P (.block id c) Q a w := by
  intro b k cs hr hv
  have s0 : StepsIn (FI P) P (lone (b.atR a (.code (.block id c) :: k)) cs w) (lone (b.atR a (.code c :: .inBlock id :: k)) cs w) := one_step stepR_block
  obtain ⟨e, a₁, w₁, hq, harr⟩ := h b (.inBlock id :: k) cs hr hv
  cases e with
  | normal => exact ⟨.normal, a₁, w₁, hq, StepsIn.trans s0 (StepsIn.trans harr (one_step stepR_inBlock))⟩
  | exit id' =>
    by_cases hid : id' = id
    · simp only [Exit.inBlock, hid, if_true] at hq
      exact ⟨.normal, a₁, w₁, hq, StepsIn.trans s0 (harr.1 k (by simp [exitTo, hid]))⟩
    · simp only [Exit.inBlock, hid, if_false] at hq
      have this : (id == id') = false := by simp; exact fun h => hid h.symm
      have hx : exitTo id' (.inBlock id :: k) = exitTo id' k := by simp [exitTo, this]
      exact ⟨.exit id', a₁, w₁, hq, fun k' hk => StepsIn.trans s0 (harr.1 k' (by rw [hx]; exact hk)),
        fun hr' hk => let ⟨k₁, h1, h2⟩ := harr.2 hr' (by rw [hx]; exact hk); ⟨k₁, h1, StepsIn.trans s0 h2⟩⟩
  | goto l =>
    have hx : gotoIn l (.inBlock id :: k) = gotoIn l k := by simp [gotoIn]
    exact ⟨_, a₁, w₁, hq, fun k' hk => StepsIn.trans s0 (harr.1 k' (by rw [hx]; exact hk)),
      fun hr' hk => let ⟨k₁, h1, h2⟩ := harr.2 hr' (by rw [hx]; exact hk); ⟨k₁, h1, StepsIn.trans s0 h2⟩⟩
  | ret => exact ⟨_, a₁, w₁, hq, .of_steps s0 harr⟩
  | panic ch => exact ⟨_, a₁, w₁, hq, .of_steps s0 harr⟩
  | outgrown => exact ⟨_, a₁, w₁, hq, .of_steps s0 harr⟩
theorem wpV_loopN {c : Code} (I : Nat → Act → World → Prop) (round : ∀ n a w, I n a w → wpV r P c (Exit.then (fun a' w' => ∃ k, k < n ∧ I k a' w') Q) a w) :
    ∀ n a w, I n a w → wpV r P (.loop c) Q a w := by
  intro n a w h₀ b k cs hr hv
  have key : ∀ n a w, I n a w → ∃ e a' w', Q e a' w' ∧ ArrivesIn (FI P) P (lone (b.atR a (.code c :: .inLoop c :: k)) cs w) b k cs e a' w' := by
    intro n
    induction n using Nat.strongRecOn with
    | _ n ih =>
      intro a w hI
      obtain ⟨e, a₁, w₁, hq, harr⟩ := round n a w hI b (.inLoop c :: k) cs hr hv
      cases e with
      | normal =>
        obtain ⟨j, hlt, hI₁⟩ := hq
        obtain ⟨e₂, a₂, w₂, hq₂, harr₂⟩ := ih j hlt a₁ w₁ hI₁
        exact ⟨e₂, a₂, w₂, hq₂, .of_steps (StepsIn.trans harr (one_step stepR_inLoop)) harr₂⟩
      | exit id => exact ⟨_, a₁, w₁, hq, .pass (x := .inLoop c) rfl (fun _ _ => .inl (by simp)) harr⟩
      | goto l => exact ⟨_, a₁, w₁, hq, .pass (x := .inLoop c) rfl (fun _ _ => .inl (by simp)) harr⟩
      | ret => exact ⟨_, a₁, w₁, hq, .pass (x := .inLoop c) rfl (fun _ _ => .inl (by simp)) harr⟩
      | panic ch => exact ⟨_, a₁, w₁, hq, .pass (x := .inLoop c) rfl (fun _ _ => .inl (by simp)) harr⟩
      | outgrown => exact ⟨_, a₁, w₁, hq, .pass (x := .inLoop c) rfl (fun _ _ => .inl (by simp)) harr⟩
  obtain ⟨e, a', w', hq, harr⟩ := key n a w h₀
  exact ⟨e, a', w', hq, .of_steps (one_step stepR_loop) harr⟩
theorem wpV_scopeN {c rest : Code} (l : Nat) (hf : findLabel c l = some rest) (J : Nat → Act → World → Prop) (pass : ∀ n a w, J n a w → wpV r P rest (Exit.jump l (fun a' w' => ∃ k, k < n ∧ J k a' w') Q) a w) {a : Act} {w : World}
    (first : wpV r P c (Exit.jump l (fun a w => ∃ n, J n a w) Q) a w) : wpV r P (.scope c) Q a w := by
  intro b k cs hr hv
  have hg : gotoIn l (.inScope c :: k) = some (.code rest :: .inScope c :: k) := by simp [gotoIn, hf]
  have step1 : ∀ a w, StepsIn (FI P) P (lone (b.atR a (.inScope c :: k)) cs w) (lone (b.atR a k) cs w) := fun a w => one_step stepR_inScope
  have hx : ∀ id, exitTo id (.inScope c :: k) = exitTo id k := fun id => by simp [exitTo]
  have key : ∀ n a w, J n a w → ∃ e a' w', Q e a' w' ∧ ArrivesIn (FI P) P (lone (b.atR a (.code rest :: .inScope c :: k)) cs w) b k cs e a' w' := by
    intro n
    induction n using Nat.strongRecOn with
    | _ n ih =>
      intro a w hJ
      obtain ⟨e, a₁, w₁, hq, harr⟩ := pass n a w hJ b (.inScope c :: k) cs hr hv
      cases e with
      | normal => exact ⟨.normal, a₁, w₁, hq, StepsIn.trans harr (step1 _ _)⟩
      | exit id => exact ⟨.exit id, a₁, w₁, hq, fun k' hk => harr.1 k' (by rw [hx]; exact hk), fun hr' hk => harr.2 hr' (by rw [hx]; exact hk)⟩
      | goto l' =>
        obtain ⟨rfl, j, hlt, hJ'⟩ := hq
        obtain ⟨e₂, a₂, w₂, hq₂, harr₂⟩ := ih j hlt a₁ w₁ hJ'
        exact ⟨e₂, a₂, w₂, hq₂, .of_steps (harr.1 _ hg) harr₂⟩
      | ret => exact ⟨_, a₁, w₁, hq, harr⟩
      | panic ch => exact ⟨_, a₁, w₁, hq, harr⟩
      | outgrown => exact ⟨_, a₁, w₁, hq, harr⟩
  have step0 : StepsIn (FI P) P (lone (b.atR a (.code (.scope c) :: k)) cs w) (lone (b.atR a (.code c :: .inScope c :: k)) cs w) := one_step stepR_scope
  obtain ⟨e, a₁, w₁, hq, harr⟩ := first b (.inScope c :: k) cs hr hv
  cases e with
  | normal => exact ⟨.normal, a₁, w₁, hq, StepsIn.trans step0 (StepsIn.trans harr (step1 _ _))⟩
  | exit id => exact ⟨.exit id, a₁, w₁, hq, fun k' hk => StepsIn.trans step0 (harr.1 k' (by rw [hx]; exact hk)), fun hr' hk => let ⟨k₁, h1, h2⟩ := harr.2 hr' (by rw [hx]; exact hk); ⟨k₁, h1, StepsIn.trans step0 h2⟩⟩
  | goto l' =>
    obtain ⟨rfl, n, hJ'⟩ := hq
    obtain ⟨e₂, a₂, w₂, hq₂, harr₂⟩ := key n a₁ w₁ hJ'
    exact ⟨e₂, a₂, w₂, hq₂, .of_steps (StepsIn.trans step0 (harr.1 _ hg)) harr₂⟩
  | ret => exact ⟨_, a₁, w₁, hq, .of_steps step0 harr⟩
  | panic ch => exact ⟨_, a₁, w₁, hq, .of_steps step0 harr⟩
  | outgrown => exact ⟨_, a₁, w₁, hq, .of_steps step0 harr⟩

theorem calls_of_wpV {f : FuncId} {fn : Func} {c : Code} {args : Array Value} {w : World} {R : Ending → World → Prop} (hf : P.funcs[f]? = some fn) (hb : fn.body = some c)
    (h : wpV none P c (bodyPostM Fence.wide 0 P fn R) { tmps := args ++ Array.replicate (fn.ntmps - args.size) undef, defers := [] } w) : Calls P f args w R := by
  refine (callsIn_wide (n := 0)).1 ⟨trivial, fun cs hr => ?_⟩
  let b : Frame := { (default : Frame) with fn := f, kind := .normal, roundOf := none }
  have henter : Frame.enter P f args .normal =
      b.atR { tmps := args ++ Array.replicate (fn.ntmps - args.size) undef, defers := [] } [.code c] := by
    simp [Frame.enter, Frame.atR, hf, hb, b]
  obtain ⟨e, a', w', hq, harr⟩ := h b [] cs rfl (by simp [b, hf])
  rw [← henter] at harr
  cases e with
  | normal =>
    obtain ⟨e', w'', fr', hR, hs, hfn, hl⟩ := leaves_stepsInM a'.defers .returning w' { b.atR a' [] with mode := .returning } cs rfl rfl rfl hf rfl trivial hr hq
    exact ⟨e', w'', fr', hR, ComesIn.of_steps (StepsIn.trans harr (one_step (stepR_end rfl))) hs, hfn, hl⟩
  | ret =>
    obtain ⟨todo, hs₀⟩ := harr.1 rfl
    obtain ⟨e', w'', fr', hR, hs, hfn, hl⟩ := leaves_stepsInM a'.defers .returning w' { b.atR a' todo with mode := .returning } cs rfl rfl rfl hf rfl trivial hr hq
    exact ⟨e', w'', fr', hR, ComesIn.of_steps hs₀ hs, hfn, hl⟩
  | panic chain =>
    obtain ⟨todo, hs₀⟩ := harr
    obtain ⟨e', w'', fr', hR, hs, hfn, hl⟩ := leaves_stepsInM a'.defers (.panicking chain) w' { b.atR a' todo with mode := .panicking chain } cs rfl rfl rfl hf rfl trivial hr hq
    exact ⟨e', w'', fr', hR, ComesIn.of_steps hs₀ hs, hfn, hl⟩
  | exit id => exact hq.elim
  | goto l => exact hq.elim
  | outgrown => exact ⟨.outgrown, w', b, hq, harr.resolve_left (by simp [b]), rfl, trivial⟩
def roundPostP (P : Program) (l : Nat) (R : Ending → World → Prop) : Exit → Act → World → Prop
  | .panic chain, a, w => a.defers = [] ∧ R (.panicked chain) w
  | e, a, w => roundPost P l R e a w
theorem roundIn_of_wpV {l : Nat} {f : FuncId} {tmps : Array Value} {assign body : Code} {w : World} {R : Ending → World → Prop} (hv : (P.funcs[f]?).isSome = true)
    (h : wpV (some l) P assign (Exit.then (fun a₁ w₁ => ∃ w₂, (Instr.beginRound l).run P w₁ = .ok () w₂ ∧ wpV (some l) P body (roundPostP P l R) a₁ w₂) (fun _ _ _ => False)) { tmps := tmps, defers := [] } w) :
    RoundIn Fence.wide 0 P l f tmps assign body w R := by
  refine ⟨trivial, fun c cs hr => ?_⟩
  let b : Frame := { (default : Frame) with fn := f, kind := .normal, roundOf := some l }
  have hb0 : Frame.round l f tmps assign body .normal = b.atR { tmps := tmps, defers := [] } [.code assign, .beginRound, .code body] := by
    simp [Frame.round, Frame.atR, b]
  obtain ⟨e, a₁, w₁, hq, harr⟩ := h b [.beginRound, .code body] (c :: cs) rfl hv
  rw [← hb0] at harr
  cases e with
  | normal =>
    obtain ⟨w₂, hbr, hbody⟩ := hq
    have s1 : StepsIn (FI P) P (lone (b.atR a₁ [.beginRound, .code body]) (c :: cs) w₁) (lone (b.atR a₁ [.code body]) (c :: cs) w₂) := one_step (stepR_beginRound rfl hbr)
    obtain ⟨e₂, a₂, w₃, hq₂, harr₂⟩ := hbody b [] (c :: cs) rfl hv
    cases e₂ with
    | normal =>
      obtain ⟨v, w₄, hend, hR⟩ := hq₂
      exact ⟨.returned v, w₄, hR, (StepsIn.trans harr s1).trans (StepsIn.trans harr₂ (one_step (stepR_round_end rfl rfl hend)))⟩
    | ret =>
      obtain ⟨v, w₄, hend, hR⟩ := hq₂
      obtain ⟨k₁, hs⟩ := harr₂.2 rfl
      exact ⟨.returned v, w₄, hR, (StepsIn.trans harr s1).trans (StepsIn.trans hs (one_step (stepR_round_ret rfl rfl hend)))⟩
    | exit id =>
      obtain ⟨v, w₄, hend, hR⟩ := hq₂
      obtain ⟨k₁, hk, hs⟩ := harr₂.2 rfl rfl
      exact ⟨.returned v, w₄, hR, (StepsIn.trans harr s1).trans (StepsIn.trans hs (one_step (stepR_round_exit rfl rfl hk hend)))⟩
    | goto t =>
      obtain ⟨v, w₄, hend, hR⟩ := hq₂
      obtain ⟨k₁, hk, hs⟩ := harr₂.2 rfl rfl
      exact ⟨.returned v, w₄, hR, (StepsIn.trans harr s1).trans (StepsIn.trans hs (one_step (stepR_round_goto rfl rfl hk hend)))⟩
    | panic chain =>
      obtain ⟨hd, hR⟩ := hq₂
      obtain ⟨todo, hs⟩ := harr₂
      obtain ⟨fn, hfn⟩ := Option.isSome_iff_exists.1 hv
      exact ⟨.panicked chain, w₃, hR, (StepsIn.trans harr s1).trans (StepsIn.trans hs (one_step (step_leave_panicked ⟨rfl, hd, fn, hfn⟩)))⟩
    | outgrown => exact hq₂.elim
  | exit id => exact hq.elim
  | goto l => exact hq.elim
  | ret => exact hq.elim
  | panic chain => exact hq.elim
  | outgrown => exact hq.elim

def rangePostV (P : Program) (l : Nat) (Q : Exit → Act → World → Prop) (a' : Act) : Ending → World → Prop
  | .returned _, w₃ => ∃ jump w₄, (Instr.endLoop l).run P w₃ = .ok jump w₄ ∧ (match jump with | none => Q .normal a' w₄ | some c => wpV none P c Q a' w₄)
  | .panicked chain, w₃ => Q (.panic chain) a' w₃
  | .outgrown, _ => False
theorem wpV_rangeFunc {g : Operand} {ps : Array Tmp} {assign body : Code}
    (h : ∀ fn, (P.funcs[fn]?).isSome = true → ∃ (l : Nat) (mark : List Deferred) (w₁ : World) (d : Deferred) (w₁' : World) (f : FuncId) (args : Array Value) (w₂ : World),
      (Instr.enterLoop fn a.tmps ps assign body none).run P w = .ok (l, mark) w₁ ∧
      (resolve a.eval (rangeCall g l) 0).run P w₁ = .ok d w₁' ∧ (invoke d.target d.args).run P w₁' = .ok (.enter f args) w₂ ∧
      Calls P f args w₂ (rangePostV P l Q { a with defers := mark ++ a.defers })) :
    wpV none P (.rangeFunc g ps assign body) Q a w := by
  intro b k cs hro hv
  obtain ⟨l, mark, w₁, d, w₁', f, args, w₂, he, hres, hinv, hcall⟩ := h b.fn hv
  rw [← hro] at he
  have henter := stepR_rangeFunc (P := P) (b := b) (a := a) (k := k) (cs := cs) (w := w) he hres hinv
  obtain ⟨e, w₃, fr, hR, hsteps, hfn, hleave⟩ := (callsIn_wide (n := 0)).2 hcall |>.2 (b.atR { a with defers := mark ++ a.defers } (.inRangeFunc l :: k) :: cs) (fun d hd => by cases hd)
  cases e with
  | outgrown => exact hR.elim
  | returned v =>
    obtain ⟨jump, w₄, hend, hj⟩ := hR
    have sback : StepsIn (FI P) P (lone (b.atR a (.code (.rangeFunc g ps assign body) :: k)) cs w) (lone (b.atR { a with defers := mark ++ a.defers } ((jump.map Item.code).toList ++ k)) cs w₄) := by
      refine StepsIn.trans (one_step henter) (StepsIn.trans hsteps (StepsIn.trans (one_step ?_) (one_step (stepR_endRangeFunc hend))))
      rw [← finish_atR_inRangeFunc l v]; exact step_leave_returned hleave
    cases jump with
    | none => exact ⟨.normal, _, w₄, hj, sback⟩
    | some c =>
      obtain ⟨e', a'', w₅, hq, harr⟩ := hj b k cs hro hv
      exact ⟨e', a'', w₅, hq, .of_steps sback harr⟩
  | panicked chain =>
    refine ⟨.panic chain, _, w₃, hR, .inRangeFunc l :: k, StepsIn.trans (one_step henter) (StepsIn.trans hsteps (one_step ?_))⟩
    rw [← Frame.raise_atR]; exact step_leave_panicked hleave
end
end Go.AM
namespace Go.AM
set_option linter.unusedVariables false
set_option linter.unusedSimpArgs false

section
variable {P : Program} {G N : Nat} {m0 : AMem} {ρ0 : Ren} {w0 : World}

theorem compDrawA_is {ops : Array Oper} {c : ACode} (h : compDrawA P G N ops = some c) : ∃ k d, c = .drawA k d := by
  unfold compDrawA at h
  split at h
  · cases h
  · dsimp only at h
    split at h
    · exact ⟨_, _, (Option.some.inj h).symm⟩
    · cases h
theorem compAny_is {ops : Array Oper} {c : ACode} (h : compAny P G N ops = some c) : ∃ k d, c = .any k d := by
  unfold compAny at h
  split at h
  · split at h
    · cases h; exact ⟨_, _, rfl⟩
    · cases h
  · cases h
theorem compDfr_is {ops : Array Oper} {c : ACode} (h : compDfr P G N ops = some c) : ∃ is x as, c = .dfr is x as := by
  unfold compDfr at h
  split at h <;> try (cases h; done)
  split at h <;> try (cases h; done)
  split at h <;> try (cases h; done)
  cases h; exact ⟨_, _, _, rfl⟩
theorem findA_ok (l : Nat) : ∀ (c : Code) (ac : ACode), compCode P G N c = some ac → match findLabel c l with
    | some rest => ∃ r, findA ac l = some r ∧ compCode P G N rest = some r
    | none => findA ac l = none := by
  intro c
  induction c with
  | seq x y ihx ihy =>
    intro ac hc
    simp only [compCode] at hc
    split at hc <;> simp at hc
    rename_i x1 y1 hx hy
    subst hc
    have h1 := ihx x1 hx
    have h2 := ihy y1 hy
    simp only [findLabel, findA]
    cases hfx : findLabel x l with
    | some q =>
      rw [hfx] at h1
      obtain ⟨r, h3, h4⟩ := h1
      simp only [h3]
      exact ⟨_, rfl, by simp [compCode, h4, hy]⟩
    | none =>
      rw [hfx] at h1
      simp only at h1
      simp only [h1]
      exact h2
  | label l' =>
    intro ac hc
    simp [compCode] at hc; subst hc
    simp only [findLabel, findA]
    by_cases hl : (l' == l) = true
    · simp only [if_pos hl]; exact ⟨_, rfl, by simp [compCode]⟩
    · simp only [if_neg hl]
  | region id ops draw =>
    intro ac hc
    simp only [findLabel]
    cases draw with
    | false =>
      simp only [compCode] at hc
      split at hc
      · cases hc; rfl
      · obtain ⟨is, x, as, rfl⟩ := compDfr_is hc; rfl
    | true =>
      simp only [compCode] at hc
      split at hc
      · cases hc; rfl
      · split at hc
        · rename_i c h
          cases hc
          obtain ⟨k, d, rfl⟩ := compDrawA_is h
          rfl
        · obtain ⟨k, d, rfl⟩ := compAny_is hc
          rfl
  | cond c x y _ _ =>
    intro ac hc
    simp only [compCode] at hc
    split at hc <;> simp at hc
    subst hc; rfl
  | block id x _ =>
    intro ac hc
    simp only [compCode] at hc
    obtain ⟨x1, hx, rfl⟩ := map_some' hc
    rfl
  | loop x _ =>
    intro ac hc
    simp only [compCode] at hc
    obtain ⟨x1, hx, rfl⟩ := map_some' hc
    rfl
  | scope x _ =>
    intro ac hc
    simp only [compCode] at hc
    split at hc <;> try (cases hc; done)
    split at hc <;> try (cases hc; done)
    split at hc <;> try (cases hc; done)
    cases hc; rfl
  | rangeFunc f ps x y _ _ =>
    intro ac hc
    simp only [compCode] at hc
    split at hc <;> try (cases hc; done)
    split at hc <;> try (cases hc; done)
    cases hc; rfl
  | skip => intro ac hc; simp [compCode] at hc; subst hc; rfl
  | exit => intro ac hc; simp [compCode] at hc; subst hc; rfl
  | goto => intro ac hc; simp [compCode] at hc; subst hc; rfl
  | ret => intro ac hc; simp [compCode] at hc; subst hc; rfl
  | refuse => intro ac hc; simp [compCode] at hc; subst hc; rfl

theorem flat_two {a b : Bool} (h : (a && b) = true) : a = true ∧ b = true := by simpa using h
theorem flat_find : ∀ (c : Code) {l : Nat} {rest : Code}, flat c = true → findLabel c l = some rest → flat rest = true := by
  intro c
  induction c with
  | seq x y ihx ihy =>
    intro l rest hf h
    simp only [findLabel] at h
    obtain ⟨h1, h2⟩ := flat_two (a := flat x) (b := flat y) hf
    cases hx : findLabel x l with
    | some q => rw [hx] at h; cases h; simp only [flat, ihx h1 hx, h2, Bool.and_self]
    | none => rw [hx] at h; exact ihy h2 h
  | label l' =>
    intro l rest hf h
    simp only [findLabel] at h
    split at h
    · cases h; rfl
    · cases h
  | _ => intro l rest hf h; simp [findLabel] at h
def Wok (P : Program) (G N : Nat) (c : Code) : Prop := ∀ (ac : ACode), compCode P G N c = some ac → ∀ (rd : Option Nat), (rd = none ∨ flat c = true) → ∀ (Q : AExit → ASt → Prop) (m0 : AMem) (ρ0 : Ren) (w0 : World) (s : ASt) (a : Act) (ρ : Ren) (w : World),
    Rep G s.m ρ w → SRel N ρ s a → Ext m0 ρ0 w0 s.m ρ w → W P G ac Q s → wpV rd P c (QC G N Q m0 ρ0 w0) a w
theorem Wok_seq {x y : Code} (ihx : Wok P G N x) (ihy : Wok P G N y) : Wok P G N (.seq x y) := by
  intro ac hc rd hfl Q m0 ρ0 w0 s a ρ w hR hS hE h
  simp only [compCode] at hc
  split at hc <;> simp at hc
  rename_i x1 y1 hx hy
  subst hc
  refine wpV_seq (wpV_mono (ihx x1 hx rd (hfl.imp id fun h => (flat_two h).1) _ m0 ρ0 w0 s a ρ w hR hS hE h) fun e a' w' hh => ?_)
  obtain ⟨ρ', s', e', h1, h2, h3, h4, h5⟩ := hh
  cases h2 with
  | normal => exact ihy y1 hy rd (hfl.imp id fun h => (flat_two h).2) Q m0 ρ0 w0 s' a' ρ' w' h4 h3 h5 h1
  | exit id => exact ⟨ρ', s', _, h1, .exit id, h3, h4, h5⟩
  | goto l => exact ⟨ρ', s', _, h1, .goto l, h3, h4, h5⟩
  | ret => exact ⟨ρ', s', _, h1, .ret, h3, h4, h5⟩
  | pan hp => exact ⟨ρ', s', _, h1, .pan hp, h3, h4, h5⟩
theorem Wok_skip : Wok P G N .skip := by
  intro ac hc rd hfl Q m0 ρ0 w0 s a ρ w hR hS hE h
  simp [compCode] at hc; subst hc
  exact wpV_of_wpIn (wpIn_skip ⟨ρ, s, .normal, h, .normal, hS, hR, hE⟩)
theorem QC_jump {l : Nat} {J : ASt → Prop} {Q : AExit → ASt → Prop} {J' : Act → World → Prop} {m0 : AMem} {ρ0 : Ren} {w0 : World} {e : Exit} {a : Act} {w : World} (h : QC G N (JumpK l J Q) m0 ρ0 w0 e a w)
    (hJ : ∀ ρ s, J s → SRel N ρ s a → Rep G s.m ρ w → Ext m0 ρ0 w0 s.m ρ w → J' a w) : Exit.jump l J' (QC G N Q m0 ρ0 w0) e a w := by
  obtain ⟨ρ', s', e', h1, h2, h3, h4, h5⟩ := h
  cases h2 with
  | normal => exact ⟨ρ', s', _, h1, .normal, h3, h4, h5⟩
  | exit id => exact ⟨ρ', s', _, h1, .exit id, h3, h4, h5⟩
  | goto l' =>
    obtain ⟨rfl, hj⟩ := h1
    exact ⟨rfl, hJ ρ' s' hj h3 h4 h5⟩
  | ret => exact ⟨ρ', s', _, h1, .ret, h3, h4, h5⟩
  | pan hp => exact ⟨ρ', s', _, h1, .pan hp, h3, h4, h5⟩
theorem Wok_scope {x : Code} (ih : Wok P G N x) (ihr : ∀ l rest, findLabel x l = some rest → Wok P G N rest) : Wok P G N (.scope x) := by
  intro ac hc rd hfl Q m0 ρ0 w0 s a ρ w hR hS hE h
  simp only [compCode] at hc
  split at hc <;> try (cases hc; done)
  rename_i x1 hx
  split at hc <;> try (cases hc; done)
  rename_i l hl
  split at hc <;> try (cases hc; done)
  rename_i r hr
  cases hc
  have hf := findA_ok l x x1 hx
  cases hfd : findLabel x l with
  | none => rw [hfd] at hf; simp only at hf; rw [hr] at hf; cases hf
  | some rest =>
    rw [hfd] at hf
    obtain ⟨r', hr', hcr⟩ := hf
    rw [hr] at hr'; cases hr'
    obtain ⟨J, h1, h2⟩ := h
    refine wpV_scopeN l hfd (fun n a w => ∃ ρ s, J n s ∧ SRel N ρ s a ∧ Rep G s.m ρ w ∧ Ext m0 ρ0 w0 s.m ρ w) ?_ (wpV_mono (ih x1 hx rd hfl _ m0 ρ0 w0 s a ρ w hR hS hE h1) fun e a' w' hh => ?_)
    · rintro n a w ⟨ρ, s, hJ, hS, hR, hE⟩
      refine wpV_mono (ihr l rest hfd r hcr rd (hfl.imp id fun h => flat_find x h hfd) _ m0 ρ0 w0 s a ρ w hR hS hE (h2 n s hJ)) fun e a' w' hh => ?_
      exact QC_jump hh fun ρ s ⟨k, hk, hJ⟩ h3 h4 h5 => ⟨k, hk, ρ, s, hJ, h3, h4, h5⟩
    · exact QC_jump hh fun ρ s ⟨n, hJ⟩ h3 h4 h5 => ⟨n, ρ, s, hJ, h3, h4, h5⟩
theorem putObj_rep {m : AMem} {ρ : Ren} {w : World} (hR : Rep G m ρ w) {b : Nat} {L : Loc} (hb : ρ b = some L) (hw : (m.get b).wrt = true) (ha : (m.get b).alive = true) {o : AObj} {ob : Obj} (ho : o.wrt = true → (m.get b).wrt = true) (h : ObjRel ρ o L (w.putObj L.cb ob)) :
    Rep G (m.set b o) ρ (w.putObj L.cb ob) ∧ Ext m ρ w (m.set b o) ρ (w.putObj L.cb ob) :=
  ⟨hR.set hb h hw ha ho fun i hi _ => World.putObj_heap_other hi, Ext.set hR hb hw (fun i hi _ => World.putObj_heap_other hi) rfl rfl rfl (by simp)⟩
theorem round_rel {N : Nat} {ρ : Ren} : ∀ (ps : List Nat) (args args' : List Value) (t : Tmps) (tm : Array Value), tm.size = N → (∀ i, VRel ρ (t i) (tm.getD i undef)) → LRel ρ args args' → (∀ i ∈ ps, i < N) →
    let r := (ps.zip args').foldl (fun tmps (p : Nat × Value) => tmps.setIfInBounds p.1 p.2) tm
    r.size = N ∧ ∀ i, VRel ρ (roundT t ps args i) (r.getD i undef)
  | [], args, args', t, tm, hs, ht, ha, hp => ⟨hs, ht⟩
  | p :: ps, [], [], t, tm, hs, ht, ha, hp => ⟨hs, ht⟩
  | p :: ps, [], _ :: _, t, tm, hs, ht, ha, hp => by have := ha.1; simp at this
  | p :: ps, _ :: _, [], t, tm, hs, ht, ha, hp => by have := ha.1; simp at this
  | p :: ps, v :: args, v' :: args', t, tm, hs, ht, ha, hp => by
    obtain ⟨h1, h2⟩ := ha.uncons
    have hpn := hp p (by simp)
    refine round_rel ps args args' (upd t p v) (tm.setIfInBounds p v') (by simpa using hs) (fun i => ?_) h2 (fun i hi => hp i (by simp [hi]))
    by_cases hi : i = p
    · subst hi
      have hlt : i < tm.size := by omega
      simp only [upd, if_true]
      simp [Array.getD_eq_getD_getElem?, Array.getElem?_setIfInBounds, hlt]
      exact h1
    · simp only [upd, if_neg hi]
      simp only [Array.getD_eq_getD_getElem?, Array.getElem?_setIfInBounds, if_neg (Ne.symm hi)]
      have := ht i
      simpa [Array.getD_eq_getD_getElem?] using this
theorem Wok_range {f : Operand} {ps : Array Tmp} {x y : Code} (ihx : Wok P G N x) (ihy : Wok P G N y) : Wok P G N (.rangeFunc f ps x y) := by
  intro ac hc rd hfl Q m0 ρ0 w0 s a ρ w hR hS hE h
  have hrd : rd = none := hfl.resolve_right (by simp [flat])
  subst hrd
  simp only [compCode] at hc
  split at hc <;> try (cases hc; done)
  rename_i hok
  split at hc <;> try (cases hc; done)
  rename_i f1 x1 y1 hf hx hy
  cases hc
  simp only [Bool.and_eq_true, List.all_eq_true, decide_eq_true_eq] at hok
  obtain ⟨⟨hfx, hfy⟩, hps⟩ := hok
  simp only [W] at h
  split at h <;> try exact h.elim
  rename_i gf first captured hfv
  obtain ⟨⟨fn, c, hfn, hname, hbody⟩, h⟩ := h
  have hv := evOk hR hS _ _ hf
  rw [hfv] at hv
  obtain ⟨first', captured', e1, e2, e3⟩ : ∃ first' captured', a.eval f = .func (.func gf) first' captured' ∧ ARel ρ first first' ∧ ARel ρ captured captured' := by
    generalize a.eval f = x' at hv
    cases hv with
    | func f x x' y y' hx hy h k => exact ⟨_, _, rfl, ⟨hx, h⟩, ⟨hy, k⟩⟩
  refine wpV_rangeFunc fun fid hfid => ?_
  obtain ⟨rec, hrec⟩ : ∃ rec : Loop, rec = { state := .ready, pending := none, fn := fid, tmps := a.tmps, params := ps, assign := x, body := y, defers := w.heap.size } := ⟨_, rfl⟩
  have hen := run_enterLoop_outer (P := P) (w := w) fid a.tmps ps x y
  rw [← hrec] at hen
  obtain ⟨hR1, hE1⟩ := hR.newObj (ob := .deferred (some [])) (o := .defd) (fun ρ' => ⟨alloc_new _, rfl⟩)
  have hsz : (w.alloc (.deferred (some []))).heap.size = w.heap.size + 1 := World.size_alloc ..
  have hz1 : (s.m.push .defd).size = s.m.size + 1 := rfl
  have hO2 : ∀ L : Loc, L.cb = w.heap.size + 1 → L.co = 0 → ObjRel ((ρ.add s.m.size ⟨w.heap.size, 0, 0, 0⟩).add (s.m.push .defd).size L) (.loop .ready none s.t rec) L ((w.alloc (.deferred (some []))).alloc (.loop rec)) := fun L h1 h2 => by
    refine ⟨?_, h2, fun i => ?_⟩
    · rw [h1, ← hsz, alloc_new]; rw [hrec]
    · rw [hrec]; exact (hS.tmps i).mono ((hR.le_add _).trans (hR1.le_add _))
  have hold2 : ∀ i, i < (w.alloc (.deferred (some []))).heap.size → ((w.alloc (.deferred (some []))).alloc (.loop rec)).heap[i]? = (w.alloc (.deferred (some []))).heap[i]? := fun i hi => alloc_old _ hi
  have hR2 := hR1.new (L := ⟨w.heap.size + 1, 0, 0, 0⟩) hold2 (by rw [hsz]; exact Nat.le_refl _) (hO2 _ rfl rfl)
  have hE2 := Ext.new hR1 (o := .loop .ready none s.t rec) (L := ⟨w.heap.size + 1, 0, 0, 0⟩) hold2 (by rw [hsz]; exact Nat.le_refl _) rfl rfl rfl (by simp)
  have hE12 := hE1.trans hE2
  rw [hz1] at hR2 hE2 hE12
  generalize hρ2 : (ρ.add s.m.size ⟨w.heap.size, 0, 0, 0⟩).add (s.m.size + 1) ⟨w.heap.size + 1, 0, 0, 0⟩ = ρ2 at hR2 hE2 hE12
  have hl2 : ρ2 (s.m.size + 1) = some ⟨w.heap.size + 1, 0, 0, 0⟩ := by rw [← hρ2]; simp [Ren.add]
  have hd2 : ρ2 s.m.size = some ⟨w.heap.size, 0, 0, 0⟩ := by rw [← hρ2]; simp [Ren.add]
  generalize hw2 : (w.alloc (.deferred (some []))).alloc (.loop rec) = w2 at hR2 hE2 hE12 hen
  -- a round
  have hround : ∀ (args : List Value) (m' : AMem) (K : AEnd → AMem → Prop), args.length = ps.toList.length → m'.get (s.m.size + 1) = .loop .ready none s.t rec →
      W P G x1 (AssignK (s.m.size + 1) s.t rec fun s' => W P G y1 (RoundK (s.m.size + 1) s.t rec K) s') { t := roundT s.t ps.toList args, m := m', ds := [] } → AYield P G (s.m.size + 1) args m' K := by
    intro args m' K hlen hm hW ρ' w' args' L hR' hA' hL'
    have hO := hR'.obj _ _ hL'
    rw [hm] at hO
    obtain ⟨o1, o2, o3⟩ := hO
    have hal : args'.size = ps.size := by have := hA'.1; simp at this hlen; omega
    have hyl := run_yield (P := P) o1 (args := args') (by rw [hrec]; exact hal)
    refine ⟨_, _, _, _, hyl, roundIn_of_wpV (by rw [hrec]; exact hfid) ?_⟩
    rw [hrec]
    simp only
    have hrr := round_rel (N := N) ps.toList args args'.toList s.t a.tmps hS.size (fun i => by have := o3 i; rw [hrec] at this; exact this) hA' hps
    have hfold : ((ps.zip args').foldl (fun tmps (x : Tmp × Value) => match x with | (t, a) => tmps.setIfInBounds t a) a.tmps) = (ps.toList.zip args'.toList).foldl (fun tmps (p : Nat × Value) => tmps.setIfInBounds p.1 p.2) a.tmps := by
      rw [← Array.foldl_toList, Array.toList_zip]
    rw [hfold]
    have hSr : SRel N ρ' { t := roundT s.t ps.toList args, m := m', ds := [] } { tmps := (ps.toList.zip args'.toList).foldl (fun tmps (p : Nat × Value) => tmps.setIfInBounds p.1 p.2) a.tmps, defers := [] } := ⟨hrr.1, hrr.2, DsRel.nil _⟩
    refine wpV_mono (ihx x1 hx (some L.cb) (.inr hfx) _ m' ρ' w' _ _ ρ' w' hR' hSr (Ext.refl _ _ _) hW) fun e a1 w1 hh => ?_
    obtain ⟨ρ3, s3, e3, k1, k2, k3, k4, k5⟩ := hh
    cases k2 with
    | exit id => exact k1.elim
    | goto l => exact k1.elim
    | ret => exact k1.elim
    | pan hp => exact k1.elim
    | normal =>
      obtain ⟨hg3, k1⟩ := k1
      have hL3 := k5.ren _ _ hL'
      have hO3 := k4.obj _ _ hL3
      rw [hg3] at hO3
      obtain ⟨p1, p2, p3⟩ := hO3
      have hbr := run_beginRound (P := P) p1 rfl
      refine ⟨_, hbr, ?_⟩
      have hlt := lt_of_getElem?_some p1
      obtain ⟨hR4, hE4⟩ := putObj_rep k4 hL3 (o := .loop .busy none s.t rec) (ob := .loop { rec with state := .busy, pending := none }) (by rw [hg3]; rfl) (by rw [hg3]; rfl) (fun _ => by rw [hg3]; rfl) ⟨World.putObj_heap_same hlt, p2, p3⟩
      refine wpV_mono (ihy y1 hy (some L.cb) (.inr hfy) _ m' ρ' w' { s3 with m := s3.m.set (s.m.size + 1) (.loop .busy none s.t rec) } a1 ρ3 _ hR4 ⟨k3.size, k3.tmps, k3.ds⟩ (k5.trans hE4) k1) fun e a5 w5 hh => ?_
      obtain ⟨ρ5, s5, e5, q1, q2, q3, q4, q5⟩ := hh
      have hL5 := q5.ren _ _ hL'
      have fin : ∀ (st : LoopState) (pend : Option Code), s5.m.get (s.m.size + 1) = .loop .busy none s.t rec → st = (if pend.isNone then .ready else .done) → K (.ret (.bool pend.isNone)) (s5.m.set (s.m.size + 1) (.loop st pend s.t rec)) →
          ∃ v w', (Instr.endRound L.cb pend).run P w5 = .ok v w' ∧ ∃ ρ' m'' r, K r m'' ∧ EndRel ρ' r (.returned v) ∧ Rep G m'' ρ' w' ∧ Ext m' _ _ m'' ρ' w' := fun st pend hg hst hK => by
        have hO5 := q4.obj _ _ hL5
        rw [hg] at hO5
        obtain ⟨z1, z2, z3⟩ := hO5
        have her := run_endRound (P := P) pend z1
        have hlt5 := lt_of_getElem?_some z1
        obtain ⟨hR6, hE6⟩ := putObj_rep q4 hL5 (o := .loop st pend s.t rec) (ob := .loop { rec with state := st, pending := pend }) (by rw [hg]; rfl) (by rw [hg]; rfl) (fun _ => by rw [hg]; rfl) ⟨World.putObj_heap_same hlt5, z2, z3⟩
        subst hst
        exact ⟨_, _, her, ρ5, _, _, hK, .ret (.bool _), hR6, q5.trans hE6⟩
      cases q2 with
      | normal => exact fin _ none q1.1 rfl q1.2
      | exit id => exact fin _ (some (.exit id)) q1.1 rfl q1.2
      | goto l => exact fin _ (some (.goto l)) q1.1 rfl q1.2
      | ret => exact fin _ (some .ret) q1.1 rfl q1.2
      | pan hp =>
        refine ⟨?_, ρ5, s5.m, _, q1.2, .pan hp, q4, q5⟩
        have := q3.ds.1
        rw [q1.1] at this
        exact List.eq_nil_of_length_eq_zero (by simpa using this.symm)
  have hcall := h rec hround
  have hyv : VRel ρ2 (Value.func (.yield (s.m.size + 1)) #[] #[]) (Value.func (.yield (w.heap.size + 1)) #[] #[]) := VRel.yield hl2
  have hA : LRel ρ2 (first.toList ++ [Value.func (.yield (s.m.size + 1)) #[] #[]] ++ captured.toList) (first' ++ #[Value.func (.yield (w.heap.size + 1)) #[] #[]] ++ captured').toList := by
    simp only [Array.toList_append]
    exact ((e2.toList.mono hE12.ren).append (LRel.cons hyv (LRel.nil _))).append (e3.toList.mono hE12.ren)
  have hc := hcall ρ2 w2 _ hR2 hA
  have hn' : ¬ fn.name = "runtime.NumGoroutine" := by simpa using hname
  have hrun : (callFunc gf (first' ++ #[Value.func (.yield (w.heap.size + 1)) #[] #[]] ++ captured')).run P w2 = .ok (.enter gf (first' ++ #[Value.func (.yield (w.heap.size + 1)) #[] #[]] ++ captured')) w2 := by simp [callFunc, hfn, hn', hbody]
  rw [hrun] at hc
  simp only at hc
  refine ⟨w.heap.size + 1, [{ target := .collected w.heap.size, args := #[] }], w2, { target := .fn (.func gf) captured', args := first' ++ #[.func (.yield (w.heap.size + 1)) #[] #[]] }, w2, gf, _, w2, ?_, ?_, ?_, hc.mono fun e w3 hh => ?_⟩
  · exact hen
  · simp only [resolve, e1]
    simp [Deferred.ofValue, Act.eval]
  · simp only [invoke]; exact hrun
  · obtain ⟨ρ3, m3, r, k1, k2, k3, k4⟩ := hh
    have hdsn : DsRel ρ3 (⟨.collected s.m.size, #[]⟩ :: s.ds) ([{ target := .collected w.heap.size, args := #[] }] ++ a.defers) := by
      have hle := hE12.ren.trans k4.ren
      refine ⟨by have := hS.ds.1; simp [this], fun i h1 h2 => ?_⟩
      cases i with
      | zero => exact .inr ⟨s.m.size, _, rfl, rfl, k4.ren _ _ hd2⟩
      | succ i => exact (hS.ds.2 i (by simpa using h1) (by simpa using h2)).mono hle
    cases k2 with
    | pan hp =>
      exact ⟨ρ3, ⟨s.t, m3, ⟨.collected s.m.size, #[]⟩ :: s.ds⟩, _, k1, .pan hp, ⟨hS.size, fun i => (hS.tmps i).mono (hE12.ren.trans k4.ren), hdsn⟩, k3, hE.trans (hE12.trans k4)⟩
    | ret hv =>
      obtain ⟨st, pend, g1, g2, g3⟩ := k1
      have hL3 := k4.ren _ _ hl2
      have hO3 := k3.obj _ _ hL3
      rw [g1] at hO3
      obtain ⟨p1, p2, p3⟩ := hO3
      have her := run_endLoop (P := P) p1 g2
      refine ⟨_, _, her, ?_⟩
      obtain ⟨hR4, hE4⟩ := putObj_rep k3 hL3 (o := .dead) (ob := .loop { rec with state := .exhausted, pending := pend }) (by rw [g1]; rfl) (by rw [g1]; rfl) (fun h => by cases h) trivial
      have hE5 := hE.trans (hE12.trans (k4.trans hE4))
      have hSn : SRel N ρ3 ⟨s.t, m3.set (s.m.size + 1) .dead, ⟨.collected s.m.size, #[]⟩ :: s.ds⟩ { a with defers := [{ target := .collected w.heap.size, args := #[] }] ++ a.defers } := by
        exact ⟨hS.size, fun i => (hS.tmps i).mono (hE12.ren.trans k4.ren), hdsn⟩
      unfold JmpK at g3
      split at g3
      · exact ⟨ρ3, _, .normal, g3, .normal, hSn, hR4, hE5⟩
      · exact wpV_of_wpIn <| wpIn_ret ⟨ρ3, _, .ret, g3, .ret, hSn, hR4, hE5⟩
      · exact wpV_of_wpIn <| wpIn_exit ⟨ρ3, _, .exit _, g3, .exit _, hSn, hR4, hE5⟩
      · exact wpV_of_wpIn <| wpIn_goto ⟨ρ3, _, .goto _, g3, .goto _, hSn, hR4, hE5⟩
      · exact g3.elim
theorem W_ok' : ∀ (c : Code), Wok P G N c ∧ ∀ l rest, findLabel c l = some rest → Wok P G N rest := by
  intro c
  induction c with
  | skip => exact ⟨Wok_skip, fun l rest h => by simp [findLabel] at h⟩
  | region id ops draw =>
    refine ⟨?_, fun l rest h => by simp [findLabel] at h⟩
    intro ac hc rd hfl Q m0 ρ0 w0 s a ρ w hR hS hE h
    cases draw with
    | true =>
      simp only [compCode] at hc
      split at hc
      · rename_i d hd
        cases hc
        exact wpV_of_wpIn (draw_ok hd hR hS hE h)
      · split at hc
        · rename_i c hd
          cases hc
          exact wpV_of_wpIn (drawA_ok hd hR hS hE h)
        · exact wpV_of_wpIn (any_ok hc hR hS hE h)
    | false =>
      simp only [compCode] at hc
      split at hc
      case h_2 =>
        rcases hfl with rfl | hfl
        · exact wpV_of_wpIn (dfr_ok hc hR hS hE h)
        · exfalso
          unfold compDfr at hc
          split at hc <;> try (cases hc; done)
          rename_i o r hrev
          split at hc <;> try (cases hc; done)
          rename_i x args tys hop hgu hds
          have hmem : o ∈ ops.toList := by rw [← List.mem_reverse, hrev]; simp
          have := List.all_eq_true.1 hfl o hmem
          rw [hop] at this; cases this
      rename_i is his
      cases hc
      refine wpV_of_wpIn (wpIn_region ?_)
      have := WI_ok (rd := rd) (Q := Q) is ops.toList 0 (by simp) his s a ρ w hR hS hE h
      simpa [List.range_eq_range'] using this
  | cond c x y ihx' ihy' =>
    have ihx := ihx'.1; have ihy := ihy'.1
    refine ⟨?_, fun l rest h => by simp [findLabel] at h⟩
    intro ac hc rd hfl Q m0 ρ0 w0 s a ρ w hR hS hE h
    simp only [compCode] at hc
    split at hc <;> simp at hc
    rename_i c1 x1 y1 hcc hx hy
    subst hc
    simp only [W] at h
    split at h <;> try exact h.elim
    rename_i b hb
    have hv := evOk hR hS c c1 hcc
    rw [hb] at hv
    have hbb := hv.bool_inv
    refine wpV_cond hbb ?_
    cases b
    · exact ihy y1 hy rd (hfl.imp id fun h => (flat_two h).2) Q m0 ρ0 w0 s a ρ w hR hS hE (by simpa using h)
    · exact ihx x1 hx rd (hfl.imp id fun h => (flat_two h).1) Q m0 ρ0 w0 s a ρ w hR hS hE (by simpa using h)
  | block id x ih0 =>
    have ih := ih0.1
    refine ⟨?_, fun l rest h => by simp [findLabel] at h⟩
    intro ac hc rd hfl Q m0 ρ0 w0 s a ρ w hR hS hE h
    simp only [compCode] at hc
    obtain ⟨x1, hx, rfl⟩ := map_some' hc
    refine wpV_block (wpV_mono (ih x1 hx rd hfl _ m0 ρ0 w0 s a ρ w hR hS hE h) fun e a' w' hh => ?_)
    obtain ⟨ρ', s', e', h1, h2, h3, h4, h5⟩ := hh
    cases h2 with
    | normal => exact ⟨ρ', s', _, h1, .normal, h3, h4, h5⟩
    | exit i =>
      simp only [BlockK] at h1
      simp only [Exit.inBlock]
      split at h1
      · rename_i hi
        rw [if_pos hi]
        exact ⟨ρ', s', _, h1, .normal, h3, h4, h5⟩
      · rename_i hi
        rw [if_neg hi]
        exact ⟨ρ', s', _, h1, .exit i, h3, h4, h5⟩
    | goto l => exact ⟨ρ', s', _, h1, .goto l, h3, h4, h5⟩
    | ret => exact ⟨ρ', s', _, h1, .ret, h3, h4, h5⟩
    | pan hp => exact ⟨ρ', s', _, h1, .pan hp, h3, h4, h5⟩
  | loop x ih0 =>
    have ih := ih0.1
    refine ⟨?_, fun l rest h => by simp [findLabel] at h⟩
    intro ac hc rd hfl Q m0 ρ0 w0 s a ρ w hR hS hE h
    simp only [compCode] at hc
    obtain ⟨x1, hx, rfl⟩ := map_some' hc
    obtain ⟨I, ⟨n, hI⟩, hround⟩ := h
    refine wpV_loopN (fun n a w => ∃ ρ s, I n s ∧ SRel N ρ s a ∧ Rep G s.m ρ w ∧ Ext m0 ρ0 w0 s.m ρ w) ?_ n a w ⟨ρ, s, hI, hS, hR, hE⟩
    rintro n a w ⟨ρ, s, hI, hS, hR, hE⟩
    refine wpV_mono (ih x1 hx rd hfl _ m0 ρ0 w0 s a ρ w hR hS hE (hround n s hI)) fun e a' w' hh => ?_
    obtain ⟨ρ', s', e', h1, h2, h3, h4, h5⟩ := hh
    cases h2 with
    | normal =>
      obtain ⟨k, hk, hI'⟩ := h1
      exact ⟨k, hk, ρ', s', hI', h3, h4, h5⟩
    | exit id => exact ⟨ρ', s', _, h1, .exit id, h3, h4, h5⟩
    | goto l => exact ⟨ρ', s', _, h1, .goto l, h3, h4, h5⟩
    | ret => exact ⟨ρ', s', _, h1, .ret, h3, h4, h5⟩
    | pan hp => exact ⟨ρ', s', _, h1, .pan hp, h3, h4, h5⟩
  | exit id =>
    refine ⟨?_, fun l rest h => by simp [findLabel] at h⟩
    intro ac hc rd hfl Q m0 ρ0 w0 s a ρ w hR hS hE h
    simp [compCode] at hc; subst hc
    exact wpV_of_wpIn (wpIn_exit ⟨ρ, s, _, h, .exit id, hS, hR, hE⟩)
  | ret =>
    refine ⟨?_, fun l rest h => by simp [findLabel] at h⟩
    intro ac hc rd hfl Q m0 ρ0 w0 s a ρ w hR hS hE h
    simp [compCode] at hc; subst hc
    exact wpV_of_wpIn (wpIn_ret ⟨ρ, s, _, h, .ret, hS, hR, hE⟩)
  | refuse why =>
    refine ⟨?_, fun l rest h => by simp [findLabel] at h⟩
    intro ac hc rd hfl Q m0 ρ0 w0 s a ρ w hR hS hE h
    simp [compCode] at hc; subst hc
    exact h.elim
  | seq x y ihx ihy =>
    refine ⟨Wok_seq ihx.1 ihy.1, fun l rest h => ?_⟩
    simp only [findLabel] at h
    cases hx : findLabel x l with
    | some q => rw [hx] at h; cases h; exact Wok_seq (ihx.2 l q hx) ihy.1
    | none => rw [hx] at h; exact ihy.2 l rest h
  | label l' =>
    refine ⟨?_, fun l rest h => ?_⟩
    · intro ac hc rd hfl Q m0 ρ0 w0 s a ρ w hR hS hE h
      simp [compCode] at hc; subst hc
      exact wpV_of_wpIn (wpIn_label ⟨ρ, s, .normal, h, .normal, hS, hR, hE⟩)
    · simp only [findLabel] at h
      split at h
      · cases h; exact Wok_skip
      · cases h
  | goto l' =>
    refine ⟨?_, fun l rest h => by simp [findLabel] at h⟩
    intro ac hc rd hfl Q m0 ρ0 w0 s a ρ w hR hS hE h
    simp [compCode] at hc; subst hc
    exact wpV_of_wpIn (wpIn_goto ⟨ρ, s, _, h, .goto l', hS, hR, hE⟩)
  | scope x ih => exact ⟨Wok_scope ih.1 ih.2, fun l rest h => by simp [findLabel] at h⟩
  | rangeFunc f ps x y ihx ihy => exact ⟨Wok_range ihx.1 ihy.1, fun l rest h => by simp [findLabel] at h⟩
theorem W_ok : ∀ (c : Code) (ac : ACode), compCode P G N c = some ac → ∀ (Q : AExit → ASt → Prop) (m0 : AMem) (ρ0 : Ren) (w0 : World) (s : ASt) (a : Act) (ρ : Ren) (w : World),
    Rep G s.m ρ w → SRel N ρ s a → Ext m0 ρ0 w0 s.m ρ w → W P G ac Q s → wpV none P c (QC G N Q m0 ρ0 w0) a w := fun c ac hc => (W_ok' c).1 ac hc none (.inl rfl)

/-! ### Functions -/

inductive ARes where
  | t (i : Nat)
  | c1 (i : Nat)
  | cn (i n : Nat)
  deriving Inhabited

def compRes (P : Program) : List ResultVar → Option (List ARes)
  | [] => some []
  | .tmp i :: r => (compRes P r).map (.t i :: ·)
  | .cell i t :: r => match P.underlying t, szOf P t, compRes P r with
    | some d, some n, some l => some ((if aggB d then .cn i n else .c1 i) :: l)
    | _, _, _ => none

def resV (r : ARes) (t : Tmps) (m : AMem) : Option Value :=
  match r with
  | .t i => some (t i)
  | .c1 i => match addr (t i) with | some (b, o) => (match rd m b o 1 with | some [v] => some v | _ => none) | none => none
  | .cn i n => match addr (t i) with | some (b, o) => (rd m b o n).map fun c => .agg c.toArray | none => none

def resVs : List ARes → Tmps → AMem → Option (List Value)
  | [], _, _ => some []
  | r :: l, t, m => match resV r t m, resVs l t m with | some v, some vs => some (v :: vs) | _, _ => none

def packV (l : List Value) : Value := match l with | [v] => v | l => .tuple l.toArray

structure AFun where
  n : Nat
  code : ACode
  res : List ARes

def compFun (P : Program) (G : Nat) (fn : Func) : Option AFun :=
  match fn.body with
  | some c => match compCode P G fn.ntmps c, compRes P fn.results.toList with
    | some a, some r => some ⟨fn.ntmps, a, r⟩
    | _, _ => none
  | none => none

def RetK (res : List ARes) (Q : AEnd → AMem → Prop) : AExit → ASt → Prop
  | .normal, s | .ret, s => s.ds = [] ∧ match resVs res s.t s.m with | some l => Q (.ret (packV l)) s.m | none => False
  | .pan c, s => s.ds = [] ∧ Q (.pan c) s.m
  | _, _ => False

def initT (args : List Value) : Tmps := fun i => args.getD i undef

def resSem (a : Act) (r : ResultVar) : Sem Value :=
  match r with
  | .tmp t => pure (a.tmps.getD t undef)
  | .cell b t => do loadVar t (← asAddr (a.tmps.getD b undef))

theorem resVs_run {res : List ARes} : ∀ (rs : List ResultVar), compRes P rs = some res → ∀ {s : ASt} {a : Act} {ρ : Ren} {w : World} {l : List Value}, Rep G s.m ρ w → SRel N ρ s a → resVs res s.t s.m = some l →
    ∃ l', LRel ρ l l' ∧ (rs.mapM (resSem a)).run P w = .ok l' w := by
  induction res with
  | nil =>
    intro rs hc s a ρ w l hR hS h
    cases rs with
    | nil => simp [resVs] at h; subst h; exact ⟨[], LRel.nil ρ, by simp⟩
    | cons r rs =>
      cases r with
      | tmp t => simp only [compRes] at hc; obtain ⟨_, _, h2⟩ := map_some' hc; simp at h2
      | cell b t => simp only [compRes] at hc; split at hc <;> simp at hc
  | cons x res ih =>
    intro rs hc s a ρ w l hR hS h
    simp only [resVs] at h
    split at h <;> simp at h
    rename_i v vs hv hvs
    subst h
    cases rs with
    | nil => simp [compRes] at hc
    | cons r rs =>
      cases r with
      | tmp t =>
        simp only [compRes] at hc
        obtain ⟨l0, h1, h2⟩ := map_some' hc
        simp at h2
        obtain ⟨rfl, rfl⟩ := h2
        obtain ⟨l', k1, k2⟩ := ih rs h1 hR hS hvs
        simp [resV] at hv
        subst hv
        exact ⟨a.tmps.getD t undef :: l', LRel.cons (hS.tmps t) k1, by simp [List.mapM_cons, k2, resSem]⟩
      | cell b t =>
        simp only [compRes] at hc
        split at hc <;> simp at hc
        rename_i d n l0 hd hn hl0
        obtain ⟨hx, rfl⟩ := hc
        obtain ⟨l', k1, k2⟩ := ih rs hl0 hR hS hvs
        have hb := hS.tmps b
        subst hx
        split at hv
        · rename_i hag
          simp only [resV] at hv
          split at hv <;> simp at hv
          rename_i bb o hbo
          obtain ⟨c, hc, rfl⟩ := hv
          obtain ⟨L, hL, hbe⟩ := addr_inv hbo hb
          obtain ⟨cs, h1, h2, h3, h4⟩ := hR.rd hL hc
          have hl := run_loadCells_list (P := P) w ⟨L.cb, L.co + o, none⟩ cs h4
          rw [h1] at hl
          have hrun : (loadVar t ⟨L.cb, L.co + o, none⟩).run P w = .ok (.agg cs.toArray) w := by simp [loadVar, isAgg_spec hd, hag, szOf_spec hn, hl]
          refine ⟨.agg cs.toArray :: l', LRel.cons (.ofARel h3.toArray) k1, ?_⟩
          simp only [List.mapM_cons, resSem, hbe, asAddr]
          simp [hrun, k2]
        · rename_i hag
          simp only [resV] at hv
          split at hv <;> try (simp at hv; done)
          rename_i bb o hbo
          split at hv <;> simp at hv
          rename_i v1 hv1
          subst hv
          obtain ⟨L, hL, hbe⟩ := addr_inv hbo hb
          obtain ⟨cs, h1, h2, h3, h4⟩ := hR.rd hL hv1
          match cs, h1 with
          | [v'], _ =>
            have h5 := h4 0 v' rfl
            rw [add_mk, Nat.add_zero] at h5
            have hrun : (loadVar t ⟨L.cb, L.co + o, none⟩).run P w = .ok v' w := by simp [loadVar, isAgg_spec hd, hag, h5]
            refine ⟨v' :: l', LRel.cons (h3.2 0 (by simp) (by simp)) k1, ?_⟩
            simp only [List.mapM_cons, resSem, hbe, asAddr]
            simp [hrun, k2]

theorem results_run {fn : Func} {res : List ARes} (hc : compRes P fn.results.toList = some res) {s : ASt} {a : Act} {ρ : Ren} {w : World} {l : List Value} (hR : Rep G s.m ρ w) (hS : SRel N ρ s a)
    (h : resVs res s.t s.m = some l) : ∃ v', VRel ρ (packV l) v' ∧ (results fn a.tmps).run P w = .ok v' w := by
  obtain ⟨l', h1, h2⟩ := resVs_run fn.results.toList hc hR hS h
  have hm : (fn.results.mapM (resSem a)).run P w = .ok l'.toArray w := by
    have e1 : fn.results = fn.results.toList.toArray := by simp
    rw [e1, List.mapM_toArray]
    simp [h2]
  have e2 : results fn a.tmps = (fn.results.mapM (resSem a) >>= fun vs => pure (if h : vs.size = 1 then vs[0] else .tuple vs)) := by
    unfold results
    congr 1
  rw [e2]
  simp only [Sem.run_bind, hm, Result.andThen_ok, Sem.run_pure]
  have hl := h1.1
  unfold packV
  match l, l', h1 with
  | [], [], _ => exact ⟨_, .ofARelT (LRel.nil ρ).toArray, by simp⟩
  | [v], [v'], h1 => exact ⟨v', h1.uncons.1, by simp⟩
  | v :: u :: r, v' :: u' :: r', h1 => exact ⟨_, .ofARelT h1.toArray, by simp⟩
  | [], _ :: _, h1 => have := h1.1; simp at this
  | _ :: _, [], h1 => have := h1.1; simp at this
  | [v], _ :: _ :: _, h1 => have := h1.1; simp at this
  | _ :: _ :: _, [v], h1 => have := h1.1; simp at this

theorem init_rel {fn : Func} {ρ : Ren} {args : List Value} {args' : Array Value} {m : AMem} (hL : LRel ρ args args'.toList) (hlen : args.length ≤ fn.ntmps) :
    SRel fn.ntmps ρ { t := initT args, m := m, ds := [] } { tmps := args' ++ Array.replicate (fn.ntmps - args'.size) undef, defers := [] } := by
  have hl := hL.1
  simp at hl
  refine ⟨by simp at hlen ⊢; omega, fun i => ?_, DsRel.nil ρ⟩
  simp only [initT]
  by_cases hi : i < args.length
  · have h2 := hL.2 i hi (by simp; omega)
    simp at h2
    have hi' : i < args'.size := by omega
    simp [List.getD_eq_getElem?_getD, hi, Array.getD_eq_getD_getElem?, Array.getElem?_append, hi']
    exact h2
  · have hi' : ¬ i < args'.size := by omega
    simp [List.getD_eq_getElem?_getD, List.getElem?_eq_none (Nat.le_of_not_lt hi), Array.getD_eq_getD_getElem?, Array.getElem?_append, hi']
    have : ((Array.replicate (fn.ntmps - args'.size) undef)[i - args'.size]?).getD undef = undef := by
      rw [Array.getElem?_replicate]; split <;> rfl
    rw [Array.getElem?_replicate] at this
    first
      | (rw [this]; exact Plain.undef ρ)
      | (simp only [Array.getElem?_replicate]; rw [this]; exact Plain.undef ρ)
theorem ACall_of_W {f : FuncId} {fn : Func} {A : AFun} (hf : P.funcs[f]? = some fn) (hn : (fn.name == "runtime.NumGoroutine") = false) (hA : compFun P G fn = some A) {args : List Value} (hlen : args.length ≤ A.n) {m : AMem}
    {Q : AEnd → AMem → Prop} (h : W P G A.code (RetK A.res Q) { t := initT args, m := m, ds := [] }) : ACall P G f args m Q := by
  intro ρ w args' hR hL
  unfold compFun at hA
  split at hA <;> try (simp at hA; done)
  rename_i c hbody
  split at hA <;> simp at hA
  rename_i ac res hac hres
  subst hA
  have hn' : ¬ fn.name = "runtime.NumGoroutine" := by simpa using hn
  have hrun : (callFunc f args').run P w = .ok (.enter f args') w := by simp [callFunc, hf, hn', hbody]
  rw [hrun]
  simp only
  refine calls_of_wpV hf hbody ?_
  have hS := init_rel (fn := fn) (m := m) hL hlen
  refine wpV_mono (W_ok c ac hac _ m ρ w _ _ ρ w hR hS (Ext.refl _ _ _) h) fun e a' w' hh => ?_
  obtain ⟨ρ', s', e', h1, h2, h3, h4, h5⟩ := hh
  have hnil : s'.ds = [] → a'.defers = [] := fun hds => by
    have := h3.ds.1
    rw [hds] at this
    exact List.eq_nil_of_length_eq_zero (by simpa using this.symm)
  have fin : (s'.ds = [] ∧ match resVs res s'.t s'.m with | some l => Q (.ret (packV l)) s'.m | none => False) →
      LeavesInM Fence.wide 0 P fn a'.tmps (fun e w' => ∃ ρ' m' r, Q r m' ∧ EndRel ρ' r e ∧ Rep G m' ρ' w' ∧ Ext m ρ w m' ρ' w') a'.defers .returning w' := by
    rintro ⟨hds, hq⟩
    rw [hnil hds]
    split at hq
    · rename_i l hl
      obtain ⟨v', k1, k2⟩ := results_run hres h4 h3 hl
      exact ⟨v', k2, ρ', s'.m, _, hq, .ret k1, h4, h5⟩
    · exact hq.elim
  cases h2 with
  | normal => exact fin h1
  | exit id => exact h1.elim
  | goto l => exact h1.elim
  | ret => exact fin h1
  | pan hp =>
    obtain ⟨hds, hq⟩ := h1
    show LeavesInM _ _ _ _ _ _ _ _ _
    rw [hnil hds]
    exact ⟨ρ', s'.m, _, hq, .pan hp, h4, h5⟩

end
end Go.AM
