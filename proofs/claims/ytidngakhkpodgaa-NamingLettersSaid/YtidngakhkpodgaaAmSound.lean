/-
  What the abstract machine's transformer says, the model does.
-/
import Derived.Test.YtidngakhkpodgaaAmCode2
set_option linter.unusedVariables false
set_option linter.unusedSimpArgs false
set_option linter.unnecessarySimpa false
namespace Go.AM
set_option linter.unusedVariables false
set_option linter.unusedSimpArgs false

def compGuard (ops : Array Oper) : Option (Nat × Bool) → Option (Option (Nat × Bool))
  | none => some none
  | some (j, b) => match (ops[j]?).bind (·.dst) with
    | some d => some (some (d, b))
    | none => none

def dstOk (N : Nat) : Option Tmp → Bool
  | none => true
  | some d => decide (d < N)

def compIns (P : Program) (G N : Nat) (ops : Array Oper) (o : Oper) : Option AIns :=
  match compGuard ops o.guard with
  | none => none
  | some g =>
    if dstOk N o.dst then
      match o.op with
      | .call { callee := .value (.func f), args, .. } => (compOpds G args.toList).map (.call g o.dst f)
      | .call { callee := .value x, args, .. } => match compOpd G x, compOpds G args.toList with
        | some x, some as => some (.callv g o.dst x as)
        | _, _ => none
      | .call { callee := .builtin .cap, args, argTypes } => match args.toList, argTypes.toList with
        | [x], [t] => match P.underlying t with
          | some (.slice e) => match szOf P e, compOpd G x with
            | some s, some x => if 0 < s then some (.cap g o.dst s x) else none
            | _, _ => none
          | _ => none
        | _, _ => none
      | .panic x => (compOpd G x).map (.panic g o.dst)
      | _ => (compOp P G o).map (.op g o.dst)
    else none

def compList (P : Program) (G N : Nat) (ops : Array Oper) : List Oper → Option (List AIns)
  | [] => some []
  | o :: r => match compIns P G N ops o, compList P G N ops r with
    | some i, some l => some (i :: l)
    | _, _ => none

def preOf (ops : Array Oper) (i : Nat) : List Nat := match ops[i]? with
  | some o => (o.after.toList.filter (Region.binds .any)).map (·.on)
  | none => []

def ancTab (pre : Nat → List Nat) : Nat → List (List Nat)
  | 0 => []
  | j + 1 => let T := ancTab pre j; T ++ [(pre j ++ (pre j).flatMap fun k => T.getD k []).eraseDups]

/-- An order: what floats as early as may be. -/
def dOrder (n : Nat) (ins : Nat → AIns) (anc : Nat → List Nat) : List DIx :=
  let bars := (List.range n).filter fun i => !(ins i).float
  let stage := fun i => ((anc i).filter fun j => !(ins j).float).length
  (List.range (bars.length + 1)).flatMap fun s =>
    (((List.range n).filter fun i => (ins i).float && stage i == s).map .f) ++
    ((bars.filter fun b => stage b == s).map fun b => .b b ((List.range n).filter fun f => (ins f).float && decide (stage f ≤ s) && !(anc b).contains f && !(ins f).indep))

def compDraw (P : Program) (G N : Nat) (ops : Array Oper) : Option (List DItem) :=
  match compList P G N ops ops.toList with
  | none => none
  | some is =>
    let ins := fun i => is.getD i default
    let T := ancTab (preOf ops) ops.size
    let anc := fun i => T.getD i []
    let d := dOrder ops.size ins anc
    if P.follows .mixedOrders && dregs ops.size ins (preOf ops) anc && dok ops.size ins anc [] d then some (d.map (DIx.item ins)) else none

def compCode (P : Program) (G N : Nat) : Code → Option ACode
  | .skip => some .skip
  | .region _ ops false => (compList P G N ops ops.toList).map .reg
  | .region _ ops true => (compDraw P G N ops).map .draw
  | .seq a b => match compCode P G N a, compCode P G N b with | some a, some b => some (.seq a b) | _, _ => none
  | .cond c a b => match compOpd G c, compCode P G N a, compCode P G N b with | some c, some a, some b => some (.cond c a b) | _, _, _ => none
  | .block id a => (compCode P G N a).map (.block id)
  | .loop a => (compCode P G N a).map .loop
  | .exit id => some (.exit id)
  | .ret => some .ret
  | .refuse _ => some .refuse
  | _ => none

/-- The model's post of an abstract one, as seen from a beginning. -/
def QC (G N : Nat) (Q : AExit → ASt → Prop) (m0 : AMem) (ρ0 : Ren) (w0 : World) : Exit → Act → World → Prop := fun e a w =>
  ∃ ρ s e', Q e' s ∧ XRel ρ e' e ∧ SRel N ρ s a ∧ Rep G s.m ρ w ∧ Ext m0 ρ0 w0 s.m ρ w

theorem ex_builtin (ev : Operand → Value) (dst : Option Tmp) (b : Builtin) (xs : Array Operand) (ats : Array TypeId) (ty : TypeId) (pos : String) (after : Array Edge) (guard : Option (Nat × Bool)) :
    ∃ cs, execOp ev ⟨dst, .call { callee := .builtin b, args := xs, argTypes := ats }, ty, pos, after, guard⟩ = builtin b ats ty cs (xs.map ev) := ⟨_, rfl⟩

section
variable {P : Program} {G N : Nat} {m0 : AMem} {ρ0 : Ren} {w0 : World}

theorem evOk {s : ASt} {a : Act} {ρ : Ren} {w : World} (hR : Rep G s.m ρ w) (hS : SRel N ρ s a) : EvOk G ρ s.t a := by
  intro x y h
  cases x with
  | tmp t =>
    simp [compOpd] at h
    subst h
    exact hS.tmps t
  | const v =>
    simp [compOpd] at h
    obtain ⟨h1, rfl⟩ := h
    exact plain_of2 h1 ρ
  | global g =>
    simp [compOpd] at h
    obtain ⟨h1, rfl⟩ := h
    obtain ⟨L, h2, h3, h4⟩ := hR.glob g h1
    have := VRel.ptr (o := 0) h2
    rw [h3, h4] at this
    exact this
  | func f =>
    simp [compOpd] at h
    subst h
    exact Plain.func f ρ

theorem SRel.put {s : ASt} {a : Act} {ρ ρ' : Ren} (hS : SRel N ρ s a) (hr : ρ.le ρ') {dst : Option Nat} (hd : dstOk N dst = true) {v v' : Value} (hv : VRel ρ' v v') {m : AMem} :
    SRel N ρ' { s with t := updO s.t dst v, m := m } (a.put dst v') := by
  cases dst with
  | none => exact ⟨hS.size, fun i => (hS.tmps i).mono hr, hS.ds.mono hr⟩
  | some d =>
    have hd' : d < N := by simpa [dstOk] using hd
    refine ⟨by simp [Act.put, hS.size], fun i => ?_, hS.ds.mono hr⟩
    have hsz := hS.size
    by_cases hi : i = d
    · subst hi
      have hlt : i < a.tmps.size := by rw [hsz]; exact hd'
      simp only [updO, upd, if_true, Act.put]
      simp [Array.getD_eq_getD_getElem?, Array.getElem?_setIfInBounds, hlt]
      exact hv
    · simp only [updO, upd, if_neg hi, Act.put]
      simp only [Array.getD_eq_getD_getElem?, Array.getElem?_setIfInBounds, if_neg (Ne.symm hi)]
      have := (hS.tmps i).mono hr
      simpa [Array.getD_eq_getD_getElem?] using this

theorem SRel.mono {s : ASt} {a : Act} {ρ ρ' : Ren} (hS : SRel N ρ s a) (hr : ρ.le ρ') (m : AMem) : SRel N ρ' { s with m := m } a :=
  ⟨hS.size, fun i => (hS.tmps i).mono hr, hS.ds.mono hr⟩

theorem wanted_ok {s : ASt} {a : Act} {ρ : Ren} (hS : SRel N ρ s a) {ops : Array Oper} {o : Oper} {g : Option (Nat × Bool)} (hg : compGuard ops o.guard = some g) :
    Region.wanted o (yielded ops a.tmps) = wanted g s.t := by
  unfold compGuard at hg
  split at hg
  · rename_i h
    simp at hg; subst hg
    simp [Region.wanted, h, wanted]
  · rename_i j b h
    split at hg <;> simp at hg
    rename_i d hd
    subst hg
    simp only [Region.wanted, h, wanted, yielded, hd, Option.bind_some]
    have hv := hS.tmps d
    by_cases hlt : d < a.tmps.size
    · have : a.tmps[d]? = some (a.tmps.getD d undef) := by simp [Array.getD_eq_getD_getElem?, hlt]
      rw [this]
      generalize a.tmps.getD d undef = v' at hv
      generalize s.t d = v at hv
      cases hv <;> simp
    · have h1 : a.tmps[d]? = none := Array.getElem?_eq_none (Nat.le_of_not_lt hlt)
      rw [h1]
      have h2 : a.tmps.getD d undef = undef := by simp [Array.getD_eq_getD_getElem?, h1]
      rw [h2] at hv
      generalize s.t d = v at hv
      unfold undef at hv
      cases hv
      simp

/-- One wanted instruction. -/
theorem WI1_ok {Q : AExit → ASt → Prop} {K : ASt → Prop} {next : Act → World → Prop} {ops : Array Oper} {o : Oper} {i : AIns} (hi : compIns P G N ops o = some i) {s : ASt} {a : Act} {ρ : Ren} {w : World}
    (hR : Rep G s.m ρ w) (hS : SRel N ρ s a) (hE : Ext m0 ρ0 w0 s.m ρ w) (hK : ∀ s' a' ρ' w', K s' → Rep G s'.m ρ' w' → SRel N ρ' s' a' → Ext m0 ρ0 w0 s'.m ρ' w' → next a' w')
    (h : WI1 P G i K Q s) : o.wp P a w next (QC G N Q m0 ρ0 w0) := by
  have hev := evOk hR hS
  unfold compIns at hi
  split at hi <;> try (simp at hi; done)
  rename_i g hg
  split at hi <;> try (simp at hi; done)
  rename_i hd
  -- a call, once its arguments are known
  have call : ∀ (f : FuncId) (args : List Value) (args' : Array Value), LRel ρ args args'.toList → (execOp a.eval o).run P w = (callFunc f args').run P w → ACall P G f args s.m (CallK o.dst s K Q) →
      o.wp P a w next (QC G N Q m0 ρ0 w0) := by
    intro f args args' hA hrun hcall
    have := hcall ρ w args' hR hA
    unfold Oper.wp
    rw [hrun]
    split at this
    · rename_i f' as w1 he
      rw [he]
      simp only [Oper.upon]
      refine this.mono fun e w' hh => ?_
      obtain ⟨ρ', m', r, h1, h2, h3, h4⟩ := hh
      cases h2 with
      | ret hv => exact hK _ _ _ _ h1 h3 (hS.put h4.ren hd hv) (hE.trans h4)
      | pan hp => exact ⟨ρ', { s with m := m' }, _, h1, .pan hp, hS.mono h4.ren _, h3, hE.trans h4⟩
    · rename_i v w' he
      rw [he]
      simp only [Oper.upon]
      obtain ⟨ρ', m', r, h1, h2, h3, h4⟩ := this
      cases h2 with
      | ret hv => exact hK _ _ _ _ h1 h3 (hS.put h4.ren hd hv) (hE.trans h4)
    · exact this.elim
  have plain : ∀ ap, compOp P G o = some ap → i = .op g o.dst ap → o.wp P a w next (QC G N Q m0 ρ0 w0) := by
    intro ap hap he
    subst he
    simp only [WI1] at h
    split at h <;> try exact h.elim
    rename_i v m' hs
    obtain ⟨ρ', w', v', h1, h2, h3, h4⟩ := step_ok hR hev hap hs
    unfold Oper.wp
    rcases h1 with h1 | ⟨h1, hdn⟩
    · rw [h1]
      exact hK _ _ _ _ h h3 (hS.put h4.ren hd h2) (hE.trans h4)
    · rw [h1]
      rw [hdn] at h
      simp only [Oper.upon, hdn, Act.put]
      exact hK _ _ _ _ h h3 ⟨hS.size, fun i => (hS.tmps i).mono h4.ren, hS.ds.mono h4.ren⟩ (hE.trans h4)
  obtain ⟨dst, op, ty, pos, after, guard⟩ := o
  simp only at hi hd plain call
  split at hi
  · -- a call of a function
    rename_i f args tys
    obtain ⟨as, has, rfl⟩ := map_some' hi
    have hm := compOpds_map hev _ _ has
    refine call f _ (args.map a.eval) (by simpa using hm) ?_ h
    simp [execOp, resolve, Deferred.ofValue, Act.eval, invoke]
  · rename_i x args tys hnf
    split at hi <;> simp at hi
    rename_i x1 as hx has
    subst hi
    simp only [WI1] at h
    split at h <;> try exact h.elim
    rename_i f first captured hxv
    have hm := compOpds_map hev _ _ has
    have hv := hev _ _ hx
    rw [hxv] at hv
    obtain ⟨first', captured', e1, e2, e3⟩ : ∃ first' captured', a.eval x = .func (.func f) first' captured' ∧ ARel ρ first first' ∧ ARel ρ captured captured' := by
      generalize a.eval x = x' at hv
      cases hv with
      | func f x x' y y' hx hy h k => exact ⟨_, _, rfl, ⟨hx, h⟩, ⟨hy, k⟩⟩
    refine call f _ (first' ++ args.map a.eval ++ captured') ?_ ?_ h
    · simp only [Array.toList_append, Array.toList_map]
      exact (e2.toList.append hm).append e3.toList
    · simp [execOp, resolve, Deferred.ofValue, e1, invoke]
  · -- cap
    rename_i args tys
    split at hi <;> try (simp at hi; done)
    rename_i x T hargs htys
    split at hi <;> try (simp at hi; done)
    rename_i e hu
    split at hi <;> try (simp at hi; done)
    rename_i sz x1 hsz hx
    split at hi <;> simp at hi
    rename_i h0
    subst hi
    simp only [WI1] at h
    have hv := hev _ _ hx
    have hargs' : args = #[x] := by rw [← Array.toList_inj]; simpa using hargs
    have htys' : tys = #[T] := by rw [← Array.toList_inj]; simpa using htys
    subst hargs' htys'
    generalize hX : x1.ev s.t = X at hv h
    have run : ∀ (A : Option Addr) (l c : Nat), a.eval x = .slice A l c → (execOp a.eval ⟨dst, .call { callee := .builtin .cap, args := #[x], argTypes := #[T] }, ty, pos, after, guard⟩).run P w = .ok (.value (.int .i64 c)) w := by
      intro A l c he
      obtain ⟨cs, hex⟩ : ∃ cs, execOp a.eval ⟨dst, .call { callee := .builtin .cap, args := #[x], argTypes := #[T] }, ty, pos, after, guard⟩ = builtin .cap #[T] ty cs (#[x].map a.eval) := ex_builtin _ _ _ _ _ _ _ _ _
      rw [hex]
      simp only [List.map_toArray, List.map, he]
      show ((do pure (.value (← Builtin.cap_ #[T] ty #[.slice A l c])) : Sem Next)).run P w = _
      simp [Builtin.cap_, run_underlying hu, goInt]
    unfold capW at h
    unfold Oper.wp
    split at h <;> try exact h.elim
    · rename_i l c
      have he : a.eval x = .slice none l c := by generalize a.eval x = x' at hv; cases hv; rfl
      rw [run _ _ _ he]
      exact hK _ _ _ _ h.2 hR (hS.put (Ren.le.refl _) hd (.int _ _)) hE
    · rename_i b o l c
      split at h
      · rename_i hc
        subst hc
        split at h <;> try exact h.elim
        rename_i cells e' wb sp hm
        have hcase : (∃ L c', a.eval x = .slice (some ⟨L.cb, L.co + o, none⟩) l c' ∧ ρ b = some L ∧ c' * L.sz + o = L.cc) ∨ (∃ L a', a.eval x = .slice (some a') 0 0 ∧ ρ b = some L ∧ L.cc = o) := by
          generalize a.eval x = x' at hv
          cases hv with
          | slice hL hc => exact absurd rfl (Nat.ne_of_lt hc)
          | sliceOpen hL hc hsz => exact .inl ⟨_, _, rfl, hL, hc⟩
          | sliceEnd hL hc =>
            rcases hc with hc | hc
            · have : (0 : Nat) < openCap := openCap_lt (by omega)
              omega
            · exact .inr ⟨_, _, rfl, hL, hc.2⟩
        split at h <;> try exact h.elim
        · -- full
          rename_i k
          obtain ⟨hk, hKK⟩ := h
          subst hk
          rcases hcase with ⟨L, c', he, hL, hc⟩ | ⟨L, a', he, hL, hcc⟩
          · obtain ⟨carr, frz, hB⟩ := hR.blk hL hm
            obtain ⟨f1, f2, f3⟩ := hB.full k rfl
            rw [run _ _ _ he]
            have : c' = (cells.length - o) / k := by
              rw [f2, f1] at hc
              rw [← hc, Nat.add_sub_cancel, Nat.mul_div_cancel _ f3]
            rw [this]
            exact hK _ _ _ _ hKK hR (hS.put (Ren.le.refl _) hd (.int _ _)) hE
          · obtain ⟨carr, frz, hB⟩ := hR.blk hL hm
            obtain ⟨f1, f2, f3⟩ := hB.full k rfl
            rw [run _ _ _ he]
            have : 0 = (cells.length - o) / k := by rw [show cells.length - o = 0 by omega]; simp
            rw [this]
            exact hK _ _ _ _ hKK hR (hS.put (Ren.le.refl _) hd (.int _ _)) hE
        · -- room
          rename_i z
          obtain ⟨hz1, hz2, hz3, hz4, hz5, hKK⟩ := h
          subst hz4
          have main : ∀ (L : Loc) (c' : Nat), ρ b = some L → c' * sz + o = L.cc → a.eval x = .slice (match a.eval x with | .slice A _ _ => A | _ => none) (match a.eval x with | .slice _ l _ => l | _ => 0) c' →
              Oper.upon P ⟨dst, .call { callee := .builtin .cap, args := #[x], argTypes := #[T] }, ty, pos, after, guard⟩ a next (QC G N Q m0 ρ0 w0)
                ((execOp a.eval ⟨dst, .call { callee := .builtin .cap, args := #[x], argTypes := #[T] }, ty, pos, after, guard⟩).run P w) := by
            intro L c' hL hc he
            obtain ⟨carr, frz, hB⟩ := hR.blk hL hm
            obtain ⟨q1, q2, q3, q4, q5, q6⟩ := hB.spare z rfl
            have hLs : L.sz = sz := by omega
            rw [run _ _ _ he]
            have hlen := hB.len
            rw [hLs] at q3 q4 q6
            -- cells.length = o + p * sz, L.cc = o + c' * sz
            obtain ⟨p, hp⟩ : ∃ p, cells.length - o = p * sz := by
              refine ⟨(cells.length - o) / sz, (Nat.div_mul_cancel ?_).symm⟩
              exact (Nat.dvd_sub (Nat.dvd_of_mod_eq_zero q3) (Nat.dvd_of_mod_eq_zero hz3))
            have hdiv : (cells.length - o) / sz = p := by rw [hp, Nat.mul_div_cancel _ hz2]
            have hpc : p ≤ c' := by
              have : p * sz ≤ c' * sz := by omega
              exact Nat.le_of_mul_le_mul_right this hz2
            have hK' := hKK (c' - p)
            rw [hdiv, show p + (c' - p) = c' by omega] at hK'
            have hreplen : (rep z (c' - p)).length = (c' - p) * sz := by rw [rep_length, hz1]
            have htot : (cells ++ rep z (c' - p)).length = L.cc := by
              rw [List.length_append, hreplen, Nat.sub_mul]
              have : p * sz ≤ c' * sz := Nat.mul_le_mul_right _ hpc
              omega
            refine hK _ _ ρ w hK' ?_ (hS.put (Ren.le.refl _) hd (.int _ _)) ?_
            · refine hR.set hL (BlkAt.obj (carr := carr) (frz := frz) ⟨hB.heap, hB.size, by omega, (fun hh => by cases hh), (fun k hh => by cases hh; exact ⟨htot.symm, hLs, hz2⟩), fun j hj => ?_, (fun z' hh => by cases hh), hB.free⟩) (by rw [hm]; rfl) (by rw [hm]; rfl) (fun _ => by rw [hm]; rfl) (fun _ _ _ => rfl)
              by_cases hjl : j < cells.length
              · rw [List.getElem_append_left hjl]; exact hB.cell j hjl
              · rw [List.getElem_append_right (by omega), q6 j (by omega) (by omega)]
                have hjr : j - cells.length < (c' - p) * z.length := by
                  have hj2 := hj
                  rw [List.length_append, hreplen] at hj2
                  rw [hz1]; omega
                have h5 := rep_get z (c' - p) (j - cells.length) hjr
                have hmod : (j - cells.length) % z.length = j % sz := by
                  rw [hz1]
                  obtain ⟨qq, hqq⟩ : ∃ qq, cells.length = qq * sz := ⟨cells.length / sz, by rw [Nat.div_mul_cancel (Nat.dvd_of_mod_eq_zero q3)]⟩
                  obtain ⟨r, hr⟩ : ∃ r, j = qq * sz + r := ⟨j - qq * sz, by omega⟩
                  rw [hqq, hr, show qq * sz + r - qq * sz = r by omega, Nat.add_comm, Nat.add_mul_mod_self_right]
                rw [hmod] at h5
                have h6 : (rep z (c' - p))[j - cells.length]'(by rw [rep_length]; exact hjr) = z.getD (j % sz) undef := by
                  rw [← h5]
                  simp [List.getD_eq_getElem?_getD, List.getElem?_eq_getElem (show j - cells.length < (rep z (c' - p)).length by rw [rep_length]; exact hjr)]
                rw [h6]
                have hzm : j % sz < z.length := by rw [hz1]; exact Nat.mod_lt _ hz2
                have : z.getD (j % sz) undef ∈ z := by
                  rw [List.getD_eq_getElem?_getD, List.getElem?_eq_getElem hzm]
                  exact List.getElem_mem hzm
                exact q5 _ this ρ
            · exact hE.trans (Ext.set hR hL (by rw [hm]; rfl) (fun _ _ _ => rfl) rfl rfl rfl (Nat.le_refl _))
          rcases hcase with ⟨L, c', he, hL, hc⟩ | ⟨L, a', he, hL, hcc⟩
          · obtain ⟨carr, frz, hB⟩ := hR.blk hL hm
            have hLs : L.sz = sz := by have := (hB.spare z rfl).1; omega
            rw [hLs] at hc
            exact main L c' hL hc (by rw [he])
          · exact main L 0 hL (by omega) (by rw [he])
      · rename_i hc
        have he : ∃ A, a.eval x = .slice A l c := by
          generalize a.eval x = x' at hv
          cases hv with
          | slice hL _ => exact ⟨_, rfl⟩
          | sliceOpen hL _ _ => exact absurd rfl hc
          | sliceEnd hL hcc => rcases hcc with hcc | hcc; subst hcc; exact ⟨_, rfl⟩; exact absurd hcc.1 hc
        obtain ⟨A, he⟩ := he
        rw [run _ _ _ he]
        exact hK _ _ _ _ h hR (hS.put (Ren.le.refl _) hd (.int _ _)) hE
  · -- panic
    rename_i x
    obtain ⟨x1, hx, rfl⟩ := map_some' hi
    simp only [WI1] at h
    split at h <;> try exact h.elim
    rename_i T v hxv
    have hv := hev _ _ hx
    rw [hxv] at hv
    obtain ⟨v', e1, e2⟩ : ∃ v', a.eval x = .iface T v' ∧ VRel ρ v v' := by
      generalize a.eval x = x' at hv
      cases hv; exact ⟨_, rfl, ‹_›⟩
    have hrun : (execOp a.eval ⟨dst, .panic x, ty, pos, after, guard⟩).run P w = .halt (.panic (.iface T v')) w := by
      simp [execOp, e1, Instr.panic]
    unfold Oper.wp
    rw [hrun]
    refine ⟨ρ, s, _, h, .pan ⟨rfl, fun i h1 h2 => ?_⟩, hS, hR, hE⟩
    have : i = 0 := by simp at h1; omega
    subst this
    exact ⟨.iface T e2, rfl, rfl⟩
  · obtain ⟨ap, hap, rfl⟩ := map_some' hi
    exact plain ap hap rfl

theorem compIns_guard {ops : Array Oper} {o : Oper} {i : AIns} (hi : compIns P G N ops o = some i) : compGuard ops o.guard = some i.guard ∧ i.dst = o.dst ∧ dstOk N o.dst = true := by
  unfold compIns at hi
  split at hi <;> try (simp at hi; done)
  rename_i g hg
  split at hi <;> try (simp at hi; done)
  rename_i hd
  refine ⟨?_, ?_, hd⟩
  all_goals
    split at hi
    · obtain ⟨as, has, rfl⟩ := map_some' hi
      first | exact hg | exact rfl
    · split at hi <;> simp at hi
      subst hi
      first | exact hg | exact rfl
    · split at hi <;> try (simp at hi; done)
      split at hi <;> try (simp at hi; done)
      split at hi <;> try (simp at hi; done)
      split at hi <;> simp at hi
      subst hi
      first | exact hg | exact rfl
    · obtain ⟨as, has, rfl⟩ := map_some' hi
      first | exact hg | exact rfl
    · obtain ⟨as, has, rfl⟩ := map_some' hi
      first | exact hg | exact rfl

end
end Go.AM
