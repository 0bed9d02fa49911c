/- Graphs: Sort. -/
import Derived.Test.YtgkmlbkocgjmmaaDoorB2
import Derived.Test.YtgkmlbkocgjmmaaDoorA4
import Derived.Test.YtgkmlbkocgjmmaaDoorDrvF
set_option linter.unusedVariables false
set_option linter.unusedSimpArgs false
set_option linter.unnecessarySimpa false
namespace Go.Proofs.YtgkmlbkocgjmmaaDoor
open Go Go.AM
set_option linter.unusedVariables false
set_option linter.unusedSimpArgs false
set_option maxHeartbeats 2000000
set_option maxRecDepth 100000

def iV (k : Nat) : Value := .int .i64 (k : Nat)
/-- Numbers as they are put together. -/
def IntB (M : AMem) (v : Value) (ls : List Nat) : Prop := (ls = [] ∧ v = .slice none 0 0) ∨ ∃ b, v = .slice (some ⟨b, 0, none⟩) ls.length openCap ∧ b < M.size ∧ M.get b = .cells (ls.map iV) 3 true (.room [.int .i64 0])
theorem IntB.len {M : AMem} {v : Value} {ls : List Nat} (h : IntB M v ls) : ∃ a cap, v = .slice a ls.length cap := by
  rcases h with ⟨rfl, rfl⟩ | ⟨b, rfl, _⟩
  · exact ⟨_, _, rfl⟩
  · exact ⟨_, _, rfl⟩
theorem IntB.keep {M M' : AMem} {v : Value} {ls : List Nat} (h : IntB M v ls) {O : Nat → Prop} (hk : Keep O M M') (hv : ∀ x, ownV v x → ¬ O x) : IntB M' v ls := by
  rcases h with h | ⟨b, rfl, h1, h2⟩
  · exact .inl h
  · exact .inr ⟨b, rfl, Nat.lt_of_lt_of_le h1 hk.1, by rw [hk.2 b h1 (hv b ⟨_, _, _, rfl⟩)]; exact h2⟩
theorem IntB.old {M M' : AMem} {v : Value} {ls : List Nat} (h : IntB M v ls) (ho : Old M M') : IntB M' v ls := h.keep (ho.keep fun _ => False) fun _ _ h => h
theorem eqPL_i0 : eqPL [Value.int .i64 0] [Value.int .i64 0] = true := by decide
/-- One more. -/
theorem IntB.app {M : AMem} {v : Value} {ls : List Nat} {nb : Nat} {k : Nat} (h : IntB M v ls) (hn : ls.length ≤ 1000000) (hb : nb < M.size) {e : TypeId} {w : Bool} {sp : Spare} (hr : M.get nb = .cells [iV k] e w sp) :
    ∃ v' M', appV 3 1 8 [.int .i64 0] v (.slice (some ⟨nb, 0, none⟩) 1 1) (mx M []) = some (v', mx M' []) ∧ IntB M' v' (ls ++ [k]) ∧ Keep (ownV v) M M' ∧ ∀ x, ownV v' x → M.size ≤ x := by
  have hs : srcCells 1 1 (.slice (some ⟨nb, 0, none⟩) 1 1) (mx M []) = some [iV k] := by rw [srcCells_slice (Nat.le_refl _), rd_def, mx_old hb, hr]; rfl
  have happ : appV 3 1 8 [.int .i64 0] v (.slice (some ⟨nb, 0, none⟩) 1 1) (mx M []) = appendTo 3 1 8 [.int .i64 0] v 1 [iV k] (mx M []) := by
    simp only [appV, srcLen_slice, hs]
    rw [if_pos ⟨rfl, by omega, rfl, rfl⟩]
  rw [happ]
  rcases h with ⟨rfl, rfl⟩ | ⟨b, rfl, hb2, h2⟩
  · refine ⟨.slice (some ⟨M.size, 0, none⟩) 1 openCap, mx M [.cells [iV k] 3 true (.room [.int .i64 0])], ?_, .inr ⟨M.size, rfl, by rw [mx_size]; simp, mx_new0 _ _⟩, (Keep.refl _ _).mx _, fun x ⟨o, l, c, h⟩ => by cases h; exact Nat.le_refl _⟩
    rw [appendTo_nil (by omega) (by omega) (by omega), mx_push, mx_nil_size, mx_mx]; rfl
  · refine ⟨.slice (some ⟨M.size, 0, none⟩) (ls.length + 1) openCap, mx (M.set b .dead) [.cells ((ls ++ [k]).map iV) 3 true (.room [.int .i64 0])], ?_, .inr ⟨M.size, by simp, by rw [mx_size, AMem.size_set]; simp, ?_⟩, ((Keep.refl _ M).set (fun _ => ⟨_, _, _, rfl⟩) _).mx _, fun x ⟨o, l, c, hx⟩ => by cases hx; exact Nat.le_refl _⟩
    · rw [appendTo_open (sz := 1) (z' := [.int .i64 0]) ((mx_old hb2).trans h2) eqPL_i0 rfl (by omega) (by simp) (by omega) (by omega) (by omega), mx_set_old hb2, mx_push, mx_nil_size, mx_mx, List.map_append]; rfl
    · have := mx_new0 (M.set b .dead) [.cells ((ls ++ [k]).map iV) 3 true (.room [.int .i64 0])]
      rw [AMem.size_set] at this; exact this

/-- The first that may be done. -/
def nextR (names : List (List UInt8)) (needs : List (List (List UInt8))) (done : List Bool) : Option Nat := (List.range names.length).find? (readyR names needs done)
def sortF (names : List (List UInt8)) (needs : List (List (List UInt8))) : Nat → List Bool → List Nat → List Nat
  | 0, _, out => out
  | n + 1, done, out => match nextR names needs done with | some i => sortF names needs n (done.set i true) (out ++ [i]) | none => out
def sortO (names : List (List UInt8)) (needs : List (List (List UInt8))) : List Nat := sortF names needs names.length (List.replicate names.length false) []
def sortR (names : List (List UInt8)) (needs : List (List (List UInt8))) : List Nat × Int :=
  if names.Nodup then (if (sortO names needs).length < names.length then ([], 240) else (sortO names needs, 0)) else ([], 151)
theorem next_some {names : List (List UInt8)} {needs : List (List (List UInt8))} {done : List Bool} {i : Nat} (h : nextR names needs done = some i) : i < names.length ∧ readyR names needs done i = true := by
  unfold nextR at h
  have h1 := List.mem_of_find?_eq_some h
  have h2 := List.find?_some h
  exact ⟨List.mem_range.1 h1, h2⟩
theorem next_of {names : List (List UInt8)} {needs : List (List (List UInt8))} {done : List Bool} {i : Nat} (hi : i < names.length) (hr : readyR names needs done i = true) (hb : ∀ j, j < i → readyR names needs done j = false) : nextR names needs done = some i := by
  unfold nextR
  rw [List.find?_eq_some_iff_getElem]
  refine ⟨hr, i, by simpa using hi, by simp, fun j hj => by simp [hb j hj]⟩
theorem next_none {names : List (List UInt8)} {needs : List (List (List UInt8))} {done : List Bool} (hb : ∀ j, j < names.length → readyR names needs done j = false) : nextR names needs done = none := by
  unfold nextR
  rw [List.find?_eq_none]
  intro x hx
  rw [List.mem_range] at hx
  simp [hb x hx]
theorem ready_not {names : List (List UInt8)} {needs : List (List (List UInt8))} {done : List Bool} {i : Nat} (hi : i < done.length) (h : readyR names needs done i = true) : done[i] = false := by
  unfold readyR at h
  simp [List.getD, hi] at h
  exact h.1
theorem count_set : ∀ {done : List Bool} {i : Nat} (hi : i < done.length), done[i] = false → (done.set i true).count false + 1 = done.count false
  | b :: l, 0, _, h => by simp at h; subst h; simp
  | b :: l, i + 1, hi, h => by
    have := count_set (done := l) (i := i) (by simpa using hi) (by simpa using h)
    simp only [List.set_cons_succ, List.count_cons]; omega
/-- How the order comes about. -/
inductive Runs (names : List (List UInt8)) (needs : List (List (List UInt8))) : List Bool → List Nat → List Nat → Prop
  | stop {done : List Bool} {out : List Nat} : nextR names needs done = none → Runs names needs done out out
  | go {done : List Bool} {out res : List Nat} {i : Nat} : nextR names needs done = some i → Runs names needs (done.set i true) (out ++ [i]) res → Runs names needs done out res
theorem Runs.eq {names : List (List UInt8)} {needs : List (List (List UInt8))} {done : List Bool} {out res : List Nat} (h : Runs names needs done out res) : done.length = names.length → ∀ k, done.count false ≤ k → res = sortF names needs k done out := by
  induction h with
  | stop hn => intro _ k hk; cases k with
    | zero => rfl
    | succ k => simp only [sortF, hn]
  | go hn _ ih =>
    intro hl k hk
    obtain ⟨h1, h2⟩ := next_some hn
    have h3 := ready_not (by omega) h2
    have h4 := count_set (by omega) h3
    cases k with
    | zero => omega
    | succ k =>
      simp only [sortF, hn]
      exact ih (by rw [List.length_set]; exact hl) k (by omega)
end Go.Proofs.YtgkmlbkocgjmmaaDoor
namespace Go.Proofs.YtgkmlbkocgjmmaaDoor
open Go Go.AM
set_option linter.unusedVariables false
set_option linter.unusedSimpArgs false
set_option maxHeartbeats 2000000
set_option maxRecDepth 100000

/-- The state within Sort. -/
structure SortS (m0 M : AMem) (np bp r dp db : Nat) (names : List (List UInt8)) (na : Option Addr) (nc : Nat) (needs : List (List (List UInt8))) (done : List Bool) (ov : Value) (out : List Nat) : Prop where
  old : Old m0 M
  npl : np < M.size
  npg : M.get np = .cells [.slice na needs.length nc] 38 true .exact
  bpl : bp < M.size
  bpg : M.get bp = .cells [.map (some r)] 72 true .exact
  map : MapAt M r (mapF names)
  dn : DoneAt M dp db done
  len : done.length = names.length
  ints : IntB M ov out
  own : ∀ x, ownV ov x → np < x ∧ bp < x ∧ r < x ∧ dp < x ∧ db < x
  lo : m0.size ≤ np ∧ m0.size ≤ bp ∧ m0.size ≤ r ∧ m0.size ≤ dp ∧ m0.size ≤ db
  dist : db ≠ np ∧ db ≠ bp ∧ db ≠ r
theorem SortS.more {m0 M M' : AMem} {np bp r dp db : Nat} {names : List (List UInt8)} {na : Option Addr} {nc : Nat} {needs : List (List (List UInt8))} {done : List Bool} {ov : Value} {out : List Nat} (h : SortS m0 M np bp r dp db names na nc needs done ov out) (ho : Old M M') : SortS m0 M' np bp r dp db names na nc needs done ov out :=
  ⟨h.old.trans ho, Nat.lt_of_lt_of_le h.npl ho.1, by rw [ho.2 _ h.npl]; exact h.npg, Nat.lt_of_lt_of_le h.bpl ho.1, by rw [ho.2 _ h.bpl]; exact h.bpg, h.map.old ho, h.dn.old ho, h.len, h.ints.old ho, h.own, h.lo, h.dist⟩
/-- One is done, and stands behind the others. -/
theorem SortS.next {m0 M : AMem} {np bp r dp db : Nat} {names : List (List UInt8)} {na : Option Addr} {nc : Nat} {needs : List (List (List UInt8))} {done : List Bool} {ov : Value} {out : List Nat} (h : SortS m0 M np bp r dp db names na nc needs done ov out) (ho : out.length ≤ 1000000) {i : Nat} (hi : i < done.length) :
    ∃ v' M', appV 3 1 8 [.int .i64 0] ov (.slice (some ⟨M.size, 0, none⟩) 1 1) (mx (M.set db (.cells ((done.set i true).map .bool) 4 true .exact)) [.cells [iV i] 3 true .exact]) = some (v', mx M' []) ∧ SortS m0 M' np bp r dp db names na nc needs (done.set i true) v' (out ++ [i]) := by
  have hd := h.dn
  have hodb : ¬ ownV ov db := fun e => by have := (h.own db e).2.2.2.2; omega
  have hI : IntB (M.set db (.cells ((done.set i true).map .bool) 4 true .exact)) ov out := h.ints.keep ((Keep.refl (fun x => x = db) M).set (fun _ => rfl) _) fun x hx e => by subst e; exact hodb hx
  have hz : (M.set db (.cells ((done.set i true).map .bool) 4 true .exact)).size = M.size := rfl
  generalize hM1 : M.set db (.cells ((done.set i true).map .bool) 4 true .exact) = M1 at hI hz
  obtain ⟨v', M', h1, h2, h3, h4⟩ := (hI.old (Old.here M1 [.cells [iV i] 3 true .exact])).app (nb := M1.size) (k := i) ho (by rw [mx_size]; simp) (mx_new0 _ _)
  rw [mx_mx, List.append_nil, hz] at h1
  have hs := h3.1
  rw [mx_size] at hs
  simp only [List.length_cons, List.length_nil] at hs
  -- what is elsewhere
  have hk : ∀ y, y < M.size → y ≠ db → ¬ ownV ov y → M'.get y = M.get y := fun y hy hne hno => by
    rw [h3.2 y (by rw [mx_size]; omega) hno, mx_old (by omega), ← hM1, AMem.get_set_ne _ _ hne]
  have hkd : M'.get db = .cells ((done.set i true).map .bool) 4 true .exact := by
    rw [h3.2 db (by rw [mx_size]; have := hd.dlt; omega) hodb, mx_old (by have := hd.dlt; omega), ← hM1, AMem.get_set_self]
  obtain ⟨l1, l2, l3, l4, l5⟩ := h.lo
  obtain ⟨d1, d2, d3⟩ := h.dist
  have nn : ¬ ownV ov np := fun e => by have := (h.own np e).1; omega
  have nb : ¬ ownV ov bp := fun e => by have := (h.own bp e).2.1; omega
  have nr : ¬ ownV ov r := fun e => by have := (h.own r e).2.2.1; omega
  have nd : ¬ ownV ov dp := fun e => by have := (h.own dp e).2.2.2.1; omega
  have hsz : M.size ≤ M'.size := by omega
  refine ⟨v', M', h1, ⟨⟨Nat.le_trans h.old.1 hsz, fun y hy => ?_⟩, Nat.lt_of_lt_of_le h.npl hsz, by rw [hk _ h.npl (Ne.symm d1) nn]; exact h.npg, Nat.lt_of_lt_of_le h.bpl hsz, by rw [hk _ h.bpl (Ne.symm d2) nb]; exact h.bpg,
    h.map.keep hsz (hk _ h.map.1 (Ne.symm d3) nr), ⟨Nat.lt_of_lt_of_le hd.lt hsz, ?_, Nat.lt_of_lt_of_le hd.dlt hsz, hkd, hd.ne⟩, by rw [List.length_set]; exact h.len, h2, fun x hx => ?_, h.lo, h.dist⟩⟩
  · rw [hk y (by have := h.old.1; omega) (by omega) (fun e => by have := (h.own y e).1; omega)]; exact h.old.2 y hy
  · rw [hk _ hd.lt hd.ne nd, List.length_set]; exact hd.get
  · have := h4 x hx
    rw [mx_size] at this
    have e1 := h.npl; have e2 := h.bpl; have e3 := h.map.1; have e4 := hd.lt; have e5 := hd.dlt
    omega
theorem cellsOf_map (x : Option Nat) : cellsOf (.map x) = some [.map x] := rfl
/-- What stands behind the label. -/
def F22_X : ACode := F22_c0.tl.tl.tl.tl.tl.tl
theorem F22_c_cut : F22_c0 = .seq F22_c0.hd (.seq F22_c0.tl.hd (.seq F22_c0.tl.tl.hd (.seq F22_c0.tl.tl.tl.hd (.seq F22_c0.tl.tl.tl.tl.hd (.seq (.label 0) F22_X))))) := rfl
theorem F22_r_cut : F22_r0 = .seq .skip F22_X := rfl
theorem sort_pass (m M : AMem) (a : Option Addr) (c : Nat) (names : List (List UInt8)) (na : Option Addr) (nc : Nat) (needs : List (List (List UInt8))) (bp : Nat) (done : List Bool) (ov : Value) (out : List Nat) (t : Tmps) (hl : names.length ≤ 100000) (hnl : needs.length ≤ 1000000) (hN : NeedsR m na needs)
    (hS : SortS m M m.size bp (m.size + 1) (bp + 2) (bp + 1) names na nc needs done ov out) (u0 : t 0 = .slice a names.length c) (u8 : t 8 = .pointer (some ⟨bp + 2, 0, none⟩)) (u9 : t 9 = ov) (u10 : t 10 = .func (.func 48) #[] #[.pointer (some ⟨bp + 2, 0, none⟩), .pointer (some ⟨m.size, 0, none⟩), .pointer (some ⟨bp, 0, none⟩)])
    (hnd : names.Nodup) (hruns : ∀ res, Runs names needs done out res → Runs names needs (List.replicate names.length false) [] res) (hcnt : out.length + done.count false = names.length) (Jk : ASt → Prop)
    (hJ : ∀ (i : Nat) (t' : Tmps) (M' : AMem) (ov' : Value), nextR names needs done = some i → t' 0 = .slice a names.length c → t' 8 = .pointer (some ⟨bp + 2, 0, none⟩) → t' 9 = ov' → t' 10 = .func (.func 48) #[] #[.pointer (some ⟨bp + 2, 0, none⟩), .pointer (some ⟨m.size, 0, none⟩), .pointer (some ⟨bp, 0, none⟩)] →
      SortS m M' m.size bp (m.size + 1) (bp + 2) (bp + 1) names na nc needs (done.set i true) ov' (out ++ [i]) → Jk ⟨t', mx M' [], []⟩) :
    W Tryd.prog 3 F22_X (JumpK 0 Jk (RetK F22.res fun r m' => ∃ v, r = .ret v ∧ (m.size ≤ m'.size → Old m m' ∧ ∃ v', v = .tuple #[v', .int .i64 (sortR names needs).2] ∧ IntB m' v' (sortR names needs).1))) ⟨t, mx M [], []⟩ := by
  obtain ⟨oa, oc, rfl⟩ := hS.ints.len
  have hol : out.length ≤ names.length := by omega
  simp (implicitDefEqProofs := false) (maxSteps := 1000000) (disch := first | omega | with_reducible assumption | (simp only [lenT, Nat.reduceAdd]; omega)) only [amT, cut, bnd, Nat.reduceBEq, reduceCtorEq, Nat.reduceEqDiff, Nat.reduceAdd, Nat.reduceMul, Nat.reduceSub, Int.reduceToNat, Int.reduceEq, Int.reduceLT, Int.reduceLE, Int.reduceAdd, Int.reduceSub, Int.reduceMul, reduceIte, resVs, resV, packV, initT, addr, F22_X, F22_c0, hd_seq, tl_seq, u0]
  refine W_loop (fun N qs => ∃ (i : Nat) (M1 : AMem), N = names.length - i ∧ qs.ds = [] ∧ qs.m = mx M1 [] ∧ qs.t 0 = .slice a names.length c ∧ qs.t 8 = .pointer (some ⟨bp + 2, 0, none⟩) ∧ qs.t 9 = .slice oa out.length oc ∧ qs.t 10 = .func (.func 48) #[] #[.pointer (some ⟨bp + 2, 0, none⟩), .pointer (some ⟨m.size, 0, none⟩), .pointer (some ⟨bp, 0, none⟩)] ∧ qs.t 24 = .int .i64 names.length ∧ qs.t 25 = .int .i64 i ∧ i ≤ names.length ∧ SortS m M1 m.size bp (m.size + 1) (bp + 2) (bp + 1) names na nc needs done (.slice oa out.length oc) out ∧ ∀ j, j < i → readyR names needs done j = false) (names.length - (0)) ⟨0, M, rfl, rfl, ?qm, ?q0, ?q8, ?q9, ?q10, ?q24, ?q25, ?_⟩ ?_
  case qm | q0 | q8 | q9 | q10 | q24 | q25 => first | rfl | (simp (implicitDefEqProofs := false) (maxSteps := 1000000) (disch := first | omega | with_reducible assumption | (simp only [lenT, Nat.reduceAdd]; omega)) only [amT, cut, bnd, Nat.reduceBEq, reduceCtorEq, Nat.reduceEqDiff, Nat.reduceAdd, Nat.reduceMul, Nat.reduceSub, Int.reduceToNat, Int.reduceEq, Int.reduceLT, Int.reduceLE, Int.reduceAdd, Int.reduceSub, Int.reduceMul, reduceIte, resVs, resV, packV, initT, addr, u0, u8, u9, u10]; first | done | rfl | (congr 1; omega))
  · exact ⟨by omega, hS, fun j h => by omega⟩
  · rintro N t m1 ds ⟨i, M1, rfl, hds, hm, t0, t8, t9, t10, t24, t25, hp⟩
    simp only at hds hm t0 t8 t9 t10 t24 t25
    subst hds; replace hm := hm.symm; subst hm
    obtain ⟨hi, hS1, hall⟩ := hp
    by_cases g : (i : Int) < (names.length : Int)
    · have hi' : i < names.length := by omega
      have hid : i < done.length := by rw [hS1.len]; exact hi'
      have hS1' := hS1.more (Old.here M1 [])
      have hk := ready_ok (mx M1 []) bp m.size (m.size + 1) (bp + 2) (bp + 1) names needs na nc done i hid hS1'.bpl hS1'.bpg hS1'.npl hS1'.npg (hN.old hS1'.old) hS1'.map hS1'.dn hS1'.len (by omega) hnl
      repeat first | simp (implicitDefEqProofs := false) (maxSteps := 1000000) (disch := first | omega | with_reducible assumption | (simp only [lenT, Nat.reduceAdd]; omega)) only [amT, cut, bnd, Nat.reduceBEq, reduceCtorEq, Nat.reduceEqDiff, Nat.reduceAdd, Nat.reduceMul, Nat.reduceSub, Int.reduceToNat, Int.reduceEq, Int.reduceLT, Int.reduceLE, Int.reduceAdd, Int.reduceSub, Int.reduceMul, reduceIte, resVs, resV, packV, initT, addr, F22_l1, t0, t8, t9, t10, t24, t25, g] | refine OrW.go ?_
      refine RelC.call hk ?_
      rintro v M2 ⟨rfl, hO2⟩
      have hS2 := hS1'.more hO2
      cases hr : readyR names needs done i with
      | false =>
        repeat first | simp (implicitDefEqProofs := false) (maxSteps := 1000000) (disch := first | omega | with_reducible assumption | (simp only [lenT, Nat.reduceAdd]; omega)) only [amT, cut, bnd, Nat.reduceBEq, reduceCtorEq, Nat.reduceEqDiff, Nat.reduceAdd, Nat.reduceMul, Nat.reduceSub, Int.reduceToNat, Int.reduceEq, Int.reduceLT, Int.reduceLE, Int.reduceAdd, Int.reduceSub, Int.reduceMul, reduceIte, resVs, resV, packV, initT, addr, t0, t8, t9, t10, t24, t25] | refine OrW.go ?_
        rw [LoopK_normal]; refine ⟨_, ?_, i + 1, M2, rfl, rfl, ?qm, ?q0, ?q8, ?q9, ?q10, ?q24, ?q25, ?_⟩
        case qm | q0 | q8 | q9 | q10 | q24 | q25 => first | rfl | (simp (implicitDefEqProofs := false) (maxSteps := 1000000) (disch := first | omega | with_reducible assumption | (simp only [lenT, Nat.reduceAdd]; omega)) only [amT, cut, bnd, Nat.reduceBEq, reduceCtorEq, Nat.reduceEqDiff, Nat.reduceAdd, Nat.reduceMul, Nat.reduceSub, Int.reduceToNat, Int.reduceEq, Int.reduceLT, Int.reduceLE, Int.reduceAdd, Int.reduceSub, Int.reduceMul, reduceIte, resVs, resV, packV, initT, addr, t0, t8, t9, t10, t24, t25]; first | done | rfl | (congr 1; omega))
        · omega
        · refine ⟨by omega, hS2, fun j hj => ?_⟩
          rcases Nat.lt_or_ge j i with h | h
          · exact hall j h
          · obtain rfl : j = i := by omega
            exact hr
      | true =>
        have hnx := next_of hi' hr hall
        obtain ⟨v', M3, happ, hS3⟩ := hS2.next (by omega) hid
        have hd1 := hS2.dn.lt; have hd2 := hS2.dn.get; have hd3 := hS2.dn.dlt; have hd4 := hS2.dn.dget
        have gd : (i : Int) < (done.length : Int) := by omega
        have hset : (done.map Value.bool).set i (.bool true) = (done.set i true).map .bool := by rw [List.map_set]
        obtain ⟨av, cv, rfl⟩ := hS3.ints.len
        simp only [iV] at happ
        simp only [List.length_append, List.length_cons, List.length_nil, Nat.zero_add] at hS3
        repeat first | simp (implicitDefEqProofs := false) (maxSteps := 1000000) (disch := first | omega | with_reducible assumption | (simp only [lenT, Nat.reduceAdd]; omega)) only [amT, cut, bnd, Nat.reduceBEq, reduceCtorEq, Nat.reduceEqDiff, Nat.reduceAdd, Nat.reduceMul, Nat.reduceSub, Int.reduceToNat, Int.reduceEq, Int.reduceLT, Int.reduceLE, Int.reduceAdd, Int.reduceSub, Int.reduceMul, reduceIte, resVs, resV, packV, initT, addr, t0, t8, t9, t10, t24, t25, hd2, hd4, gd, hset, stepOp_app_v, happ] | refine OrW.go ?_
        exact hJ i _ _ _ hnx (by simp (implicitDefEqProofs := false) (maxSteps := 1000000) (disch := first | omega | with_reducible assumption | (simp only [lenT, Nat.reduceAdd]; omega)) only [amT, cut, bnd, Nat.reduceBEq, reduceCtorEq, Nat.reduceEqDiff, Nat.reduceAdd, Nat.reduceMul, Nat.reduceSub, Int.reduceToNat, Int.reduceEq, Int.reduceLT, Int.reduceLE, Int.reduceAdd, Int.reduceSub, Int.reduceMul, reduceIte, resVs, resV, packV, initT, addr, t0]) (by simp (implicitDefEqProofs := false) (maxSteps := 1000000) (disch := first | omega | with_reducible assumption | (simp only [lenT, Nat.reduceAdd]; omega)) only [amT, cut, bnd, Nat.reduceBEq, reduceCtorEq, Nat.reduceEqDiff, Nat.reduceAdd, Nat.reduceMul, Nat.reduceSub, Int.reduceToNat, Int.reduceEq, Int.reduceLT, Int.reduceLE, Int.reduceAdd, Int.reduceSub, Int.reduceMul, reduceIte, resVs, resV, packV, initT, addr, t8]) (by simp (implicitDefEqProofs := false) (maxSteps := 1000000) (disch := first | omega | with_reducible assumption | (simp only [lenT, Nat.reduceAdd]; omega)) only [amT, cut, bnd, Nat.reduceBEq, reduceCtorEq, Nat.reduceEqDiff, Nat.reduceAdd, Nat.reduceMul, Nat.reduceSub, Int.reduceToNat, Int.reduceEq, Int.reduceLT, Int.reduceLE, Int.reduceAdd, Int.reduceSub, Int.reduceMul, reduceIte, resVs, resV, packV, initT, addr]) (by simp (implicitDefEqProofs := false) (maxSteps := 1000000) (disch := first | omega | with_reducible assumption | (simp only [lenT, Nat.reduceAdd]; omega)) only [amT, cut, bnd, Nat.reduceBEq, reduceCtorEq, Nat.reduceEqDiff, Nat.reduceAdd, Nat.reduceMul, Nat.reduceSub, Int.reduceToNat, Int.reduceEq, Int.reduceLT, Int.reduceLE, Int.reduceAdd, Int.reduceSub, Int.reduceMul, reduceIte, resVs, resV, packV, initT, addr, t10]) hS3
    · obtain rfl : i = names.length := by omega
      have hnone := next_none hall
      have hres := (hruns out (.stop hnone)).eq (by simp) names.length (by simp)
      have hso : sortO names needs = out := hres.symm
      by_cases gl : (out.length : Int) < (names.length : Int)
      · have e : sortR names needs = ([], 240) := by
          unfold sortR; rw [if_pos hnd, hso, if_pos (by omega)]
        rw [e]
        repeat first | simp (implicitDefEqProofs := false) (maxSteps := 1000000) (disch := first | omega | with_reducible assumption | (simp only [lenT, Nat.reduceAdd]; omega)) only [amT, cut, bnd, Nat.reduceBEq, reduceCtorEq, Nat.reduceEqDiff, Nat.reduceAdd, Nat.reduceMul, Nat.reduceSub, Int.reduceToNat, Int.reduceEq, Int.reduceLT, Int.reduceLE, Int.reduceAdd, Int.reduceSub, Int.reduceMul, reduceIte, resVs, resV, packV, initT, addr, F22_l1, F22, t0, t8, t9, t10, t24, t25, g, gl] | refine OrW.go ?_
        exact ⟨_, rfl, fun _ => ⟨hS1.old.mx [], .slice none 0 0, rfl, .inl ⟨rfl, rfl⟩⟩⟩
      · have e : sortR names needs = (out, 0) := by
          unfold sortR; rw [if_pos hnd, hso, if_neg (by omega)]
        rw [e]
        repeat first | simp (implicitDefEqProofs := false) (maxSteps := 1000000) (disch := first | omega | with_reducible assumption | (simp only [lenT, Nat.reduceAdd]; omega)) only [amT, cut, bnd, Nat.reduceBEq, reduceCtorEq, Nat.reduceEqDiff, Nat.reduceAdd, Nat.reduceMul, Nat.reduceSub, Int.reduceToNat, Int.reduceEq, Int.reduceLT, Int.reduceLE, Int.reduceAdd, Int.reduceSub, Int.reduceMul, reduceIte, resVs, resV, packV, initT, addr, F22_l1, F22, t0, t8, t9, t10, t24, t25, g, gl] | refine OrW.go ?_
        exact ⟨_, rfl, fun _ => ⟨hS1.old.mx [], _, rfl, hS1.ints.old (Old.here _ [])⟩⟩
theorem sort_ok (m : AMem) (a : Option Addr) (c : Nat) (names : List (List UInt8)) (ha : StrR m a names) (hl : names.length ≤ 100000) (na : Option Addr) (nc : Nat) (needs : List (List (List UInt8))) (hN : NeedsR m na needs) (hnl : needs.length ≤ 1000000) :
    RelC Tryd.prog 3 22 [.slice a names.length c, .slice na needs.length nc] m fun r m' => Old m m' ∧ ∃ v, r = .tuple #[v, .int .i64 (sortR names needs).2] ∧ IntB m' v (sortR names needs).1 := by
  refine rel_of_W (fn := Tryd.f22) rfl rfl F22_ok (by simp [F22]) ?_
  simp (implicitDefEqProofs := false) (maxSteps := 1000000) (disch := first | omega | with_reducible assumption | (simp only [lenT, Nat.reduceAdd]; omega)) only [amT, cut, bnd, Nat.reduceBEq, reduceCtorEq, Nat.reduceEqDiff, Nat.reduceAdd, Nat.reduceMul, Nat.reduceSub, Int.reduceToNat, Int.reduceEq, Int.reduceLT, Int.reduceLE, Int.reduceAdd, Int.reduceSub, Int.reduceMul, reduceIte, resVs, resV, packV, initT, addr, F22]
  let ds : List Bool → List Nat → Prop := fun done out => ∀ res, Runs names needs done out res → Runs names needs (List.replicate names.length false) [] res
  refine W_scope (fun n s => ∃ (bp : Nat) (done : List Bool) (out : List Nat) (ov : Value) (M : AMem), names.Nodup ∧ n = done.count false ∧ ds done out ∧ out.length + done.count false = names.length ∧ s.ds = [] ∧ s.m = mx M [] ∧ s.t 0 = .slice a names.length c ∧ s.t 8 = .pointer (some ⟨bp + 2, 0, none⟩) ∧ s.t 9 = ov ∧ s.t 10 = .func (.func 48) #[] #[.pointer (some ⟨bp + 2, 0, none⟩), .pointer (some ⟨m.size, 0, none⟩), .pointer (some ⟨bp, 0, none⟩)] ∧
    SortS m M m.size bp (m.size + 1) (bp + 2) (bp + 1) names na nc needs done ov out) ?_ ?_
  · have hp := places_ok (mx m [.cells [.slice na needs.length nc] 38 true .exact]) a c names (ha.old (Old.here _ _)) (by omega)
    rw [F22_c_cut]
    repeat first | simp (implicitDefEqProofs := false) (maxSteps := 1000000) (disch := first | omega | with_reducible assumption | (simp only [lenT, Nat.reduceAdd]; omega)) only [amT, cut, bnd, Nat.reduceBEq, reduceCtorEq, Nat.reduceEqDiff, Nat.reduceAdd, Nat.reduceMul, Nat.reduceSub, Int.reduceToNat, Int.reduceEq, Int.reduceLT, Int.reduceLE, Int.reduceAdd, Int.reduceSub, Int.reduceMul, reduceIte, resVs, resV, packV, initT, addr, F22_c0, hd_seq, tl_seq] | refine OrW.go ?_
    refine RelC.call hp ?_
    rintro r M1 ⟨hO, hr⟩
    have hz := hO.1
    rw [mx_size] at hz
    simp only [List.length_cons, List.length_nil, Nat.zero_add] at hz
    have hOm : Old m M1 := (Old.here m _).trans hO
    by_cases hnd : names.Nodup
    · rw [if_pos hnd] at hr
      obtain ⟨rfl, hM⟩ := hr
      rw [mx_size] at hM
      simp only [List.length_cons, List.length_nil, Nat.zero_add] at hM
      have hml := hM.1
      have hrep : rep [.bool false] names.length = (List.replicate names.length false).map Value.bool := by
        unfold rep; generalize names.length = n
        induction n with
        | zero => rfl
        | succ n ih => rw [List.replicate_succ, List.flatten_cons, ih]; rfl
      have hS : SortS m (mx M1 [.cells [.map (some (m.size + 1))] 72 true .exact, .cells ((List.replicate names.length false).map .bool) 4 true .exact, .cells [.slice (some ⟨M1.size + 1, 0, none⟩) names.length names.length] 75 true .exact]) m.size M1.size (m.size + 1) (M1.size + 2) (M1.size + 1) names na nc needs (List.replicate names.length false) (.slice none 0 0) [] :=
        ⟨hOm.mx _, by rw [mx_size]; omega, by rw [mx_old (by omega), hO.2 _ (by rw [mx_size]; simp)]; exact mx_new0 _ _, by rw [mx_size]; simp, mx_new0 _ _, hM.old (Old.here _ _), ⟨by rw [mx_size]; simp, by rw [mx_new _ _ 2]; simp, by rw [mx_size]; simp, mx_new _ _ 1, by omega⟩, List.length_replicate, .inl ⟨rfl, rfl⟩, fun x ⟨o, l, c, h⟩ => by (cases h), by omega, by omega⟩
      have hM2 : True := trivial
      repeat first | simp (implicitDefEqProofs := false) (maxSteps := 1000000) (disch := first | omega | with_reducible assumption | (simp only [lenT, Nat.reduceAdd]; omega)) only [amT, cut, bnd, Nat.reduceBEq, reduceCtorEq, Nat.reduceEqDiff, Nat.reduceAdd, Nat.reduceMul, Nat.reduceSub, Int.reduceToNat, Int.reduceEq, Int.reduceLT, Int.reduceLE, Int.reduceAdd, Int.reduceSub, Int.reduceMul, reduceIte, resVs, resV, packV, initT, addr, cellsOf_map, hrep] | refine OrW.go ?_
      generalize hMX : mx M1 [.cells [.map (some (m.size + 1))] 72 true .exact, .cells ((List.replicate names.length false).map .bool) 4 true .exact, .cells [.slice (some ⟨M1.size + 1, 0, none⟩) names.length names.length] 75 true .exact] = X at hS
      rw [show (X : AMem) = mx X [] from by rw [← hMX, mx_mx, List.append_nil]]
      refine sort_pass m X a c names na nc needs M1.size _ _ _ _ hl hnl hN hS (by simp (implicitDefEqProofs := false) (maxSteps := 1000000) (disch := first | omega | with_reducible assumption | (simp only [lenT, Nat.reduceAdd]; omega)) only [amT, cut, bnd, Nat.reduceBEq, reduceCtorEq, Nat.reduceEqDiff, Nat.reduceAdd, Nat.reduceMul, Nat.reduceSub, Int.reduceToNat, Int.reduceEq, Int.reduceLT, Int.reduceLE, Int.reduceAdd, Int.reduceSub, Int.reduceMul, reduceIte, resVs, resV, packV, initT, addr]) (by simp (implicitDefEqProofs := false) (maxSteps := 1000000) (disch := first | omega | with_reducible assumption | (simp only [lenT, Nat.reduceAdd]; omega)) only [amT, cut, bnd, Nat.reduceBEq, reduceCtorEq, Nat.reduceEqDiff, Nat.reduceAdd, Nat.reduceMul, Nat.reduceSub, Int.reduceToNat, Int.reduceEq, Int.reduceLT, Int.reduceLE, Int.reduceAdd, Int.reduceSub, Int.reduceMul, reduceIte, resVs, resV, packV, initT, addr]) (by simp (implicitDefEqProofs := false) (maxSteps := 1000000) (disch := first | omega | with_reducible assumption | (simp only [lenT, Nat.reduceAdd]; omega)) only [amT, cut, bnd, Nat.reduceBEq, reduceCtorEq, Nat.reduceEqDiff, Nat.reduceAdd, Nat.reduceMul, Nat.reduceSub, Int.reduceToNat, Int.reduceEq, Int.reduceLT, Int.reduceLE, Int.reduceAdd, Int.reduceSub, Int.reduceMul, reduceIte, resVs, resV, packV, initT, addr]) (by simp (implicitDefEqProofs := false) (maxSteps := 1000000) (disch := first | omega | with_reducible assumption | (simp only [lenT, Nat.reduceAdd]; omega)) only [amT, cut, bnd, Nat.reduceBEq, reduceCtorEq, Nat.reduceEqDiff, Nat.reduceAdd, Nat.reduceMul, Nat.reduceSub, Int.reduceToNat, Int.reduceEq, Int.reduceLT, Int.reduceLE, Int.reduceAdd, Int.reduceSub, Int.reduceMul, reduceIte, resVs, resV, packV, initT, addr]) hnd (fun res h => h) (by simp) _ fun i t' M' ov' hn h0 h8 h9 h10 hS' => ?_
      obtain ⟨n1, n2⟩ := next_some hn
      have n3 := ready_not (by simpa using n1) n2
      have n4 := count_set (done := List.replicate names.length false) (i := i) (by simpa using n1) n3
      exact ⟨_, M1.size, _, _, ov', M', hnd, rfl, fun res h => .go hn h, by simp only [List.length_append, List.length_cons, List.length_nil]; rw [List.count_replicate_self] at n4; omega, rfl, rfl, h0, h8, h9, h10, hS'⟩
    · rw [if_neg hnd] at hr
      subst hr
      have e : sortR names needs = ([], 151) := if_neg hnd
      rw [e]
      repeat first | simp (implicitDefEqProofs := false) (maxSteps := 1000000) (disch := first | omega | with_reducible assumption | (simp only [lenT, Nat.reduceAdd]; omega)) only [amT, cut, bnd, Nat.reduceBEq, reduceCtorEq, Nat.reduceEqDiff, Nat.reduceAdd, Nat.reduceMul, Nat.reduceSub, Int.reduceToNat, Int.reduceEq, Int.reduceLT, Int.reduceLE, Int.reduceAdd, Int.reduceSub, Int.reduceMul, reduceIte, resVs, resV, packV, initT, addr, cellsOf_map] | refine OrW.go ?_
      exact ⟨_, rfl, fun _ => ⟨hOm.mx _, .slice none 0 0, rfl, .inl ⟨rfl, rfl⟩⟩⟩
  · rintro n t M dl ⟨bp, done, out, ov, M', hnd, rfl, hds, hcnt, h1, h2, h0, h8, h9, h10, hS⟩
    simp only at h1 h2 h0 h8 h9 h10
    subst h1 h2
    rw [F22_r_cut]
    simp (implicitDefEqProofs := false) (maxSteps := 1000000) (disch := first | omega | with_reducible assumption | (simp only [lenT, Nat.reduceAdd]; omega)) only [amT, cut, bnd, Nat.reduceBEq, reduceCtorEq, Nat.reduceEqDiff, Nat.reduceAdd, Nat.reduceMul, Nat.reduceSub, Int.reduceToNat, Int.reduceEq, Int.reduceLT, Int.reduceLE, Int.reduceAdd, Int.reduceSub, Int.reduceMul, reduceIte, resVs, resV, packV, initT, addr]
    refine sort_pass m M' a c names na nc needs bp done ov out t hl hnl hN hS h0 h8 h9 h10 hnd hds hcnt _ fun i t' M2 ov' hn h0 h8 h9 h10 hS' => ?_
    obtain ⟨n1, n2⟩ := next_some hn
    have hdl := hS.len
    have n3 := ready_not (by omega) n2
    have n4 := count_set (by omega) n3
    exact ⟨_, by omega, bp, _, _, ov', M2, hnd, rfl, fun res h => hds res (.go hn h), by simp only [List.length_append, List.length_cons, List.length_nil]; omega, rfl, rfl, h0, h8, h9, h10, hS'⟩
end Go.Proofs.YtgkmlbkocgjmmaaDoor
namespace Go.Proofs.YtgkmlbkocgjmmaaDoor
open Go Go.AM
set_option linter.unusedVariables false
set_option linter.unusedSimpArgs false
set_option maxHeartbeats 2000000
set_option maxRecDepth 100000

/-- Texts that are still to do: the end of a row that grows. -/
def Todo (M : AMem) (v : Value) (ls : List (List UInt8)) : Prop := (ls = [] ∧ ∃ a c, v = .slice a 0 c ∧ (a = none ∧ c = 0 ∨ ∃ b o e w sp X, a = some ⟨b, o, none⟩ ∧ c = 0 ∧ b < M.size ∧ M.get b = .cells X e w sp ∧ o ≤ X.length)) ∨
  ∃ b o X, v = .slice (some ⟨b, o, none⟩) ls.length openCap ∧ b < M.size ∧ M.get b = .cells X 9 true (.room [.string ⟨#[]⟩]) ∧ o + ls.length = X.length ∧ X.drop o = ls.map sV
theorem Todo.len {M : AMem} {v : Value} {ls : List (List UInt8)} (h : Todo M v ls) : ∃ a cap, v = .slice a ls.length cap := by
  rcases h with ⟨rfl, a, c, rfl, _⟩ | ⟨b, o, X, rfl, _⟩
  · exact ⟨_, _, rfl⟩
  · exact ⟨_, _, rfl⟩
theorem Todo.keep {M M' : AMem} {v : Value} {ls : List (List UInt8)} (h : Todo M v ls) {O : Nat → Prop} (hk : Keep O M M') (hv : ∀ x, ownV v x → ¬ O x) : Todo M' v ls := by
  rcases h with ⟨h0, a, c, rfl, h | ⟨b, o, e, w, sp, X, rfl, h1, h2, h3, h4⟩⟩ | ⟨b, o, X, rfl, h1, h2, h3⟩
  · exact .inl ⟨h0, _, _, rfl, .inl h⟩
  · exact .inl ⟨h0, _, _, rfl, .inr ⟨b, o, e, w, sp, X, rfl, h1, Nat.lt_of_lt_of_le h2 hk.1, by rw [hk.2 b h2 (hv b ⟨_, _, _, rfl⟩)]; exact h3, h4⟩⟩
  · exact .inr ⟨b, o, X, rfl, Nat.lt_of_lt_of_le h1 hk.1, by rw [hk.2 b h1 (hv b ⟨_, _, _, rfl⟩)]; exact h2, h3⟩
theorem Todo.old {M M' : AMem} {v : Value} {ls : List (List UInt8)} (h : Todo M v ls) (ho : Old M M') : Todo M' v ls := h.keep (ho.keep fun _ => False) fun _ _ h => h
theorem clone_ok (m : AMem) (a : Option Addr) (c : Nat) (ls : List (List UInt8)) (ha : Src m a ls) (hl : ls.length ≤ 1000000) :
    RelC Tryd.prog 3 56 [.slice a ls.length c] m fun r m' => Old m m' ∧ Todo m' r ls ∧ ∀ x, ownV r x → m.size ≤ x := by
  refine rel_of_W (fn := Tryd.f56) rfl rfl F56_ok (by simp [F56]) ?_
  rcases ha with ⟨rfl, rfl⟩ | ⟨b, o, rfl, hb, hr⟩
  · repeat first | simp (implicitDefEqProofs := false) (maxSteps := 1000000) (disch := first | omega | with_reducible assumption | (simp only [lenT, Nat.reduceAdd]; omega)) only [amT, cut, bnd, Nat.reduceBEq, reduceCtorEq, Nat.reduceEqDiff, Nat.reduceAdd, Nat.reduceMul, Nat.reduceSub, Int.reduceToNat, Int.reduceEq, Int.reduceLT, Int.reduceLE, Int.reduceAdd, Int.reduceSub, Int.reduceMul, reduceIte, resVs, resV, packV, initT, addr, F56, eqV, Option.isNone] | refine OrW.go ?_
    exact ⟨_, rfl, fun _ => ⟨.inl ⟨rfl, none, 0, rfl, .inl ⟨rfl, rfl⟩⟩, fun x ⟨o, l, c, h⟩ => by cases h⟩⟩
  · have hsrc : srcCells 1 ls.length (.slice (some ⟨b, o, none⟩) ls.length c) (mx m [.cells [] 9 true .exact]) = some (ls.map sV) := by rw [srcCells_slice (Nat.le_refl _), rd_def, mx_old hb, Nat.mul_one]; exact hr
    have happ : appV 9 1 16 [.string ⟨#[]⟩] (.slice (some ⟨m.size, 0, none⟩) 0 0) (.slice (some ⟨b, o, none⟩) ls.length c) (mx m [.cells [] 9 true .exact]) = appendTo 9 1 16 [.string ⟨#[]⟩] (.slice (some ⟨m.size, 0, none⟩) 0 0) ls.length (ls.map sV) (mx m [.cells [] 9 true .exact]) := by
      simp only [appV, srcLen_slice, hsrc]
      rw [if_pos ⟨rfl, by omega, one_strs _, by simp⟩]
    by_cases h0 : ls = []
    · subst h0
      have h2 : appendTo 9 1 16 [.string ⟨#[]⟩] (.slice (some ⟨m.size, 0, none⟩) 0 0) 0 [] (mx m [.cells [] 9 true .exact]) = some (.slice (some ⟨m.size, 0, none⟩) 0 0, mx m [.cells [] 9 true .exact]) := by
        simp only [appendTo]
        rw [if_neg (Nat.ne_of_lt zeroCap_lt), if_pos (by omega)]; simp only [if_true]
      simp only [List.length_nil, List.map_nil] at happ
      rw [h2] at happ
      repeat first | simp (implicitDefEqProofs := false) (maxSteps := 1000000) (disch := first | omega | with_reducible assumption | (simp only [lenT, Nat.reduceAdd]; omega)) only [amT, cut, bnd, Nat.reduceBEq, reduceCtorEq, Nat.reduceEqDiff, Nat.reduceAdd, Nat.reduceMul, Nat.reduceSub, Int.reduceToNat, Int.reduceEq, Int.reduceLT, Int.reduceLE, Int.reduceAdd, Int.reduceSub, Int.reduceMul, reduceIte, resVs, resV, packV, initT, addr, F56, eqV, Option.isNone, stepOp_app_v, happ] | refine OrW.go ?_
      exact ⟨_, rfl, fun _ => ⟨.inl ⟨rfl, _, _, rfl, .inr ⟨m.size, 0, _, _, _, _, rfl, rfl, by rw [mx_size]; simp, mx_new0 _ _, Nat.zero_le _⟩⟩, fun x ⟨o, l, c, h⟩ => by cases h; exact Nat.le_refl _⟩⟩
    · have hp : 0 < ls.length := List.length_pos_iff.2 h0
      have h2 : appendTo 9 1 16 [.string ⟨#[]⟩] (.slice (some ⟨m.size, 0, none⟩) 0 0) ls.length (ls.map sV) (mx m [.cells [] 9 true .exact]) = some (.slice (some ⟨m.size + 1, 0, none⟩) ls.length openCap, mx m [.cells [] 9 true .exact, .cells (ls.map sV) 9 true (.room [.string ⟨#[]⟩])]) := by
        simp only [appendTo]
        rw [if_neg (Nat.ne_of_lt zeroCap_lt), if_neg (by omega), rd_def, mx_new0]
        simp only [List.getD_cons_zero, rdO_cells]
        rw [show cutL ([] : List Value) 0 (0 * 1) = some [] from rfl]
        simp only
        rw [if_pos (by omega), mx_push, mx_size]; simp
      rw [h2] at happ
      repeat first | simp (implicitDefEqProofs := false) (maxSteps := 1000000) (disch := first | omega | with_reducible assumption | (simp only [lenT, Nat.reduceAdd]; omega)) only [amT, cut, bnd, Nat.reduceBEq, reduceCtorEq, Nat.reduceEqDiff, Nat.reduceAdd, Nat.reduceMul, Nat.reduceSub, Int.reduceToNat, Int.reduceEq, Int.reduceLT, Int.reduceLE, Int.reduceAdd, Int.reduceSub, Int.reduceMul, reduceIte, resVs, resV, packV, initT, addr, F56, eqV, Option.isNone, stepOp_app_v, happ] | refine OrW.go ?_
      exact ⟨_, rfl, fun _ => ⟨.inr ⟨m.size + 1, 0, _, rfl, by rw [mx_size]; simp, mx_new _ _ 1, by simp, rfl⟩, fun x ⟨o, l, c, h⟩ => by cases h; omega⟩⟩
theorem todo_eqv {M : AMem} {v : Value} {ls : List (List UInt8)} (h : Todo (mx M []) v ls) : Todo M v ls :=
  h.keep (O := fun _ => False) ⟨by rw [mx_nil_size]; exact Nat.le_refl _, fun y hy _ => by rw [mx_nil_size] at hy; exact (mx_old hy).symm⟩ fun _ _ h => h
/-- The first of them. -/
theorem Todo.hd {M : AMem} {a : Option Addr} {n cap : Nat} {s : List UInt8} {ls : List (List UInt8)} (h : Todo M (.slice a n cap) (s :: ls)) :
    ∃ b o, a = some ⟨b, o, none⟩ ∧ cap = openCap ∧ b < M.size ∧ rdO (M.get b) o 1 = some [.string ⟨s.toArray⟩] ∧
      slVv 1 (.slice a (ls.length + 1) openCap) (some (.int .i64 1)) none none M = some (.slice (some ⟨b, o + 1, none⟩) ls.length openCap, M) ∧ Todo M (.slice (some ⟨b, o + 1, none⟩) ls.length openCap) ls := by
  rcases h with ⟨h, _⟩ | ⟨b, o, X, h, h1, h2, h3, h4⟩
  · cases h
  · cases h
    rw [List.length_cons] at h3
    have hd : X.drop (o + 1) = ls.map sV := by rw [← List.drop_drop, h4]; rfl
    refine ⟨b, o, rfl, rfl, h1, ?_, ?_, .inr ⟨b, o + 1, X, rfl, h1, h2, by omega, hd⟩⟩
    · rw [h2, rdO_cells]
      unfold cutL
      rw [if_pos (by omega), h4]; rfl
    · simp only [slVv, if_true, h2]
      rw [if_pos ⟨rfl, by simp; omega⟩, show cutV (ls.length + 1) ((X.length - o) / 1) (some (.int .i64 1)) none none = some (1, ls.length + 1, (X.length - o) / 1) from by simp only [cutV]; rw [if_pos (by simp; omega)]; simp]
      simp
/-- Texts put behind. -/
theorem Todo.app {M : AMem} {b o : Nat} {ls news : List (List UInt8)} {w : Value} (h : Todo M (.slice (some ⟨b, o, none⟩) ls.length openCap) ls) (hn : ls.length + news.length ≤ 1000000000) (hw : srcLen w = some news.length) (hs : srcCells 1 news.length w (mx M []) = some (news.map sV)) :
    ∃ v' M', appV 9 1 16 [.string ⟨#[]⟩] (.slice (some ⟨b, o, none⟩) ls.length openCap) w (mx M []) = some (v', mx M' []) ∧ Todo M' v' (ls ++ news) ∧ Keep (fun x => x = b) M M' ∧ ∀ x, ownV v' x → x = b ∨ M.size ≤ x := by
  obtain ⟨X, hbl, h2, h3, h4⟩ : ∃ X, b < M.size ∧ M.get b = .cells X 9 true (.room [.string ⟨#[]⟩]) ∧ o + ls.length = X.length ∧ X.drop o = ls.map sV := by
    rcases h with ⟨_, a, c, hv, h⟩ | ⟨b', o', X, hv, h1, h2, h3, h4⟩
    · have hz := zeroCap_lt
      simp only [Value.slice.injEq] at hv
      obtain ⟨_, _, hc⟩ := hv
      rcases h with ⟨_, h⟩ | ⟨_, _, _, _, _, _, _, h, _⟩ <;> omega
    · cases hv; exact ⟨X, h1, h2, h3, h4⟩
  have happ : appV 9 1 16 [.string ⟨#[]⟩] (.slice (some ⟨b, o, none⟩) ls.length openCap) w (mx M []) = appendTo 9 1 16 [.string ⟨#[]⟩] (.slice (some ⟨b, o, none⟩) ls.length openCap) news.length (news.map sV) (mx M []) := by
    simp only [appV, hw, hs]
    rw [if_pos ⟨rfl, by omega, one_strs _, by simp⟩]
  rw [happ]
  have hlen : (ls ++ news).length = ls.length + news.length := List.length_append
  by_cases h0 : news = []
  · subst h0
    refine ⟨.slice (some ⟨b, o, none⟩) ls.length openCap, M, ?_, by rw [List.append_nil]; exact h, .refl _ _, fun x ⟨o, l, c, h⟩ => by cases h; exact .inl rfl⟩
    simp only [appendTo, if_true, mx_old hbl, h2, List.length_nil]
    rw [if_pos (show (Spare.room [Value.string ⟨#[]⟩]).size = 1 from rfl), if_pos (by omega)]
  · have hg : 0 < news.length := List.length_pos_iff.2 h0
    refine ⟨.slice (some ⟨M.size, 0, none⟩) (ls.length + news.length) openCap, mx (M.set b .dead) [.cells ((ls ++ news).map sV) 9 true (.room [.string ⟨#[]⟩])], ?_, .inr ⟨M.size, 0, _, by rw [hlen], by rw [mx_size, AMem.size_set]; simp, ?_, by simp, rfl⟩, ((Keep.refl (fun x => x = b) M).set (fun _ => rfl) _).mx _, fun x ⟨o, l, k, hx⟩ => by cases hx; exact .inr (Nat.le_refl _)⟩
    · simp only [appendTo, if_true, mx_old hbl, h2]
      rw [if_pos (show (Spare.room [Value.string ⟨#[]⟩]).size = 1 from rfl), if_neg (by omega), if_pos ⟨by omega, by omega, by omega⟩]
      rw [if_pos ⟨trivial, by omega, trivial, eqPL_str⟩, mx_set_old hbl, mx_push, mx_nil_size, mx_mx, h4, Nat.mul_one, List.take_of_length_le (by simp), ← List.map_append]; rfl
    · have := mx_new0 (M.set b .dead) [.cells ((ls ++ news).map sV) 9 true (.room [.string ⟨#[]⟩])]
      rw [AMem.size_set] at this; exact this
end Go.Proofs.YtgkmlbkocgjmmaaDoor
namespace Go.Proofs.YtgkmlbkocgjmmaaDoor
open Go Go.AM
set_option linter.unusedVariables false
set_option linter.unusedSimpArgs false
set_option maxHeartbeats 2000000
set_option maxRecDepth 100000

/-- What is needed by some, and by that, and so on. -/
inductive Reach (names : List (List UInt8)) (needs : List (List (List UInt8))) (roots : List (List UInt8)) : Nat → Prop
  | root {s : List UInt8} {k : Nat} : s ∈ roots → plR names s = some k → Reach names needs roots k
  | step {i : Nat} {s : List UInt8} {k : Nat} : Reach names needs roots i → s ∈ rowOf needs i → plR names s = some k → Reach names needs roots k
structure CInv (names : List (List UInt8)) (needs : List (List (List UInt8))) (roots todo : List (List UInt8)) (got : List Bool) : Prop where
  sound : ∀ i, got.getD i false = true → Reach names needs roots i
  todoR : ∀ s ∈ todo, ∀ k, plR names s = some k → Reach names needs roots k
  roots : ∀ s ∈ roots, ∀ k, plR names s = some k → got.getD k false = true ∨ s ∈ todo
  closed : ∀ i, got.getD i false = true → ∀ s ∈ rowOf needs i, ∀ k, plR names s = some k → got.getD k false = true ∨ s ∈ todo
  len : got.length = names.length
theorem getD_set {got : List Bool} {k : Nat} (hk : k < got.length) (i : Nat) : (got.set k true).getD i false = if i = k then true else got.getD i false := by
  simp only [List.getD, List.getElem?_set]
  by_cases h : i = k
  · subst h; simp [hk]
  · have h2 : ¬ k = i := fun e => h e.symm
    simp [h, h2]
theorem CInv.init (names : List (List UInt8)) (needs : List (List (List UInt8))) (roots : List (List UInt8)) : CInv names needs roots roots (List.replicate names.length false) := by
  have h : ∀ i, (List.replicate names.length false).getD i false = false := fun i => by
    simp only [List.getD, List.getElem?_replicate]; split <;> rfl
  exact ⟨fun i hi => by rw [h] at hi; (cases hi), fun s hs k hk => .root hs hk, fun s hs k hk => .inr hs, fun i hi => by rw [h] at hi; (cases hi), List.length_replicate⟩
theorem CInv.skip {names : List (List UInt8)} {needs : List (List (List UInt8))} {roots todo : List (List UInt8)} {got : List Bool} {s : List UInt8} (h : CInv names needs roots (s :: todo) got) (hs : ∀ k, plR names s = some k → got.getD k false = true) : CInv names needs roots todo got :=
  ⟨h.sound, fun x hx => h.todoR x (by simp [hx]), fun x hx k hk => (h.roots x hx k hk).elim .inl fun hm => (List.mem_cons.1 hm).elim (fun e => by subst e; exact .inl (hs k hk)) .inr,
   fun i hi x hx k hk => (h.closed i hi x hx k hk).elim .inl fun hm => (List.mem_cons.1 hm).elim (fun e => by subst e; exact .inl (hs k hk)) .inr, h.len⟩
theorem CInv.take {names : List (List UInt8)} {needs : List (List (List UInt8))} {roots todo : List (List UInt8)} {got : List Bool} {s : List UInt8} {k : Nat} (h : CInv names needs roots (s :: todo) got) (hk : plR names s = some k) : CInv names needs roots (todo ++ rowOf needs k) (got.set k true) := by
  have hkl : k < got.length := by rw [h.len]; exact plR_lt hk
  have hR := h.todoR s (by simp) k hk
  have hg := getD_set hkl
  refine ⟨fun i hi => ?_, fun x hx j hj => ?_, fun x hx j hj => ?_, fun i hi x hx j hj => ?_, by rw [List.length_set]; exact h.len⟩
  · rw [hg] at hi
    by_cases e : i = k
    · subst e; exact hR
    · rw [if_neg e] at hi; exact h.sound i hi
  · rcases List.mem_append.1 hx with h1 | h1
    · exact h.todoR x (by simp [h1]) j hj
    · exact .step hR h1 hj
  · rw [hg]
    by_cases e : j = k
    · exact .inl (if_pos e)
    · rw [if_neg e]
      rcases h.roots x hx j hj with h1 | h1
      · exact .inl h1
      · rcases List.mem_cons.1 h1 with h1 | h1
        · subst h1; rw [hk] at hj; cases hj; exact absurd rfl e
        · exact .inr (List.mem_append_left _ h1)
  · rw [hg] at hi ⊢
    by_cases e : j = k
    · exact .inl (if_pos e)
    · rw [if_neg e]
      by_cases e2 : i = k
      · subst e2; exact .inr (List.mem_append_right _ hx)
      · rw [if_neg e2] at hi
        rcases h.closed i hi x hx j hj with h1 | h1
        · exact .inl h1
        · rcases List.mem_cons.1 h1 with h1 | h1
          · subst h1; rw [hk] at hj; cases hj; exact absurd rfl e
          · exact .inr (List.mem_append_left _ h1)
theorem CInv.done {names : List (List UInt8)} {needs : List (List (List UInt8))} {roots : List (List UInt8)} {got : List Bool} (h : CInv names needs roots [] got) (i : Nat) : got.getD i false = true ↔ Reach names needs roots i := by
  refine ⟨h.sound i, fun hr => ?_⟩
  induction hr with
  | root hs hk => exact (h.roots _ hs _ hk).elim id fun h => by cases h
  | step _ hs hk ih => exact (h.closed _ ih _ hs _ hk).elim id fun h => by cases h
open Classical in
noncomputable def closO (names : List (List UInt8)) (needs : List (List (List UInt8))) (roots : List (List UInt8)) : List Nat := (List.range names.length).filter fun i => decide (Reach names needs roots i)
noncomputable def closR (names : List (List UInt8)) (needs : List (List (List UInt8))) (roots : List (List UInt8)) : List Nat × Int := if names.Nodup then (closO names needs roots, 0) else ([], 151)
open Classical in
theorem closO_of {names : List (List UInt8)} {needs : List (List (List UInt8))} {roots : List (List UInt8)} {got : List Bool} (h : CInv names needs roots [] got) : closO names needs roots = (List.range names.length).filter fun i => got.getD i false := by
  unfold closO
  refine List.filter_congr fun i hi => ?_
  rw [Bool.eq_iff_iff, decide_eq_true_iff, ← h.done i]
theorem closure_ok (m : AMem) (a : Option Addr) (c : Nat) (names : List (List UInt8)) (ha : StrR m a names) (hl : names.length ≤ 100000) (na : Option Addr) (nc : Nat) (needs : List (List (List UInt8))) (hN : NeedsR m na needs) (hnl : needs.length ≤ 1000000)
    (ra : Option Addr) (rc : Nat) (roots : List (List UInt8)) (hr : Src m ra roots) (hrl : roots.length ≤ 1000000) (hrow : ∀ i, (rowOf needs i).length ≤ 1000) :
    RelC Tryd.prog 3 26 [.slice a names.length c, .slice na needs.length nc, .slice ra roots.length rc] m fun r m' => Old m m' ∧ ∃ v, r = .tuple #[v, .int .i64 (closR names needs roots).2] ∧ IntB m' v (closR names needs roots).1 := by
  refine rel_of_W (fn := Tryd.f26) rfl rfl F26_ok (by simp [F26]) ?_
  have hp := places_ok (mx m []) a c names (ha.old (Old.here _ _)) (by omega)
  repeat first | simp (implicitDefEqProofs := false) (maxSteps := 1000000) (disch := first | omega | with_reducible assumption | (simp only [lenT, Nat.reduceAdd]; omega)) only [amT, cut, bnd, Nat.reduceBEq, reduceCtorEq, Nat.reduceEqDiff, Nat.reduceAdd, Nat.reduceMul, Nat.reduceSub, Int.reduceToNat, Int.reduceEq, Int.reduceLT, Int.reduceLE, Int.reduceAdd, Int.reduceSub, Int.reduceMul, reduceIte, resVs, resV, packV, initT, addr, F26] | refine OrW.go ?_
  refine RelC.call hp ?_
  rintro r M1 ⟨hO, hr1⟩
  have hOm : Old m M1 := (Old.here m []).trans hO
  by_cases hnd : names.Nodup
  case neg =>
    rw [if_neg hnd] at hr1
    subst hr1
    have e : closR names needs roots = ([], 151) := if_neg hnd
    rw [e]
    repeat first | simp (implicitDefEqProofs := false) (maxSteps := 1000000) (disch := first | omega | with_reducible assumption | (simp only [lenT, Nat.reduceAdd]; omega)) only [amT, cut, bnd, Nat.reduceBEq, reduceCtorEq, Nat.reduceEqDiff, Nat.reduceAdd, Nat.reduceMul, Nat.reduceSub, Int.reduceToNat, Int.reduceEq, Int.reduceLT, Int.reduceLE, Int.reduceAdd, Int.reduceSub, Int.reduceMul, reduceIte, resVs, resV, packV, initT, addr] | refine OrW.go ?_
    exact ⟨_, rfl, fun _ => ⟨hOm.mx _, .slice none 0 0, rfl, .inl ⟨rfl, rfl⟩⟩⟩
  rw [if_pos hnd] at hr1
  obtain ⟨rfl, hM⟩ := hr1
  rw [mx_nil_size] at hM
  have e : closR names needs roots = (closO names needs roots, 0) := if_pos hnd
  have hrep : rep [.bool false] names.length = (List.replicate names.length false).map Value.bool := by
    unfold rep; generalize names.length = n
    induction n with
    | zero => rfl
    | succ n ih => rw [List.replicate_succ, List.flatten_cons, ih]; rfl
  have hcl := clone_ok (mx M1 [.cells ((List.replicate names.length false).map .bool) 4 true .exact]) ra rc roots (hr.old (hOm.mx _)) hrl
  repeat first | simp (implicitDefEqProofs := false) (maxSteps := 1000000) (disch := first | omega | with_reducible assumption | (simp only [lenT, Nat.reduceAdd]; omega)) only [amT, cut, bnd, Nat.reduceBEq, reduceCtorEq, Nat.reduceEqDiff, Nat.reduceAdd, Nat.reduceMul, Nat.reduceSub, Int.reduceToNat, Int.reduceEq, Int.reduceLT, Int.reduceLE, Int.reduceAdd, Int.reduceSub, Int.reduceMul, reduceIte, resVs, resV, packV, initT, addr, hrep] | refine OrW.go ?_
  refine RelC.call hcl ?_
  rintro tv M2 ⟨hO2, hT, hTo⟩
  have hz2 := hO2.1
  rw [mx_size] at hz2
  simp only [List.length_cons, List.length_nil, Nat.zero_add] at hz2
  have hd2 : M2.get M1.size = .cells ((List.replicate names.length false).map .bool) 4 true .exact := by rw [hO2.2 _ (by rw [mx_size]; simp)]; exact mx_new0 _ _
  have hM2 := hM.old ((Old.here M1 _).trans hO2)
  have hOm2 := hOm.trans ((Old.here M1 _).trans hO2)
  have hml := hM.1
  rw [e]
  repeat first | simp (implicitDefEqProofs := false) (maxSteps := 1000000) (disch := first | omega | with_reducible assumption | (simp only [lenT, Nat.reduceAdd]; omega)) only [amT, cut, bnd, Nat.reduceBEq, reduceCtorEq, Nat.reduceEqDiff, Nat.reduceAdd, Nat.reduceMul, Nat.reduceSub, Int.reduceToNat, Int.reduceEq, Int.reduceLT, Int.reduceLE, Int.reduceAdd, Int.reduceSub, Int.reduceMul, reduceIte, resVs, resV, packV, initT, addr] | refine OrW.go ?_
  refine W_loop (fun N qs => ∃ (M : AMem) (tv' : Value) (todo : List (List UInt8)) (got : List Bool), N = got.count false * 10000 + todo.length ∧ qs.ds = [] ∧ qs.m = mx M [] ∧ qs.t 1 = .slice na needs.length nc ∧ qs.t 8 = .map (some m.size) ∧ qs.t 10 = .slice (some ⟨M1.size, 0, none⟩) names.length names.length ∧ qs.t 11 = tv' ∧ Old m M ∧ MapAt M m.size (mapF names) ∧ M1.size < M.size ∧ M.get M1.size = .cells (got.map .bool) 4 true .exact ∧ Todo M tv' todo ∧ (∀ x, ownV tv' x → M1.size < x) ∧ CInv names needs roots todo got ∧ todo.length + got.count false * 1000 ≤ 1000000 + names.length * 1000) ((List.replicate names.length false).count false * 10000 + (roots).length) ⟨M2, tv, roots, List.replicate names.length false, rfl, rfl, ?qm, ?q1, ?q8, ?q10, ?q11, ?_⟩ ?_
  case qm | q1 | q8 | q10 | q11 => first | rfl | (simp (implicitDefEqProofs := false) (maxSteps := 1000000) (disch := first | omega | with_reducible assumption | (simp only [lenT, Nat.reduceAdd]; omega)) only [amT, cut, bnd, Nat.reduceBEq, reduceCtorEq, Nat.reduceEqDiff, Nat.reduceAdd, Nat.reduceMul, Nat.reduceSub, Int.reduceToNat, Int.reduceEq, Int.reduceLT, Int.reduceLE, Int.reduceAdd, Int.reduceSub, Int.reduceMul, reduceIte, resVs, resV, packV, initT, addr]; first | done | rfl | (congr 1; omega))
  · exact ⟨hOm2, hM2, by omega, hd2, hT, fun x hx => by have := hTo x hx; rw [mx_size] at this; simp at this; omega, CInv.init names needs roots, by simp; omega⟩
  · rintro N t m1 ds ⟨M, tv', todo, got, rfl, hds, hm, t1, t8, t10, t11, hp⟩
    simp only at hds hm t1 t8 t10 t11
    subst hds; replace hm := hm.symm; subst hm
    obtain ⟨p1, p2, p3, p4, p5, p6, p7, p8⟩ := hp
    cases todo with
    | nil =>
      obtain ⟨ta, tc, rfl⟩ := p5.len
      have hg7 := p7.len
      rw [closO_of p7]
      repeat first | simp (implicitDefEqProofs := false) (maxSteps := 1000000) (disch := first | omega | with_reducible assumption | (simp only [lenT, Nat.reduceAdd]; omega)) only [amT, cut, bnd, Nat.reduceBEq, reduceCtorEq, Nat.reduceEqDiff, Nat.reduceAdd, Nat.reduceMul, Nat.reduceSub, Int.reduceToNat, Int.reduceEq, Int.reduceLT, Int.reduceLE, Int.reduceAdd, Int.reduceSub, Int.reduceMul, reduceIte, resVs, resV, packV, initT, addr, F26_l0, t1, t8, t10, t11] | refine OrW.go ?_
      refine W_loop (fun N qs => ∃ (i : Nat) (M3 : AMem) (oa : Option Addr) (oc : Nat), N = names.length - i ∧ qs.ds = [] ∧ qs.m = mx M3 [] ∧ qs.t 14 = .slice oa ((List.range i).filter fun j => got.getD j false).length oc ∧ qs.t 58 = .slice (some ⟨M1.size, 0, none⟩) names.length names.length ∧ qs.t 59 = .int .i64 names.length ∧ qs.t 60 = .int .i64 i ∧ i ≤ names.length ∧ Old m M3 ∧ M1.size < M3.size ∧ M3.get M1.size = .cells (got.map .bool) 4 true .exact ∧ IntB M3 (.slice oa ((List.range i).filter fun j => got.getD j false).length oc) ((List.range i).filter fun j => got.getD j false) ∧ ∀ x, ownV (.slice oa ((List.range i).filter fun j => got.getD j false).length oc) x → M1.size < x) (names.length - (0)) ⟨0, M, none, 0, rfl, rfl, ?qm, ?q14, ?q58, ?q59, ?q60, ?_⟩ ?_
      case qm | q14 | q58 | q59 | q60 => first | rfl | (simp (implicitDefEqProofs := false) (maxSteps := 1000000) (disch := first | omega | with_reducible assumption | (simp only [lenT, Nat.reduceAdd]; omega)) only [amT, cut, bnd, Nat.reduceBEq, reduceCtorEq, Nat.reduceEqDiff, Nat.reduceAdd, Nat.reduceMul, Nat.reduceSub, Int.reduceToNat, Int.reduceEq, Int.reduceLT, Int.reduceLE, Int.reduceAdd, Int.reduceSub, Int.reduceMul, reduceIte, resVs, resV, packV, initT, addr, List.range_zero, List.filter_nil]; first | done | rfl | (congr 1; omega))
      · exact ⟨by omega, p1, p3, p4, .inl ⟨rfl, rfl⟩, fun x ⟨o, l, c, h⟩ => by cases h⟩
      · rintro N t m1 ds ⟨i, M3, oa, oc, rfl, hds, hm, t14, t58, t59, t60, hp⟩
        simp only at hds hm t14 t58 t59 t60
        subst hds; replace hm := hm.symm; subst hm
        obtain ⟨hi, w1, w2, w3, w4, w5⟩ := hp
        by_cases g : (i : Int) < (names.length : Int)
        · have hi' : i < names.length := by omega
          have hig : i < got.length := by omega
          have hcb := cutL_bool hig
          have hsucc : (List.range (i + 1)).filter (fun j => got.getD j false) = ((List.range i).filter fun j => got.getD j false) ++ (if got[i] = true then [i] else []) := by
            rw [List.range_succ, List.filter_append]; congr 1
            have : got.getD i false = got[i] := by simp [List.getD, hig]
            simp only [List.filter_cons, List.filter_nil, this]
          cases hgi : got[i] with
          | false =>
            rw [hgi] at hcb hsucc
            simp only [Bool.false_eq_true, if_false, List.append_nil] at hsucc
            repeat first | simp (implicitDefEqProofs := false) (maxSteps := 1000000) (disch := first | omega | with_reducible assumption | (simp only [lenT, Nat.reduceAdd]; omega)) only [amT, cut, bnd, Nat.reduceBEq, reduceCtorEq, Nat.reduceEqDiff, Nat.reduceAdd, Nat.reduceMul, Nat.reduceSub, Int.reduceToNat, Int.reduceEq, Int.reduceLT, Int.reduceLE, Int.reduceAdd, Int.reduceSub, Int.reduceMul, reduceIte, resVs, resV, packV, initT, addr, F26_l1, t14, t58, t59, t60, g, w3, hcb] | refine OrW.go ?_
            rw [LoopK_normal]; refine ⟨_, ?_, i + 1, M3, oa, oc, rfl, rfl, ?qm, ?q14, ?q58, ?q59, ?q60, ?_⟩
            case qm | q14 | q58 | q59 | q60 => first | rfl | (simp (implicitDefEqProofs := false) (maxSteps := 1000000) (disch := first | omega | with_reducible assumption | (simp only [lenT, Nat.reduceAdd]; omega)) only [amT, cut, bnd, Nat.reduceBEq, reduceCtorEq, Nat.reduceEqDiff, Nat.reduceAdd, Nat.reduceMul, Nat.reduceSub, Int.reduceToNat, Int.reduceEq, Int.reduceLT, Int.reduceLE, Int.reduceAdd, Int.reduceSub, Int.reduceMul, reduceIte, resVs, resV, packV, initT, addr, t14, t58, t59, t60, hsucc]; first | done | rfl | (congr 1; omega))
            · omega
            · rw [hsucc]; exact ⟨by omega, w1, w2, w3, w4, w5⟩
          | true =>
            rw [hgi] at hcb hsucc
            simp only [if_true] at hsucc
            have hll : ((List.range i).filter fun j => got.getD j false).length ≤ i := by have := List.length_filter_le (fun j => got.getD j false) (List.range i); rwa [List.length_range] at this
            obtain ⟨v', M4, happ, hI, hk, ho⟩ := (w4.old (Old.here M3 [.cells [iV i] 3 true .exact])).app (nb := M3.size) (k := i) (by omega) (by rw [mx_size]; simp) (mx_new0 _ _)
            rw [mx_mx, List.append_nil] at happ
            rw [← hsucc] at hI
            obtain ⟨av, cv, rfl⟩ := hI.len
            simp only [iV] at happ
            have hs4 := hk.1
            rw [mx_size] at hs4
            have hk4 : ∀ y, y ≤ M1.size → M4.get y = M3.get y := fun y hy => by rw [hk.2 y (by rw [mx_size]; omega) (fun h => by have := w5 y h; omega), mx_old (by omega)]
            repeat first | simp (implicitDefEqProofs := false) (maxSteps := 1000000) (disch := first | omega | with_reducible assumption | (simp only [lenT, Nat.reduceAdd]; omega)) only [amT, cut, bnd, Nat.reduceBEq, reduceCtorEq, Nat.reduceEqDiff, Nat.reduceAdd, Nat.reduceMul, Nat.reduceSub, Int.reduceToNat, Int.reduceEq, Int.reduceLT, Int.reduceLE, Int.reduceAdd, Int.reduceSub, Int.reduceMul, reduceIte, resVs, resV, packV, initT, addr, F26_l1, t14, t58, t59, t60, g, w3, hcb, stepOp_app_v, happ] | refine OrW.go ?_
            rw [LoopK_normal]; refine ⟨_, ?_, i + 1, M4, av, cv, rfl, rfl, ?qm, ?q14, ?q58, ?q59, ?q60, ?_⟩
            case qm | q14 | q58 | q59 | q60 => first | rfl | (simp (implicitDefEqProofs := false) (maxSteps := 1000000) (disch := first | omega | with_reducible assumption | (simp only [lenT, Nat.reduceAdd]; omega)) only [amT, cut, bnd, Nat.reduceBEq, reduceCtorEq, Nat.reduceEqDiff, Nat.reduceAdd, Nat.reduceMul, Nat.reduceSub, Int.reduceToNat, Int.reduceEq, Int.reduceLT, Int.reduceLE, Int.reduceAdd, Int.reduceSub, Int.reduceMul, reduceIte, resVs, resV, packV, initT, addr, t14, t58, t59, t60]; first | done | rfl | (congr 1; omega))
            · omega
            · exact ⟨by omega, ⟨by have := w1.1; omega, fun y hy => by rw [hk4 y (by have := hOm.1; omega)]; exact w1.2 y hy⟩, by omega, by rw [hk4 _ (Nat.le_refl _)]; exact w3, hI, fun x hx => by have := ho x hx; rw [mx_size] at this; omega⟩
        · obtain rfl : i = names.length := by omega
          repeat first | simp (implicitDefEqProofs := false) (maxSteps := 1000000) (disch := first | omega | with_reducible assumption | (simp only [lenT, Nat.reduceAdd]; omega)) only [amT, cut, bnd, Nat.reduceBEq, reduceCtorEq, Nat.reduceEqDiff, Nat.reduceAdd, Nat.reduceMul, Nat.reduceSub, Int.reduceToNat, Int.reduceEq, Int.reduceLT, Int.reduceLE, Int.reduceAdd, Int.reduceSub, Int.reduceMul, reduceIte, resVs, resV, packV, initT, addr, F26_l1, t14, t58, t59, t60, g] | refine OrW.go ?_
          exact ⟨_, rfl, fun _ => ⟨w1.mx [], _, rfl, w4.old (Old.here _ [])⟩⟩
    | cons s todo =>
      obtain ⟨ta, tc, rfl⟩ := p5.len
      obtain ⟨b, o, rfl, rfl, hb, hrd, hsl, hT2⟩ := (p5.old (Old.here M [])).hd
      rw [mx_nil_size] at hb
      rw [mx_old hb] at hrd
      have hbo := p6 b ⟨_, _, _, rfl⟩
      have hk := (p2.old (Old.here M [])).look (.int .i64 0) true s
      rw [lkRes_ok] at hk
      have g0 : (0 : Int) < ((todo.length + 1 : Nat) : Int) := by omega
      have hT3 := todo_eqv hT2
      have own2 : ∀ x, ownV (.slice (some ⟨b, o + 1, none⟩) todo.length openCap) x → M1.size < x := fun x ⟨o', l, c, h⟩ => by cases h; exact hbo
      have hg7 := p7.len
      simp only [List.length_cons] at hsl p8
      cases hpl : plR names s with
      | none =>
        simp only [mapF, hpl, Option.map_none, Option.getD_none, Option.isSome_none] at hk
        repeat first | simp (implicitDefEqProofs := false) (maxSteps := 1000000) (disch := first | omega | with_reducible assumption | (simp only [lenT, Nat.reduceAdd]; omega)) only [amT, cut, bnd, Nat.reduceBEq, reduceCtorEq, Nat.reduceEqDiff, Nat.reduceAdd, Nat.reduceMul, Nat.reduceSub, Int.reduceToNat, Int.reduceEq, Int.reduceLT, Int.reduceLE, Int.reduceAdd, Int.reduceSub, Int.reduceMul, reduceIte, resVs, resV, packV, initT, addr, F26_l0, t1, t8, t10, t11, g0, hrd, stepOp_lkp_v, hk, stepOp_slV_v, hsl, undef] | refine OrW.go ?_
        rw [LoopK_normal]; refine ⟨_, ?_, M, .slice (some ⟨b, o + 1, none⟩) todo.length openCap, todo, got, rfl, rfl, ?qm, ?q1, ?q8, ?q10, ?q11, ?_⟩
        case qm | q1 | q8 | q10 | q11 => first | rfl | (simp (implicitDefEqProofs := false) (maxSteps := 1000000) (disch := first | omega | with_reducible assumption | (simp only [lenT, Nat.reduceAdd]; omega)) only [amT, cut, bnd, Nat.reduceBEq, reduceCtorEq, Nat.reduceEqDiff, Nat.reduceAdd, Nat.reduceMul, Nat.reduceSub, Int.reduceToNat, Int.reduceEq, Int.reduceLT, Int.reduceLE, Int.reduceAdd, Int.reduceSub, Int.reduceMul, reduceIte, resVs, resV, packV, initT, addr, t1, t8, t10, t11]; first | done | rfl | (congr 1; omega))
        · omega
        · exact ⟨p1, p2, p3, p4, hT3, own2, p7.skip (fun k hk => by rw [hpl] at hk; cases hk), by omega⟩
      | some k =>
        have hkl := plR_lt hpl
        have hkg : k < got.length := by omega
        have hcb := cutL_bool hkg
        have gk : (k : Int) < (names.length : Int) := by omega
        simp only [mapF, hpl, Option.map_some, Option.getD_some, Option.isSome_some] at hk
        cases hgk : got[k] with
        | true =>
          rw [hgk] at hcb
          repeat first | simp (implicitDefEqProofs := false) (maxSteps := 1000000) (disch := first | omega | with_reducible assumption | (simp only [lenT, Nat.reduceAdd]; omega)) only [amT, cut, bnd, Nat.reduceBEq, reduceCtorEq, Nat.reduceEqDiff, Nat.reduceAdd, Nat.reduceMul, Nat.reduceSub, Int.reduceToNat, Int.reduceEq, Int.reduceLT, Int.reduceLE, Int.reduceAdd, Int.reduceSub, Int.reduceMul, reduceIte, resVs, resV, packV, initT, addr, F26_l0, t1, t8, t10, t11, g0, hrd, stepOp_lkp_v, hk, stepOp_slV_v, hsl, p4, hcb, gk] | refine OrW.go ?_
          rw [LoopK_normal]; refine ⟨_, ?_, M, .slice (some ⟨b, o + 1, none⟩) todo.length openCap, todo, got, rfl, rfl, ?qm, ?q1, ?q8, ?q10, ?q11, ?_⟩
          case qm | q1 | q8 | q10 | q11 => first | rfl | (simp (implicitDefEqProofs := false) (maxSteps := 1000000) (disch := first | omega | with_reducible assumption | (simp only [lenT, Nat.reduceAdd]; omega)) only [amT, cut, bnd, Nat.reduceBEq, reduceCtorEq, Nat.reduceEqDiff, Nat.reduceAdd, Nat.reduceMul, Nat.reduceSub, Int.reduceToNat, Int.reduceEq, Int.reduceLT, Int.reduceLE, Int.reduceAdd, Int.reduceSub, Int.reduceMul, reduceIte, resVs, resV, packV, initT, addr, t1, t8, t10, t11]; first | done | rfl | (congr 1; omega))
          · omega
          · refine ⟨p1, p2, p3, p4, hT3, own2, p7.skip (fun k' hk' => ?_), by omega⟩
            rw [hpl] at hk'; cases hk'
            simp [List.getD, hkg, hgk]
        | false =>
          rw [hgk] at hcb
          have hset : (got.map Value.bool).set k (.bool true) = (got.set k true).map .bool := by rw [List.map_set]
          have hz := hOm.1
          have hcnt := count_set hkg hgk
          have hbne : b ≠ M1.size := by omega
          have hM4 : MapAt (M.set M1.size (.cells ((got.set k true).map .bool) 4 true .exact)) m.size (mapF names) := p2.keep (by rw [AMem.size_set]; exact Nat.le_refl _) (AMem.get_set_ne _ _ (by omega))
          have hO4 : Old m (M.set M1.size (.cells ((got.set k true).map .bool) 4 true .exact)) := p1.set hz _
          have hT4 : Todo (M.set M1.size (.cells ((got.set k true).map .bool) 4 true .exact)) (.slice (some ⟨b, o + 1, none⟩) todo.length openCap) todo := hT3.keep ((Keep.refl (fun x => x = M1.size) M).set (fun _ => rfl) _) fun x hx e => by have := own2 x hx; omega
          have hg4 : (M.set M1.size (.cells ((got.set k true).map .bool) 4 true .exact)).get M1.size = .cells ((got.set k true).map .bool) 4 true .exact := AMem.get_set_self _ _ _
          have hs4 : (M.set M1.size (.cells ((got.set k true).map .bool) 4 true .exact)).size = M.size := rfl
          repeat first | simp (implicitDefEqProofs := false) (maxSteps := 1000000) (disch := first | omega | with_reducible assumption | (simp only [lenT, Nat.reduceAdd]; omega)) only [amT, cut, bnd, Nat.reduceBEq, reduceCtorEq, Nat.reduceEqDiff, Nat.reduceAdd, Nat.reduceMul, Nat.reduceSub, Int.reduceToNat, Int.reduceEq, Int.reduceLT, Int.reduceLE, Int.reduceAdd, Int.reduceSub, Int.reduceMul, reduceIte, resVs, resV, packV, initT, addr, F26_l0, t1, t8, t10, t11, g0, hrd, stepOp_lkp_v, hk, stepOp_slV_v, hsl, p4, hcb, gk, hset] | refine OrW.go ?_
          generalize M.set M1.size (.cells ((got.set k true).map .bool) 4 true .exact) = M4 at hM4 hO4 hT4 hg4 hs4
          refine RelC.call (of_ok (mx M4 []) na nc needs k (hN.old (hO4.mx [])) (by omega) hnl) ?_
          rintro w M5 ⟨hO5, ra5, rc5, rfl, hS5⟩
          have hO45 : Old M4 M5 := (Old.here M4 []).trans hO5
          have hz5 := hO45.1
          have hrw := hrow k
          obtain ⟨v6, M6, happ, hT6, hk6, ho6⟩ := (hT4.old hO45).app (w := .slice ra5 (rowOf needs k).length rc5) (news := rowOf needs k) (by omega) rfl ((hS5.old (Old.here M5 [])).src rc5)
          obtain ⟨a6, c6, rfl⟩ := hT6.len
          have hk6' : ∀ y, y < M5.size → y ≠ b → M6.get y = M5.get y := fun y hy h => hk6.2 y hy h
          have hs6 := hk6.1
          repeat first | simp (implicitDefEqProofs := false) (maxSteps := 1000000) (disch := first | omega | with_reducible assumption | (simp only [lenT, Nat.reduceAdd]; omega)) only [amT, cut, bnd, Nat.reduceBEq, reduceCtorEq, Nat.reduceEqDiff, Nat.reduceAdd, Nat.reduceMul, Nat.reduceSub, Int.reduceToNat, Int.reduceEq, Int.reduceLT, Int.reduceLE, Int.reduceAdd, Int.reduceSub, Int.reduceMul, reduceIte, resVs, resV, packV, initT, addr, t1, t8, t10, t11, stepOp_app_v, happ] | refine OrW.go ?_
          rw [LoopK_normal]; refine ⟨_, ?_, M6, .slice a6 (todo ++ rowOf needs k).length c6, todo ++ rowOf needs k, got.set k true, rfl, rfl, ?qm, ?q1, ?q8, ?q10, ?q11, ?_⟩
          case qm | q1 | q8 | q10 | q11 => first | rfl | (simp (implicitDefEqProofs := false) (maxSteps := 1000000) (disch := first | omega | with_reducible assumption | (simp only [lenT, Nat.reduceAdd]; omega)) only [amT, cut, bnd, Nat.reduceBEq, reduceCtorEq, Nat.reduceEqDiff, Nat.reduceAdd, Nat.reduceMul, Nat.reduceSub, Int.reduceToNat, Int.reduceEq, Int.reduceLT, Int.reduceLE, Int.reduceAdd, Int.reduceSub, Int.reduceMul, reduceIte, resVs, resV, packV, initT, addr, t1, t8, t10, t11]; first | done | rfl | (congr 1; omega))
          · simp only [List.length_cons, List.length_append]; omega
          · refine ⟨⟨by have := hO4.1; omega, fun y hy => ?_⟩, (hM4.old hO45).keep hs6 (hk6' _ (by omega) (by omega)), by omega, ?_, hT6, fun x hx => ?_, p7.take hpl, by rw [List.length_append]; omega⟩
            · rw [hk6' y (by omega) (by omega), hO45.2 y (by have := hO4.1; omega)]; exact hO4.2 y hy
            · rw [hk6' _ (by omega) (by omega), hO45.2 _ (by omega)]; exact hg4
            · rcases ho6 x hx with h | h <;> omega
end Go.Proofs.YtgkmlbkocgjmmaaDoor
namespace Go.Proofs.YtgkmlbkocgjmmaaDoor
open Go Go.AM
set_option linter.unusedVariables false
set_option linter.unusedSimpArgs false
set_option maxHeartbeats 2000000
set_option maxRecDepth 100000

/-- A row of numbers. -/
def IntR (m : AMem) (a : Option Addr) (l : List Nat) : Prop := ∀ i (h : i < l.length), ∃ b o, a = some ⟨b, o, none⟩ ∧ b < m.size ∧ rdO (m.get b) (o + i) 1 = some [iV l[i]]
theorem IntR.old {m m' : AMem} {a : Option Addr} {l : List Nat} (h : IntR m a l) (ho : Old m m') : IntR m' a l := fun i hi => by
  obtain ⟨b, o, h1, h2, h3⟩ := h i hi
  exact ⟨b, o, h1, Nat.lt_of_lt_of_le h2 ho.1, by rw [ho.2 b h2]; exact h3⟩
theorem intR_cells {m : AMem} {b : Nat} {l : List Nat} (hb : b < m.size) {e : TypeId} {w : Bool} {sp : Spare} (hg : m.get b = .cells (l.map iV) e w sp) : IntR m (some ⟨b, 0, none⟩) l := fun i hi =>
  ⟨b, 0, rfl, hb, by
    rw [hg, rdO_cells, Nat.zero_add]
    unfold cutL
    rw [if_pos (by rw [List.length_map]; omega), List.drop_eq_getElem_cons (by rw [List.length_map]; exact hi), List.getElem_map]; rfl⟩
theorem IntB.row {M : AMem} {a : Option Addr} {n cap : Nat} {l : List Nat} (h : IntB M (.slice a n cap) l) : IntR M a l := by
  rcases h with ⟨rfl, _⟩ | ⟨b, h, h1, h2⟩
  · intro i hi; simp at hi
  · cases h; exact intR_cells h1 h2
theorem sameInts_ok (m : AMem) (a1 : Option Addr) (c1 : Nat) (l1 : List Nat) (h1 : IntR m a1 l1) (a2 : Option Addr) (c2 : Nat) (l2 : List Nat) (h2 : IntR m a2 l2) (hl : l1.length ≤ 9223372036854775807) (hl2 : l2.length ≤ 9223372036854775807) :
    PureC Tryd.prog 3 24 [.slice a1 l1.length c1, .slice a2 l2.length c2] m (.bool (decide (l1 = l2))) := by
  refine pure_of_W (fn := Tryd.f24) rfl rfl F24_ok (by simp [F24]) (.bool _) ?_
  by_cases g0 : (l1.length : Int) = (l2.length : Int)
  · have g1 : l1.length = l2.length := by omega
    repeat first | simp (implicitDefEqProofs := false) (maxSteps := 1000000) (disch := first | omega | with_reducible assumption | (simp only [lenT, Nat.reduceAdd]; omega)) only [amT, cut, bnd, Nat.reduceBEq, reduceCtorEq, Nat.reduceEqDiff, Nat.reduceAdd, Nat.reduceMul, Nat.reduceSub, Int.reduceToNat, Int.reduceEq, Int.reduceLT, Int.reduceLE, Int.reduceAdd, Int.reduceSub, Int.reduceMul, reduceIte, resVs, resV, packV, initT, addr, F24, g0] | refine OrW.go ?_
    refine W_loop (fun N qs => ∃ (i : Nat), N = l1.length - i ∧ qs.ds = [] ∧ qs.m = mx m [] ∧ qs.t 0 = .slice a1 l1.length c1 ∧ qs.t 1 = .slice a2 l2.length c2 ∧ qs.t 5 = .int .i64 i ∧ i ≤ l1.length ∧ ∀ j (hj : j < l1.length), j < i → l1[j] = l2[j]'(by omega)) (l1.length - (0)) ⟨0, rfl, rfl, ?qm, ?q0, ?q1, ?q5, ?_⟩ ?_
    case qm | q0 | q1 | q5 => first | rfl | (simp (implicitDefEqProofs := false) (maxSteps := 1000000) (disch := first | omega | with_reducible assumption | (simp only [lenT, Nat.reduceAdd]; omega)) only [amT, cut, bnd, Nat.reduceBEq, reduceCtorEq, Nat.reduceEqDiff, Nat.reduceAdd, Nat.reduceMul, Nat.reduceSub, Int.reduceToNat, Int.reduceEq, Int.reduceLT, Int.reduceLE, Int.reduceAdd, Int.reduceSub, Int.reduceMul, reduceIte, resVs, resV, packV, initT, addr]; first | done | rfl | (congr 1; omega))
    · exact ⟨by omega, fun j h1 h2 => by omega⟩
    · rintro N t m1 ds ⟨i, rfl, hds, hm, t0, t1, t5, hp⟩
      simp only at hds hm t0 t1 t5
      subst hds; replace hm := hm.symm; subst hm
      obtain ⟨hi, hall⟩ := hp
      by_cases g : (i : Int) < (l1.length : Int)
      · have hi' : i < l1.length := by omega
        have gg : (i : Int) < (l2.length : Int) := by omega
        obtain ⟨b1, o1, rfl, hb1, r1⟩ := h1 i hi'
        obtain ⟨b2, o2, rfl, hb2, r2⟩ := h2 i (by omega)
        simp only [iV] at r1 r2
        by_cases e : (l1[i] : Int) = (l2[i]'(by omega) : Int)
        · repeat first | simp (implicitDefEqProofs := false) (maxSteps := 1000000) (disch := first | omega | with_reducible assumption | (simp only [lenT, Nat.reduceAdd]; omega)) only [amT, cut, bnd, Nat.reduceBEq, reduceCtorEq, Nat.reduceEqDiff, Nat.reduceAdd, Nat.reduceMul, Nat.reduceSub, Int.reduceToNat, Int.reduceEq, Int.reduceLT, Int.reduceLE, Int.reduceAdd, Int.reduceSub, Int.reduceMul, reduceIte, resVs, resV, packV, initT, addr, F24_l0, t0, t1, t5, g, gg, r1, r2, e] | refine OrW.go ?_
          rw [LoopK_normal]; refine ⟨_, ?_, i + 1, rfl, rfl, ?qm, ?q0, ?q1, ?q5, ?_⟩
          case qm | q0 | q1 | q5 => first | rfl | (simp (implicitDefEqProofs := false) (maxSteps := 1000000) (disch := first | omega | with_reducible assumption | (simp only [lenT, Nat.reduceAdd]; omega)) only [amT, cut, bnd, Nat.reduceBEq, reduceCtorEq, Nat.reduceEqDiff, Nat.reduceAdd, Nat.reduceMul, Nat.reduceSub, Int.reduceToNat, Int.reduceEq, Int.reduceLT, Int.reduceLE, Int.reduceAdd, Int.reduceSub, Int.reduceMul, reduceIte, resVs, resV, packV, initT, addr, t0, t1, t5]; first | done | rfl | (congr 1; omega))
          · omega
          · refine ⟨by omega, fun j h1 h2 => ?_⟩
            rcases Nat.lt_or_ge j i with h | h
            · exact hall j h1 h
            · obtain rfl : j = i := by omega
              omega
        · have hne : ¬ l1 = l2 := fun h => e (by subst h; rfl)
          repeat first | simp (implicitDefEqProofs := false) (maxSteps := 1000000) (disch := first | omega | with_reducible assumption | (simp only [lenT, Nat.reduceAdd]; omega)) only [amT, cut, bnd, Nat.reduceBEq, reduceCtorEq, Nat.reduceEqDiff, Nat.reduceAdd, Nat.reduceMul, Nat.reduceSub, Int.reduceToNat, Int.reduceEq, Int.reduceLT, Int.reduceLE, Int.reduceAdd, Int.reduceSub, Int.reduceMul, reduceIte, resVs, resV, packV, initT, addr, F24_l0, t0, t1, t5, g, gg, r1, r2, e] | refine OrW.go ?_
          simp [hne]
      · obtain rfl : i = l1.length := by omega
        have heq : l1 = l2 := List.ext_getElem g1 fun j h1 h2 => hall j h1 h1
        repeat first | simp (implicitDefEqProofs := false) (maxSteps := 1000000) (disch := first | omega | with_reducible assumption | (simp only [lenT, Nat.reduceAdd]; omega)) only [amT, cut, bnd, Nat.reduceBEq, reduceCtorEq, Nat.reduceEqDiff, Nat.reduceAdd, Nat.reduceMul, Nat.reduceSub, Int.reduceToNat, Int.reduceEq, Int.reduceLT, Int.reduceLE, Int.reduceAdd, Int.reduceSub, Int.reduceMul, reduceIte, resVs, resV, packV, initT, addr, F24_l0, t0, t1, t5, g] | refine OrW.go ?_
        simp [heq]
  · have hne : ¬ l1 = l2 := fun h => g0 (by rw [h])
    repeat first | simp (implicitDefEqProofs := false) (maxSteps := 1000000) (disch := first | omega | with_reducible assumption | (simp only [lenT, Nat.reduceAdd]; omega)) only [amT, cut, bnd, Nat.reduceBEq, reduceCtorEq, Nat.reduceEqDiff, Nat.reduceAdd, Nat.reduceMul, Nat.reduceSub, Int.reduceToNat, Int.reduceEq, Int.reduceLT, Int.reduceLE, Int.reduceAdd, Int.reduceSub, Int.reduceMul, reduceIte, resVs, resV, packV, initT, addr, F24, g0] | refine OrW.go ?_
    simp [hne]
def shortB (ls : List (List UInt8)) (top : Nat) : Bool := decide (ls.length ≤ top) && ls.all fun s => decide (s.length ≤ 200)
theorem short_ok (m : AMem) (a : Option Addr) (c : Nat) (ls : List (List UInt8)) (ha : StrR m a ls) (hl : ls.length ≤ 9223372036854775807) (hs : ∀ s ∈ ls, s.length ≤ 9223372036854775807) (top : Nat) (ht : top ≤ 100) :
    PureC Tryd.prog 3 25 [.slice a ls.length c, .int .i64 top] m (.bool (shortB ls top)) := by
  refine pure_of_W (fn := Tryd.f25) rfl rfl F25_ok (by simp [F25]) (.bool _) ?_
  by_cases g0 : (top : Int) < (ls.length : Int)
  · have e : shortB ls top = false := by simp [shortB]; omega
    rw [e]
    repeat first | simp (implicitDefEqProofs := false) (maxSteps := 1000000) (disch := first | omega | with_reducible assumption | (simp only [lenT, Nat.reduceAdd]; omega)) only [amT, cut, bnd, Nat.reduceBEq, reduceCtorEq, Nat.reduceEqDiff, Nat.reduceAdd, Nat.reduceMul, Nat.reduceSub, Int.reduceToNat, Int.reduceEq, Int.reduceLT, Int.reduceLE, Int.reduceAdd, Int.reduceSub, Int.reduceMul, reduceIte, resVs, resV, packV, initT, addr, F25, g0] | refine OrW.go ?_
  · have hlt : ls.length ≤ top := by omega
    repeat first | simp (implicitDefEqProofs := false) (maxSteps := 1000000) (disch := first | omega | with_reducible assumption | (simp only [lenT, Nat.reduceAdd]; omega)) only [amT, cut, bnd, Nat.reduceBEq, reduceCtorEq, Nat.reduceEqDiff, Nat.reduceAdd, Nat.reduceMul, Nat.reduceSub, Int.reduceToNat, Int.reduceEq, Int.reduceLT, Int.reduceLE, Int.reduceAdd, Int.reduceSub, Int.reduceMul, reduceIte, resVs, resV, packV, initT, addr, F25, g0] | refine OrW.go ?_
    refine W_loop (fun N qs => ∃ (i : Nat), N = ls.length - i ∧ qs.ds = [] ∧ qs.m = mx m [] ∧ qs.t 0 = .slice a ls.length c ∧ qs.t 5 = .int .i64 i ∧ i ≤ ls.length ∧ ∀ j (hj : j < ls.length), j < i → ls[j].length ≤ 200) (ls.length - (0)) ⟨0, rfl, rfl, ?qm, ?q0, ?q5, ?_⟩ ?_
    case qm | q0 | q5 => first | rfl | (simp (implicitDefEqProofs := false) (maxSteps := 1000000) (disch := first | omega | with_reducible assumption | (simp only [lenT, Nat.reduceAdd]; omega)) only [amT, cut, bnd, Nat.reduceBEq, reduceCtorEq, Nat.reduceEqDiff, Nat.reduceAdd, Nat.reduceMul, Nat.reduceSub, Int.reduceToNat, Int.reduceEq, Int.reduceLT, Int.reduceLE, Int.reduceAdd, Int.reduceSub, Int.reduceMul, reduceIte, resVs, resV, packV, initT, addr]; first | done | rfl | (congr 1; omega))
    · exact ⟨by omega, fun j h1 h2 => by omega⟩
    · rintro N t m1 ds ⟨i, rfl, hds, hm, t0, t5, hp⟩
      simp only at hds hm t0 t5
      subst hds; replace hm := hm.symm; subst hm
      obtain ⟨hi, hall⟩ := hp
      by_cases g : (i : Int) < (ls.length : Int)
      · have hi' : i < ls.length := by omega
        obtain ⟨b, o, rfl, hb, hr⟩ := ha i hi'
        have hsl := hs _ (List.getElem_mem hi')
        by_cases e : (200 : Int) < (ls[i].length : Int)
        · have ee : shortB ls top = false := by
            have : ls.all (fun s => decide (s.length ≤ 200)) = false := by rw [List.all_eq_false]; exact ⟨_, List.getElem_mem hi', by simp; omega⟩
            simp [shortB, this]
          rw [ee]
          repeat first | simp (implicitDefEqProofs := false) (maxSteps := 1000000) (disch := first | omega | with_reducible assumption | (simp only [lenT, Nat.reduceAdd]; omega)) only [amT, cut, bnd, Nat.reduceBEq, reduceCtorEq, Nat.reduceEqDiff, Nat.reduceAdd, Nat.reduceMul, Nat.reduceSub, Int.reduceToNat, Int.reduceEq, Int.reduceLT, Int.reduceLE, Int.reduceAdd, Int.reduceSub, Int.reduceMul, reduceIte, resVs, resV, packV, initT, addr, F25_l0, t0, t5, g, hr, e] | refine OrW.go ?_
        · repeat first | simp (implicitDefEqProofs := false) (maxSteps := 1000000) (disch := first | omega | with_reducible assumption | (simp only [lenT, Nat.reduceAdd]; omega)) only [amT, cut, bnd, Nat.reduceBEq, reduceCtorEq, Nat.reduceEqDiff, Nat.reduceAdd, Nat.reduceMul, Nat.reduceSub, Int.reduceToNat, Int.reduceEq, Int.reduceLT, Int.reduceLE, Int.reduceAdd, Int.reduceSub, Int.reduceMul, reduceIte, resVs, resV, packV, initT, addr, F25_l0, t0, t5, g, hr, e] | refine OrW.go ?_
          rw [LoopK_normal]; refine ⟨_, ?_, i + 1, rfl, rfl, ?qm, ?q0, ?q5, ?_⟩
          case qm | q0 | q5 => first | rfl | (simp (implicitDefEqProofs := false) (maxSteps := 1000000) (disch := first | omega | with_reducible assumption | (simp only [lenT, Nat.reduceAdd]; omega)) only [amT, cut, bnd, Nat.reduceBEq, reduceCtorEq, Nat.reduceEqDiff, Nat.reduceAdd, Nat.reduceMul, Nat.reduceSub, Int.reduceToNat, Int.reduceEq, Int.reduceLT, Int.reduceLE, Int.reduceAdd, Int.reduceSub, Int.reduceMul, reduceIte, resVs, resV, packV, initT, addr, t0, t5]; first | done | rfl | (congr 1; omega))
          · omega
          · refine ⟨by omega, fun j h1 h2 => ?_⟩
            rcases Nat.lt_or_ge j i with h | h
            · exact hall j h1 h
            · obtain rfl : j = i := by omega
              omega
      · obtain rfl : i = ls.length := by omega
        have ee : shortB ls top = true := by
          have : ls.all (fun s => decide (s.length ≤ 200)) = true := by rw [List.all_eq_true]; intro x hx; obtain ⟨j, hj, rfl⟩ := List.mem_iff_getElem.1 hx; simpa using hall j hj hj
          simp [shortB, this, hlt]
        rw [ee]
        repeat first | simp (implicitDefEqProofs := false) (maxSteps := 1000000) (disch := first | omega | with_reducible assumption | (simp only [lenT, Nat.reduceAdd]; omega)) only [amT, cut, bnd, Nat.reduceBEq, reduceCtorEq, Nat.reduceEqDiff, Nat.reduceAdd, Nat.reduceMul, Nat.reduceSub, Int.reduceToNat, Int.reduceEq, Int.reduceLT, Int.reduceLE, Int.reduceAdd, Int.reduceSub, Int.reduceMul, reduceIte, resVs, resV, packV, initT, addr, F25_l0, t0, t5, g] | refine OrW.go ?_
/-- Rows of texts as they are handed in. -/
def NeedsA (m : AMem) (a : Option Addr) (needs : List (List (List UInt8))) : Prop := ∀ i (h : i < needs.length), ∃ b o ra rc, a = some ⟨b, o, none⟩ ∧ b < m.size ∧ rdO (m.get b) (o + i) 1 = some [.slice ra needs[i].length rc] ∧ Src m ra needs[i] ∧ needs[i].length ≤ 9223372036854775807 ∧ ∀ s ∈ needs[i], s.length ≤ 9223372036854775807
theorem NeedsA.old {m m' : AMem} {a : Option Addr} {ls : List (List (List UInt8))} (h : NeedsA m a ls) (ho : Old m m') : NeedsA m' a ls := fun i hi => by
  obtain ⟨b, o, ra, rc, h1, h2, h3, h4, h5⟩ := h i hi
  exact ⟨b, o, ra, rc, h1, Nat.lt_of_lt_of_le h2 ho.1, by rw [ho.2 b h2]; exact h3, h4.old ho, h5⟩
theorem NeedsA.needs {m : AMem} {a : Option Addr} {needs : List (List (List UInt8))} (h : NeedsA m a needs) (hg : needs.all (fun r => shortB r 30) = true) : NeedsR m a needs := fun i hi => by
  obtain ⟨b, o, ra, rc, h1, h2, h3, h4, h5⟩ := h i hi
  have := List.all_eq_true.1 hg _ (List.getElem_mem hi)
  simp [shortB] at this
  exact ⟨b, o, ra, rc, h1, h2, h3, h4, by omega⟩
end Go.Proofs.YtgkmlbkocgjmmaaDoor
namespace Go.AM
set_option linter.unusedVariables false

/-- A word as a cell. -/
def w32 (x : UInt32) : Value := .int .u32 (x.toNat : Int)
theorem w32_def (x : UInt32) : w32 x = .int .u32 (x.toNat : Int) := rfl
theorem plain_w32 (x : UInt32) : Plain (w32 x) := .int _ _
def shrW (x : UInt32) (b : Nat) : UInt32 := UInt32.ofNat (x.toNat >>> b)
def shlW (x : UInt32) (b : Nat) : UInt32 := UInt32.ofNat (x.toNat <<< b)
def rotr (b : Nat) (x : UInt32) : UInt32 := shrW x b ||| shlW x (32 - b)

theorem wrap_u32n (n : Nat) : IntKind.u32.wrap (n : Int) = ((n % 2 ^ 32 : Nat) : Int) := by simp [IntKind.wrap, IntKind.bits, IntKind.signed]
theorem u32_le (x : UInt32) : (x.toNat : Int) ≤ IntKind.u32.max := by
  have := x.toNat_lt; rw [max_u32]; omega
theorem binV_addw (x y : UInt32) : binV .add (w32 x) (w32 y) = some (w32 (x + y)) := by
  rw [w32_def, w32_def, binV_add, w32_def, show (x.toNat : Int) + y.toNat = ((x.toNat + y.toNat : Nat) : Int) by push_cast; rfl, wrap_u32n, UInt32.toNat_add]
theorem binV_andw (x y : UInt32) : binV .and (w32 x) (w32 y) = some (w32 (x &&& y)) := by
  rw [w32_def, w32_def, binV_and, w32_def, ibits_and_nat (u32_le x) (u32_le y), UInt32.toNat_and]
theorem binV_orw (x y : UInt32) : binV .or (w32 x) (w32 y) = some (w32 (x ||| y)) := by
  rw [w32_def, w32_def, binV_or, w32_def, ibits_or_nat (u32_le x) (u32_le y), UInt32.toNat_or]
theorem binV_xorw (x y : UInt32) : binV .xor (w32 x) (w32 y) = some (w32 (x ^^^ y)) := by
  rw [w32_def, w32_def, binV_xor, w32_def, ibits_xor_nat (u32_le x) (u32_le y), UInt32.toNat_xor]
theorem ofInt_w (x : UInt32) : BitVec.ofInt IntKind.u32.bits (x.toNat : Int) = x.toBitVec := by
  apply BitVec.eq_of_toNat_eq
  rw [ofInt_nat (u32_le x)]; rfl
theorem ibits_andNotw (x y : UInt32) : ibits .andNot .u32 (x.toNat : Int) (y.toNat : Int) = ((x &&& ~~~y).toNat : Int) := by
  simp only [ibits, ofInt_w]
  have h : ((x.toBitVec &&& ~~~y.toBitVec).toNat : Int) ≤ IntKind.u32.max := by
    have := (x.toBitVec &&& ~~~y.toBitVec).isLt
    rw [max_u32]; omega
  exact (wrap_small h).trans rfl
theorem binV_andNotw (x y : UInt32) : binV .andNot (w32 x) (w32 y) = some (w32 (x &&& ~~~y)) := by
  rw [w32_def, w32_def, binV_andNot, w32_def, ibits_andNotw]
theorem binV_shrw {k : IntKind} {x : UInt32} {b : Nat} (h : b ≤ 32) : binV .shr (w32 x) (.int k (b : Int)) = some (w32 (shrW x b)) := by
  rw [w32_def, binV_shr _ _ (by omega), w32_def, shr_nat _ _ _ (by simpa [IntKind.bits] using h)]
  have h2 : x.toNat >>> b < 2 ^ 32 := Nat.lt_of_le_of_lt (Nat.shiftRight_le _ _) x.toNat_lt
  simp [shrW, Nat.mod_eq_of_lt h2]
theorem binV_shlw {k : IntKind} {x : UInt32} {b : Nat} (h : b ≤ 32) : binV .shl (w32 x) (.int k (b : Int)) = some (w32 (shlW x b)) := by
  rw [w32_def, binV_shl _ _ (by omega), w32_def]
  simp only [shl, Int.toNat_natCast, show min b IntKind.u32.bits = b by simp [IntKind.bits]; omega]
  rw [show (x.toNat : Int) * 2 ^ b = ((x.toNat * 2 ^ b : Nat) : Int) by push_cast; rfl, wrap_u32n]
  simp [shlW, Nat.shiftLeft_eq]
theorem not_w (x : UInt32) : unV .xor (w32 x) = some (w32 (~~~x)) := by
  have h := ibits_xor_nat (u32_le (0xFFFFFFFF : UInt32)) (u32_le x)
  have h1 : (((0xFFFFFFFF : UInt32).toNat : Nat) : Int) = 4294967295 := rfl
  rw [h1] at h
  have h2 : (~~~x).toNat = (0xFFFFFFFF : UInt32).toNat ^^^ x.toNat := by
    rw [← UInt32.toNat_xor]; congr 1
  rw [w32_def, w32_def, h2, ← h]; rfl
theorem ws_get {l : List UInt32} {i : Nat} (h : i < l.length) : (l.map w32)[i]? = some (w32 l[i]) := by simp [h]
theorem ws_set (l : List UInt32) (i : Nat) (x : UInt32) : (l.map w32).set i (w32 x) = (l.set i x).map w32 := by simp [List.map_set]
theorem cellsOf_w (x : UInt32) : cellsOf (w32 x) = some [w32 x] := rfl
theorem cellsOf_ws (l : List UInt32) : cellsOf (.agg (l.map w32).toArray) = some (l.map w32) := by
  simp [cellsOf, oneCell, w32]

theorem amW : type_of% @binV_addw ∧ type_of% @binV_andw ∧ type_of% @binV_orw ∧ type_of% @binV_xorw ∧ type_of% @binV_andNotw ∧ type_of% @not_w ∧ type_of% @ws_get ∧ type_of% @ws_set ∧ type_of% @cellsOf_w ∧ type_of% @cellsOf_ws :=
  ⟨@binV_addw, @binV_andw, @binV_orw, @binV_xorw, @binV_andNotw, @not_w, @ws_get, @ws_set, @cellsOf_w, @cellsOf_ws⟩
/-! Sums of bits. -/
theorem ch_eq (e f g : UInt32) : (e &&& f ||| g &&& ~~~e) = (e &&& f ^^^ ~~~e &&& g) := by
  apply UInt32.toBitVec_inj.1
  simp only [UInt32.toBitVec_and, UInt32.toBitVec_or, UInt32.toBitVec_xor, UInt32.toBitVec_not]
  ext i hi
  simp only [BitVec.getElem_and, BitVec.getElem_or, BitVec.getElem_xor, BitVec.getElem_not]
  cases e.toBitVec[i] <;> cases f.toBitVec[i] <;> cases g.toBitVec[i] <;> rfl
theorem maj_eq (a b c : UInt32) : (a &&& b ^^^ a &&& c ^^^ b &&& c) = (a &&& b ||| a &&& c ||| b &&& c) := by
  apply UInt32.toBitVec_inj.1
  simp only [UInt32.toBitVec_and, UInt32.toBitVec_or, UInt32.toBitVec_xor]
  ext i hi
  simp only [BitVec.getElem_and, BitVec.getElem_or, BitVec.getElem_xor]
  cases a.toBitVec[i] <;> cases b.toBitVec[i] <;> cases c.toBitVec[i] <;> rfl
theorem or_comm_w (a b : UInt32) : a ||| b = b ||| a := by
  apply UInt32.toNat_inj.1; rw [UInt32.toNat_or, UInt32.toNat_or, Nat.or_comm]

/-! ### The function, in plain words -/
def spl {α : Type} (R : List α) (o : Nat) (c : List α) : List α := R.take o ++ c ++ R.drop (o + c.length)
theorem splice_spl (R v : List Value) (o : Nat) : splice R o v = spl R o v := rfl
theorem spl_length {α : Type} {R c : List α} {o : Nat} (h : o + c.length ≤ R.length) : (spl R o c).length = R.length := by simp [spl]; omega
theorem spl_nil {α : Type} (R : List α) (o : Nat) : spl R o [] = R := by simp [spl]
theorem spl_map {α β : Type} (f : α → β) (R c : List α) (o : Nat) : (spl R o c).map f = spl (R.map f) o (c.map f) := by simp [spl, List.map_take, List.map_drop]
theorem spl_all {α : Type} {R c : List α} (h : c.length = R.length) : spl R 0 c = c := by simp [spl, h]
theorem spl_get {α : Type} {R c : List α} {o : Nat} (h : o + c.length ≤ R.length) (i : Nat) : (spl R o c)[i]? = if i < o then R[i]? else if i < o + c.length then c[i - o]? else R[i]? := by
  simp only [spl, List.append_assoc]
  by_cases h1 : i < o
  · rw [if_pos h1, List.getElem?_append_left (by simp; omega), List.getElem?_take_of_lt h1]
  · rw [if_neg h1, List.getElem?_append_right (by simp; omega)]
    have hl : (R.take o).length = o := by simp; omega
    rw [hl]
    by_cases h2 : i < o + c.length
    · rw [if_pos h2, List.getElem?_append_left (by omega)]
    · rw [if_neg h2, List.getElem?_append_right (by omega), List.getElem?_drop]; congr 1; omega
theorem spl_cons {α : Type} {R c : List α} {o : Nat} {x : α} (h : o + c.length < R.length) : spl R o (x :: c) = spl (R.set o x) (o + 1) c := by
  apply List.ext_getElem?
  intro i
  rw [spl_get (by simp; omega), spl_get (by simp; omega)]
  simp only [List.length_cons]
  by_cases h1 : i < o
  · rw [if_pos h1, if_pos (by omega), List.getElem?_set_ne (by omega)]
  · rw [if_neg h1]
    by_cases h2 : i = o
    · subst h2; rw [if_pos (by omega), if_pos (by omega), List.getElem?_set_self (by omega)]; simp
    · rw [if_neg (show ¬ i < o + 1 by omega)]
      by_cases h3 : i < o + (c.length + 1)
      · rw [if_pos h3, if_pos (by omega), show i - o = (i - (o + 1)) + 1 by omega, List.getElem?_cons_succ]
      · rw [if_neg h3, if_neg (by omega), List.getElem?_set_ne (by omega)]
theorem spl_snoc {α : Type} {R c : List α} {o k : Nat} {x : α} (hk : k = o + c.length) (h : k < R.length) : (spl R o c).set k x = spl R o (c ++ [x]) := by
  subst hk
  apply List.ext_getElem?
  intro i
  rw [spl_get (by simp; omega)]
  simp only [List.length_append, List.length_singleton]
  by_cases h2 : i = o + c.length
  · subst h2
    rw [List.getElem?_set_self (by rw [spl_length (by omega)]; omega), if_neg (by omega), if_pos (by omega), show o + c.length - o = c.length by omega]; simp
  · rw [List.getElem?_set_ne (by omega), spl_get (by omega)]
    by_cases h1 : i < o
    · rw [if_pos h1, if_pos h1]
    · rw [if_neg h1, if_neg h1]
      by_cases h3 : i < o + c.length
      · rw [if_pos h3, if_pos (by omega), List.getElem?_append_left (by omega)]
      · rw [if_neg h3, if_neg (by omega)]

def zip2 (a b : List UInt32) : List UInt32 := List.zipWith (· + ·) a b
theorem zip2_length {a b : List UInt32} {n : Nat} (ha : a.length = n) (hb : b.length = n) : (zip2 a b).length = n := by simp [zip2, ha, hb]
theorem zip2_assoc : ∀ (a b c : List UInt32), zip2 (zip2 a b) c = zip2 a (zip2 b c)
  | [], _, _ => by simp [zip2]
  | _ :: _, [], _ => by simp [zip2]
  | _ :: _, _ :: _, [] => by simp [zip2]
  | x :: a, y :: b, z :: c => by
    have := zip2_assoc a b c
    simp only [zip2, List.zipWith_cons_cons] at this ⊢
    rw [this, UInt32.add_assoc]
def beginW : List UInt32 := [1779033703, 3144134277, 1013904242, 2773480762, 1359893119, 2600822924, 528734635, 1541459225]
def movedW (x : UInt32) (k l m : Nat) : UInt32 := rotr k x ^^^ rotr l x ^^^ shrW x m
def turnedW (x : UInt32) (k l m : Nat) : UInt32 := rotr k x ^^^ rotr l x ^^^ rotr m x
def word4 (l : List UInt8) : UInt32 := l.foldl (fun a c => shlW a 8 ||| UInt32.ofNat c.toNat) 0
def wordAt (b : List UInt8) (W : List UInt32) (t : Nat) : UInt32 :=
  if t < 16 then word4 ((b.drop (4 * t)).take 4) else movedW (W.getD (t - 2) 0) 17 19 10 + W.getD (t - 7) 0 + movedW (W.getD (t - 15) 0) 7 18 3 + W.getD (t - 16) 0
def sched (b : List UInt8) : Nat → List UInt32
  | 0 => []
  | t + 1 => sched b t ++ [wordAt b (sched b t) t]
theorem sched_length (b : List UInt8) : ∀ t, (sched b t).length = t
  | 0 => rfl
  | t + 1 => by simp [sched, sched_length b t]
def roundW (v : List UInt32) (k w : UInt32) : List UInt32 := match v with
  | [a, b, c, d, e, f, g, h] =>
    [h + turnedW e 6 11 25 + (e &&& f ||| g &&& ~~~e) + k + w + (turnedW a 2 13 22 + (a &&& b ^^^ a &&& c ^^^ b &&& c)), a, b, c, d + (h + turnedW e 6 11 25 + (e &&& f ||| g &&& ~~~e) + k + w), e, f, g]
  | v => v
theorem roundW_length (v : List UInt32) (k w : UInt32) : (roundW v k w).length = v.length := by unfold roundW; split <;> rfl
def roundsW (K : List UInt32) (b : List UInt8) (v : List UInt32) : Nat → List UInt32
  | 0 => v
  | t + 1 => roundW (roundsW K b v t) (K.getD t 0) ((sched b 64).getD t 0)
theorem roundsW_length (K : List UInt32) (b : List UInt8) (v : List UInt32) : ∀ t, (roundsW K b v t).length = v.length
  | 0 => rfl
  | t + 1 => by rw [roundsW, roundW_length, roundsW_length K b v t]
def constW : List UInt32 := [1116352408, 1899447441, 3049323471, 3921009573, 961987163, 1508970993, 2453635748, 2870763221, 3624381080, 310598401, 607225278, 1426881987, 1925078388, 2162078206, 2614888103, 3248222580, 3835390401, 4022224774, 264347078, 604807628, 770255983, 1249150122, 1555081692, 1996064986, 2554220882, 2821834349, 2952996808, 3210313671, 3336571891, 3584528711, 113926993, 338241895, 666307205, 773529912, 1294757372, 1396182291, 1695183700, 1986661051, 2177026350, 2456956037, 2730485921, 2820302411, 3259730800, 3345764771, 3516065817, 3600352804, 4094571909, 275423344, 430227734, 506948616, 659060556, 883997877, 958139571, 1322822218, 1537002063, 1747873779, 1955562222, 2024104815, 2227730452, 2361852424, 2428436474, 2756734187, 3204031479, 3329325298]
/-- What a block adds. -/
def moreStep (M : List UInt32) (b : List UInt8) : List UInt32 := zip2 M (roundsW constW b (zip2 beginW M) 64)
theorem moreStep_length {M : List UInt32} {b : List UInt8} (h : M.length = 8) : (moreStep M b).length = 8 :=
  zip2_length h (by rw [roundsW_length]; exact zip2_length rfl h)

/-- The first k of one row, the others of another. -/
def mix {α : Type} (k : Nat) (X B : List α) : List α := X.take k ++ B.drop k
theorem mix_zero {α : Type} (X B : List α) : mix 0 X B = B := by simp [mix]
theorem mix_all {α : Type} {k : Nat} {X B : List α} (h : X.length = k) (h' : B.length = k) : mix k X B = X := by
  simp only [mix]; rw [List.take_of_length_le (by omega), List.drop_of_length_le (by omega), List.append_nil]
theorem mix_length {α : Type} {k : Nat} {X B : List α} (h : X.length = B.length) : (mix k X B).length = B.length := by simp [mix]; omega
theorem mix_get {α : Type} {k : Nat} {X B : List α} (h : X.length = B.length) (hk : k < B.length) : (mix k X B)[k]'(by rw [mix_length h]; exact hk) = B[k] := by
  simp only [mix]
  rw [List.getElem_append_right (by simp; omega)]
  simp [List.length_take, show min k X.length = k by omega]
theorem mix_set {α : Type} {k : Nat} {X B : List α} (h : X.length = B.length) (hk : k < X.length) : (mix k X B).set k X[k] = mix (k + 1) X B := by
  apply List.ext_getElem?
  intro i
  have hl : (X.take k).length = k := by simp; omega
  have hl' : (X.take (k + 1)).length = k + 1 := by simp; omega
  by_cases hi : i = k
  · subst hi
    rw [List.getElem?_set_self (by rw [mix_length h]; omega)]
    simp only [mix]
    rw [List.getElem?_append_left (by omega), List.getElem?_take_of_lt (by omega), List.getElem?_eq_getElem hk]
  · rw [List.getElem?_set_ne (by omega)]
    simp only [mix]
    by_cases h1 : i < k
    · rw [List.getElem?_append_left (by omega), List.getElem?_append_left (by omega), List.getElem?_take_of_lt h1, List.getElem?_take_of_lt (by omega)]
    · rw [List.getElem?_append_right (by omega), List.getElem?_append_right (by omega), List.getElem?_drop, List.getElem?_drop, hl, hl']
      congr 1; omega
theorem zip2_get {a b : List UInt32} {i : Nat} (ha : i < a.length) (hb : i < b.length) : (zip2 a b)[i]'(by simp [zip2]; omega) = a[i] + b[i] := by simp [zip2]

structure HS where
  M : List UInt32
  R : List UInt8
  n : Nat
def hs0 : HS := ⟨List.replicate 8 0, List.replicate 64 0, 0⟩
def HS.put1 (s : HS) (c : UInt8) : HS := ⟨if (s.n + 1) % 64 = 0 then moreStep s.M (s.R.set (s.n % 64) c) else s.M, s.R.set (s.n % 64) c, s.n + 1⟩
def HS.put (s : HS) (l : List UInt8) : HS := l.foldl HS.put1 s
theorem HS.put_append (s : HS) (a b : List UInt8) : s.put (a ++ b) = (s.put a).put b := by simp [HS.put]
theorem HS.put_nil (s : HS) : s.put [] = s := rfl
def HS.ok (s : HS) : Prop := s.M.length = 8 ∧ s.R.length = 64
theorem HS.put1_ok {s : HS} (h : s.ok) (c : UInt8) : (s.put1 c).ok := by
  refine ⟨?_, by simp [HS.put1, h.2]⟩
  simp only [HS.put1]; split
  · exact moreStep_length h.1
  · exact h.1
theorem HS.put_ok {s : HS} (h : s.ok) (l : List UInt8) : (s.put l).ok := by
  induction l generalizing s with
  | nil => exact h
  | cons c l ih => exact ih (HS.put1_ok h c)
theorem hs0_ok : hs0.ok := ⟨rfl, rfl⟩
theorem HS.put_n (s : HS) (l : List UInt8) : (s.put l).n = s.n + l.length := by
  induction l generalizing s with
  | nil => rfl
  | cons c l ih => rw [HS.put, List.foldl_cons]; have := ih (s.put1 c); rw [HS.put] at this; rw [this]; simp [HS.put1]; omega

/-- A piece that fits into the block. -/
theorem HS.put_fit {s : HS} (h : s.ok) {c : List UInt8} (hf : s.n % 64 + c.length < 64) : s.put c = ⟨s.M, spl s.R (s.n % 64) c, s.n + c.length⟩ := by
  induction c generalizing s with
  | nil => simp [HS.put, spl_nil]
  | cons x c ih =>
    have h1 : s.put1 x = ⟨s.M, s.R.set (s.n % 64) x, s.n + 1⟩ := by
      simp only [List.length_cons] at hf
      unfold HS.put1; rw [if_neg (by omega)]
    simp only [List.length_cons] at hf
    have h2 : (s.n + 1) % 64 = s.n % 64 + 1 := by omega
    show (s.put1 x).put c = _
    rw [ih (HS.put1_ok h x) (by rw [h1]; simp only; omega), h1]
    simp only [h2, List.length_cons]
    rw [spl_cons (by rw [h.2]; omega)]
    congr 1; omega
theorem HS.put_full {s : HS} (h : s.ok) {c : List UInt8} (hc : c ≠ []) (hf : s.n % 64 + c.length = 64) : s.put c = ⟨moreStep s.M (spl s.R (s.n % 64) c), spl s.R (s.n % 64) c, s.n + c.length⟩ := by
  obtain ⟨a, x, rfl⟩ : ∃ a x, c = a ++ [x] := ⟨c.dropLast, c.getLast hc, (List.dropLast_concat_getLast hc).symm⟩
  simp only [List.length_append, List.length_singleton] at hf
  rw [HS.put_append, HS.put_fit h (by omega)]
  simp only [HS.put, List.foldl_cons, List.foldl_nil, HS.put1]
  have h2 : (s.n + a.length) % 64 = 63 := by omega
  have h3 : (spl s.R (s.n % 64) a).set 63 x = spl s.R (s.n % 64) (a ++ [x]) := spl_snoc (by omega) (by rw [h.2]; omega)
  rw [if_pos (by omega), h2, h3]
  simp only [List.length_append, List.length_singleton, Nat.add_assoc]
/-- The state's cells. -/
def cH (s : HS) : List Value := s.M.map w32 ++ (s.R.map byteV ++ [.int .u64 (s.n : Int)])
theorem cH_length {s : HS} (h : s.ok) : (cH s).length = 73 := by simp [cH, h.1, h.2]
theorem cH_M {s : HS} (h : s.ok) : cutL (cH s) 0 8 = some (s.M.map w32) := by
  have := cH_length h
  simp only [cutL]; rw [if_pos (by omega)]
  have hl : (s.M.map w32).length = 8 := by simp [h.1]
  simp [cH, h.1]
theorem cH_all {s : HS} (h : s.ok) : cutL (cH s) 0 73 = some (cH s) := cutL_all (cH_length h)
theorem cH_n {s : HS} (h : s.ok) : (cH s)[72]? = some (.int .u64 (s.n : Int)) := by
  rw [cH, List.getElem?_append_right (by simp [h.1]), List.getElem?_append_right (by simp [h.1, h.2])]
  simp [h.1, h.2]
theorem cH_Mi {s : HS} (h : s.ok) {i : Nat} (hi : i < 8) : (cH s)[i]? = some (w32 (s.M[i]'(by rw [h.1]; exact hi))) := by
  rw [cH, List.getElem?_append_left (by simp [h.1]; exact hi), ws_get]
theorem cH_Ri {s : HS} (h : s.ok) {i : Nat} (hi : i < 64) : (cH s)[8 + i]? = some (byteV (s.R[i]'(by rw [h.2]; exact hi))) := by
  rw [cH, List.getElem?_append_right (by simp [h.1]), List.getElem?_append_left (by simp [h.1, h.2]; exact hi)]
  simp only [List.length_map, h.1, Nat.add_sub_cancel_left]
  rw [bytes_get]
theorem cH_setM {s : HS} (h : s.ok) {i : Nat} (hi : i < 8) (x : UInt32) : (cH s).set i (w32 x) = cH { s with M := s.M.set i x } := by
  simp only [cH]
  rw [List.set_append_left _ _ (by simp [h.1]; exact hi), ws_set]
theorem cH_setn {s : HS} (h : s.ok) (n : Nat) : (cH s).set 72 (.int .u64 (n : Int)) = cH { s with n := n } := by
  simp only [cH]
  rw [List.set_append_right _ _ (by simp [h.1]), List.set_append_right _ _ (by simp [h.1, h.2])]
  simp [h.1, h.2]
theorem spl_app {α : Type} {A B C c : List α} {o : Nat} (h : o + c.length ≤ B.length) : spl (A ++ (B ++ C)) (A.length + o) c = A ++ (spl B o c ++ C) := by
  have e1 : (A ++ (B ++ C)).take (A.length + o) = A ++ B.take o := by
    rw [List.take_append, List.take_of_length_le (by omega), show A.length + o - A.length = o by omega, List.take_append, show o - B.length = 0 by omega]; simp
  have e2 : (A ++ (B ++ C)).drop (A.length + o + c.length) = B.drop (o + c.length) ++ C := by
    rw [List.drop_append, List.drop_of_length_le (by omega), show A.length + o + c.length - A.length = o + c.length by omega, List.drop_append, show o + c.length - B.length = 0 by omega]; simp
  simp only [spl]; rw [e1, e2]; simp
theorem cH_R {s : HS} (h : s.ok) {at_ : Nat} {c : List UInt8} (hc : at_ + c.length ≤ 64) : splice (cH s) (8 + at_) (c.map byteV) = cH { s with R := spl s.R at_ c } := by
  have h8 : (s.M.map w32).length = 8 := by simp [h.1]
  have := spl_app (A := s.M.map w32) (B := s.R.map byteV) (C := [.int .u64 (s.n : Int)]) (c := c.map byteV) (o := at_) (by simp [h.2]; exact hc)
  rw [h8] at this
  rw [splice_spl, cH, cH, this, spl_map]
theorem plain_cH (s : HS) : ∀ v ∈ cH s, Plain v := fun v hv => by
  simp only [cH, List.mem_append, List.mem_map, List.mem_singleton] at hv
  rcases hv with ⟨x, _, rfl⟩ | ⟨x, _, rfl⟩ | rfl
  · exact plain_w32 _
  · exact .int _ _
  · exact .int _ _
theorem oneCell_w (x : UInt32) : oneCell (w32 x) = true := rfl
theorem len8 {l : List UInt32} (h : l.length = 8) : ∃ a b c d e f g i, l = [a, b, c, d, e, f, g, i] := by
  match l, h with
  | [a, b, c, d, e, f, g, i], _ => exact ⟨a, b, c, d, e, f, g, i, rfl⟩
end Go.AM
namespace Go.Proofs.YtgkmlbkocgjmmaaDoor.S
open Go Go.AM
set_option maxRecDepth 100000
set_option linter.unusedVariables false
set_option linter.unusedSimpArgs false

theorem rot_ok (m : AMem) (x : UInt32) (k : Nat) (h1 : 1 ≤ k) (h2 : k ≤ 31) : PureC Tryd.prog 3 94 [w32 x, .int .i64 (0 - (k : Int))] m (w32 (rotr k x)) := by
  refine pure_of_W (fn := Tryd.f94) rfl rfl F94_ok (by simp [F94]) (plain_w32 _) ?_
  have e1 : ibits .and .u64 (IntKind.u64.wrap (0 - (k : Int))) 31 = ((32 - k : Nat) : Int) := by
    have : ∀ k : Fin 32, 1 ≤ k.val → ibits .and .u64 (IntKind.u64.wrap (0 - (k.val : Int))) 31 = ((32 - k.val : Nat) : Int) := by decide +kernel
    exact this ⟨k, by omega⟩ h1
  have e2 : IntKind.u64.wrap (32 - ((32 - k : Nat) : Int)) = (k : Int) := by rw [wrap_u64 (by omega) (by omega)]; omega
  simp (implicitDefEqProofs := false) (maxSteps := 1000000) (disch := first | omega | with_reducible assumption | (simp only [lenT, Nat.reduceAdd]; omega)) only [amT, cut, bnd, Nat.reduceBEq, reduceCtorEq, Nat.reduceEqDiff, Nat.reduceAdd, Nat.reduceMul, Nat.reduceSub, Int.reduceToNat, Int.reduceEq, Int.reduceLT, Int.reduceLE, Int.reduceAdd, Int.reduceSub, Int.reduceMul, reduceIte, resVs, resV, packV, initT, addr, F94, e1, e2, amW, binV_shrw, binV_shlw]
  rw [or_comm_w]; rfl
theorem r_ok (m : AMem) (x : UInt32) (k : Nat) (h1 : 1 ≤ k) (h2 : k ≤ 31) : PureC Tryd.prog 3 81 [.int .i64 (k : Int), w32 x] m (w32 (rotr k x)) := by
  refine pure_of_W (fn := Tryd.f81) rfl rfl F81_ok (by simp [F81]) (plain_w32 _) ?_
  have e2 : IntKind.i64.wrap (32 - (k : Int)) = ((32 - k : Nat) : Int) := by rw [wrap_i64 (by omega) (by omega)]; omega
  simp (implicitDefEqProofs := false) (maxSteps := 1000000) (disch := first | omega | with_reducible assumption | (simp only [lenT, Nat.reduceAdd]; omega)) only [amT, cut, bnd, Nat.reduceBEq, reduceCtorEq, Nat.reduceEqDiff, Nat.reduceAdd, Nat.reduceMul, Nat.reduceSub, Int.reduceToNat, Int.reduceEq, Int.reduceLT, Int.reduceLE, Int.reduceAdd, Int.reduceSub, Int.reduceMul, reduceIte, resVs, resV, packV, initT, addr, F81, e2, amW, binV_shrw, binV_shlw]
  rfl
theorem kRot {m : AMem} {x : UInt32} {k : Nat} (h1 : 1 ≤ k) (h2 : k ≤ 31) : type_of% (DetC.known (rot_ok m x k h1 h2)) := DetC.known (rot_ok m x k h1 h2)
theorem turned_ok (m : AMem) (x : UInt32) (k l n : Nat) (h1 : 1 ≤ k) (h2 : k ≤ 31) (h3 : 1 ≤ l) (h4 : l ≤ 31) (h5 : 1 ≤ n) (h6 : n ≤ 31) : PureC Tryd.prog 3 89 [w32 x, .int .i64 (k : Int), .int .i64 (l : Int), .int .i64 (n : Int)] m (w32 (turnedW x k l n)) := by
  refine pure_of_W (fn := Tryd.f89) rfl rfl F89_ok (by simp [F89]) (plain_w32 _) ?_
  simp (implicitDefEqProofs := false) (maxSteps := 1000000) (disch := first | omega | with_reducible assumption | (simp only [lenT, Nat.reduceAdd]; omega)) only [amT, cut, bnd, Nat.reduceBEq, reduceCtorEq, Nat.reduceEqDiff, Nat.reduceAdd, Nat.reduceMul, Nat.reduceSub, Int.reduceToNat, Int.reduceEq, Int.reduceLT, Int.reduceLE, Int.reduceAdd, Int.reduceSub, Int.reduceMul, reduceIte, resVs, resV, packV, initT, addr, F89, kRot, amW]
  repeat refine OrW.go ?_
  rfl
theorem moved_ok (m : AMem) (x : UInt32) (k l n : Nat) (h1 : 1 ≤ k) (h2 : k ≤ 31) (h3 : 1 ≤ l) (h4 : l ≤ 31) (h5 : 1 ≤ n) (h6 : n ≤ 31) : PureC Tryd.prog 3 88 [w32 x, .int .i64 (k : Int), .int .i64 (l : Int), .int .i64 (n : Int)] m (w32 (movedW x k l n)) := by
  refine pure_of_W (fn := Tryd.f88) rfl rfl F88_ok (by simp [F88]) (plain_w32 _) ?_
  simp (implicitDefEqProofs := false) (maxSteps := 1000000) (disch := first | omega | with_reducible assumption | (simp only [lenT, Nat.reduceAdd]; omega)) only [amT, cut, bnd, Nat.reduceBEq, reduceCtorEq, Nat.reduceEqDiff, Nat.reduceAdd, Nat.reduceMul, Nat.reduceSub, Int.reduceToNat, Int.reduceEq, Int.reduceLT, Int.reduceLE, Int.reduceAdd, Int.reduceSub, Int.reduceMul, reduceIte, resVs, resV, packV, initT, addr, F88, kRot, amW, binV_shrw]
  repeat refine OrW.go ?_
  rfl
end Go.Proofs.YtgkmlbkocgjmmaaDoor.S
namespace Go.Proofs.YtgkmlbkocgjmmaaDoor.S
open Go Go.AM
set_option maxRecDepth 100000
set_option linter.unusedVariables false
set_option linter.unusedSimpArgs false

theorem beginW_len : beginW.length = 8 := rfl
theorem zero8 : [Value.int .u32 0, .int .u32 0, .int .u32 0, .int .u32 0, .int .u32 0, .int .u32 0, .int .u32 0, .int .u32 0] = (List.replicate 8 (0 : UInt32)).map w32 := rfl
/-- The package's variables, as they are laid. -/
structure Glob (m : AMem) : Prop where
  k : ∃ e sp, m.get 0 = .cells (constW.map w32) e false sp
  b : ∃ e sp, m.get 1 = .cells (beginW.map w32) e false sp
  s : 2 < m.size
theorem Glob.old {m M : AMem} (h : Glob m) (ho : Old m M) : Glob M := ⟨by rw [ho.2 _ (by have := h.s; omega)]; exact h.k, by rw [ho.2 _ (by have := h.s; omega)]; exact h.b, by have := h.s; have := ho.1; omega⟩

theorem plain_ws (l : List UInt32) : Plain (.agg (l.map w32).toArray) := .agg fun v hv => by
  simp at hv; obtain ⟨x, _, rfl⟩ := hv; exact plain_w32 _

theorem state_ok (m : AMem) (b : Nat) (s : HS) (hg : Glob m) (hs : s.ok) (hb : b < m.size) (hm : m.get b = .cells (cH s) 96 true .exact) :
    PureC Tryd.prog 3 77 [.pointer (some ⟨b, 0, none⟩)] m (.agg ((zip2 beginW s.M).map w32).toArray) := by
  refine pure_of_W (fn := Tryd.f77) rfl rfl F77_ok (by simp [F77]) (plain_ws _) ?_
  obtain ⟨eb, spb, g1⟩ := hg.b
  have gs := hg.s
  have c8 := cH_M hs
  have m8 := hs.1
  have z8 : (zip2 beginW s.M).length = 8 := zip2_length rfl m8
  have hbl := beginW_len
  simp (implicitDefEqProofs := false) (maxSteps := 1000000) (disch := first | omega | with_reducible assumption | (simp only [lenT, Nat.reduceAdd]; omega)) only [amT, cut, bnd, Nat.reduceBEq, reduceCtorEq, Nat.reduceEqDiff, Nat.reduceAdd, Nat.reduceMul, Nat.reduceSub, Int.reduceToNat, Int.reduceEq, Int.reduceLT, Int.reduceLE, Int.reduceAdd, Int.reduceSub, Int.reduceMul, reduceIte, resVs, resV, packV, initT, addr, F77, g1, hm, c8, cutL_all, zero8, beginW_len, cellsOf_ws]
  refine W_loop (fun N qs => ∃ (i : Nat), N = 8 - i ∧ qs.ds = [] ∧ qs.m = mx m [.cells ((List.replicate 8 (0 : UInt32)).map w32) 92 true .exact, .cells ((mix i (zip2 beginW s.M) beginW).map w32) 92 true .exact] ∧ qs.t 2 = .pointer (some ⟨m.size, 0, none⟩) ∧ qs.t 3 = .pointer (some ⟨m.size + 1, 0, none⟩) ∧ qs.t 10 = .agg (s.M.map w32).toArray ∧ qs.t 11 = .int .i64 i ∧ i ≤ 8) (8 - (0)) ⟨0, rfl, rfl, ?qm, ?q2, ?q3, ?q10, ?q11, ?_⟩ ?_
  case qm | q2 | q3 | q10 | q11 => first | rfl | (simp (implicitDefEqProofs := false) (maxSteps := 1000000) (disch := first | omega | with_reducible assumption | (simp only [lenT, Nat.reduceAdd]; omega)) only [amT, cut, bnd, Nat.reduceBEq, reduceCtorEq, Nat.reduceEqDiff, Nat.reduceAdd, Nat.reduceMul, Nat.reduceSub, Int.reduceToNat, Int.reduceEq, Int.reduceLT, Int.reduceLE, Int.reduceAdd, Int.reduceSub, Int.reduceMul, reduceIte, resVs, resV, packV, initT, addr, mix_zero]; first | done | rfl | (congr 1; omega))
  · omega
  · rintro N t m1 ds ⟨i, rfl, hds, hm, t2, t3, t10, t11, hp⟩
    simp only at hds hm t2 t3 t10 t11
    subst hds; replace hm := hm.symm; subst hm
    have hl := mix_length (k := i) (show (zip2 beginW s.M).length = beginW.length by rw [z8]; rfl)
    by_cases hi : (i : Int) < 8
    · have h1 := mix_get (k := i) (show (zip2 beginW s.M).length = beginW.length by rw [z8]; rfl) (by rw [beginW_len]; omega)
      have h2 := mix_set (k := i) (show (zip2 beginW s.M).length = beginW.length by rw [z8]; rfl) (by omega)
      have h3 := zip2_get (a := beginW) (b := s.M) (i := i) (by rw [beginW_len]; omega) (by omega)
      rw [h3] at h2
      simp (implicitDefEqProofs := false) (maxSteps := 1000000) (disch := first | omega | with_reducible assumption | (simp only [lenT, Nat.reduceAdd]; omega)) only [amT, cut, bnd, Nat.reduceBEq, reduceCtorEq, Nat.reduceEqDiff, Nat.reduceAdd, Nat.reduceMul, Nat.reduceSub, Int.reduceToNat, Int.reduceEq, Int.reduceLT, Int.reduceLE, Int.reduceAdd, Int.reduceSub, Int.reduceMul, reduceIte, resVs, resV, packV, initT, addr, F77_l0, t2, t3, t10, t11, hi, amW, h1, h2, hl, beginW_len]
      rw [LoopK_normal]; refine ⟨_, ?_, i + 1, rfl, rfl, ?qm, ?q2, ?q3, ?q10, ?q11, ?_⟩
      case qm | q2 | q3 | q10 | q11 => first | rfl | (simp (implicitDefEqProofs := false) (maxSteps := 1000000) (disch := first | omega | with_reducible assumption | (simp only [lenT, Nat.reduceAdd]; omega)) only [amT, cut, bnd, Nat.reduceBEq, reduceCtorEq, Nat.reduceEqDiff, Nat.reduceAdd, Nat.reduceMul, Nat.reduceSub, Int.reduceToNat, Int.reduceEq, Int.reduceLT, Int.reduceLE, Int.reduceAdd, Int.reduceSub, Int.reduceMul, reduceIte, resVs, resV, packV, initT, addr, t2, t3, t10, t11]; first | done | rfl | (congr 1; omega))
      · omega
      · omega
    · have : i = 8 := by omega
      subst this
      have h4 := mix_all z8 beginW_len
      simp (implicitDefEqProofs := false) (maxSteps := 1000000) (disch := first | omega | with_reducible assumption | (simp only [lenT, Nat.reduceAdd]; omega)) only [amT, cut, bnd, Nat.reduceBEq, reduceCtorEq, Nat.reduceEqDiff, Nat.reduceAdd, Nat.reduceMul, Nat.reduceSub, Int.reduceToNat, Int.reduceEq, Int.reduceLT, Int.reduceLE, Int.reduceAdd, Int.reduceSub, Int.reduceMul, reduceIte, resVs, resV, packV, initT, addr, F77_l0, t2, t3, t10, t11, h4, cutL_all, z8, cellsOf_ws]
end Go.Proofs.YtgkmlbkocgjmmaaDoor.S
namespace Go.Proofs.YtgkmlbkocgjmmaaDoor.S
open Go Go.AM
set_option maxRecDepth 100000
set_option linter.unusedVariables false
set_option linter.unusedSimpArgs false

theorem kMovedA {m : AMem} {x : UInt32} : Known Tryd.prog 3 88 [w32 x, .int .i64 17, .int .i64 19, .int .i64 10] m (w32 (movedW x 17 19 10)) m := DetC.known (moved_ok m x 17 19 10 (by omega) (by omega) (by omega) (by omega) (by omega) (by omega))
theorem kMovedB {m : AMem} {x : UInt32} : Known Tryd.prog 3 88 [w32 x, .int .i64 7, .int .i64 18, .int .i64 3] m (w32 (movedW x 7 18 3)) m := DetC.known (moved_ok m x 7 18 3 (by omega) (by omega) (by omega) (by omega) (by omega) (by omega))
theorem kTurnedA {m : AMem} {x : UInt32} : Known Tryd.prog 3 89 [w32 x, .int .i64 6, .int .i64 11, .int .i64 25] m (w32 (turnedW x 6 11 25)) m := DetC.known (turned_ok m x 6 11 25 (by omega) (by omega) (by omega) (by omega) (by omega) (by omega))
theorem kTurnedB {m : AMem} {x : UInt32} : Known Tryd.prog 3 89 [w32 x, .int .i64 2, .int .i64 13, .int .i64 22] m (w32 (turnedW x 2 13 22)) m := DetC.known (turned_ok m x 2 13 22 (by omega) (by omega) (by omega) (by omega) (by omega) (by omega))
theorem kState {m : AMem} {b : Nat} {s : HS} (hg : Glob m) (hs : s.ok) (hb : b < m.size) (hm : m.get b = .cells (cH s) 96 true .exact) : type_of% (DetC.known (state_ok m b s hg hs hb hm)) := DetC.known (state_ok m b s hg hs hb hm)

theorem zero64 : [Value.int .u32 0, .int .u32 0, .int .u32 0, .int .u32 0, .int .u32 0, .int .u32 0, .int .u32 0, .int .u32 0, .int .u32 0, .int .u32 0, .int .u32 0, .int .u32 0, .int .u32 0, .int .u32 0, .int .u32 0, .int .u32 0, .int .u32 0, .int .u32 0, .int .u32 0, .int .u32 0, .int .u32 0, .int .u32 0, .int .u32 0, .int .u32 0, .int .u32 0, .int .u32 0, .int .u32 0, .int .u32 0, .int .u32 0, .int .u32 0, .int .u32 0, .int .u32 0, .int .u32 0, .int .u32 0, .int .u32 0, .int .u32 0, .int .u32 0, .int .u32 0, .int .u32 0, .int .u32 0, .int .u32 0, .int .u32 0, .int .u32 0, .int .u32 0, .int .u32 0, .int .u32 0, .int .u32 0, .int .u32 0, .int .u32 0, .int .u32 0, .int .u32 0, .int .u32 0, .int .u32 0, .int .u32 0, .int .u32 0, .int .u32 0, .int .u32 0, .int .u32 0, .int .u32 0, .int .u32 0, .int .u32 0, .int .u32 0, .int .u32 0, .int .u32 0] = (List.replicate 64 (0 : UInt32)).map w32 := rfl
/-- The words up to a place, behind them one, then nothing. -/
def wRow (R : List UInt8) (i : Nat) (x : UInt32) : List UInt32 := sched R i ++ (x :: List.replicate (63 - i) 0)
theorem wRow_length {R : List UInt8} {i : Nat} {x : UInt32} (h : i < 64) : (wRow R i x).length = 64 := by simp [wRow, sched_length]; omega
theorem wRow_set {R : List UInt8} {i : Nat} (x y : UInt32) : (wRow R i x).set i y = wRow R i y := by
  simp only [wRow]; rw [List.set_append_right _ _ (by rw [sched_length]; omega), sched_length]; simp
theorem wRow_at {R : List UInt8} {i : Nat} {x : UInt32} (h : i < (wRow R i x).length) : (wRow R i x)[i] = x := by
  simp only [wRow]; rw [List.getElem_append_right (by rw [sched_length]; omega)]; simp [sched_length]
theorem wRow_old {R : List UInt8} {i j : Nat} {x : UInt32} (hj : j < i) (h : j < (wRow R i x).length) : (wRow R i x)[j] = (sched R i).getD j 0 := by
  simp only [wRow]; rw [List.getElem_append_left (by rw [sched_length]; omega)]; simp [sched_length, hj]
theorem word4_next (l : List UInt8) (c : UInt8) : word4 (l ++ [c]) = shlW (word4 l) 8 ||| UInt32.ofNat c.toNat := by simp [word4]
theorem w32_of_byte (c : UInt8) : (Value.int .u32 (c.toNat : Int)) = w32 (UInt32.ofNat c.toNat) := by
  have := c.toNat_lt
  simp [w32]
theorem binV_shlw8 {k : IntKind} {x : UInt32} : binV .shl (w32 x) (.int k 8) = some (w32 (shlW x 8)) := binV_shlw (b := 8) (by omega)
def padW (R : List UInt8) (i : Nat) : List UInt32 := sched R i ++ List.replicate (64 - i) 0
theorem padW_zero (R : List UInt8) : padW R 0 = List.replicate 64 0 := rfl
theorem padW_lt {R : List UInt8} {i : Nat} (h : i < 64) : padW R i = wRow R i 0 := by
  simp only [padW, wRow]; rw [show 64 - i = (63 - i) + 1 by omega, List.replicate_succ]
theorem padW_next {R : List UInt8} {i : Nat} (h : i < 64) : wRow R i (wordAt R (sched R i) i) = padW R (i + 1) := by
  simp only [wRow, padW, sched, List.append_assoc, List.singleton_append]
  rw [show 64 - (i + 1) = 63 - i by omega]
theorem padW_all (R : List UInt8) : padW R 64 = sched R 64 := by simp [padW]

theorem sched_ok (m : AMem) (b : Nat) (s : HS) (hs : s.ok) (hb : b < m.size) (hm : m.get b = .cells (cH s) 96 true .exact) (t : Tmps) (Q : AExit → ASt → Prop)
    (t0 : t 0 = .pointer (some ⟨b, 0, none⟩)) (t2 : t 2 = .pointer (some ⟨m.size, 0, none⟩)) (t13 : t 13 = .int .i64 0)
    (h : ∀ t' : Tmps, t' 0 = .pointer (some ⟨b, 0, none⟩) → t' 2 = .pointer (some ⟨m.size, 0, none⟩) → Q (.exit 0) ⟨t', mx m [.cells ((sched s.R 64).map w32) 127 true .exact], []⟩) :
    W Tryd.prog 3 (.loop F76_l0) Q ⟨t, mx m [.cells ((List.replicate 64 (0 : UInt32)).map w32) 127 true .exact], []⟩ := by
  refine W_loop (fun N qs => ∃ (i : Nat), N = 64 - i ∧ qs.ds = [] ∧ qs.m = mx m [.cells ((padW s.R i).map w32) 127 true .exact] ∧ qs.t 0 = .pointer (some ⟨b, 0, none⟩) ∧ qs.t 2 = .pointer (some ⟨m.size, 0, none⟩) ∧ qs.t 13 = .int .i64 i ∧ i ≤ 64) (64 - (0)) ⟨0, rfl, rfl, ?qm, ?q0, ?q2, ?q13, ?_⟩ ?_
  case qm | q0 | q2 | q13 => first | rfl | (simp (implicitDefEqProofs := false) (maxSteps := 1000000) (disch := first | omega | with_reducible assumption | (simp only [lenT, Nat.reduceAdd]; omega)) only [amT, cut, bnd, Nat.reduceBEq, reduceCtorEq, Nat.reduceEqDiff, Nat.reduceAdd, Nat.reduceMul, Nat.reduceSub, Int.reduceToNat, Int.reduceEq, Int.reduceLT, Int.reduceLE, Int.reduceAdd, Int.reduceSub, Int.reduceMul, reduceIte, resVs, resV, packV, initT, addr, padW_zero, t0, t2, t13]; first | done | rfl | (congr 1; omega))
  · omega
  · clear t0 t2 t13
    rintro N t m1 ds ⟨i, rfl, hds, hm, t0, t2, t13, hp⟩
    simp only at hds hm t0 t2 t13
    subst hds; replace hm := hm.symm; subst hm
    by_cases hi : (i : Int) < 64
    · have hi' : i < 64 := by omega
      have hl := wRow_length (R := s.R) (x := 0) hi'
      have hn := padW_next (R := s.R) hi'
      by_cases h16 : (16 : Int) ≤ i
      · have e1 : (i : Int) - 2 = ((i - 2 : Nat) : Int) := by omega
        have e2 : (i : Int) - 7 = ((i - 7 : Nat) : Int) := by omega
        have e3 : (i : Int) - 15 = ((i - 15 : Nat) : Int) := by omega
        have e4 : (i : Int) - 16 = ((i - 16 : Nat) : Int) := by omega
        have hw : wordAt s.R (sched s.R i) i = movedW ((sched s.R i).getD (i - 2) 0) 17 19 10 + (sched s.R i).getD (i - 7) 0 + movedW ((sched s.R i).getD (i - 15) 0) 7 18 3 + (sched s.R i).getD (i - 16) 0 := by
          unfold wordAt; rw [if_neg (by omega)]
        rw [hw] at hn
        simp (implicitDefEqProofs := false) (maxSteps := 1000000) (disch := first | omega | with_reducible assumption | (simp only [lenT, Nat.reduceAdd]; omega)) only [amT, cut, bnd, Nat.reduceBEq, reduceCtorEq, Nat.reduceEqDiff, Nat.reduceAdd, Nat.reduceMul, Nat.reduceSub, Int.reduceToNat, Int.reduceEq, Int.reduceLT, Int.reduceLE, Int.reduceAdd, Int.reduceSub, Int.reduceMul, reduceIte, resVs, resV, packV, initT, addr, F76_l0, t0, t2, t13, hi, h16, padW_lt hi', e1, e2, e3, e4, amW, wRow_old, wRow_set, kMovedA, kMovedB]
        repeat refine OrW.go ?_
        rw [LoopK_normal]; refine ⟨_, ?_, i + 1, rfl, rfl, ?qm, ?q0, ?q2, ?q13, ?_⟩
        case qm | q0 | q2 | q13 => first | rfl | (simp (implicitDefEqProofs := false) (maxSteps := 1000000) (disch := first | omega | with_reducible assumption | (simp only [lenT, Nat.reduceAdd]; omega)) only [amT, cut, bnd, Nat.reduceBEq, reduceCtorEq, Nat.reduceEqDiff, Nat.reduceAdd, Nat.reduceMul, Nat.reduceSub, Int.reduceToNat, Int.reduceEq, Int.reduceLT, Int.reduceLE, Int.reduceAdd, Int.reduceSub, Int.reduceMul, reduceIte, resVs, resV, packV, initT, addr, t0, t2, t13, hn]; first | done | rfl | (congr 1; omega))
        · omega
        · omega
      · have e1 : (4 : Int) * (i : Int) = ((4 * i : Nat) : Int) := by omega
        have e2 : ((4 * i : Nat) : Int) + 4 = ((4 * i + 4 : Nat) : Int) := by omega
        have hw : wordAt s.R (sched s.R i) i = word4 ((s.R.drop (4 * i)).take 4) := by
          unfold wordAt; rw [if_pos (by omega)]
        rw [hw] at hn
        have e3 : 4 * i + 4 - 4 * i = 4 := by omega
        simp (implicitDefEqProofs := false) (maxSteps := 1000000) (disch := first | omega | with_reducible assumption | (simp only [lenT, Nat.reduceAdd]; omega)) only [amT, cut, bnd, Nat.reduceBEq, reduceCtorEq, Nat.reduceEqDiff, Nat.reduceAdd, Nat.reduceMul, Nat.reduceSub, Int.reduceToNat, Int.reduceEq, Int.reduceLT, Int.reduceLE, Int.reduceAdd, Int.reduceSub, Int.reduceMul, reduceIte, resVs, resV, packV, initT, addr, F76_l0, t0, t2, t13, hi, h16, padW_lt hi', e1, e2]
        refine W_loop (fun N qs => ∃ (j : Nat), N = 4 - j ∧ qs.ds = [] ∧ qs.m = mx m [.cells ((wRow s.R i (word4 ((s.R.drop (4 * i)).take j))).map w32) 127 true .exact] ∧ qs.t 0 = .pointer (some ⟨b, 0, none⟩) ∧ qs.t 2 = .pointer (some ⟨m.size, 0, none⟩) ∧ qs.t 3 = .int .i64 i ∧ qs.t 13 = .int .i64 i ∧ qs.t 49 = .slice (some ⟨b, 8 + 4 * i, none⟩) 4 (64 - 4 * i) ∧ qs.t 50 = .int .i64 4 ∧ qs.t 51 = .int .i64 j ∧ j ≤ 4) (4 - (0)) ⟨0, rfl, rfl, ?qm, ?q0, ?q2, ?q3, ?q13, ?q49, ?q50, ?q51, ?_⟩ ?_
        case qm | q0 | q2 | q3 | q13 | q49 | q50 | q51 => first | rfl | (simp (implicitDefEqProofs := false) (maxSteps := 1000000) (disch := first | omega | with_reducible assumption | (simp only [lenT, Nat.reduceAdd]; omega)) only [amT, cut, bnd, Nat.reduceBEq, reduceCtorEq, Nat.reduceEqDiff, Nat.reduceAdd, Nat.reduceMul, Nat.reduceSub, Int.reduceToNat, Int.reduceEq, Int.reduceLT, Int.reduceLE, Int.reduceAdd, Int.reduceSub, Int.reduceMul, reduceIte, resVs, resV, packV, initT, addr, t0, t2, t13, List.take_zero, e3]; first | done | rfl | (congr 1; omega))
        · omega
        · clear t0 t2 t13
          rintro N t m1 ds ⟨j, rfl, hds, hm, t0, t2, t3, t13, t49, t50, t51, hp⟩
          simp only at hds hm t0 t2 t3 t13 t49 t50 t51
          subst hds; replace hm := hm.symm; subst hm
          by_cases hj : (j : Int) < 4
          · have hj' : j < 4 := by omega
            have hl2 := wRow_length (R := s.R) (x := word4 ((s.R.drop (4 * i)).take j)) hi'
            have hR : (cH s)[8 + 4 * i + j]? = some (byteV (s.R[4 * i + j]'(by rw [hs.2]; omega))) := by rw [Nat.add_assoc]; exact cH_Ri hs (by omega)
            have hb4 := (s.R[4 * i + j]'(by rw [hs.2]; omega)).toNat_lt
            have hw4 := word4_next ((s.R.drop (4 * i)).take j) (s.R[4 * i + j]'(by rw [hs.2]; omega))
            have hdl : j < (s.R.drop (4 * i)).length := by rw [List.length_drop, hs.2]; omega
            have ht := List.take_succ_eq_append_getElem hdl
            rw [List.getElem_drop] at ht
            rw [← ht] at hw4
            simp (implicitDefEqProofs := false) (maxSteps := 1000000) (disch := first | omega | with_reducible assumption | (simp only [lenT, Nat.reduceAdd]; omega)) only [amT, cut, bnd, Nat.reduceBEq, reduceCtorEq, Nat.reduceEqDiff, Nat.reduceAdd, Nat.reduceMul, Nat.reduceSub, Int.reduceToNat, Int.reduceEq, Int.reduceLT, Int.reduceLE, Int.reduceAdd, Int.reduceSub, Int.reduceMul, reduceIte, resVs, resV, packV, initT, addr, F76_l1, t0, t2, t3, t13, t49, t50, t51, hj, hm, hR, amW, wRow_at, byteV_def, w32_of_byte, binV_shlw8, wRow_set, ← hw4]
            rw [LoopK_normal]; refine ⟨_, ?_, j + 1, rfl, rfl, ?qm, ?q0, ?q2, ?q3, ?q13, ?q49, ?q50, ?q51, ?_⟩
            case qm | q0 | q2 | q3 | q13 | q49 | q50 | q51 => first | rfl | (simp (implicitDefEqProofs := false) (maxSteps := 1000000) (disch := first | omega | with_reducible assumption | (simp only [lenT, Nat.reduceAdd]; omega)) only [amT, cut, bnd, Nat.reduceBEq, reduceCtorEq, Nat.reduceEqDiff, Nat.reduceAdd, Nat.reduceMul, Nat.reduceSub, Int.reduceToNat, Int.reduceEq, Int.reduceLT, Int.reduceLE, Int.reduceAdd, Int.reduceSub, Int.reduceMul, reduceIte, resVs, resV, packV, initT, addr, t0, t2, t3, t13, t49, t50, t51]; first | done | rfl | (congr 1; omega))
            · omega
            · omega
          · have hj4 : j = 4 := by omega
            subst hj4
            simp (implicitDefEqProofs := false) (maxSteps := 1000000) (disch := first | omega | with_reducible assumption | (simp only [lenT, Nat.reduceAdd]; omega)) only [amT, cut, bnd, Nat.reduceBEq, reduceCtorEq, Nat.reduceEqDiff, Nat.reduceAdd, Nat.reduceMul, Nat.reduceSub, Int.reduceToNat, Int.reduceEq, Int.reduceLT, Int.reduceLE, Int.reduceAdd, Int.reduceSub, Int.reduceMul, reduceIte, resVs, resV, packV, initT, addr, F76_l1, t0, t2, t3, t13, t49, t50, t51]
            rw [LoopK_normal]; refine ⟨_, ?_, i + 1, rfl, rfl, ?qm, ?q0, ?q2, ?q13, ?_⟩
            case qm | q0 | q2 | q13 => first | rfl | (simp (implicitDefEqProofs := false) (maxSteps := 1000000) (disch := first | omega | with_reducible assumption | (simp only [lenT, Nat.reduceAdd]; omega)) only [amT, cut, bnd, Nat.reduceBEq, reduceCtorEq, Nat.reduceEqDiff, Nat.reduceAdd, Nat.reduceMul, Nat.reduceSub, Int.reduceToNat, Int.reduceEq, Int.reduceLT, Int.reduceLE, Int.reduceAdd, Int.reduceSub, Int.reduceMul, reduceIte, resVs, resV, packV, initT, addr, t0, t2, t13, hn]; first | done | rfl | (congr 1; omega))
            · omega
            · omega
    · have h64 : i = 64 := by omega
      subst h64
      simp (implicitDefEqProofs := false) (maxSteps := 1000000) (disch := first | omega | with_reducible assumption | (simp only [lenT, Nat.reduceAdd]; omega)) only [amT, cut, bnd, Nat.reduceBEq, reduceCtorEq, Nat.reduceEqDiff, Nat.reduceAdd, Nat.reduceMul, Nat.reduceSub, Int.reduceToNat, Int.reduceEq, Int.reduceLT, Int.reduceLE, Int.reduceAdd, Int.reduceSub, Int.reduceMul, reduceIte, resVs, resV, packV, initT, addr, F76_l0, t0, t2, t13, padW_all]
      exact h _ (by simp (implicitDefEqProofs := false) (maxSteps := 1000000) (disch := first | omega | with_reducible assumption | (simp only [lenT, Nat.reduceAdd]; omega)) only [amT, cut, bnd, Nat.reduceBEq, reduceCtorEq, Nat.reduceEqDiff, Nat.reduceAdd, Nat.reduceMul, Nat.reduceSub, Int.reduceToNat, Int.reduceEq, Int.reduceLT, Int.reduceLE, Int.reduceAdd, Int.reduceSub, Int.reduceMul, reduceIte, resVs, resV, packV, initT, addr, t0, t2, t13]) (by simp (implicitDefEqProofs := false) (maxSteps := 1000000) (disch := first | omega | with_reducible assumption | (simp only [lenT, Nat.reduceAdd]; omega)) only [amT, cut, bnd, Nat.reduceBEq, reduceCtorEq, Nat.reduceEqDiff, Nat.reduceAdd, Nat.reduceMul, Nat.reduceSub, Int.reduceToNat, Int.reduceEq, Int.reduceLT, Int.reduceLE, Int.reduceAdd, Int.reduceSub, Int.reduceMul, reduceIte, resVs, resV, packV, initT, addr, t0, t2, t13])
end Go.Proofs.YtgkmlbkocgjmmaaDoor.S
namespace Go.Proofs.YtgkmlbkocgjmmaaDoor.S
open Go Go.AM
set_option maxRecDepth 100000
set_option linter.unusedVariables false
set_option linter.unusedSimpArgs false

theorem constW_len : constW.length = 64 := rfl
theorem block_ok (m : AMem) (b : Nat) (s : HS) (hg : Glob m) (hs : s.ok) (hb : b < m.size) (hb2 : 2 < b) (hm : m.get b = .cells (cH s) 96 true .exact) :
    DetC Tryd.prog 3 76 [.pointer (some ⟨b, 0, none⟩)] m (.tuple #[]) (mx (m.set b (.cells (cH { s with M := moreStep s.M s.R }) 96 true .exact)) []) := by
  refine set_of_W (fn := Tryd.f76) rfl rfl F76_ok (by simp [F76]) (.tuple (by simp)) (plain_cH _) ?_
  obtain ⟨ek, spk, g0⟩ := hg.k
  have gs := hg.s
  have hkl := constW_len
  have m8 := hs.1
  have z8 : (zip2 beginW s.M).length = 8 := zip2_length rfl m8
  have hsl := sched_length s.R 64
  have hst := @kState (mx m [.cells ((sched s.R 64).map w32) 127 true .exact]) b s (hg.old (Old.here _ _)) hs (by rw [mx_size]; omega) (by rw [mx_old hb]; exact hm)
  simp (implicitDefEqProofs := false) (maxSteps := 1000000) (disch := first | omega | with_reducible assumption | (simp only [lenT, Nat.reduceAdd]; omega)) only [amT, cut, bnd, Nat.reduceBEq, reduceCtorEq, Nat.reduceEqDiff, Nat.reduceAdd, Nat.reduceMul, Nat.reduceSub, Int.reduceToNat, Int.reduceEq, Int.reduceLT, Int.reduceLE, Int.reduceAdd, Int.reduceSub, Int.reduceMul, reduceIte, resVs, resV, packV, initT, addr, F76, zero64]
  refine sched_ok m b s hs hb hm _ _ (by simp (implicitDefEqProofs := false) (maxSteps := 1000000) (disch := first | omega | with_reducible assumption | (simp only [lenT, Nat.reduceAdd]; omega)) only [amT, cut, bnd, Nat.reduceBEq, reduceCtorEq, Nat.reduceEqDiff, Nat.reduceAdd, Nat.reduceMul, Nat.reduceSub, Int.reduceToNat, Int.reduceEq, Int.reduceLT, Int.reduceLE, Int.reduceAdd, Int.reduceSub, Int.reduceMul, reduceIte, resVs, resV, packV, initT, addr]) (by simp (implicitDefEqProofs := false) (maxSteps := 1000000) (disch := first | omega | with_reducible assumption | (simp only [lenT, Nat.reduceAdd]; omega)) only [amT, cut, bnd, Nat.reduceBEq, reduceCtorEq, Nat.reduceEqDiff, Nat.reduceAdd, Nat.reduceMul, Nat.reduceSub, Int.reduceToNat, Int.reduceEq, Int.reduceLT, Int.reduceLE, Int.reduceAdd, Int.reduceSub, Int.reduceMul, reduceIte, resVs, resV, packV, initT, addr]) (by simp (implicitDefEqProofs := false) (maxSteps := 1000000) (disch := first | omega | with_reducible assumption | (simp only [lenT, Nat.reduceAdd]; omega)) only [amT, cut, bnd, Nat.reduceBEq, reduceCtorEq, Nat.reduceEqDiff, Nat.reduceAdd, Nat.reduceMul, Nat.reduceSub, Int.reduceToNat, Int.reduceEq, Int.reduceLT, Int.reduceLE, Int.reduceAdd, Int.reduceSub, Int.reduceMul, reduceIte, resVs, resV, packV, initT, addr]) ?_
  intro t t0 t2
  simp (implicitDefEqProofs := false) (maxSteps := 1000000) (disch := first | omega | with_reducible assumption | (simp only [lenT, Nat.reduceAdd]; omega)) only [amT, cut, bnd, Nat.reduceBEq, reduceCtorEq, Nat.reduceEqDiff, Nat.reduceAdd, Nat.reduceMul, Nat.reduceSub, Int.reduceToNat, Int.reduceEq, Int.reduceLT, Int.reduceLE, Int.reduceAdd, Int.reduceSub, Int.reduceMul, reduceIte, resVs, resV, packV, initT, addr, t0, t2, hst, zero8, g0, cutL_all, amW]
  repeat refine OrW.go ?_
  refine W_loop (fun N qs => ∃ (i : Nat), N = 64 - i ∧ qs.ds = [] ∧ qs.m = mx m [.cells ((sched s.R 64).map w32) 127 true .exact, .cells ((roundsW constW s.R (zip2 beginW s.M) i).map w32) 92 true .exact] ∧ qs.t 0 = .pointer (some ⟨b, 0, none⟩) ∧ qs.t 2 = .pointer (some ⟨m.size, 0, none⟩) ∧ qs.t 6 = .pointer (some ⟨m.size + 1, 0, none⟩) ∧ qs.t 68 = .agg (constW.map w32).toArray ∧ qs.t 69 = .int .i64 i ∧ i ≤ 64) (64 - (0)) ⟨0, rfl, rfl, ?qm, ?q0, ?q2, ?q6, ?q68, ?q69, ?_⟩ ?_
  case qm | q0 | q2 | q6 | q68 | q69 => first | rfl | (simp (implicitDefEqProofs := false) (maxSteps := 1000000) (disch := first | omega | with_reducible assumption | (simp only [lenT, Nat.reduceAdd]; omega)) only [amT, cut, bnd, Nat.reduceBEq, reduceCtorEq, Nat.reduceEqDiff, Nat.reduceAdd, Nat.reduceMul, Nat.reduceSub, Int.reduceToNat, Int.reduceEq, Int.reduceLT, Int.reduceLE, Int.reduceAdd, Int.reduceSub, Int.reduceMul, reduceIte, resVs, resV, packV, initT, addr, t0, t2, roundsW]; first | done | rfl | (congr 1; omega))
  · omega
  · clear t0 t2
    rintro N t m1 ds ⟨i, rfl, hds, hm, t0, t2, t6, t68, t69, hp⟩
    simp only at hds hm t0 t2 t6 t68 t69
    subst hds; replace hm := hm.symm; subst hm
    by_cases hi : (i : Int) < 64
    · have hX : (roundsW constW s.R (zip2 beginW s.M) i).length = 8 := by rw [roundsW_length, z8]
      have hn : roundsW constW s.R (zip2 beginW s.M) (i + 1) = roundW (roundsW constW s.R (zip2 beginW s.M) i) (constW[i]'(by omega)) ((sched s.R 64)[i]'(by omega)) := by
        simp [roundsW, hkl, hsl, show i < 64 by omega]
      obtain ⟨x0, x1, x2, x3, x4, x5, x6, x7, hx⟩ := len8 hX
      rw [hx] at hn
      simp (implicitDefEqProofs := false) (maxSteps := 1000000) (disch := first | omega | with_reducible assumption | (simp only [lenT, Nat.reduceAdd]; omega)) only [amT, cut, bnd, Nat.reduceBEq, reduceCtorEq, Nat.reduceEqDiff, Nat.reduceAdd, Nat.reduceMul, Nat.reduceSub, Int.reduceToNat, Int.reduceEq, Int.reduceLT, Int.reduceLE, Int.reduceAdd, Int.reduceSub, Int.reduceMul, reduceIte, resVs, resV, packV, initT, addr, F76_l2, t0, t2, t6, t68, t69, hi, hx, amW, List.map_cons, List.map_nil, kTurnedA, kTurnedB]
      repeat refine OrW.go ?_
      simp (implicitDefEqProofs := false) (maxSteps := 1000000) (disch := first | omega | with_reducible assumption | (simp only [lenT, Nat.reduceAdd]; omega)) only [amT, cut, bnd, Nat.reduceBEq, reduceCtorEq, Nat.reduceEqDiff, Nat.reduceAdd, Nat.reduceMul, Nat.reduceSub, Int.reduceToNat, Int.reduceEq, Int.reduceLT, Int.reduceLE, Int.reduceAdd, Int.reduceSub, Int.reduceMul, reduceIte, resVs, resV, packV, initT, addr, stepOp_cpy, srcCells_slice, cutL, splice, List.take_succ_cons, List.take_zero, List.drop_succ_cons, List.drop_nil, List.all_cons, List.all_nil, oneCell_w, Nat.min_self, amW, List.map_cons, List.map_nil, t0, t2, t6, t68, t69]
      rw [LoopK_normal]; refine ⟨_, ?_, i + 1, rfl, rfl, ?qm, ?q0, ?q2, ?q6, ?q68, ?q69, ?_⟩
      case qm | q0 | q2 | q6 | q68 | q69 => first | rfl | (simp (implicitDefEqProofs := false) (maxSteps := 1000000) (disch := first | omega | with_reducible assumption | (simp only [lenT, Nat.reduceAdd]; omega)) only [amT, cut, bnd, Nat.reduceBEq, reduceCtorEq, Nat.reduceEqDiff, Nat.reduceAdd, Nat.reduceMul, Nat.reduceSub, Int.reduceToNat, Int.reduceEq, Int.reduceLT, Int.reduceLE, Int.reduceAdd, Int.reduceSub, Int.reduceMul, reduceIte, resVs, resV, packV, initT, addr, t0, t2, t6, t68, t69, hn, roundW, List.map_cons, List.map_nil]; first | done | rfl | (congr 1; omega))
      · omega
      · omega
    · have h64 : i = 64 := by omega
      subst h64
      generalize hV : roundsW constW s.R (zip2 beginW s.M) 64 = V at *
      have hV8 : V.length = 8 := by rw [← hV, roundsW_length, z8]
      have hms : moreStep s.M s.R = zip2 s.M V := by rw [moreStep, hV]
      have hset : m.set b (.cells (cH ⟨s.M, s.R, s.n⟩) 96 true .exact) = m := AMem.set_same hm
      have hzl : (zip2 s.M V).length = s.M.length := by rw [zip2_length m8 hV8, m8]
      simp (implicitDefEqProofs := false) (maxSteps := 1000000) (disch := first | omega | with_reducible assumption | (simp only [lenT, Nat.reduceAdd]; omega)) only [amT, cut, bnd, Nat.reduceBEq, reduceCtorEq, Nat.reduceEqDiff, Nat.reduceAdd, Nat.reduceMul, Nat.reduceSub, Int.reduceToNat, Int.reduceEq, Int.reduceLT, Int.reduceLE, Int.reduceAdd, Int.reduceSub, Int.reduceMul, reduceIte, resVs, resV, packV, initT, addr, F76_l2, t0, t2, t6, t68, t69, cutL_all]
      refine W_loop (fun N qs => ∃ (i : Nat), N = 8 - i ∧ qs.ds = [] ∧ qs.m = mx (m.set b (.cells (cH ⟨mix i (zip2 s.M V) s.M, s.R, s.n⟩) 96 true .exact)) [.cells ((sched s.R 64).map w32) 127 true .exact, .cells (V.map w32) 92 true .exact] ∧ qs.t 0 = .pointer (some ⟨b, 0, none⟩) ∧ qs.t 131 = .agg (V.map w32).toArray ∧ qs.t 132 = .int .i64 i ∧ i ≤ 8) (8 - (0)) ⟨0, rfl, rfl, ?qm, ?q0, ?q131, ?q132, ?_⟩ ?_
      case qm | q0 | q131 | q132 => first | rfl | (simp (implicitDefEqProofs := false) (maxSteps := 1000000) (disch := first | omega | with_reducible assumption | (simp only [lenT, Nat.reduceAdd]; omega)) only [amT, cut, bnd, Nat.reduceBEq, reduceCtorEq, Nat.reduceEqDiff, Nat.reduceAdd, Nat.reduceMul, Nat.reduceSub, Int.reduceToNat, Int.reduceEq, Int.reduceLT, Int.reduceLE, Int.reduceAdd, Int.reduceSub, Int.reduceMul, reduceIte, resVs, resV, packV, initT, addr, t0, t2, t6, t68, t69, mix_zero, hset]; first | done | rfl | (congr 1; omega))
      · omega
      · clear t0 t2 t6 t68 t69 hp hi
        rintro N t m1 ds ⟨i, rfl, hds, hm, t0, t131, t132, hp⟩
        simp only at hds hm t0 t131 t132
        subst hds; replace hm := hm.symm; subst hm
        have hok : HS.ok ⟨mix i (zip2 s.M V) s.M, s.R, s.n⟩ := ⟨by simp only; rw [mix_length hzl, m8], hs.2⟩
        have h73 := cH_length hok
        by_cases hi : (i : Int) < 8
        · have h1 := cH_Mi hok (i := i) (by omega)
          simp only at h1
          rw [mix_get hzl (by omega)] at h1
          have h2 := cH_setM hok (i := i) (by omega) (s.M[i]'(by omega) + V[i]'(by omega))
          simp only at h2
          rw [← zip2_get (by omega) (by omega), mix_set hzl (by omega)] at h2
          have h3 := zip2_get (a := s.M) (b := V) (i := i) (by omega) (by omega)
          simp (implicitDefEqProofs := false) (maxSteps := 1000000) (disch := first | omega | with_reducible assumption | (simp only [lenT, Nat.reduceAdd]; omega)) only [amT, cut, bnd, Nat.reduceBEq, reduceCtorEq, Nat.reduceEqDiff, Nat.reduceAdd, Nat.reduceMul, Nat.reduceSub, Int.reduceToNat, Int.reduceEq, Int.reduceLT, Int.reduceLE, Int.reduceAdd, Int.reduceSub, Int.reduceMul, reduceIte, resVs, resV, packV, initT, addr, F76_l3, t0, t131, t132, hi, amW, h1, ← h3, h2]
          rw [LoopK_normal]; refine ⟨_, ?_, i + 1, rfl, rfl, ?qm, ?q0, ?q131, ?q132, ?_⟩
          case qm | q0 | q131 | q132 => first | rfl | (simp (implicitDefEqProofs := false) (maxSteps := 1000000) (disch := first | omega | with_reducible assumption | (simp only [lenT, Nat.reduceAdd]; omega)) only [amT, cut, bnd, Nat.reduceBEq, reduceCtorEq, Nat.reduceEqDiff, Nat.reduceAdd, Nat.reduceMul, Nat.reduceSub, Int.reduceToNat, Int.reduceEq, Int.reduceLT, Int.reduceLE, Int.reduceAdd, Int.reduceSub, Int.reduceMul, reduceIte, resVs, resV, packV, initT, addr, t0, t131, t132]; first | done | rfl | (congr 1; omega))
          · omega
          · omega
        · have h8 : i = 8 := by omega
          subst h8
          simp (implicitDefEqProofs := false) (maxSteps := 1000000) (disch := first | omega | with_reducible assumption | (simp only [lenT, Nat.reduceAdd]; omega)) only [amT, cut, bnd, Nat.reduceBEq, reduceCtorEq, Nat.reduceEqDiff, Nat.reduceAdd, Nat.reduceMul, Nat.reduceSub, Int.reduceToNat, Int.reduceEq, Int.reduceLT, Int.reduceLE, Int.reduceAdd, Int.reduceSub, Int.reduceMul, reduceIte, resVs, resV, packV, initT, addr, F76_l3, t0, t131, t132, mix_all (show (zip2 s.M V).length = 8 by rw [hzl, m8]) m8, hms]
end Go.Proofs.YtgkmlbkocgjmmaaDoor.S
namespace Go.Proofs.YtgkmlbkocgjmmaaDoor.S
open Go Go.AM
set_option maxRecDepth 100000
set_option linter.unusedVariables false
set_option linter.unusedSimpArgs false

theorem put_nil (m : AMem) (v : Value) : PureC Tryd.prog 3 59 [.pointer none, v] m (.tuple #[]) := by
  refine pure_of_W (fn := Tryd.f59) rfl rfl F59_ok (by simp [F59]) (.tuple (by simp)) ?_
  simp (implicitDefEqProofs := false) (maxSteps := 1000000) (disch := first | omega | with_reducible assumption | (simp only [lenT, Nat.reduceAdd]; omega)) only [amT, cut, bnd, Nat.reduceBEq, reduceCtorEq, Nat.reduceEqDiff, Nat.reduceAdd, Nat.reduceMul, Nat.reduceSub, Int.reduceToNat, Int.reduceEq, Int.reduceLT, Int.reduceLE, Int.reduceAdd, Int.reduceSub, Int.reduceMul, reduceIte, resVs, resV, packV, initT, addr, F59]
  refine W_loop (fun N qs => ∃ (i : Nat), N = 0 ∧ qs.ds = [] ∧ qs.m = mx m [] ∧ qs.t 0 = .pointer none ∧ True) (0) ⟨0, rfl, rfl, ?qm, ?q0, ?_⟩ ?_
  case qm | q0 => first | rfl | (simp (implicitDefEqProofs := false) (maxSteps := 1000000) (disch := first | omega | with_reducible assumption | (simp only [lenT, Nat.reduceAdd]; omega)) only [amT, cut, bnd, Nat.reduceBEq, reduceCtorEq, Nat.reduceEqDiff, Nat.reduceAdd, Nat.reduceMul, Nat.reduceSub, Int.reduceToNat, Int.reduceEq, Int.reduceLT, Int.reduceLE, Int.reduceAdd, Int.reduceSub, Int.reduceMul, reduceIte, resVs, resV, packV, initT, addr]; first | done | rfl | (congr 1; omega))
  · trivial
  · rintro N t m1 ds ⟨i, rfl, hds, hm, t0, hp⟩
    simp only at hds hm t0
    subst hds; replace hm := hm.symm; subst hm
    simp (implicitDefEqProofs := false) (maxSteps := 1000000) (disch := first | omega | with_reducible assumption | (simp only [lenT, Nat.reduceAdd]; omega)) only [amT, cut, bnd, Nat.reduceBEq, reduceCtorEq, Nat.reduceEqDiff, Nat.reduceAdd, Nat.reduceMul, Nat.reduceSub, Int.reduceToNat, Int.reduceEq, Int.reduceLT, Int.reduceLE, Int.reduceAdd, Int.reduceSub, Int.reduceMul, reduceIte, resVs, resV, packV, initT, addr, F59_l0, t0, eqV, Option.isNone]

theorem Glob.set {m : AMem} (h : Glob m) {b : Nat} (hb : 2 < b) (o : AObj) : Glob (m.set b o) :=
  ⟨by rw [AMem.get_set_ne _ _ (by omega)]; exact h.k, by rw [AMem.get_set_ne _ _ (by omega)]; exact h.b, h.s⟩
/-- The state at b. -/
abbrev hAt (m : AMem) (b : Nat) (s : HS) : AMem := m.set b (.cells (cH s) 96 true .exact)

theorem put_ok (m : AMem) (b : Nat) (s : HS) (hg : Glob m) (hs : s.ok) (hb : b < m.size) (hb2 : 2 < b) (hm : m.get b = .cells (cH s) 96 true .exact) (a : Option Addr) (cap : Nat) (c : List UInt8)
    (hc : BSl m a cap c) (hoff : Off a b) (hn : s.n + c.length < 2 ^ 60) :
    DetC Tryd.prog 3 59 [.pointer (some ⟨b, 0, none⟩), .slice a c.length cap] m (.tuple #[]) (mx (hAt m b (s.put c)) []) := by
  refine set_of_W (fn := Tryd.f59) rfl rfl F59_ok (by simp [F59]) (.tuple (by simp)) (plain_cH _) ?_
  have hset : m.set b (.cells (cH s) 96 true .exact) = m := AMem.set_same hm
  simp (implicitDefEqProofs := false) (maxSteps := 1000000) (disch := first | omega | with_reducible assumption | (simp only [lenT, Nat.reduceAdd]; omega)) only [amT, cut, bnd, Nat.reduceBEq, reduceCtorEq, Nat.reduceEqDiff, Nat.reduceAdd, Nat.reduceMul, Nat.reduceSub, Int.reduceToNat, Int.reduceEq, Int.reduceLT, Int.reduceLE, Int.reduceAdd, Int.reduceSub, Int.reduceMul, reduceIte, resVs, resV, packV, initT, addr, F59]
  refine W_loop (fun N qs => ∃ (k : Nat) (a' : Option Addr) (cap' : Nat), N = c.length - k ∧ qs.ds = [] ∧ qs.m = mx (hAt m b (s.put (c.take k))) [] ∧ qs.t 0 = .pointer (some ⟨b, 0, none⟩) ∧ qs.t 1 = .slice a' (c.drop k).length cap' ∧ k ≤ c.length ∧ BSl m a' cap' (c.drop k) ∧ Off a' b) (c.length - (0)) ⟨0, a, cap, rfl, rfl, ?qm, ?q0, ?q1, ?_⟩ ?_
  case qm | q0 | q1 => first | rfl | (simp (implicitDefEqProofs := false) (maxSteps := 1000000) (disch := first | omega | with_reducible assumption | (simp only [lenT, Nat.reduceAdd]; omega)) only [amT, cut, bnd, Nat.reduceBEq, reduceCtorEq, Nat.reduceEqDiff, Nat.reduceAdd, Nat.reduceMul, Nat.reduceSub, Int.reduceToNat, Int.reduceEq, Int.reduceLT, Int.reduceLE, Int.reduceAdd, Int.reduceSub, Int.reduceMul, reduceIte, resVs, resV, packV, initT, addr, List.take_zero, HS.put_nil, hset]; first | done | rfl | (congr 1; omega))
  · exact ⟨by omega, hc, hoff⟩
  · rintro N t m1 ds ⟨k, a', cap', rfl, hds, hm, t0, t1, hp⟩
    simp only at hds hm t0 t1
    subst hds; replace hm := hm.symm; subst hm
    obtain ⟨hk, hc', hoff'⟩ := hp
    have hlen : (c.drop k).length = c.length - k := List.length_drop
    by_cases hz : k = c.length
    · subst hz
      simp (implicitDefEqProofs := false) (maxSteps := 1000000) (disch := first | omega | with_reducible assumption | (simp only [lenT, Nat.reduceAdd]; omega)) only [amT, cut, bnd, Nat.reduceBEq, reduceCtorEq, Nat.reduceEqDiff, Nat.reduceAdd, Nat.reduceMul, Nat.reduceSub, Int.reduceToNat, Int.reduceEq, Int.reduceLT, Int.reduceLE, Int.reduceAdd, Int.reduceSub, Int.reduceMul, reduceIte, resVs, resV, packV, initT, addr, F59_l0, t0, t1, eqV, Option.isNone, List.drop_length]
    · generalize hs1 : s.put (c.take k) = s1 at *
      have hok : s1.ok := by rw [← hs1]; exact HS.put_ok hs _
      have hn1 : s1.n = s.n + k := by rw [← hs1, HS.put_n]; simp; omega
      have hpos : (0 : Int) < ((c.drop k).length : Int) := by omega
      have e1 : (s1.n : Int).tmod 64 = ((s1.n % 64 : Nat) : Int) := tmod_nat _ 64
      have h72 := cH_n hok
      have h73 := cH_length hok
      have hd := hok.2
      obtain ⟨nn, hnn⟩ : ∃ nn, nn = min (c.drop k).length (64 - s1.n % 64) := ⟨_, rfl⟩
      have hbk : b < (hAt m b s1).size := by rw [AMem.size_set]; exact hb
      have hcp := BSl.cpy (m := mx (hAt m b s1) []) ((hc'.set hoff' (.cells (cH s1) 96 true .exact)).old (M := mx (hAt m b s1) []) (Old.here _ _)) (b := b) (o := 8 + s1.n % 64) (dl := 64 - s1.n % 64) (dc := 64 - s1.n % 64) (X := cH s1) (e := 96) (sp := .exact) ((mx_old hbk).trans (AMem.get_set_self _ _ _)) (by omega) (by omega)
      rw [← hnn] at hcp
      obtain ⟨c', hcd⟩ : ∃ c', c' = (c.drop k).take nn := ⟨_, rfl⟩
      rw [← hcd] at hcp
      have hcl : c'.length = nn := by rw [hcd, List.length_take]; omega
      have hR := cH_R hok (at_ := s1.n % 64) (c := c') (by rw [hcl]; omega)
      have hok2 : HS.ok ⟨s1.M, spl s1.R (s1.n % 64) c', s1.n⟩ := ⟨hok.1, by rw [spl_length (by rw [hcl, hd]; omega), hd]⟩
      have hn2 := cH_n hok2
      have h732 := cH_length hok2
      have hsn := cH_setn hok2 (s1.n + nn)
      simp only at hR hn2 hsn
      have e3 : (s1.n : Int) + (nn : Int) = ((s1.n + nn : Nat) : Int) := by omega
      have hdd : (c.drop k).drop nn = c.drop (k + nn) := by rw [List.drop_drop]
      have htk : c.take (k + nn) = c.take k ++ c' := by rw [List.take_add, hcd]
      have hop : (c.drop k).length < openCap := openCap_lt (by omega)
      have hsl := (BSl.tail (m := mx (hAt m b ⟨s1.M, spl s1.R (s1.n % 64) c', s1.n⟩) []) (((hc'.set hoff' _).old (Old.here _ _))) hop (k := nn) (by omega)).1
      have hc3 := (BSl.tail hc' hop (k := nn) (by omega)).2
      have hoff3 := hoff'.tail cap' nn
      rw [hdd] at hc3
      by_cases hfull : ((s1.n % 64 : Nat) : Int) + (nn : Int) = 64
      · have hput : s.put (c.take (k + nn)) = ⟨moreStep s1.M (spl s1.R (s1.n % 64) c'), spl s1.R (s1.n % 64) c', s1.n + nn⟩ := by
          rw [htk, HS.put_append, hs1, HS.put_full hok (by intro h; rw [h] at hcl; simp at hcl; omega) (by rw [hcl]; omega), hcl]
        have hput2 : c.length ≤ k + nn → s.put c = ⟨moreStep s1.M (spl s1.R (s1.n % 64) c'), spl s1.R (s1.n % 64) c', s1.n + nn⟩ := fun h => by rw [List.take_of_length_le h] at hput; exact hput
        have hkb := DetC.known (block_ok (mx (hAt m b ⟨s1.M, spl s1.R (s1.n % 64) c', s1.n + nn⟩) []) b ⟨s1.M, spl s1.R (s1.n % 64) c', s1.n + nn⟩ ((hg.set hb2 _).old (Old.here _ _)) hok2 (by rw [mx_size, AMem.size_set]; omega) hb2 (by rw [mx_old (by rw [AMem.size_set]; exact hb)]; exact AMem.get_set_self _ _ _))
        simp (implicitDefEqProofs := false) (maxSteps := 1000000) (disch := first | omega | with_reducible assumption | (simp only [lenT, Nat.reduceAdd]; omega)) only [amT, cut, bnd, Nat.reduceBEq, reduceCtorEq, Nat.reduceEqDiff, Nat.reduceAdd, Nat.reduceMul, Nat.reduceSub, Int.reduceToNat, Int.reduceEq, Int.reduceLT, Int.reduceLE, Int.reduceAdd, Int.reduceSub, Int.reduceMul, reduceIte, resVs, resV, packV, initT, addr, F59_l0, t0, t1, eqV, Option.isNone, hpos, e1, h72, stepOp_cpy_v, hcp, hR, hn2, stepOp_slV_v, Option.map_none, hsl, e3, hsn, hfull, hkb]
        repeat refine OrW.go ?_
        rw [LoopK_normal]; refine ⟨_, ?_, k + nn, tailA a' cap' nn, tailC cap' nn, rfl, rfl, ?qm, ?q0, ?q1, ?_⟩
        case qm | q0 | q1 => first | rfl | (simp (implicitDefEqProofs := false) (maxSteps := 1000000) (disch := first | omega | with_reducible assumption | (simp only [lenT, Nat.reduceAdd]; omega)) only [amT, cut, bnd, Nat.reduceBEq, reduceCtorEq, Nat.reduceEqDiff, Nat.reduceAdd, Nat.reduceMul, Nat.reduceSub, Int.reduceToNat, Int.reduceEq, Int.reduceLT, Int.reduceLE, Int.reduceAdd, Int.reduceSub, Int.reduceMul, reduceIte, resVs, resV, packV, initT, addr, t0, t1, hput, hput2, hdd]; first | done | rfl | (congr 1; omega))
        · omega
        · exact ⟨by omega, hc3, hoff3⟩
      · have hput : s.put (c.take (k + nn)) = ⟨s1.M, spl s1.R (s1.n % 64) c', s1.n + nn⟩ := by
          rw [htk, HS.put_append, hs1, HS.put_fit hok (by rw [hcl]; omega), hcl]
        have hput2 : c.length ≤ k + nn → s.put c = ⟨s1.M, spl s1.R (s1.n % 64) c', s1.n + nn⟩ := fun h => by rw [List.take_of_length_le h] at hput; exact hput
        simp (implicitDefEqProofs := false) (maxSteps := 1000000) (disch := first | omega | with_reducible assumption | (simp only [lenT, Nat.reduceAdd]; omega)) only [amT, cut, bnd, Nat.reduceBEq, reduceCtorEq, Nat.reduceEqDiff, Nat.reduceAdd, Nat.reduceMul, Nat.reduceSub, Int.reduceToNat, Int.reduceEq, Int.reduceLT, Int.reduceLE, Int.reduceAdd, Int.reduceSub, Int.reduceMul, reduceIte, resVs, resV, packV, initT, addr, F59_l0, t0, t1, eqV, Option.isNone, hpos, e1, h72, stepOp_cpy_v, hcp, hR, hn2, stepOp_slV_v, Option.map_none, hsl, e3, hsn, hfull]
        rw [LoopK_normal]; refine ⟨_, ?_, k + nn, tailA a' cap' nn, tailC cap' nn, rfl, rfl, ?qm, ?q0, ?q1, ?_⟩
        case qm | q0 | q1 => first | rfl | (simp (implicitDefEqProofs := false) (maxSteps := 1000000) (disch := first | omega | with_reducible assumption | (simp only [lenT, Nat.reduceAdd]; omega)) only [amT, cut, bnd, Nat.reduceBEq, reduceCtorEq, Nat.reduceEqDiff, Nat.reduceAdd, Nat.reduceMul, Nat.reduceSub, Int.reduceToNat, Int.reduceEq, Int.reduceLT, Int.reduceLE, Int.reduceAdd, Int.reduceSub, Int.reduceMul, reduceIte, resVs, resV, packV, initT, addr, t0, t1, hput, hput2, hdd]; first | done | rfl | (congr 1; omega))
        · omega
        · exact ⟨by omega, hc3, hoff3⟩
end Go.Proofs.YtgkmlbkocgjmmaaDoor.S
namespace Go.Proofs.YtgkmlbkocgjmmaaDoor.S
open Go Go.AM
set_option maxRecDepth 100000
set_option linter.unusedVariables false
set_option linter.unusedSimpArgs false

def zerosN (n : Nat) : Nat := (119 - n % 64) % 64
def lenB (n : Nat) : List UInt8 := (List.range 8).map fun k => UInt8.ofNat ((8 * n) >>> (56 - 8 * k))
theorem lenB_length (n : Nat) : (lenB n).length = 8 := by simp [lenB]
/-- The first j bytes behind the message, up to its length. -/
def padA (j : Nat) : List UInt8 := match j with | 0 => [] | j + 1 => 128 :: List.replicate j 0
theorem padA_succ (j : Nat) : padA (j + 1) = padA j ++ [if j = 0 then 128 else 0] := by
  cases j with
  | zero => rfl
  | succ j => simp only [padA]; rw [List.replicate_succ']; simp
theorem padA_length (j : Nat) : (padA j).length = j := by cases j <;> simp [padA]
def padB (n : Nat) : List UInt8 := padA (1 + zerosN n) ++ lenB n
/-- A state's bytes. -/
def dig (S : List UInt32) : List UInt8 := (List.range 32).map fun p => UInt8.ofNat ((S.getD (p / 4) 0).toNat >>> (24 - 8 * (p % 4)))
theorem dig_length (S : List UInt32) : (dig S).length = 32 := by simp [dig]
def sumOf (s : HS) : List UInt8 := dig (zip2 beginW (s.put (padB s.n)).M)
theorem sumOf_length (s : HS) : (sumOf s).length = 32 := dig_length _

theorem zero73 : [Value.int .u32 0, .int .u32 0, .int .u32 0, .int .u32 0, .int .u32 0, .int .u32 0, .int .u32 0, .int .u32 0, .int .u8 0, .int .u8 0, .int .u8 0, .int .u8 0, .int .u8 0, .int .u8 0, .int .u8 0, .int .u8 0, .int .u8 0, .int .u8 0, .int .u8 0, .int .u8 0, .int .u8 0, .int .u8 0, .int .u8 0, .int .u8 0, .int .u8 0, .int .u8 0, .int .u8 0, .int .u8 0, .int .u8 0, .int .u8 0, .int .u8 0, .int .u8 0, .int .u8 0, .int .u8 0, .int .u8 0, .int .u8 0, .int .u8 0, .int .u8 0, .int .u8 0, .int .u8 0, .int .u8 0, .int .u8 0, .int .u8 0, .int .u8 0, .int .u8 0, .int .u8 0, .int .u8 0, .int .u8 0, .int .u8 0, .int .u8 0, .int .u8 0, .int .u8 0, .int .u8 0, .int .u8 0, .int .u8 0, .int .u8 0, .int .u8 0, .int .u8 0, .int .u8 0, .int .u8 0, .int .u8 0, .int .u8 0, .int .u8 0, .int .u8 0, .int .u8 0, .int .u8 0, .int .u8 0, .int .u8 0, .int .u8 0, .int .u8 0, .int .u8 0, .int .u8 0, .int .u64 0] = cH hs0 := rfl
theorem zero32 : [Value.int .u8 0, .int .u8 0, .int .u8 0, .int .u8 0, .int .u8 0, .int .u8 0, .int .u8 0, .int .u8 0, .int .u8 0, .int .u8 0, .int .u8 0, .int .u8 0, .int .u8 0, .int .u8 0, .int .u8 0, .int .u8 0, .int .u8 0, .int .u8 0, .int .u8 0, .int .u8 0, .int .u8 0, .int .u8 0, .int .u8 0, .int .u8 0, .int .u8 0, .int .u8 0, .int .u8 0, .int .u8 0, .int .u8 0, .int .u8 0, .int .u8 0, .int .u8 0] = (List.replicate 32 (0 : UInt8)).map byteV := rfl
theorem one_cH (s : HS) : (cH s).all oneCell = true := by simp [cH, oneCell, w32, byteV]
theorem cellsOf_cH (s : HS) : cellsOf (.agg (cH s).toArray) = some (cH s) := by
  simp only [cellsOf]; rw [if_pos (one_cH s)]
theorem put1_known (m : AMem) (d : AObj) (s : HS) (g : List AObj) (c : UInt8) (hg : Glob m) (hs : s.ok) (hn : s.n + 1 < 2 ^ 60) :
    Known Tryd.prog 3 59 [.pointer (some ⟨m.size + 1, 0, none⟩), .slice (some ⟨m.size + (g.length + 1 + 1), 0, none⟩) 1 1] (mx m (d :: .cells (cH s) 96 true .exact :: (g ++ [.cells [.int .u8 (c.toNat : Int)] 5 true .exact]))) (.tuple #[])
      (mx m (d :: .cells (cH (s.put [c])) 96 true .exact :: (g ++ [.cells [.int .u8 (c.toNat : Int)] 5 true .exact]))) := by
  have gs := hg.s
  have h := put_ok (mx m (d :: .cells (cH s) 96 true .exact :: (g ++ [.cells [.int .u8 (c.toNat : Int)] 5 true .exact]))) (m.size + 1) s (hg.old (Old.here _ _)) hs (by rw [mx_size]; simp) (by omega) (mx_new _ _ 1)
    (some ⟨m.size + (g.length + 1 + 1), 0, none⟩) 1 [c] (.inr ⟨_, _, [.int .u8 (c.toNat : Int)], 5, true, .exact, rfl, by rw [mx_size]; simp, by rw [mx_new]; simp, rfl, .inr ⟨openCap_lt (by omega), Nat.le_refl _⟩⟩)
    (fun x o hx => by cases hx; omega) hn
  have e : mx (hAt (mx m (d :: .cells (cH s) 96 true .exact :: (g ++ [.cells [.int .u8 (c.toNat : Int)] 5 true .exact]))) (m.size + 1) (s.put [c])) [] = mx m (d :: .cells (cH (s.put [c])) 96 true .exact :: (g ++ [.cells [.int .u8 (c.toNat : Int)] 5 true .exact])) := by
    simp (implicitDefEqProofs := false) (maxSteps := 1000000) (disch := first | omega | with_reducible assumption | (simp only [lenT, Nat.reduceAdd]; omega)) only [amT, cut, bnd, Nat.reduceBEq, reduceCtorEq, Nat.reduceEqDiff, Nat.reduceAdd, Nat.reduceMul, Nat.reduceSub, Int.reduceToNat, Int.reduceEq, Int.reduceLT, Int.reduceLE, Int.reduceAdd, Int.reduceSub, Int.reduceMul, reduceIte, resVs, resV, packV, initT, addr]
  rw [e] at h
  exact DetC.known h
end Go.Proofs.YtgkmlbkocgjmmaaDoor.S
