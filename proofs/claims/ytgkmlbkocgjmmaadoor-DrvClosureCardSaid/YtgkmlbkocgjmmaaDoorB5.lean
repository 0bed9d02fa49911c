/- Graphs: the law of Closure. -/
import Derived.Test.YtgkmlbkocgjmmaaDoorB4
import Derived.Test.YtgkmlbkocgjmmaaDoorDrvF7
import Derived.Test.YtgkmlbkocgjmmaaDoorA4
import Derived.Test.YtgkmlbkocgjmmaaDoorB3
import Derived.Test.YtgkmlbkocgjmmaaDoorRows
import Derived.WalkKit
import Derived.ProofKit
import Derived.OpenShut
import Derived.ShutString
import Derived.ChangeOld
import Derived.Below
import Derived.SizedLaws
import Derived.Handed
import Derived.JoinedOf
import Derived.Deep.Slices
set_option linter.unusedVariables false
set_option linter.unusedSimpArgs false
set_option linter.unnecessarySimpa false
namespace Go.Proofs.YtgkmlbkocgjmmaaDoor
open Go Go.AM
set_option linter.unusedVariables false
set_option linter.unusedSimpArgs false
set_option maxHeartbeats 2000000
set_option maxRecDepth 100000

theorem closR_len {names : List (List UInt8)} {needs : List (List (List UInt8))} {roots : List (List UInt8)} : (closR names needs roots).1.length ≤ names.length := by
  unfold closR
  split
  · unfold closO
    refine Nat.le_trans (List.length_filter_le _ _) (by simp)
  · simp
theorem lawClosure (m : AMem) (hg : S.Glob m) (a : Option Addr) (c : Nat) (names : List (List UInt8)) (ha : StrR m a names) (hl : names.length ≤ 9223372036854775807) (hs : ∀ s ∈ names, s.length ≤ 9223372036854775807) (na : Option Addr) (nc : Nat) (needs : List (List (List UInt8))) (hN : NeedsA m na needs) (hnl : needs.length ≤ 9223372036854775807)
    (ra : Option Addr) (rc : Nat) (roots : List (List UInt8)) (hR : Src m ra roots) (hrl : roots.length ≤ 9223372036854775807) (hrs : ∀ s ∈ roots, s.length ≤ 9223372036854775807) :
    PureC Tryd.prog 3 7 [.slice a names.length c, .slice na needs.length nc, .slice ra roots.length rc] m (.bool true) := by
  refine pure_of_W (fn := Tryd.f7) rfl rfl F7_ok (by simp [F7]) (.bool _) ?_
  have kg := DetC.known (graph_ok (mx m []) a c names (ha.old (Old.here _ [])) hl hs na nc needs (hN.old (Old.here _ [])) hnl)
  have kw := kWorks hg []
  have k25 := DetC.known (short_ok (mx m []) ra rc roots (hR.str.old (Old.here _ [])) hrl hrs 30 (by omega))
  rw [show ((30 : Nat) : Int) = 30 from rfl] at k25
  cases hgr : graphB names needs with
  | false =>
    rw [hgr] at kg
    repeat first | simp (implicitDefEqProofs := false) (maxSteps := 1000000) (disch := first | omega | with_reducible assumption | (simp only [lenT, Nat.reduceAdd]; omega)) only [amT, cut, bnd, Nat.reduceBEq, reduceCtorEq, Nat.reduceEqDiff, Nat.reduceAdd, Nat.reduceMul, Nat.reduceSub, Int.reduceToNat, Int.reduceEq, Int.reduceLT, Int.reduceLE, Int.reduceAdd, Int.reduceSub, Int.reduceMul, reduceIte, resVs, resV, packV, initT, addr, F7, kg, kw] | refine OrW.go ?_
  | true =>
    rw [hgr] at kg
    cases hsr : shortB roots 30 with
    | false =>
      rw [hsr] at k25
      repeat first | simp (implicitDefEqProofs := false) (maxSteps := 1000000) (disch := first | omega | with_reducible assumption | (simp only [lenT, Nat.reduceAdd]; omega)) only [amT, cut, bnd, Nat.reduceBEq, reduceCtorEq, Nat.reduceEqDiff, Nat.reduceAdd, Nat.reduceMul, Nat.reduceSub, Int.reduceToNat, Int.reduceEq, Int.reduceLT, Int.reduceLE, Int.reduceAdd, Int.reduceSub, Int.reduceMul, reduceIte, resVs, resV, packV, initT, addr, F7, kg, k25, kw] | refine OrW.go ?_
    | true =>
      rw [hsr] at k25
      have hG := graph_few hgr
      have g1 := hG.nlen; have g2 := hG.dlen
      have hNR := hN.needs hG.rows
      have hr30 : roots.length ≤ 30 := by simp [shortB] at hsr; omega
      have hrow := fun i => Nat.le_trans (hG.row i) (show 30 ≤ 1000 by omega)
      repeat first | simp (implicitDefEqProofs := false) (maxSteps := 1000000) (disch := first | omega | with_reducible assumption | (simp only [lenT, Nat.reduceAdd]; omega)) only [amT, cut, bnd, Nat.reduceBEq, reduceCtorEq, Nat.reduceEqDiff, Nat.reduceAdd, Nat.reduceMul, Nat.reduceSub, Int.reduceToNat, Int.reduceEq, Int.reduceLT, Int.reduceLE, Int.reduceAdd, Int.reduceSub, Int.reduceMul, reduceIte, resVs, resV, packV, initT, addr, F7, kg, k25] | refine OrW.go ?_
      refine RelC.call (closure_ok (mx m []) a c names (ha.old (Old.here _ [])) (by omega) na nc needs (hNR.old (Old.here _ [])) (by omega) ra rc roots (hR.old (Old.here _ [])) (by omega) hrow) ?_
      rintro r M1 ⟨hO1, v1, rfl, hI1⟩
      have hz1 : Old m M1 := (Old.here m []).trans hO1
      repeat first | simp (implicitDefEqProofs := false) (maxSteps := 1000000) (disch := first | omega | with_reducible assumption | (simp only [lenT, Nat.reduceAdd]; omega)) only [amT, cut, bnd, Nat.reduceBEq, reduceCtorEq, Nat.reduceEqDiff, Nat.reduceAdd, Nat.reduceMul, Nat.reduceSub, Int.reduceToNat, Int.reduceEq, Int.reduceLT, Int.reduceLE, Int.reduceAdd, Int.reduceSub, Int.reduceMul, reduceIte, resVs, resV, packV, initT, addr] | refine OrW.go ?_
      refine RelC.call (refClosure_ok (mx M1 []) a c names (ha.old (hz1.mx [])) (by omega) na nc needs (hNR.old (hz1.mx [])) (by omega) ra rc roots (hR.str.old (hz1.mx [])) (by omega) hrow) ?_
      rintro r M2 ⟨hO2, v2, rfl, hI2⟩
      have hy2 : Old M1 M2 := (Old.here M1 []).trans hO2
      have hz2 := hz1.trans hy2
      have hsl := closR_len (names := names) (needs := needs) (roots := roots)
      have ks := same_l (hI1.old hy2) hI2 (by omega) []
      have kw2 := kWorks (hg.old hz2) []
      repeat first | simp (implicitDefEqProofs := false) (maxSteps := 1000000) (disch := first | omega | with_reducible assumption | (simp only [lenT, Nat.reduceAdd]; omega)) only [amT, cut, bnd, Nat.reduceBEq, reduceCtorEq, Nat.reduceEqDiff, Nat.reduceAdd, Nat.reduceMul, Nat.reduceSub, Int.reduceToNat, Int.reduceEq, Int.reduceLT, Int.reduceLE, Int.reduceAdd, Int.reduceSub, Int.reduceMul, reduceIte, resVs, resV, packV, initT, addr, ks, kw2] | refine OrW.go ?_
      exact hz2.mx []
end Go.Proofs.YtgkmlbkocgjmmaaDoor
namespace Go.AM
set_option linter.unusedVariables false
section
variable {P : Program}
/-- A laid row of words. -/
theorem laid_words {w : World} {name : String} {g t e : Nat} {n : Nat} {zs : List UInt32} {cs : Array Value} {fuel : Nat} {p : List MemPlace}
    (hg : P.globalNamed name = some g) (hv : w.var? P name = some cs) (ht : P.underlying t = some (.array n e)) (he : P.underlying e = some (.int .u32)) (hct : P.cellsOf t = n) (hc : P.cellsOf e = 1)
    (hd : DataW.trod (fun _ => ()) P w 0 (fun _ => true) false fuel t cs.toList = some (.agg (zs.map fun z => .lit (.int .u32 (z.toNat : Int))), p)) :
    ∃ ty frz, w.heap[g]? = some (.cells cs ty frz) ∧ cs = (zs.map w32).toArray := by
  obtain ⟨xs, mm, _, ex, hlen, hl, hel⟩ := DataW.trod_array ht hd
  have e1 : zs.map (fun z => DataW.lit (.int .u32 (z.toNat : Int))) = xs.map (·.1) := DataW.agg.inj (Prod.mk.inj ex).1
  rw [hct] at hlen
  have hzl : zs.length = n := by have := congrArg List.length e1; simp at this; omega
  simp only [World.var?, hg, Option.bind_some] at hv
  split at hv <;> simp at hv
  rename_i cs' ty frz hh
  subst hv
  refine ⟨ty, frz, hh, ?_⟩
  apply Array.ext'
  apply List.ext_getElem
  · simp [hzl] at hlen ⊢; omega
  · intro i h1 h2
    have hi : i < n := by simp at hlen h1; omega
    have k := hel i hi
    rw [hc, Nat.mul_one] at k
    have k1 : (cs'.toList.drop i).take 1 = [cs'.toList[i]] := by rw [List.drop_eq_getElem_cons h1]; simp
    rw [k1, List.getElem?_eq_getElem (by omega)] at k
    obtain ⟨z, a0, b0, _⟩ := DataW.trod_int he k
    have a1 : cs'.toList[i] = .int .u32 z := by simpa using a0
    rw [a1]
    have e2 := congrArg (fun l => l[i]?) e1
    simp only [List.getElem?_map, List.getElem?_eq_getElem (show i < zs.length by omega), List.getElem?_eq_getElem (show i < xs.length by omega), Option.map_some, Option.some.injEq, b0] at e2
    simp only [DataW.lit.injEq, Lit.int.injEq, true_and] at e2
    simp [w32, e2]
end
end Go.AM
namespace Go.Proofs.YtgkmlbkocgjmmaaDoor.gl
open Go.ChangeShapes Go.WideShapes Go.ChangeAt Go.RowKit
set_option linter.unusedVariables false
theorem own : ownKnob Tryd.prog.godebug = none := by kernel_rfl
theorem laidOut : laidOutB Tryd.prog = true := by kernel_rfl
abbrev laid : List (String × DataW Unit) := [("tithebarn/sha.constants", Rows.laid_tithebarn_sha_constants), ("tithebarn/sha.begin", Rows.laid_tithebarn_sha_begin)]

/-- The listed variables, where they lie. -/
theorem globs {W : World} (h : laidMetH Tryd.prog laid W) : (∃ ty frz, W.heap[0]? = some (.cells (AM.constW.map AM.w32).toArray ty frz)) ∧ ∃ ty frz, W.heap[1]? = some (.cells (AM.beginW.map AM.w32).toArray ty frz) := by
  rw [MakeChecks.laidMetH_plain _ _ _ (by kernel_rfl)] at h
  obtain ⟨ps, ⟨g, t, cs, fuel, p, q, hg, ht, hv, hd, ⟨g2, t2, cs2, fuel2, p2, q2, hg2, ht2, hv2, hd2, _, _⟩, _⟩, _, _⟩ := h
  have k0 : Tryd.prog.globalNamed "tithebarn/sha.constants" = some 0 := by kernel_rfl
  have k1 : Tryd.prog.globalNamed "tithebarn/sha.begin" = some 1 := by kernel_rfl
  obtain rfl := Option.some.inj (k0.symm.trans hg)
  obtain rfl := Option.some.inj (k1.symm.trans hg2)
  obtain rfl := Option.some.inj ((show (Tryd.prog.globals[0]?).map (·.type) = some 127 by kernel_rfl).symm.trans ht)
  obtain rfl := Option.some.inj ((show (Tryd.prog.globals[1]?).map (·.type) = some 92 by kernel_rfl).symm.trans ht2)
  obtain ⟨ty, frz, h1, rfl⟩ := AM.laid_words (zs := AM.constW) k0 hv Tryd.underlying127 Tryd.underlying91 (by kernel_rfl) (by kernel_rfl) hd
  obtain ⟨ty2, frz2, h2, rfl⟩ := AM.laid_words (zs := AM.beginW) k1 hv2 Tryd.underlying92 Tryd.underlying91 (by kernel_rfl) (by kernel_rfl) hd2
  exact ⟨⟨ty, frz, h1⟩, ⟨ty2, frz2, h2⟩⟩

/-- A world in which they are as listed. -/
noncomputable def laidWorld (os : Os) : World :=
  let w0 := World.holding Tryd.prog os ⟨#[], #[], []⟩
  { w0 with heap := (w0.heap.modify 0 fun
      | .cells _ t frozen => .cells (AM.constW.map AM.w32).toArray t frozen
      | o => o).modify 1 fun
      | .cells _ t frozen => .cells (AM.beginW.map AM.w32).toArray t frozen
      | o => o }
theorem laidWorld_met (os : Os) (args : Array Value) : laidMetH Tryd.prog laid ((laidWorld os).forCall (fun _ _ => 0) ⟨#[], args, []⟩).memory := by
  rw [MakeChecks.laidMetH_plain _ _ _ (by kernel_rfl)]
  exact laidMet_of_run' 8 (by kernel_rfl) (by kernel_rfl)

/-- The memory of which a law speaks: the variables, and what the arguments lead to. -/
def osOf (ty ty2 : TypeId) (l : List (AM.AObj × AM.Loc)) : List (AM.AObj × AM.Loc) :=
  (.cells (AM.constW.map AM.w32) ty false (.full 1), ⟨0, 0, 64, 1⟩) :: (.cells (AM.beginW.map AM.w32) ty2 false (.full 1), ⟨1, 0, 8, 1⟩) :: (.dead, ⟨2, 0, 0, 1⟩) :: l
theorem plain_w (l : List UInt32) : ∀ v ∈ l.map AM.w32, AM.Plain v := fun v hv => by
  simp only [List.mem_map] at hv; obtain ⟨x, _, rfl⟩ := hv; exact AM.plain_w32 _
theorem obj_w {W : World} {ρ : AM.Ren} {g : Nat} {l : List UInt32} {ty : TypeId} {frz : Nat × Nat} (h : W.heap[g]? = some (.cells (l.map AM.w32).toArray ty frz)) {n : Nat} (hn : l.length = n) : AM.ObjRel ρ (.cells (l.map AM.w32) ty false (.full 1)) ⟨g, 0, n, 1⟩ W := by
  have := AM.ObjRel.plain (ρ := ρ) (c := l.map AM.w32) (o := 0) (e := ty) h (by simp) (fun j hj => by simp; simp at hj; simp [hj]) (plain_w l) 1 (by omega)
  rwa [List.length_map, hn] at this
theorem wrtL {ty ty2 : TypeId} {l : List (AM.AObj × AM.Loc)} (hl : ∀ x ∈ l, x.1.wrt = false) : ∀ x ∈ osOf ty ty2 l, x.1.wrt = false := fun x hx => by
  simp only [osOf, List.mem_cons] at hx
  rcases hx with rfl | rfl | rfl | hx
  · rfl
  · rfl
  · rfl
  · exact hl x hx
theorem rep {W : World} {ty ty2 : TypeId} {frz frz2 : Nat × Nat} (h0 : W.heap[0]? = some (.cells (AM.constW.map AM.w32).toArray ty frz)) (h1 : W.heap[1]? = some (.cells (AM.beginW.map AM.w32).toArray ty2 frz2))
    {l : List (AM.AObj × AM.Loc)} (hl : ∀ x ∈ l, AM.ObjRel (AM.renOf (osOf ty ty2 l)) x.1 x.2 W) (hw : ∀ x ∈ l, x.1.wrt = false) : AM.Rep 3 (AM.memOf (osOf ty ty2 l)) (AM.renOf (osOf ty ty2 l)) W := by
  refine AM.Rep.of (osOf ty ty2 l) (fun g hg => ?_) (fun x hx => ?_) (wrtL hw)
  · match g, hg with
    | 0, _ => exact ⟨_, rfl, rfl, rfl⟩
    | 1, _ => exact ⟨_, rfl, rfl, rfl⟩
    | 2, _ => exact ⟨_, rfl, rfl, rfl⟩
  · simp only [osOf, List.mem_cons] at hx
    rcases hx with rfl | rfl | rfl | hx
    · exact obj_w h0 rfl
    · exact obj_w h1 rfl
    · trivial
    · exact hl x hx
theorem glob (ty ty2 : TypeId) (l : List (AM.AObj × AM.Loc)) : S.Glob (AM.memOf (osOf ty ty2 l)) := ⟨⟨ty, _, rfl⟩, ⟨ty2, _, rfl⟩, by show 2 < l.length + 1 + 1 + 1; omega⟩
theorem os_at {ty ty2 : TypeId} {l : List (AM.AObj × AM.Loc)} {k : Nat} {x : AM.AObj × AM.Loc} (h : l[k]? = some x) : (osOf ty ty2 l)[3 + k]? = some x := by
  rw [Nat.add_comm]; exact h
theorem get_at {ty ty2 : TypeId} {l : List (AM.AObj × AM.Loc)} {k : Nat} {x : AM.AObj × AM.Loc} (h : l[k]? = some x) : (AM.memOf (osOf ty ty2 l)).get (3 + k) = x.1 := by
  simp only [AM.memOf, os_at h]
theorem ren_at {ty ty2 : TypeId} {l : List (AM.AObj × AM.Loc)} {k : Nat} {x : AM.AObj × AM.Loc} (h : l[k]? = some x) : AM.renOf (osOf ty ty2 l) (3 + k) = some x.2 := by
  simp only [AM.renOf, os_at h, Option.map_some]
theorem lt_at {ty ty2 : TypeId} {l : List (AM.AObj × AM.Loc)} {k : Nat} {x : AM.AObj × AM.Loc} (h : l[k]? = some x) : 3 + k < (AM.memOf (osOf ty ty2 l)).size := by
  have := (List.getElem?_eq_some_iff.1 h).1
  show 3 + k < l.length + 1 + 1 + 1; omega

/-- An argument whose blocks are those from the k-th on. -/
def Arg (W : World) (k : Nat) (L : List (AM.AObj × AM.Loc)) (F : AM.AMem → AM.Ren → Prop) : Prop :=
  (∀ x ∈ L, x.1.wrt = false) ∧ ∀ (ty ty2 : TypeId) (l : List (AM.AObj × AM.Loc)), (∀ j (h : j < L.length), l[k + j]? = some L[j]) → (∀ x ∈ L, AM.ObjRel (AM.renOf (osOf ty ty2 l)) x.1 x.2 W) ∧ F (AM.memOf (osOf ty ty2 l)) (AM.renOf (osOf ty ty2 l))
theorem Arg.none (W : World) (k : Nat) : Arg W k [] fun _ _ => True := ⟨(fun x h => by cases h), fun ty ty2 l _ => ⟨(fun x h => by cases h), trivial⟩⟩
theorem Arg.and {W : World} {k : Nat} {L1 L2 : List (AM.AObj × AM.Loc)} {F1 F2 : AM.AMem → AM.Ren → Prop} (h1 : Arg W k L1 F1) (h2 : Arg W (k + L1.length) L2 F2) : Arg W k (L1 ++ L2) fun m ρ => F1 m ρ ∧ F2 m ρ := by
  refine ⟨fun x hx => (List.mem_append.1 hx).elim (h1.1 x) (h2.1 x), fun ty ty2 l hl => ?_⟩
  obtain ⟨a1, b1⟩ := h1.2 ty ty2 l fun j h => by rw [hl j (by rw [List.length_append]; omega), List.getElem_append_left h]
  obtain ⟨a2, b2⟩ := h2.2 ty ty2 l fun j h => by
    rw [Nat.add_assoc, hl (L1.length + j) (by rw [List.length_append]; omega), List.getElem_append_right (by omega)]
    simp only [Nat.add_sub_cancel_left]
  exact ⟨fun x hx => (List.mem_append.1 hx).elim (a1 x) (a2 x), b1, b2⟩
theorem Arg.all {W : World} {L : List (AM.AObj × AM.Loc)} {F : AM.AMem → AM.Ren → Prop} (h : Arg W 0 L F) (ty ty2 : TypeId) : (∀ x ∈ L, AM.ObjRel (AM.renOf (osOf ty ty2 L)) x.1 x.2 W) ∧ F (AM.memOf (osOf ty ty2 L)) (AM.renOf (osOf ty ty2 L)) :=
  h.2 ty ty2 L fun j hj => by rw [Nat.zero_add]; exact List.getElem?_eq_getElem hj

/-- A row of texts. -/
theorem arg_strs {W : World} {ls : List (List UInt8)} {v : Value} (h : AM.SlP W (ls.map fun s => .string ⟨s.toArray⟩) v) (k : Nat) : ∃ (x : AM.AObj × AM.Loc) (a : Option Addr) (cap : Nat), (∀ ρ, AM.ObjRel ρ x.1 x.2 W) ∧ Arg W k [x] fun m ρ => Src m a ls ∧ AM.VRel ρ (.slice a ls.length cap) v := by
  have hp : ∀ x ∈ ls.map (fun s : List UInt8 => Value.string ⟨s.toArray⟩), AM.Plain x := fun x hx => by
    simp only [List.mem_map] at hx; obtain ⟨y, _, rfl⟩ := hx; exact .string _
  generalize hc : ls.map (fun s : List UInt8 => Value.string ⟨s.toArray⟩) = c at h hp
  have hcl : c.length = ls.length := by rw [← hc, List.length_map]
  cases h with
  | nil h =>
    subst h
    obtain rfl : ls = [] := List.length_eq_zero_iff.1 (by simpa using hcl.symm)
    exact ⟨(.dead, ⟨2, 0, 0, 1⟩), none, 0, fun _ => trivial, fun x hx => (by rw [List.mem_singleton] at hx; subst hx; rfl), fun ty ty2 l hl => ⟨fun x hx => (by rw [List.mem_singleton] at hx; subst hx; trivial), .inl ⟨rfl, rfl⟩, .nilSlice 0 0⟩⟩
  | none a h =>
    subst h
    obtain rfl : ls = [] := List.length_eq_zero_iff.1 (by simpa using hcl.symm)
    exact ⟨(.dead, ⟨2, 0, 0, 1⟩), some ⟨0, 0, none⟩, 0, fun _ => trivial, fun x hx => (by rw [List.mem_singleton] at hx; subst hx; rfl), fun ty ty2 l hl => ⟨fun x hx => (by rw [List.mem_singleton] at hx; subst hx; trivial),
      .inr ⟨0, 0, rfl, by show 0 < l.length + 1 + 1 + 1; omega, AM.cutL_zero (Nat.zero_le _)⟩, .sliceEnd (b := 0) (o := 0) (L := ⟨0, 0, 64, 1⟩) rfl (.inl rfl)⟩⟩
  | some b o cap carr t frz hh hl hcc hcap hle =>
    have hob : ∀ ρ, AM.ObjRel ρ (.cells c t false (.full 1)) ⟨b, o, c.length, 1⟩ W := fun ρ => AM.ObjRel.plain hh hl hcc hp 1 (by omega)
    refine ⟨(.cells c t false (.full 1), ⟨b, o, c.length, 1⟩), some ⟨3 + k, 0, none⟩, cap, hob, fun x hx => (by rw [List.mem_singleton] at hx; subst hx; rfl), fun ty ty2 l hl => ⟨fun x hx => (by rw [List.mem_singleton] at hx; subst hx; exact hob _), ?_, ?_⟩⟩
    · have h0 := hl 0 (by simp)
      rw [Nat.add_zero] at h0
      refine .inr ⟨3 + k, 0, rfl, lt_at h0, ?_⟩
      rw [get_at h0]
      show AM.cutL c 0 ls.length = _
      rw [← hcl, AM.cutL_all rfl, ← hc]; rfl
    · have h0 := hl 0 (by simp)
      rw [Nat.add_zero] at h0
      rw [← hcl]
      exact .slice (b := 3 + k) (o := 0) (ren_at h0) (AM.openCap_lt hcap)
/-- A row of bytes. -/
theorem arg_bytes {W : World} {v : Value} (h : AM.SlB W v) (k : Nat) : ∃ (x : AM.AObj × AM.Loc) (a : Option Addr) (cap : Nat) (c : List UInt8), c.length ≤ 9223372036854775807 ∧ Arg W k [x] fun m ρ => AM.BSl m a cap c ∧ AM.VRel ρ (.slice a c.length cap) v := by
  cases h with
  | nil => exact ⟨(.dead, ⟨2, 0, 0, 1⟩), none, 0, [], by simp, fun x hx => (by rw [List.mem_singleton] at hx; subst hx; rfl), fun ty ty2 l hl => ⟨fun x hx => (by rw [List.mem_singleton] at hx; subst hx; trivial), .inl ⟨rfl, rfl, rfl⟩, .nilSlice 0 0⟩⟩
  | none a => exact ⟨(.dead, ⟨2, 0, 0, 1⟩), some ⟨0, 0, none⟩, 0, [], by simp, fun x hx => (by rw [List.mem_singleton] at hx; subst hx; rfl), fun ty ty2 l hl => ⟨fun x hx => (by rw [List.mem_singleton] at hx; subst hx; trivial), .inr ⟨0, 0, _, _, _, _, rfl, by show 0 < l.length + 1 + 1 + 1; omega, rfl, AM.cutL_zero (Nat.zero_le _), .inr ⟨AM.zeroCap_lt, Nat.le_refl _⟩⟩, .sliceEnd (b := 0) (o := 0) (L := ⟨0, 0, 64, 1⟩) rfl (.inl rfl)⟩⟩
  | some b o cap c carr t frz hh hl hc hcap hle =>
    have hob : ∀ ρ, AM.ObjRel ρ (.cells (c.map AM.byteV) t false (.full 1)) ⟨b, o, c.length, 1⟩ W := fun ρ => by
      have := AM.ObjRel.plain (ρ := ρ) (c := c.map AM.byteV) (o := o) (e := t) hh (by rw [List.length_map]; exact hl) (fun j hj => by rw [List.getElem_map]; exact hc j (by simpa using hj)) (AM.plain_byteV c) 1 (by omega)
      rw [List.length_map] at this
      exact this
    refine ⟨(.cells (c.map AM.byteV) t false (.full 1), ⟨b, o, c.length, 1⟩), some ⟨3 + k, 0, none⟩, cap, c, by omega, fun x hx => (by rw [List.mem_singleton] at hx; subst hx; rfl), fun ty ty2 l hl => ⟨fun x hx => (by rw [List.mem_singleton] at hx; subst hx; exact hob _), ?_, ?_⟩⟩
    · have h0 := hl 0 (by simp)
      rw [Nat.add_zero] at h0
      refine .inr ⟨3 + k, 0, _, _, _, _, rfl, lt_at h0, get_at h0, ?_, .inr ⟨AM.openCap_lt hcap, hle⟩⟩
      rw [← List.length_map (f := AM.byteV)]; exact AM.cutL_all rfl
    · have h0 := hl 0 (by simp)
      rw [Nat.add_zero] at h0
      exact .slice (b := 3 + k) (o := 0) (ren_at h0) (AM.openCap_lt hcap)
/-- What a row of rows of texts is, in a world. -/
abbrev RowT := List (List UInt8) × Value
def RowT.ok (W : World) (z : RowT) : Prop := AM.SlP W (z.1.map fun s => .string ⟨s.toArray⟩) z.2 ∧ (∀ y ∈ z.1, y.length ≤ 9223372036854775807) ∧ z.1.length ≤ 9223372036854775807
instance : Inhabited RowT := ⟨([], .bool false)⟩
theorem open_rows {P : Program} {H : Type} {enc : TypeId × Value → H} {w : World} {base : Nat} {hd : Bool} {t e q : TypeId} {cs : List Value} {x : DataW H × List MemPlace} {fuel : Nat}
    (ht : P.underlying t = some (.slice e)) (he : P.underlying e = some (.slice q)) (hq : P.underlying q = some .string) (ce : P.cellsOf e = 1) (cq : P.cellsOf q = 1)
    (h : DataW.trod enc P w base (fun _ => true) hd fuel t cs = some x) : ∃ (v : Value) (l : List RowT), cs = [v] ∧ AM.SlP w (l.map Prod.snd) v ∧ (∀ y ∈ l, RowT.ok w y) ∧ l.length ≤ 9223372036854775807 :=
  AM.open_row (α := RowT) Prod.snd (RowT.ok w) ht ce (fun h => by
    obtain ⟨v, l, e1, h1, h2, h3⟩ := AM.open_strs he hq cq h
    cases e1
    exact ⟨(l, _), rfl, h1, h2, h3⟩) h
theorem arg_rows {W : World} {l : List RowT} {v : Value} (h : AM.SlP W (l.map Prod.snd) v) (hz : ∀ y ∈ l, RowT.ok W y) (k : Nat) : ∃ (L : List (AM.AObj × AM.Loc)) (a : Option Addr) (cap : Nat),
    Arg W k L fun m ρ => NeedsA m a (l.map Prod.fst) ∧ AM.VRel ρ (.slice a (l.map Prod.fst).length cap) v := by
  generalize hc : l.map Prod.snd = c at h
  have hcl : c.length = l.length := by rw [← hc, List.length_map]
  cases h with
  | nil h =>
    subst h
    obtain rfl : l = [] := List.length_eq_zero_iff.1 (by simpa using hcl.symm)
    exact ⟨[], none, 0, (fun x hx => by cases hx), fun ty ty2 l hl => ⟨(fun x hx => by cases hx), (fun i hi => by cases hi), .nilSlice 0 0⟩⟩
  | none a h =>
    subst h
    obtain rfl : l = [] := List.length_eq_zero_iff.1 (by simpa using hcl.symm)
    exact ⟨[], some ⟨0, 0, none⟩, 0, (fun x hx => by cases hx), fun ty ty2 l hl => ⟨(fun x hx => by cases hx), (fun i hi => by cases hi), .sliceEnd (b := 0) (o := 0) (L := ⟨0, 0, 64, 1⟩) rfl (.inl rfl)⟩⟩
  | some b o cap carr t frz hh hl hcc hcap hle =>
    haveI : Inhabited ((AM.AObj × AM.Loc) × Option Addr × Nat) := ⟨((.dead, ⟨2, 0, 0, 1⟩), none, 0)⟩
    have each : ∀ i, i < l.length → ∃ y : (AM.AObj × AM.Loc) × Option Addr × Nat, (∀ ρ, AM.ObjRel ρ y.1.1 y.1.2 W) ∧ Arg W (k + 1 + i) [y.1] fun m ρ => Src m y.2.1 (l.getD i default).1 ∧ AM.VRel ρ (.slice y.2.1 (l.getD i default).1.length y.2.2) (l.getD i default).2 := fun i hi => by
      have e : l.getD i default = l[i] := by simp [List.getD, hi]
      rw [e]
      obtain ⟨x, a, cp, h1, h2⟩ := arg_strs (hz _ (List.getElem_mem hi)).1 (k + 1 + i)
      exact ⟨(x, a, cp), h1, h2⟩
    obtain ⟨y, hy⟩ := Go.Deep.choose_lt (α := (AM.AObj × AM.Loc) × Option Addr × Nat) (n := l.length) each
    let X : List Value := (List.range l.length).map fun i => .slice (y i).2.1 (l.getD i default).1.length (y i).2.2
    have hX : X.length = l.length := by simp [X]
    refine ⟨(.cells X t false (.full 1), ⟨b, o, l.length, 1⟩) :: (List.range l.length).map fun i => (y i).1, some ⟨3 + k, 0, none⟩, cap, fun x hx => ?_, fun ty ty2 os hos => ?_⟩
    · simp only [List.mem_cons, List.mem_map, List.mem_range] at hx
      rcases hx with rfl | ⟨i, hi, rfl⟩
      · rfl
      · exact (hy i hi).2.1 _ (by simp)
    · have h0 : os[k]? = some (.cells X t false (.full 1), ⟨b, o, l.length, 1⟩) := by have := hos 0 (by simp); simpa using this
      have hi1 : ∀ i, i < l.length → os[k + 1 + i]? = some (y i).1 := fun i hi => by
        have := hos (i + 1) (by simp; omega)
        rw [show k + (i + 1) = k + 1 + i by omega] at this
        rw [this]; simp
      have hE := fun i hi => (hy i hi).2.2 ty ty2 os fun j hj => by
        obtain rfl : j = 0 := by simpa using hj
        rw [Nat.add_zero, hi1 i hi]; rfl
      have hget : ∀ i (hi : i < l.length), l.getD i default = l[i] := fun i hi => by simp [List.getD, hi]
      refine ⟨fun x hx => ?_, fun i hi => ?_, ?_⟩
      · simp only [List.mem_cons, List.mem_map, List.mem_range] at hx
        rcases hx with rfl | ⟨i, hi, rfl⟩
        · refine ⟨carr, frz, hh, by rw [← hcl]; exact hl, Nat.le_of_eq hX, (fun h => by cases h), (fun k h => by cases h; exact ⟨hX.symm, rfl, by omega⟩), (fun j hj => ?_), (fun z h => by cases h), fun h => by cases h⟩
          rw [hX] at hj
          have h1 := hcc j (by omega)
          rw [h1]
          have h2 : c[j]'(by omega) = l[j].2 := by simp only [← hc, List.getElem_map]
          rw [h2]
          have h3 := (hE j hj).2.2
          rw [hget j hj] at h3
          simp only [X, List.getElem_map, List.getElem_range]
          rw [hget j hj]
          exact h3
        · exact (hy i hi).1 _
      · have hi' : i < l.length := by simpa using hi
        have hE' := (hE i hi').2.1
        rw [hget i hi'] at hE'
        obtain ⟨q1, q2, q3⟩ := hz _ (List.getElem_mem hi')
        refine ⟨3 + k, 0, (y i).2.1, (y i).2.2, rfl, lt_at h0, ?_, ?_, ?_, ?_⟩
        · rw [get_at h0, AM.rdO_cells, Nat.zero_add]
          unfold AM.cutL
          rw [if_pos (by omega), List.drop_eq_getElem_cons (by omega)]
          simp only [X, List.getElem_map, List.getElem_range, hget i hi']; rfl
        · simpa using hE'
        · simpa using q3
        · simpa using q2
      · rw [List.length_map, ← hcl]
        have : l.length = c.length := hcl.symm
        rw [this] at h0
        exact .slice (b := 3 + k) (o := 0) (ren_at h0) (AM.openCap_lt hcap)
end Go.Proofs.YtgkmlbkocgjmmaaDoor.gl
