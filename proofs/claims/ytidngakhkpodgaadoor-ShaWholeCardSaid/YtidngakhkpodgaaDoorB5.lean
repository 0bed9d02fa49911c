/-
  A laid row of words.
-/
import Derived.Test.YtidngakhkpodgaaDoorB4
import Derived.Test.YtidngakhkpodgaaDoorA3
import Derived.Test.YtidngakhkpodgaaDoorB1
import Derived.Test.YtidngakhkpodgaaDoorRows
import Derived.WalkKit
import Derived.ProofKit
import Derived.OpenShut
import Derived.ShutString
import Derived.ChangeOld
import Derived.Below
import Derived.SizedLaws
import Derived.Handed
import Derived.JoinedOf
set_option linter.unusedVariables false
set_option linter.unusedSimpArgs false
set_option linter.unnecessarySimpa false
namespace Go.Proofs.YtidngakhkpodgaaDoor
open Go Go.AM
set_option linter.unusedVariables false
set_option linter.unusedSimpArgs false

def abcT : List UInt8 := [98, 97, 55, 56, 49, 54, 98, 102, 56, 102, 48, 49, 99, 102, 101, 97, 52, 49, 52, 49, 52, 48, 100, 101, 53, 100, 97, 101, 50, 50, 50, 51, 98, 48, 48, 51, 54, 49, 97, 51, 57, 54, 49, 55, 55, 97, 57, 99, 98, 52, 49, 48, 102, 102, 54, 49, 102, 50, 48, 48, 49, 53, 97, 100]
def l1 : List UInt8 := [99]
def l2 : List UInt8 := [97, 98]
def l3 : List UInt8 := [97, 98, 99]
theorem l1_len : l1.length = 1 := rfl
theorem l2_len : l2.length = 2 := rfl
theorem l3_len : l3.length = 3 := rfl
theorem abc_hex : hexR (shaR l3) = [98, 97, 55, 56, 49, 54, 98, 102, 56, 102, 48, 49, 99, 102, 101, 97, 52, 49, 52, 49, 52, 48, 100, 101, 53, 100, 97, 101, 50, 50, 50, 51, 98, 48, 48, 51, 54, 49, 97, 51, 57, 54, 49, 55, 55, 97, 57, 99, 98, 52, 49, 48, 102, 102, 54, 49, 102, 50, 48, 48, 49, 53, 97, 100] := by decide +kernel

theorem BSl.here {M : AMem} {b cap : Nat} {c : List UInt8} {e : TypeId} {w : Bool} {sp : Spare} (hb : b < M.size) (hm : M.get b = .cells (c.map byteV) e w sp) (hc : cap < openCap) (hl : c.length ≤ cap) : BSl M (some ⟨b, 0, none⟩) cap c :=
  .inr ⟨b, 0, _, e, w, sp, rfl, hb, hm, by rw [← List.length_map (f := byteV)]; exact cutL_all rfl, .inr ⟨hc, hl⟩⟩

theorem works_ok (m : AMem) (hg : Glob m) : PureC Tryd.prog 3 8 [] m (.bool true) := by
  refine pure_of_W (fn := Tryd.f8) rfl rfl F8_ok (by simp [F8]) (.bool _) ?_
  have gs := hg.s
  have o1 : (2 : Nat) < openCap := openCap_lt (by omega)
  have h2 : ¬ (2 : Nat) = openCap := by omega
  have h1 : ¬ (1 : Nat) = openCap := by omega
  have o3 : (3 : Nat) < openCap := openCap_lt (by omega)
  have h3 : ¬ (3 : Nat) = openCap := by omega
  have ok1 := HS.put_ok hs0_ok l2
  have ok2 := HS.put_ok ok1 l1
  have p1 := DetC.known (put_ok (mx m [.cells (cH hs0) 35 true .exact, .cells (l2.map byteV) 5 false .exact]) m.size hs0 (hg.old (Old.here _ _)) hs0_ok (by rw [mx_size]; simp) gs (mx_new0 _ _) (some ⟨m.size + 1, 0, none⟩) 2 l2 (BSl.here (by rw [mx_size]; simp) (mx_new _ _ 1) o1 (Nat.le_refl _)) (fun x o h => by cases h; omega) (by decide))
  have p2 := DetC.known (put_ok (mx m [.cells (cH (hs0.put l2)) 35 true .exact, .cells (l2.map byteV) 5 false .exact, .cells (l1.map byteV) 5 false .exact]) m.size (hs0.put l2) (hg.old (Old.here _ _)) ok1 (by rw [mx_size]; simp) gs (mx_new0 _ _) (some ⟨m.size + 2, 0, none⟩) 1 l1 (BSl.here (by rw [mx_size]; simp) (mx_new _ _ 2) (by omega) (Nat.le_refl _)) (fun x o h => by cases h; omega) (by decide))
  have p3 := DetC.known (sum_ok (mx m [.cells (cH ((hs0.put l2).put l1)) 35 true .exact, .cells (l2.map byteV) 5 false .exact, .cells (l1.map byteV) 5 false .exact, .cells (l3.map byteV) 5 false .exact]) (some ⟨m.size + 3, 0, none⟩) 3 l3 (hg.old (Old.here _ _)) (BSl.here (by rw [mx_size]; simp) (mx_new _ _ 3) o3 (Nat.le_refl _)) (by decide))
  have p4 := DetC.known (sumM_ok (mx m [.cells (cH ((hs0.put l2).put l1)) 35 true .exact, .cells (l2.map byteV) 5 false .exact, .cells (l1.map byteV) 5 false .exact, .cells (l3.map byteV) 5 false .exact]) m.size ((hs0.put l2).put l1) (hg.old (Old.here _ _)) ok2 (by rw [mx_size]; simp) (mx_new0 _ _) (by rw [HS.put_n, HS.put_n]; decide))
  have p5 := DetC.known (len_ok (mx m [.cells (cH ((hs0.put l2).put l1)) 35 true .exact, .cells (l2.map byteV) 5 false .exact, .cells (l1.map byteV) 5 false .exact, .cells (l3.map byteV) 5 false .exact]) m.size ((hs0.put l2).put l1) ok2 (by rw [mx_size]; simp) (mx_new0 _ _))
  have e1 : sumOf ((hs0.put l2).put l1) = shaR l3 := rfl
  have e2 : (((hs0.put l2).put l1).n : Int) = 3 := by rw [HS.put_n, HS.put_n]; rfl
  rw [e1] at p4
  rw [e2] at p5
  have b1 : [Value.int .u8 97, .int .u8 98] = l2.map byteV := rfl
  have b2 : [Value.int .u8 99] = l1.map byteV := rfl
  have b3 : (Value.int .u8 97 :: Value.int .u8 98 :: l1.map byteV) = l3.map byteV := rfl
  simp only [l1_len, l2_len, l3_len] at p1 p2 p3
  have hl := shaR_length l3
  simp (implicitDefEqProofs := false) (maxSteps := 1000000) (disch := first | omega | with_reducible assumption | (simp only [List.length_map, List.length_cons, List.length_nil, List.length_set, List.length_append, List.length_replicate, List.length_take, List.length_drop, mk_size, AMem.size_set, Nat.reduceAdd]; omega)) only [amT, cut, bnd, Nat.reduceBEq, reduceCtorEq, Nat.reduceEqDiff, Nat.reduceAdd, Nat.reduceMul, Nat.reduceSub, Int.reduceToNat, Int.reduceEq, Int.reduceLT, Int.reduceLE, Int.reduceAdd, Int.reduceSub, Int.reduceMul, reduceIte, resVs, resV, packV, initT, addr, F8, zero73, b1, b2, b3, h1, h2, h3, p1, p2, p3, p4, p5, kHex, abc_hex]
end Go.Proofs.YtidngakhkpodgaaDoor
namespace Go.Proofs.YtidngakhkpodgaaDoor
open Go Go.AM
set_option linter.unusedVariables false
set_option linter.unusedSimpArgs false

theorem kWorks {m : AMem} (hg : Glob m) : Known Tryd.prog 3 8 [] m (.bool true) m := DetC.known (works_ok m hg)
theorem kWorksX {m : AMem} (hg : Glob m) (l : List AObj) : Known Tryd.prog 3 8 [] (mx m l) (.bool true) (mx m l) := DetC.known (works_ok _ (hg.old (Old.here _ _)))
/-- A row of bytes that has room. -/
theorem BSl.room {M : AMem} {b : Nat} {c : List UInt8} {e : TypeId} {w : Bool} (hb : b < M.size) (hm : M.get b = .cells (c.map byteV) e w (.room [.int .u8 0])) : BSl M (some ⟨b, 0, none⟩) openCap c :=
  .inr ⟨b, 0, _, e, w, _, rfl, hb, hm, by rw [← List.length_map (f := byteV)]; exact cutL_all rfl, .inl ⟨rfl, rfl⟩⟩

theorem lawWhole (m : AMem) (hg : Glob m) (a : Option Addr) (cap : Nat) (c : List UInt8) (hc : BSl m a cap c) : PureC Tryd.prog 3 3 [.slice a c.length cap] m (.bool true) := by
  refine pure_of_W (fn := Tryd.f3) rfl rfl F3_ok (by simp [F3]) (.bool _) ?_
  have hw := kWorksX hg
  by_cases h : (3000 : Int) < c.length
  · simp (implicitDefEqProofs := false) (maxSteps := 1000000) (disch := first | omega | with_reducible assumption | (simp only [List.length_map, List.length_cons, List.length_nil, List.length_set, List.length_append, List.length_replicate, List.length_take, List.length_drop, mk_size, AMem.size_set, Nat.reduceAdd]; omega)) only [amT, cut, bnd, Nat.reduceBEq, reduceCtorEq, Nat.reduceEqDiff, Nat.reduceAdd, Nat.reduceMul, Nat.reduceSub, Int.reduceToNat, Int.reduceEq, Int.reduceLT, Int.reduceLE, Int.reduceAdd, Int.reduceSub, Int.reduceMul, reduceIte, resVs, resV, packV, initT, addr, F3, h, hw]
  · have hl : c.length ≤ 3000 := by omega
    have s1 := (hc.old (Old.here m [])).str
    have s2 := (hc.old (Old.here m [.cells (c.map byteV) 5 true (.room [.int .u8 0])])).str
    have hown := BSl.room (M := mx m [.cells (c.map byteV) 5 true (.room [.int .u8 0])]) (b := m.size) (c := c) (by rw [mx_size]; simp) (mx_new0 _ _)
    have s3 := hown.str
    have p1 := DetC.known (sum_ok (mx m [.cells (c.map byteV) 5 true (.room [.int .u8 0])]) _ _ c (hg.old (Old.here _ _)) hown (by omega))
    have p2 := DetC.known (refSum_ok (mx m [.cells (c.map byteV) 5 true (.room [.int .u8 0])]) _ _ c (hc.old (Old.here _ _)) (by omega))
    have he := eqV_bytes (a := shaR c) (b := shaR c) (n := 32) (shaR_length c) (shaR_length c)
    rw [decide_eq_true rfl] at he
    simp (implicitDefEqProofs := false) (maxSteps := 1000000) (disch := first | omega | with_reducible assumption | (simp only [List.length_map, List.length_cons, List.length_nil, List.length_set, List.length_append, List.length_replicate, List.length_take, List.length_drop, mk_size, AMem.size_set, Nat.reduceAdd]; omega)) only [amT, cut, bnd, Nat.reduceBEq, reduceCtorEq, Nat.reduceEqDiff, Nat.reduceAdd, Nat.reduceMul, Nat.reduceSub, Int.reduceToNat, Int.reduceEq, Int.reduceLT, Int.reduceLE, Int.reduceAdd, Int.reduceSub, Int.reduceMul, reduceIte, resVs, resV, packV, initT, addr, F3, h, hw, stepOp_b2s_v, s1, s2, s3, p1, p2, he]

theorem lawTexts (m : AMem) (hg : Glob m) (d : List UInt8) (hd : d.length = 32) (s : List UInt8) : PureC Tryd.prog 3 6 [.agg (d.map byteV).toArray, .string ⟨s.toArray⟩] m (.bool true) := by
  refine pure_of_W (fn := Tryd.f6) rfl rfl F6_ok (by simp [F6]) (.bool _) ?_
  have hw := kWorksX hg
  by_cases h : (200 : Int) < s.length
  · simp (implicitDefEqProofs := false) (maxSteps := 1000000) (disch := first | omega | with_reducible assumption | (simp only [List.length_map, List.length_cons, List.length_nil, List.length_set, List.length_append, List.length_replicate, List.length_take, List.length_drop, mk_size, AMem.size_set, Nat.reduceAdd]; omega)) only [amT, cut, bnd, Nat.reduceBEq, reduceCtorEq, Nat.reduceEqDiff, Nat.reduceAdd, Nat.reduceMul, Nat.reduceSub, Int.reduceToNat, Int.reduceEq, Int.reduceLT, Int.reduceLE, Int.reduceAdd, Int.reduceSub, Int.reduceMul, reduceIte, resVs, resV, packV, initT, addr, F6, h, hw]
  · have hs : s.length ≤ 1000000 := by omega
    have hh : (hexR d).length ≤ 1000000 := by rw [hexR_length, hd]; omega
    have hr := read_hex hd
    have hrl := readR_length s
    have he := eqV_bytes (a := d) (b := d) (n := 32) hd hd
    rw [decide_eq_true rfl] at he
    have he2 := eqV_bytes (a := (readR s).1) (b := (readR s).1) (n := 32) hrl hrl
    rw [decide_eq_true rfl] at he2
    cases hok : (readR s).2 with
    | false =>
      simp (implicitDefEqProofs := false) (maxSteps := 1000000) (disch := first | omega | with_reducible assumption | (simp only [List.length_map, List.length_cons, List.length_nil, List.length_set, List.length_append, List.length_replicate, List.length_take, List.length_drop, mk_size, AMem.size_set, Nat.reduceAdd]; omega)) only [amT, cut, bnd, Nat.reduceBEq, reduceCtorEq, Nat.reduceEqDiff, Nat.reduceAdd, Nat.reduceMul, Nat.reduceSub, Int.reduceToNat, Int.reduceEq, Int.reduceLT, Int.reduceLE, Int.reduceAdd, Int.reduceSub, Int.reduceMul, reduceIte, resVs, resV, packV, initT, addr, F6, h, hw, kHex, kRefHex, kRead, kRefRead, hr, zero32, cutL_all, he, he2, hok]
    | true =>
      have hx := hex_read hok
      simp (implicitDefEqProofs := false) (maxSteps := 1000000) (disch := first | omega | with_reducible assumption | (simp only [List.length_map, List.length_cons, List.length_nil, List.length_set, List.length_append, List.length_replicate, List.length_take, List.length_drop, mk_size, AMem.size_set, Nat.reduceAdd]; omega)) only [amT, cut, bnd, Nat.reduceBEq, reduceCtorEq, Nat.reduceEqDiff, Nat.reduceAdd, Nat.reduceMul, Nat.reduceSub, Int.reduceToNat, Int.reduceEq, Int.reduceLT, Int.reduceLE, Int.reduceAdd, Int.reduceSub, Int.reduceMul, reduceIte, resVs, resV, packV, initT, addr, F6, h, hw, kHex, kRefHex, kRead, kRefRead, hr, zero32, cutL_all, he, he2, hok, hx]
end Go.Proofs.YtidngakhkpodgaaDoor
namespace Go.AM
set_option linter.unusedVariables false
section
variable {P : Program}
/-- A laid row of words. -/
theorem laid_words {w : World} {name : String} {g t e : Nat} {n : Nat} {zs : List UInt32} {cs : Array Value} {fuel : Nat} {p : List MemPlace}
    (hg : P.globalNamed name = some g) (hv : w.var? P name = some cs) (ht : P.underlying t = some (.array n e)) (he : P.underlying e = some (.int .u32)) (hct : P.cellsOf t = n) (hc : P.cellsOf e = 1)
    (hd : DataW.trod (fun _ => ()) P w 0 (fun _ => true) false fuel t cs.toList = some (.agg (zs.map fun z => .lit (.int .u32 (z.toNat : Int))), p)) :
    ∃ ty frz, w.heap[g]? = some (.cells cs ty frz) ∧ cs = (zs.map w32).toArray := by
  obtain ⟨xs, mm, _, ex, hlen, hl, hel⟩ := DataW.trod_array ht hd
  have e1 : zs.map (fun z => DataW.lit (.int .u32 (z.toNat : Int))) = xs.map (·.1) := DataW.agg.inj (Prod.mk.inj ex).1
  rw [hct] at hlen
  have hzl : zs.length = n := by have := congrArg List.length e1; simp at this; omega
  simp only [World.var?, hg, Option.bind_some] at hv
  split at hv <;> simp at hv
  rename_i cs' ty frz hh
  subst hv
  refine ⟨ty, frz, hh, ?_⟩
  apply Array.ext'
  apply List.ext_getElem
  · simp [hzl] at hlen ⊢; omega
  · intro i h1 h2
    have hi : i < n := by simp at hlen h1; omega
    have k := hel i hi
    rw [hc, Nat.mul_one] at k
    have k1 : (cs'.toList.drop i).take 1 = [cs'.toList[i]] := by rw [List.drop_eq_getElem_cons h1]; simp
    rw [k1, List.getElem?_eq_getElem (by omega)] at k
    obtain ⟨z, a0, b0, _⟩ := DataW.trod_int he k
    have a1 : cs'.toList[i] = .int .u32 z := by simpa using a0
    rw [a1]
    have e2 := congrArg (fun l => l[i]?) e1
    simp only [List.getElem?_map, List.getElem?_eq_getElem (show i < zs.length by omega), List.getElem?_eq_getElem (show i < xs.length by omega), Option.map_some, Option.some.injEq, b0] at e2
    simp only [DataW.lit.injEq, Lit.int.injEq, true_and] at e2
    simp [w32, e2]
end
end Go.AM
namespace Go.Proofs.YtidngakhkpodgaaDoor.gl
open Go.ChangeShapes Go.WideShapes Go.ChangeAt Go.RowKit
set_option linter.unusedVariables false
theorem own : ownKnob Tryd.prog.godebug = none := by kernel_rfl
theorem laidOut : laidOutB Tryd.prog = true := by kernel_rfl
abbrev laid : List (String × DataW Unit) := [("tithebarn/sha.constants", Rows.laid_tithebarn_sha_constants), ("tithebarn/sha.begin", Rows.laid_tithebarn_sha_begin)]

/-- The listed variables, where they lie. -/
theorem globs {W : World} (h : laidMetH Tryd.prog laid W) : (∃ ty frz, W.heap[0]? = some (.cells (AM.constW.map AM.w32).toArray ty frz)) ∧ ∃ ty frz, W.heap[1]? = some (.cells (AM.beginW.map AM.w32).toArray ty frz) := by
  rw [MakeChecks.laidMetH_plain _ _ _ (by kernel_rfl)] at h
  obtain ⟨ps, ⟨g, t, cs, fuel, p, q, hg, ht, hv, hd, ⟨g2, t2, cs2, fuel2, p2, q2, hg2, ht2, hv2, hd2, _, _⟩, _⟩, _, _⟩ := h
  have k0 : Tryd.prog.globalNamed "tithebarn/sha.constants" = some 0 := by kernel_rfl
  have k1 : Tryd.prog.globalNamed "tithebarn/sha.begin" = some 1 := by kernel_rfl
  obtain rfl := Option.some.inj (k0.symm.trans hg)
  obtain rfl := Option.some.inj (k1.symm.trans hg2)
  obtain rfl := Option.some.inj ((show (Tryd.prog.globals[0]?).map (·.type) = some 66 by kernel_rfl).symm.trans ht)
  obtain rfl := Option.some.inj ((show (Tryd.prog.globals[1]?).map (·.type) = some 31 by kernel_rfl).symm.trans ht2)
  obtain ⟨ty, frz, h1, rfl⟩ := AM.laid_words (zs := AM.constW) k0 hv Tryd.underlying66 Tryd.underlying30 (by kernel_rfl) (by kernel_rfl) hd
  obtain ⟨ty2, frz2, h2, rfl⟩ := AM.laid_words (zs := AM.beginW) k1 hv2 Tryd.underlying31 Tryd.underlying30 (by kernel_rfl) (by kernel_rfl) hd2
  exact ⟨⟨ty, frz, h1⟩, ⟨ty2, frz2, h2⟩⟩

/-- A world in which they are as listed. -/
noncomputable def laidWorld (os : Os) : World :=
  let w0 := World.holding Tryd.prog os ⟨#[], #[], []⟩
  { w0 with heap := (w0.heap.modify 0 fun
      | .cells _ t frozen => .cells (AM.constW.map AM.w32).toArray t frozen
      | o => o).modify 1 fun
      | .cells _ t frozen => .cells (AM.beginW.map AM.w32).toArray t frozen
      | o => o }
theorem laidWorld_met (os : Os) (args : Array Value) : laidMetH Tryd.prog laid ((laidWorld os).forCall (fun _ _ => 0) ⟨#[], args, []⟩).memory := by
  rw [MakeChecks.laidMetH_plain _ _ _ (by kernel_rfl)]
  exact laidMet_of_run' 8 (by kernel_rfl) (by kernel_rfl)


/-- The memory of which a law speaks: the variables, and what the arguments lead to. -/
def osOf (ty ty2 : TypeId) (l : List (AM.AObj × AM.Loc)) : List (AM.AObj × AM.Loc) :=
  (.cells (AM.constW.map AM.w32) ty false (.full 1), ⟨0, 0, 64, 1⟩) :: (.cells (AM.beginW.map AM.w32) ty2 false (.full 1), ⟨1, 0, 8, 1⟩) :: (.dead, ⟨2, 0, 0, 1⟩) :: l
theorem plain_w (l : List UInt32) : ∀ v ∈ l.map AM.w32, AM.Plain v := fun v hv => by
  simp only [List.mem_map] at hv; obtain ⟨x, _, rfl⟩ := hv; exact AM.plain_w32 _
theorem obj_w {W : World} {ρ : AM.Ren} {g : Nat} {l : List UInt32} {ty : TypeId} {frz : Nat × Nat} (h : W.heap[g]? = some (.cells (l.map AM.w32).toArray ty frz)) {n : Nat} (hn : l.length = n) : AM.ObjRel ρ (.cells (l.map AM.w32) ty false (.full 1)) ⟨g, 0, n, 1⟩ W := by
  have := AM.ObjRel.plain (ρ := ρ) (c := l.map AM.w32) (o := 0) (e := ty) h (by simp) (fun j hj => by simp; simp at hj; simp [hj]) (plain_w l) 1 (by omega)
  rwa [List.length_map, hn] at this
theorem wrtL {ty ty2 : TypeId} {l : List (AM.AObj × AM.Loc)} (hl : ∀ x ∈ l, x.1.wrt = false) : ∀ x ∈ osOf ty ty2 l, x.1.wrt = false := fun x hx => by
  simp only [osOf, List.mem_cons] at hx
  rcases hx with rfl | rfl | rfl | hx
  · rfl
  · rfl
  · rfl
  · exact hl x hx
theorem rep {W : World} {ty ty2 : TypeId} {frz frz2 : Nat × Nat} (h0 : W.heap[0]? = some (.cells (AM.constW.map AM.w32).toArray ty frz)) (h1 : W.heap[1]? = some (.cells (AM.beginW.map AM.w32).toArray ty2 frz2))
    {l : List (AM.AObj × AM.Loc)} (hl : ∀ x ∈ l, AM.ObjRel (AM.renOf (osOf ty ty2 l)) x.1 x.2 W) (hw : ∀ x ∈ l, x.1.wrt = false) : AM.Rep 3 (AM.memOf (osOf ty ty2 l)) (AM.renOf (osOf ty ty2 l)) W := by
  refine AM.Rep.of (osOf ty ty2 l) (fun g hg => ?_) (fun x hx => ?_) (wrtL hw)
  · match g, hg with
    | 0, _ => exact ⟨_, rfl, rfl, rfl⟩
    | 1, _ => exact ⟨_, rfl, rfl, rfl⟩
    | 2, _ => exact ⟨_, rfl, rfl, rfl⟩
  · simp only [osOf, List.mem_cons] at hx
    rcases hx with rfl | rfl | rfl | hx
    · exact obj_w h0 rfl
    · exact obj_w h1 rfl
    · trivial
    · exact hl x hx
theorem glob (ty ty2 : TypeId) (l : List (AM.AObj × AM.Loc)) : Glob (AM.memOf (osOf ty ty2 l)) := ⟨⟨ty, _, rfl⟩, ⟨ty2, _, rfl⟩, by show 2 < l.length + 1 + 1 + 1; omega⟩

/-- A slice of bytes, as an argument. -/
theorem arg_bytes {W : World} {v : Value} (h : AM.SlB W v) (ty ty2 : TypeId) : ∃ (l : List (AM.AObj × AM.Loc)) (a : Option Addr) (cap : Nat) (c : List UInt8),
    (∀ x ∈ l, AM.ObjRel (AM.renOf (osOf ty ty2 l)) x.1 x.2 W) ∧ (∀ x ∈ l, x.1.wrt = false) ∧ AM.BSl (AM.memOf (osOf ty ty2 l)) a cap c ∧ AM.VRel (AM.renOf (osOf ty ty2 l)) (.slice a c.length cap) v := by
  cases h with
  | nil => exact ⟨[], none, 0, [], (fun _ h => nomatch h), (fun _ h => nomatch h), .inl ⟨rfl, rfl, rfl⟩, .nilSlice 0 0⟩
  | none a => exact ⟨[], some ⟨0, 0, none⟩, 0, [], (fun _ h => nomatch h), (fun _ h => nomatch h), .inr ⟨0, 0, _, _, _, _, rfl, by show 0 < 3; omega, rfl, AM.cutL_zero (Nat.zero_le _), .inr ⟨AM.zeroCap_lt, Nat.le_refl _⟩⟩, .sliceEnd (b := 0) (o := 0) (L := ⟨0, 0, 64, 1⟩) rfl (.inl rfl)⟩
  | some b o cap c carr t frz hh hl hc hcap hle =>
    refine ⟨[(.cells (c.map AM.byteV) t false (.full 1), ⟨b, o, c.length, 1⟩)], some ⟨3, 0, none⟩, cap, c, fun x hx => ?_, fun x hx => ?_, .inr ⟨3, 0, _, _, _, _, rfl, by show 3 < 4; omega, rfl, ?_, .inr ⟨AM.openCap_lt hcap, hle⟩⟩, ?_⟩
    · simp only [List.mem_singleton] at hx; subst hx
      have := AM.ObjRel.plain (ρ := AM.renOf (osOf ty ty2 [(.cells (c.map AM.byteV) t false (.full 1), ⟨b, o, c.length, 1⟩)])) (c := c.map AM.byteV) (o := o) (e := t) hh (by rw [List.length_map]; exact hl) (fun j hj => by rw [List.getElem_map]; exact hc j (by simpa using hj)) (AM.plain_byteV c) 1 (by omega)
      rw [List.length_map] at this
      exact this
    · simp only [List.mem_singleton] at hx; subst hx; rfl
    · rw [← List.length_map (f := AM.byteV)]; exact AM.cutL_all rfl
    · exact .slice (b := 3) (o := 0) (L := ⟨b, o, c.length, 1⟩) rfl (AM.openCap_lt hcap)
end Go.Proofs.YtidngakhkpodgaaDoor.gl
