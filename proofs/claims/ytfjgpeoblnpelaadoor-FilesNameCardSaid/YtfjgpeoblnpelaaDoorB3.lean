/- All paths of a tree, by the program. -/
import Derived.Test.YtfjgpeoblnpelaaDoorB2
import Derived.Test.YtfjgpeoblnpelaaDoorA5
import Derived.Test.YtfjgpeoblnpelaaDoorRows
import Derived.WalkKit
import Derived.ProofKit
import Derived.OpenShut
import Derived.ShutString
import Derived.ChangeOld
import Derived.Below
import Derived.SizedLaws
import Derived.Handed
import Derived.JoinedOf
import Derived.Deep.Slices
set_option linter.unusedVariables false
set_option linter.unusedSimpArgs false
set_option linter.unnecessarySimpa false
namespace Go.Proofs.YtfjgpeoblnpelaaDoor
open Go Go.AM
set_option linter.unusedVariables false
set_option linter.unusedSimpArgs false
set_option maxRecDepth 100000
set_option maxHeartbeats 2000000

mutual
/-- The paths, with p ahead, as the program makes them. -/
def onT : Tr → List UInt8 → List (List UInt8)
  | .nd _ _ es, p => p :: onL es p
def onL : List En → List UInt8 → List (List UInt8)
  | [], _ => []
  | e :: r, p => onE e p ++ onL r p
def onE : En → List UInt8 → List (List UInt8)
  | .mk n t, p => onT t (trimR (p ++ [47] ++ n) [47])
end
theorem onT_nd (k : Int) (d : List UInt8) (es : List En) (p : List UInt8) : onT (.nd k d es) p = p :: onL es p := by unfold onT; rfl
theorem onE_eq (e : En) (p : List UInt8) : onE e p = onT e.t (trimR (p ++ [47] ++ e.n) [47]) := by cases e; unfold onE; rfl
theorem onL_app : ∀ (a b : List En) (p : List UInt8), onL (a ++ b) p = onL a p ++ onL b p
  | [], b, p => rfl
  | e :: a, b, p => by simp only [List.cons_append, onL, onL_app a b, List.append_assoc]
theorem onL_succ {es : List En} {i : Nat} (h : i < es.length) (p : List UInt8) : onL (es.take (i + 1)) p = onL (es.take i) p ++ onT es[i].t (trimR (p ++ [47] ++ es[i].n) [47]) := by
  rw [List.take_succ_eq_append_getElem h, onL_app]; simp [onL, onE_eq]
theorem onT_len (t : Tr) : ∀ p, (onT t p).length = t.count := by
  induction t using Tr.ind with
  | h k d es ih =>
    intro p
    rw [onT_nd, Tr.count, List.length_cons, Nat.add_comm]
    congr 1
    induction es with
    | nil => rfl
    | cons e r ihr =>
      simp only [onL, countL, List.length_append, onE_eq, En.count_t]
      rw [ih e (by simp), ihr fun x hx => ih x (by simp [hx])]
theorem onL_len (es : List En) (p : List UInt8) : (onL es p).length = countL es := by
  have := onT_len (.nd 0 [] es) p
  rw [onT_nd, Tr.count, List.length_cons] at this
  omega
theorem trimR_le (l p : List UInt8) : (trimR l p).length ≤ l.length := by
  unfold trimR
  split
  · rw [List.length_drop]; omega
  · exact Nat.le_refl _
/-- A path ahead of a path. -/
def overP (p q : List UInt8) : List UInt8 := if q = [] then p else if p = [] then q else p ++ 47 :: q
theorem nameB_47 {n : List UInt8} (h : nameB n = true) : n ≠ [] ∧ 47 ∉ n := by
  unfold nameB at h
  simp only [Bool.and_eq_true, Bool.not_eq_true', decide_eq_false_iff_not] at h
  refine ⟨h.1.1.1.1, fun hm => ?_⟩
  have h2 := List.any_eq_false.1 h.2 47 hm
  exact h2 (by decide)
def goodP (p : List UInt8) : Prop := p.head? ≠ some 47
theorem trim_over {p n : List UInt8} (hp : goodP p) (hn : nameB n = true) : trimR (p ++ [47] ++ n) [47] = overP p n ∧ goodP (overP p n) := by
  obtain ⟨h1, h2⟩ := nameB_47 hn
  have hg : goodP n := fun e => h2 (by cases n with | nil => cases e | cons x r => simp only [List.head?_cons, Option.some.injEq] at e; subst e; simp)
  cases p with
  | nil =>
    have e : overP [] n = n := by rw [overP, if_neg h1, if_pos rfl]
    rw [e]
    refine ⟨?_, hg⟩
    rw [trimR, if_pos (by simp)]; simp
  | cons x r =>
    have hx : x ≠ 47 := fun e => hp (by rw [e]; rfl)
    have e : overP (x :: r) n = x :: r ++ [47] ++ n := by rw [overP, if_neg h1, if_neg (by simp)]; simp
    rw [e]
    refine ⟨?_, fun e => hx ?_⟩
    · rw [trimR, if_neg]
      rw [List.isPrefixOf_iff_prefix]
      rintro ⟨t, ht⟩
      simp only [List.cons_append, List.nil_append, List.cons.injEq] at ht
      exact hx ht.1.symm
    · simpa using e
theorem over_over {p n q : List UInt8} (hn : n ≠ []) : overP (overP p n) q = overP p (preP n q) := by
  unfold overP preP
  by_cases hq : q = []
  · simp [hq, hn]
  · by_cases hp : p = []
    · simp [hq, hn, hp]
    · simp [hq, hn, hp]
/-- A right tree's paths. -/
theorem onT_eq (t : Tr) : ∀ p, goodP p → mayT t = true → onT t p = (pathsT t).map (overP p) := by
  induction t using Tr.ind with
  | h k d es ih =>
    intro p hp hm
    rw [mayT_nd, Bool.and_eq_true] at hm
    have hnames : ∀ e ∈ es, nameB e.n = true := by
      have h1 := hm.1
      unfold checkB at h1
      rw [Bool.and_eq_true] at h1
      by_cases h4 : k = 4
      · have h2 := h1.2
        rw [h4, if_neg (by omega), if_neg (by omega), if_pos rfl, Bool.and_eq_true] at h2
        exact ordE_name h2.2
      · have h2 := h1.1
        rw [decide_eq_false h4, Bool.false_or] at h2
        have : es = [] := by simpa using h2
        subst this; intro e he; cases he
    have hmay := (mayL_all es).symm.trans hm.2
    rw [List.all_eq_true] at hmay
    rw [onT_nd, pathsT_nd, List.map_cons]
    congr 1
    have key : ∀ (l : List En), (∀ e ∈ l, e ∈ es) → onL l p = (pathsL l).map (overP p) := by
      intro l
      induction l with
      | nil => intro _; rfl
      | cons e r ihr =>
        intro hl
        have he := hl e (by simp)
        have h1 := trim_over hp (hnames e he)
        simp only [onL, pathsL, onE_eq, pathsE_eq, List.map_append, List.map_map]
        rw [h1.1, ih e he _ h1.2 (hmay e he), ihr fun x hx => hl x (by simp [hx])]
        congr 1
        apply List.map_congr_left
        intro q _
        exact over_over (nameB_47 (hnames e he)).1
    exact key es fun _ h => h
theorem onT_paths {t : Tr} (h : mayT t = true) : onT t [] = pathsT t := by
  rw [onT_eq t [] (by simp [goodP]) h]
  have : ∀ q, overP [] q = q := fun q => by unfold overP; split <;> simp_all
  rw [show overP [] = id from funext this, List.map_id]

theorem PBuf_slice {m M : AMem} {v : Value} {c : List Value} (h : PBuf m M v c) : ∃ a n cap, v = .slice a n cap := by
  rcases h with (⟨rfl, rfl⟩ | ⟨b, h1, h2, rfl, h4⟩) | ⟨b, y, h1, h2, rfl, _⟩
  · exact ⟨_, _, _, rfl⟩
  · exact ⟨_, _, _, rfl⟩
  · exact ⟨_, _, _, rfl⟩
/-- What one call of the inner function leaves. -/
structure OnP (mB M : AMem) (bl : Nat) (v : Value) (D : List (List UInt8)) (M' : AMem) : Prop where
  size : M.size ≤ M'.size
  old : ∀ y, y < M.size → y ≠ bl → (∀ o l k, v ≠ .slice (some ⟨y, o, none⟩) l k) → M'.get y = M.get y
  row : ∃ v', M'.get bl = .cells [v'] 35 true .exact ∧ PBuf mB M' v' (D.map strC) ∧ ∀ y o l k, v' = .slice (some ⟨y, o, none⟩) l k → M.size ≤ y
theorem on_ok (t : Tr) : ∀ (p : List UInt8) (m0 mB M : AMem) (bl bf : Nat) (v : Value) (D : List (List UInt8)) (c : List Value), TrC m0 t c → Old m0 M → m0.size ≤ bl → bl < mB.size → bf < mB.size → bf ≠ bl → m0.size ≤ mB.size → mB.size ≤ M.size →
    M.get bl = .cells [v] 35 true .exact → M.get bf = .cells [.func (.func 56) #[] #[.pointer (some ⟨bl, 0, none⟩), .pointer (some ⟨bf, 0, none⟩)]] 69 true .exact → PBuf mB M v (D.map strC) → p.length + t.weight ≤ 2000000 → D.length + t.count ≤ 1000000 →
    ACall Tryd.prog 3 56 [.string ⟨p.toArray⟩, .agg c.toArray, .pointer (some ⟨bl, 0, none⟩), .pointer (some ⟨bf, 0, none⟩)] (mx M []) fun r M' => r = .ret (.tuple #[]) ∧ OnP mB M bl v (D ++ onT t p) M' := by
  induction t using Tr.ind2 with
  | h k d es ih =>
    intro p m0 mB M bl bf v D c hc ho h0 hbl hbf hne hmB hM hl hf hB hw hd
    simp only [Tr.weight] at hw
    simp only [Tr.count] at hd
    have hlen := weightL_len es
    have hlen2 := countL_len es
    obtain ⟨a, cap, rfl, hE⟩ := trC_nd hc
    obtain ⟨v1, M1, happ, hB1, hF1, hfr1⟩ := (hB.old (Old.here M [.cells [.int .u8 k, .string ⟨d.toArray⟩, .slice a es.length cap] 26 true .exact])).app1 (x := strC p) (by rw [mx_size]; omega) rfl (by rw [List.length_map]; omega)
    rw [mx_mx] at happ
    rw [mx_size] at happ
    simp only [List.length_cons, List.length_nil, List.cons_append, List.nil_append, strC, Nat.zero_add] at happ
    have hz1 := hF1.1
    rw [mx_size] at hz1
    simp only [List.length_cons, List.length_nil] at hz1
    have hvn := hB.new
    have old1 : ∀ y, y < M.size → (∀ o l k, v ≠ .slice (some ⟨y, o, none⟩) l k) → M1.get y = M.get y := fun y hy hv => (hF1.2 y (by rw [mx_size]; omega) hv).trans (mx_old hy)
    have box1 : M1.get M.size = .cells [.int .u8 k, .string ⟨d.toArray⟩, .slice a es.length cap] 26 true .exact := (hF1.2 M.size (by rw [mx_size]; simp) (fun o l k e => by have := (hvn _ o l k e).2; omega)).trans (mx_new0 _ _)
    have bl1 : M1.get bl = .cells [v] 35 true .exact := (old1 bl (by omega) (fun o l k e => by have := (hvn _ o l k e).1; omega)).trans hl
    refine ACall_of_W (fn := Tryd.f56) rfl rfl F56_ok (by simp [F56]) ?_
    have g1 : bl < M.size := by omega
    have g2 : bl < M1.size := by omega
    obtain ⟨a9, n9, cap9, rfl⟩ := PBuf_slice hB1
    have x0 : (M1.set bl (.cells [.slice a9 n9 cap9] 35 true .exact)).get M.size = .cells [.int .u8 k, .string ⟨d.toArray⟩, .slice a es.length cap] 26 true .exact := by rw [AMem.get_set_ne _ _ (by omega)]; exact box1
    have x1 := AMem.get_set_self M1 bl (.cells [.slice a9 n9 cap9] 35 true .exact)
    have x2 : ∀ y, y < M.size → y ≠ bl → (∀ o l k, v ≠ .slice (some ⟨y, o, none⟩) l k) → (M1.set bl (.cells [.slice a9 n9 cap9] 35 true .exact)).get y = M.get y := fun y hy hne hv => by rw [AMem.get_set_ne _ _ hne]; exact old1 y hy hv
    have x3 : PBuf mB (M1.set bl (.cells [.slice a9 n9 cap9] 35 true .exact)) (.slice a9 n9 cap9) (D.map strC ++ [strC p]) := by
      refine hB1.set' ?_
      intro y o l k e
      have := (hB1.new y o l k e).1
      omega
    have x4 := AMem.size_set M1 bl (.cells [.slice a9 n9 cap9] 35 true .exact)
    repeat first | simp (implicitDefEqProofs := false) (maxSteps := 1000000) (disch := first | omega | with_reducible assumption | (simp only [lenT, Nat.reduceAdd]; omega)) only [amT, cut, bnd, Nat.reduceBEq, reduceCtorEq, Nat.reduceEqDiff, Nat.reduceAdd, Nat.reduceMul, Nat.reduceSub, Int.reduceToNat, Int.reduceEq, Int.reduceLT, Int.reduceLE, Int.reduceAdd, Int.reduceSub, Int.reduceMul, reduceIte, resVs, resV, packV, initT, addr, F56, cellsOf_node, hl, g1, stepOp_app_v, happ, bl1, g2] | refine OrW.go ?_
    generalize M1.set bl (.cells [.slice a9 n9 cap9] 35 true .exact) = M2 at *
    have g3 : M.size < M2.size := by omega
    rw [mx_size] at hfr1
    simp only [List.length_cons, List.length_nil] at hfr1
    repeat first | simp (implicitDefEqProofs := false) (maxSteps := 1000000) (disch := first | omega | with_reducible assumption | (simp only [lenT, Nat.reduceAdd]; omega)) only [amT, cut, bnd, Nat.reduceBEq, reduceCtorEq, Nat.reduceEqDiff, Nat.reduceAdd, Nat.reduceMul, Nat.reduceSub, Int.reduceToNat, Int.reduceEq, Int.reduceLT, Int.reduceLE, Int.reduceAdd, Int.reduceSub, Int.reduceMul, reduceIte, resVs, resV, packV, initT, addr, x0, box1, g3, cutL3_2] | refine OrW.go ?_
    refine W_loop (fun N qs => ∃ (i : Nat) (N0 : AMem) (w : Value), N = es.length - i ∧ qs.ds = [] ∧ qs.m = mx N0 [] ∧ qs.t 0 = .string ⟨p.toArray⟩ ∧ qs.t 2 = .pointer (some ⟨bl, 0, none⟩) ∧ qs.t 3 = .pointer (some ⟨bf, 0, none⟩) ∧ qs.t 13 = .slice a es.length cap ∧ qs.t 14 = .int .i64 es.length ∧ qs.t 15 = .int .i64 i ∧ i ≤ es.length ∧ M.size < N0.size ∧ (∀ y, y < M.size → y ≠ bl → (∀ o l k, v ≠ .slice (some ⟨y, o, none⟩) l k) → N0.get y = M.get y) ∧ N0.get M.size = .cells [.int .u8 k, .string ⟨d.toArray⟩, .slice a es.length cap] 26 true .exact ∧ N0.get bl = .cells [w] 35 true .exact ∧ PBuf mB N0 w ((D ++ p :: onL (es.take i) p).map strC) ∧ ∀ y o l k, w = .slice (some ⟨y, o, none⟩) l k → M.size < y) (es.length - (0)) ⟨0, M2, .slice a9 n9 cap9, rfl, rfl, ?qm, ?q0, ?q2, ?q3, ?q13, ?q14, ?q15, ?_⟩ ?_
    case qm | q0 | q2 | q3 | q13 | q14 | q15 => first | rfl | (simp (implicitDefEqProofs := false) (maxSteps := 1000000) (disch := first | omega | with_reducible assumption | (simp only [lenT, Nat.reduceAdd]; omega)) only [amT, cut, bnd, Nat.reduceBEq, reduceCtorEq, Nat.reduceEqDiff, Nat.reduceAdd, Nat.reduceMul, Nat.reduceSub, Int.reduceToNat, Int.reduceEq, Int.reduceLT, Int.reduceLE, Int.reduceAdd, Int.reduceSub, Int.reduceMul, reduceIte, resVs, resV, packV, initT, addr]; first | done | rfl | (congr 1; omega))
    · exact ⟨Nat.zero_le _, g3, x2, x0, x1, by simpa [onL] using x3, fun y o l k e => by have := hfr1 y o l k e; omega⟩
    · rintro N t m1 ds ⟨i, N0, w, rfl, hds, hm, t0, t2, t3, t13, t14, t15, hp⟩
      simp only at hds hm t0 t2 t3 t13 t14 t15
      subst hds; replace hm := hm.symm; subst hm
      obtain ⟨hi0, hz, hsame, hbox, hlw, hBw, hfw⟩ := hp
      have hfN : N0.get bf = M.get bf := hsame bf (by omega) hne (fun o l k e => by have := (hvn _ o l k e).1; omega)
      rw [hf] at hfN
      have hO : Old m0 N0 := ⟨by omega, fun y hy => (hsame y (by omega) (by omega) (fun o l k e => by have := (hvn _ o l k e).1; omega)).trans (ho.2 y hy)⟩
      by_cases h1 : (i : Int) < (es.length : Int)
      · have hi : i < es.length := by omega
        obtain ⟨b, o, a', cap', rfl, hbb, hE', q4, q3, q0⟩ := hE.get hi
        have hwt := weight_get hi
        have hcs := countL_succ hi
        have hcl := countL_le es (i + 1)
        have hol := onL_len (es.take i) p
        have htl := trimR_le (p ++ [47] ++ es[i].n) [47]
        rw [List.length_append, List.length_append, List.length_singleton] at htl
        have kT := fun M => DetC.known (trim_ok M (p ++ [47] ++ es[i].n) [47])
        have kI := ih i hi (trimR (p ++ [47] ++ es[i].n) [47]) m0 mB (mx N0 [.cells [.string ⟨es[i].n.toArray⟩, .int .u8 es[i].t.k, .string ⟨es[i].t.d.toArray⟩, .slice a' es[i].t.es.length cap'] 48 true .exact]) bl bf w (D ++ p :: onL (es.take i) p) _ (TrC.of hE')
          (hO.trans (Old.here N0 _)) h0 hbl hbf hne hmB (by rw [mx_size]; omega) ((mx_old (by omega)).trans hlw) ((mx_old (by omega)).trans hfN) (hBw.old (Old.here N0 _)) (by omega) (by rw [List.length_append, List.length_cons, hol]; omega)
        rw [mx_mx, List.append_nil] at kI
        rw [← hO.2 b hbb] at q4
        have g4 : bf < N0.size := by omega
        repeat first | simp (implicitDefEqProofs := false) (maxSteps := 1000000) (disch := first | omega | with_reducible assumption | (simp only [lenT, Nat.reduceAdd]; omega)) only [amT, cut, bnd, Nat.reduceBEq, reduceCtorEq, Nat.reduceEqDiff, Nat.reduceAdd, Nat.reduceMul, Nat.reduceSub, Int.reduceToNat, Int.reduceEq, Int.reduceLT, Int.reduceLE, Int.reduceAdd, Int.reduceSub, Int.reduceMul, reduceIte, resVs, resV, packV, initT, addr, F56_l0, t0, t2, t3, t13, t14, t15, h1, q4, cellsOf_entry, splice4', cutL4_0, cutL4_t, hfN, g4, kT] | refine OrW.go ?_
        refine (ACall.norm kI).mono ?_
        rintro r' m' ⟨N1, rfl, rfl, hs, hold, w', hw1, hw2, hw3⟩
        rw [mx_size] at hs hold hw3
        simp only [List.length_cons, List.length_nil] at hs hold hw3
        repeat first | simp (implicitDefEqProofs := false) (maxSteps := 1000000) (disch := first | omega | with_reducible assumption | (simp only [lenT, Nat.reduceAdd]; omega)) only [amT, cut, bnd, Nat.reduceBEq, reduceCtorEq, Nat.reduceEqDiff, Nat.reduceAdd, Nat.reduceMul, Nat.reduceSub, Int.reduceToNat, Int.reduceEq, Int.reduceLT, Int.reduceLE, Int.reduceAdd, Int.reduceSub, Int.reduceMul, reduceIte, resVs, resV, packV, initT, addr, t0, t2, t3, t13, t14, t15] | refine OrW.go ?_
        rw [LoopK_normal]; refine ⟨_, ?_, i + 1, N1, w', rfl, rfl, ?qm, ?q0, ?q2, ?q3, ?q13, ?q14, ?q15, ?_⟩
        case qm | q0 | q2 | q3 | q13 | q14 | q15 => first | rfl | (simp (implicitDefEqProofs := false) (maxSteps := 1000000) (disch := first | omega | with_reducible assumption | (simp only [lenT, Nat.reduceAdd]; omega)) only [amT, cut, bnd, Nat.reduceBEq, reduceCtorEq, Nat.reduceEqDiff, Nat.reduceAdd, Nat.reduceMul, Nat.reduceSub, Int.reduceToNat, Int.reduceEq, Int.reduceLT, Int.reduceLE, Int.reduceAdd, Int.reduceSub, Int.reduceMul, reduceIte, resVs, resV, packV, initT, addr, t0, t2, t3, t13, t14, t15, Int.natCast_add]; first | done | rfl | (congr 1; omega))
        · omega
        · refine ⟨by omega, by omega, fun y hy hyb hv => ?_, ?_, hw1, ?_, fun y o l k e => by have := hw3 y o l k e; omega⟩
          · rw [hold y (by omega) hyb (fun o l k e => by have := hfw y o l k e; omega), mx_old (by omega)]
            exact hsame y hy hyb hv
          · rw [hold M.size (by omega) (by omega) (fun o l k e => by have := hfw _ o l k e; omega), mx_old hz]
            exact hbox
          · rw [onL_succ hi]
            simpa [List.append_assoc] using hw2
      · obtain rfl : i = es.length := by omega
        rw [List.take_length] at hBw
        repeat first | simp (implicitDefEqProofs := false) (maxSteps := 1000000) (disch := first | omega | with_reducible assumption | (simp only [lenT, Nat.reduceAdd]; omega)) only [amT, cut, bnd, Nat.reduceBEq, reduceCtorEq, Nat.reduceEqDiff, Nat.reduceAdd, Nat.reduceMul, Nat.reduceSub, Int.reduceToNat, Int.reduceEq, Int.reduceLT, Int.reduceLE, Int.reduceAdd, Int.reduceSub, Int.reduceMul, reduceIte, resVs, resV, packV, initT, addr, F56_l0, t0, t2, t3, t13, t14, t15, h1] | refine OrW.go ?_
        refine ⟨?_, ?_, w, ?_, ?_, ?_⟩
        · rw [mx_nil_size]; omega
        · intro y hy hyb hv
          rw [mx_old (by omega)]; exact hsame y hy hyb hv
        · rw [mx_old (by omega)]; exact hlw
        · rw [onT_nd]; exact hBw.old (Old.here N0 [])
        · intro y o l k e
          have := hfw y o l k e
          omega
theorem cellsOf_fn (f : Fn) (a b : Array Value) : cellsOf (.func f a b) = some [.func f a b] := rfl
/-- A tree's paths, if it is right. -/
def pathsR (t : Tr) : List (List UInt8) := if rightT t then pathsT t else []
theorem filPaths_ok (m : AMem) (t : Tr) (c : List Value) (hc : TrC m t c) (hn : t.weight ≤ 1000000) : RelC Tryd.prog 3 30 [.agg c.toArray] m fun v M => Old m M ∧ ∃ a cap, v = .slice a (pathsR t).length cap ∧ StrS M a cap (pathsR t) := by
  have hc0 := hc
  have hcw := t.count_le
  obtain ⟨a, cap, rfl, hE⟩ := hc.ex
  have kR := DetC.known (right_ok (mx m [.cells [.int .u8 t.k, .string ⟨t.d.toArray⟩, .slice a t.es.length cap] 26 true .exact]) t _ (hc0.old (Old.here m _)) (by omega))
  refine rel_of_W (fn := Tryd.f30) rfl rfl F30_ok (by simp [F30]) ?_
  cases hr : rightT t with
  | false =>
    rw [hr] at kR
    have hp : pathsR t = [] := by rw [pathsR, hr]; rfl
    rw [hp]
    repeat first | simp (implicitDefEqProofs := false) (maxSteps := 1000000) (disch := first | omega | with_reducible assumption | (simp only [lenT, Nat.reduceAdd]; omega)) only [amT, cut, bnd, Nat.reduceBEq, reduceCtorEq, Nat.reduceEqDiff, Nat.reduceAdd, Nat.reduceMul, Nat.reduceSub, Int.reduceToNat, Int.reduceEq, Int.reduceLT, Int.reduceLE, Int.reduceAdd, Int.reduceSub, Int.reduceMul, reduceIte, resVs, resV, packV, initT, addr, F30, cellsOf_node, cutL3, kR] | refine OrW.go ?_
    exact ⟨_, rfl, fun _ => ⟨none, 0, rfl, StrS.nil _⟩⟩
  | true =>
    rw [hr] at kR
    have hp : pathsR t = pathsT t := by rw [pathsR, hr]; rfl
    rw [hp, ← onT_paths (rightT_may hr)]
    repeat first | simp (implicitDefEqProofs := false) (maxSteps := 1000000) (disch := first | omega | with_reducible assumption | (simp only [lenT, Nat.reduceAdd]; omega)) only [amT, cut, bnd, Nat.reduceBEq, reduceCtorEq, Nat.reduceEqDiff, Nat.reduceAdd, Nat.reduceMul, Nat.reduceSub, Int.reduceToNat, Int.reduceEq, Int.reduceLT, Int.reduceLE, Int.reduceAdd, Int.reduceSub, Int.reduceMul, reduceIte, resVs, resV, packV, initT, addr, F30, cellsOf_node, cellsOf_fn, cutL3, kR] | refine OrW.go ?_
    have kO := on_ok t [] m (mx m [.cells [.int .u8 t.k, .string ⟨t.d.toArray⟩, .slice a t.es.length cap] 26 true .exact, .cells [.slice none 0 0] 35 true .exact, .cells [.func (.func 56) #[] #[.pointer (some ⟨m.size + 1, 0, none⟩), .pointer (some ⟨m.size + 2, 0, none⟩)]] 69 true .exact])
      (mx m [.cells [.int .u8 t.k, .string ⟨t.d.toArray⟩, .slice a t.es.length cap] 26 true .exact, .cells [.slice none 0 0] 35 true .exact, .cells [.func (.func 56) #[] #[.pointer (some ⟨m.size + 1, 0, none⟩), .pointer (some ⟨m.size + 2, 0, none⟩)]] 69 true .exact])
      (m.size + 1) (m.size + 2) (.slice none 0 0) [] _ hc0 (Old.here m _) (by omega) (by rw [mx_size]; simp) (by rw [mx_size]; simp) (by omega) (by rw [mx_size]; omega) (Nat.le_refl _) (mx_new m _ 1) (mx_new m _ 2) (.inl (.inl ⟨rfl, rfl⟩)) (by simp only [List.length_nil]; omega) (by simp only [List.length_nil]; omega)
    rw [mx_mx, List.append_nil] at kO
    refine (ACall.norm kO).mono ?_
    rintro r' m' ⟨M, rfl, rfl, hs, hold, v', h1, h2, h3⟩
    rw [mx_size] at hs hold
    simp only [List.length_cons, List.length_nil] at hs hold
    obtain ⟨a2, cap2, rfl, hS, _⟩ := PBuf.strs h2
    rw [List.nil_append] at hS
    have hO : Old m M := ⟨by omega, fun y hy => (hold y (by omega) (by omega) (fun o l k e => by cases e)).trans (mx_old hy)⟩
    repeat first | simp (implicitDefEqProofs := false) (maxSteps := 1000000) (disch := first | omega | with_reducible assumption | (simp only [lenT, Nat.reduceAdd]; omega)) only [amT, cut, bnd, Nat.reduceBEq, reduceCtorEq, Nat.reduceEqDiff, Nat.reduceAdd, Nat.reduceMul, Nat.reduceSub, Int.reduceToNat, Int.reduceEq, Int.reduceLT, Int.reduceLE, Int.reduceAdd, Int.reduceSub, Int.reduceMul, reduceIte, resVs, resV, packV, initT, addr, h1] | refine OrW.go ?_
    exact ⟨_, rfl, fun _ => ⟨hO.mx _, _, _, rfl, hS.old (Old.here M [])⟩⟩
end Go.Proofs.YtfjgpeoblnpelaaDoor
namespace Go.Proofs.YtfjgpeoblnpelaaDoor
open Go Go.AM
set_option linter.unusedVariables false
set_option linter.unusedSimpArgs false
set_option maxRecDepth 100000
set_option maxHeartbeats 2000000

theorem fill_n01 (a b c : Value) (k : Int) : fill [a, b, c] [(0, 1, .int .u8 k)] = some [.int .u8 k, b, c] := rfl
theorem fill_n011 (a b c : Value) (k : Int) (s : ByteArray) : fill [a, b, c] [(0, 1, .int .u8 k), (1, 1, .string s)] = some [.int .u8 k, .string s, c] := rfl
theorem fill_n021 (a b c : Value) (k : Int) (p : Option Addr) (n cap : Nat) : fill [a, b, c] [(0, 1, .int .u8 k), (2, 1, .slice p n cap)] = some [.int .u8 k, b, .slice p n cap] := rfl
theorem file_ok (m : AMem) (l : List UInt8) : PureC Tryd.prog 3 35 [.string ⟨l.toArray⟩] m (.agg [.int .u8 1, .string ⟨l.toArray⟩, .slice none 0 0].toArray) := by
  refine pure_of_W (fn := Tryd.f35) rfl rfl F35_ok (by simp [F35]) (.agg fun v hv => ?_) ?_
  · simp only [List.mem_toArray, List.mem_cons, List.not_mem_nil, or_false] at hv
    rcases hv with rfl | rfl | rfl
    · exact .int _ _
    · exact .string _
    · exact .nilSlice _ _
  · repeat first | simp (implicitDefEqProofs := false) (maxSteps := 1000000) (disch := first | omega | with_reducible assumption | (simp only [lenT, Nat.reduceAdd]; omega)) only [amT, cut, bnd, Nat.reduceBEq, reduceCtorEq, Nat.reduceEqDiff, Nat.reduceAdd, Nat.reduceMul, Nat.reduceSub, Int.reduceToNat, Int.reduceEq, Int.reduceLT, Int.reduceLE, Int.reduceAdd, Int.reduceSub, Int.reduceMul, reduceIte, resVs, resV, packV, initT, addr, F35, fill_n01, fill_n011, cellsOf_node, splice3, cutL3] | refine OrW.go ?_
theorem SlE.lit {m : AMem} {b : Nat} {es : List En} {X : List Value} {e : TypeId} {w : Bool} {sp : Spare} (hb : b < m.size) (h : m.get b = .cells X e w sp) (hX : EsC m es X) (hn : es.length ≤ 1000000) : SlE m (some ⟨b, 0, none⟩) es.length es :=
  ⟨X, .inr ⟨b, 0, _, _, _, _, rfl, hb, h, by rw [← hX.len]; exact cutL_all rfl, .inr ⟨SlE.len_lt (by omega), Nat.le_refl _⟩⟩, hX⟩
theorem StrS.lit {m : AMem} {b : Nat} {ls : List (List UInt8)} {e : TypeId} {w : Bool} {sp : Spare} (hb : b < m.size) (h : m.get b = .cells (ls.map strC) e w sp) (hn : ls.length ≤ 1000000) : StrS m (some ⟨b, 0, none⟩) ls.length ls :=
  .inr ⟨b, 0, _, _, _, _, rfl, hb, h, by rw [Nat.mul_one, ← List.length_map (f := strC)]; exact cutL_all rfl, .inr ⟨SlE.len_lt (by omega), Nat.le_refl _⟩⟩
theorem TrC.leaf (m : AMem) (k : Int) (d : List UInt8) : TrC m (.nd k d []) [.int .u8 k, .string ⟨d.toArray⟩, .slice none 0 0] := trC_mk (SlE.nil m)
def nX : Tr := .nd 3 [46, 46, 47, 97] []
def nD : Tr := .nd 4 [] [.mk [120] nX]
def nW : Tr := .nd 4 [] [.mk [97] (.nd 1 [104, 105] []), .mk [100] nD]
def nP : Tr := .nd 4 [] [.mk [97] (.nd 1 [104, 105] []), .mk [100] (.nd 4 [] [.mk [120] nX, .mk [121] (.nd 1 [] [])])]
theorem w_at1 : atR nW [100, 47, 120] = (0, nX) := by kernel_rfl
theorem w_at2 : atR nW [100, 47, 121] = (5, zT) := by kernel_rfl
theorem w_at3 : atR nW [47, 100] = (2, zT) := by kernel_rfl
theorem w_put : putR nW [100, 47, 121] (.nd 1 [] []) = (0, nP) := by kernel_rfl
theorem w_right : rightT nW = true := by kernel_rfl
theorem w_paths : pathsR nW = [[], [97], [100], [100, 47, 120]] := by kernel_rfl
theorem w_paths2 : pathsR nP = [[], [97], [100], [100, 47, 120], [100, 47, 121]] := by kernel_rfl
theorem w_count : nW.count = 4 := by kernel_rfl
theorem w_depth : nW.depth = 2 := by kernel_rfl
theorem w_size : nW.size = 6 := by kernel_rfl
theorem w_name : nameB [97] = true := by kernel_rfl
theorem fill_8 (z0 z1 z2 z3 z4 z5 z6 z7 : Value) (s0 : ByteArray) (k : Int) (s : ByteArray) (p : Option Addr) (n cap : Nat) (s0' : ByteArray) (k' : Int) (s' : ByteArray) (p' : Option Addr) (n' cap' : Nat) :
    fill [z0, z1, z2, z3, z4, z5, z6, z7] [(0, 4, .agg [.string s0, .int .u8 k, .string s, .slice p n cap].toArray), (4, 4, .agg [.string s0', .int .u8 k', .string s', .slice p' n' cap'].toArray)] =
      some [.string s0, .int .u8 k, .string s, .slice p n cap, .string s0', .int .u8 k', .string s', .slice p' n' cap'] := rfl
theorem works_ok (m : AMem) : PureC Tryd.prog 3 12 [] m (.bool true) := by
  have kF := fun M l => DetC.known (file_ok M l)
  have kF0 := fun M => kF M []
  have kF1 := fun M => kF M [104, 105]
  refine pure_of_W (fn := Tryd.f12) rfl rfl F12_ok (by simp [F12]) (.bool _) ?_
  repeat first | simp (implicitDefEqProofs := false) (maxSteps := 1000000) (disch := first | omega | with_reducible assumption | (simp only [lenT, Nat.reduceAdd]; omega)) only [amT, cut, bnd, Nat.reduceBEq, reduceCtorEq, Nat.reduceEqDiff, Nat.reduceAdd, Nat.reduceMul, Nat.reduceSub, Int.reduceToNat, Int.reduceEq, Int.reduceLT, Int.reduceLE, Int.reduceAdd, Int.reduceSub, Int.reduceMul, reduceIte, resVs, resV, packV, initT, addr, F12, fill_n01, fill_n011, fill_n021, fill_e13, fill_e04, fill_8, cellsOf_node, splice3, cutL3, kF1] | refine OrW.go ?_
  have hD : TrC (mx m [.cells [.string ⟨#[120]⟩, .int .u8 3, .string ⟨#[46, 46, 47, 97]⟩, .slice none 0 0] 48 true .exact, .cells [.int .u8 4, .string ⟨#[]⟩, .slice (some ⟨m.size, 0, none⟩) 1 1] 26 true .exact, .cells [.string ⟨#[97]⟩, .int .u8 1, .string ⟨#[104, 105]⟩, .slice none 0 0, .string ⟨#[100]⟩, .int .u8 4, .string ⟨#[]⟩, .slice (some ⟨m.size, 0, none⟩) 1 1] 48 true .exact,
      .cells [.int .u8 4, .string ⟨#[]⟩, .slice (some ⟨m.size + 2, 0, none⟩) 2 2] 26 true .exact]) nD [.int .u8 4, .string ⟨#[]⟩, .slice (some ⟨m.size, 0, none⟩) 1 1] :=
    trC_mk (k := 4) (d := []) (SlE.lit (b := m.size) (es := [.mk [120] nX]) (by rw [mx_size]; simp) (mx_new0 m _) (EsC.cons (c := [.string ⟨#[120]⟩, .int .u8 3, .string ⟨#[46, 46, 47, 97]⟩, .slice none 0 0]) (EnC.of (e := .mk [120] nX) (TrC.leaf _ _ _)) (EsC.nil _)) (by simp))
  have hT : TrC (mx m [.cells [.string ⟨#[120]⟩, .int .u8 3, .string ⟨#[46, 46, 47, 97]⟩, .slice none 0 0] 48 true .exact, .cells [.int .u8 4, .string ⟨#[]⟩, .slice (some ⟨m.size, 0, none⟩) 1 1] 26 true .exact, .cells [.string ⟨#[97]⟩, .int .u8 1, .string ⟨#[104, 105]⟩, .slice none 0 0, .string ⟨#[100]⟩, .int .u8 4, .string ⟨#[]⟩, .slice (some ⟨m.size, 0, none⟩) 1 1] 48 true .exact,
      .cells [.int .u8 4, .string ⟨#[]⟩, .slice (some ⟨m.size + 2, 0, none⟩) 2 2] 26 true .exact]) nW [.int .u8 4, .string ⟨#[]⟩, .slice (some ⟨m.size + 2, 0, none⟩) 2 2] :=
    trC_mk (k := 4) (d := []) (SlE.lit (b := m.size + 2) (es := [.mk [97] (.nd 1 [104, 105] []), .mk [100] nD]) (by rw [mx_size]; simp) (mx_new m _ 2)
      (EsC.cons (c := [.string ⟨#[97]⟩, .int .u8 1, .string ⟨#[104, 105]⟩, .slice none 0 0]) (EnC.of (e := .mk [97] (.nd 1 [104, 105] [])) (TrC.leaf _ _ _)) (EsC.cons (c := [.string ⟨#[100]⟩, .int .u8 4, .string ⟨#[]⟩, .slice (some ⟨m.size, 0, none⟩) 1 1]) (EnC.of (e := .mk [100] nD) hD) (EsC.nil _))) (by simp))
  have b3 := mx_new m [.cells [.string ⟨#[120]⟩, .int .u8 3, .string ⟨#[46, 46, 47, 97]⟩, .slice none 0 0] 48 true .exact, .cells [.int .u8 4, .string ⟨#[]⟩, .slice (some ⟨m.size, 0, none⟩) 1 1] 26 true .exact, .cells [.string ⟨#[97]⟩, .int .u8 1, .string ⟨#[104, 105]⟩, .slice none 0 0, .string ⟨#[100]⟩, .int .u8 4, .string ⟨#[]⟩, .slice (some ⟨m.size, 0, none⟩) 1 1] 48 true .exact,
      .cells [.int .u8 4, .string ⟨#[]⟩, .slice (some ⟨m.size + 2, 0, none⟩) 2 2] 26 true .exact] 3
  have hO0 := Old.here m [.cells [.string ⟨#[120]⟩, .int .u8 3, .string ⟨#[46, 46, 47, 97]⟩, .slice none 0 0] 48 true .exact, .cells [.int .u8 4, .string ⟨#[]⟩, .slice (some ⟨m.size, 0, none⟩) 1 1] 26 true .exact, .cells [.string ⟨#[97]⟩, .int .u8 1, .string ⟨#[104, 105]⟩, .slice none 0 0, .string ⟨#[100]⟩, .int .u8 4, .string ⟨#[]⟩, .slice (some ⟨m.size, 0, none⟩) 1 1] 48 true .exact,
      .cells [.int .u8 4, .string ⟨#[]⟩, .slice (some ⟨m.size + 2, 0, none⟩) 2 2] 26 true .exact]
  have hz0 : m.size + 3 < (mx m [.cells [.string ⟨#[120]⟩, .int .u8 3, .string ⟨#[46, 46, 47, 97]⟩, .slice none 0 0] 48 true .exact, .cells [.int .u8 4, .string ⟨#[]⟩, .slice (some ⟨m.size, 0, none⟩) 1 1] 26 true .exact, .cells [.string ⟨#[97]⟩, .int .u8 1, .string ⟨#[104, 105]⟩, .slice none 0 0, .string ⟨#[100]⟩, .int .u8 4, .string ⟨#[]⟩, .slice (some ⟨m.size, 0, none⟩) 1 1] 48 true .exact,
      .cells [.int .u8 4, .string ⟨#[]⟩, .slice (some ⟨m.size + 2, 0, none⟩) 2 2] 26 true .exact]).size := by rw [mx_size]; simp
  simp only [List.getD_cons_succ, List.getD_cons_zero] at b3
  have hcn : nW.count ≤ 200000 := by decide +kernel
  generalize mx m [.cells [.string ⟨#[120]⟩, .int .u8 3, .string ⟨#[46, 46, 47, 97]⟩, .slice none 0 0] 48 true .exact, .cells [.int .u8 4, .string ⟨#[]⟩, .slice (some ⟨m.size, 0, none⟩) 1 1] 26 true .exact, .cells [.string ⟨#[97]⟩, .int .u8 1, .string ⟨#[104, 105]⟩, .slice none 0 0, .string ⟨#[100]⟩, .int .u8 4, .string ⟨#[]⟩, .slice (some ⟨m.size, 0, none⟩) 1 1] 48 true .exact,
      .cells [.int .u8 4, .string ⟨#[]⟩, .slice (some ⟨m.size + 2, 0, none⟩) 2 2] 26 true .exact] = M0 at *
  -- the first node
  refine RelC.call (at_ok M0 M0 nW _ [100, 47, 120] hT (.refl _) (by omega) (by simp)) ?_
  rintro v M1 ⟨hO1, c1, rfl, hc1⟩
  rw [w_at1] at hc1 ⊢
  obtain ⟨a1, cap1, rfl, _⟩ := hc1.ex
  have hz1 : m.size + 3 < M1.size := Nat.lt_of_lt_of_le hz0 hO1.1
  have b31 := (hO1.2 _ hz0).trans b3
  repeat first | simp (implicitDefEqProofs := false) (maxSteps := 1000000) (disch := first | omega | with_reducible assumption | (simp only [lenT, Nat.reduceAdd]; omega)) only [amT, cut, bnd, Nat.reduceBEq, reduceCtorEq, Nat.reduceEqDiff, Nat.reduceAdd, Nat.reduceMul, Nat.reduceSub, Int.reduceToNat, Int.reduceEq, Int.reduceLT, Int.reduceLE, Int.reduceAdd, Int.reduceSub, Int.reduceMul, reduceIte, resVs, resV, packV, initT, addr, cellsOf_node, splice3, cutL3, b31, hz1] | refine OrW.go ?_
  refine RelC.call (at_ok M0 _ nW _ [100, 47, 121] hT (hO1.trans (Old.here M1 _)) (by omega) (by simp)) ?_
  rintro v M2 ⟨hO2, c2, rfl, hc2⟩
  rw [w_at2] at hc2 ⊢
  obtain ⟨a2, cap2, rfl, _⟩ := hc2.ex
  have hO12 := (Old.here M1 _).trans hO2
  have hz2 : m.size + 3 < M2.size := Nat.lt_of_lt_of_le hz1 hO12.1
  have b32 := (hO12.2 _ hz1).trans b31
  have hzx : M1.size < M2.size := by have := hO2.1; rw [mx_size] at this; simp at this; omega
  have bx2 := (hO2.2 M1.size (by rw [mx_size]; simp)).trans (mx_new0 M1 _)
  repeat first | simp (implicitDefEqProofs := false) (maxSteps := 1000000) (disch := first | omega | with_reducible assumption | (simp only [lenT, Nat.reduceAdd]; omega)) only [amT, cut, bnd, Nat.reduceBEq, reduceCtorEq, Nat.reduceEqDiff, Nat.reduceAdd, Nat.reduceMul, Nat.reduceSub, Int.reduceToNat, Int.reduceEq, Int.reduceLT, Int.reduceLE, Int.reduceAdd, Int.reduceSub, Int.reduceMul, reduceIte, resVs, resV, packV, initT, addr, cellsOf_node, splice3, cutL3, b32, hz2] | refine OrW.go ?_
  refine RelC.call (at_ok M0 _ nW _ [47, 100] hT ((hO1.trans hO12).trans (Old.here M2 _)) (by omega) (by simp)) ?_
  rintro v M3 ⟨hO3, c3, rfl, hc3⟩
  rw [w_at3] at hc3 ⊢
  obtain ⟨a3, cap3, rfl, _⟩ := hc3.ex
  have hO23 := (Old.here M2 _).trans hO3
  have hz3 : m.size + 3 < M3.size := Nat.lt_of_lt_of_le hz2 hO23.1
  have b33 := (hO23.2 _ hz2).trans b32
  have hzx3 : M1.size < M3.size := Nat.lt_of_lt_of_le hzx hO23.1
  have bx3 := (hO23.2 _ hzx).trans bx2
  repeat first | simp (implicitDefEqProofs := false) (maxSteps := 1000000) (disch := first | omega | with_reducible assumption | (simp only [lenT, Nat.reduceAdd]; omega)) only [amT, cut, bnd, Nat.reduceBEq, reduceCtorEq, Nat.reduceEqDiff, Nat.reduceAdd, Nat.reduceMul, Nat.reduceSub, Int.reduceToNat, Int.reduceEq, Int.reduceLT, Int.reduceLE, Int.reduceAdd, Int.reduceSub, Int.reduceMul, reduceIte, resVs, resV, packV, initT, addr, cellsOf_node, splice3, cutL3, b33, hz3, kF0] | refine OrW.go ?_
  refine RelC.call (Put_ok M0 _ nW (.nd 1 [] []) _ _ [100, 47, 121] hT (TrC.leaf _ 1 []) (((hO1.trans hO12).trans hO23).trans (Old.here M3 _)) hcn (by decide +kernel) (by simp)) ?_
  rintro v M4 ⟨hO4, c4, rfl, hc4⟩
  rw [w_put] at hc4 ⊢
  obtain ⟨a4, cap4, rfl, hE4⟩ := (hc4 M4 (Gap.of ⟨Nat.le_refl _, fun _ _ => rfl⟩)).ex
  have hO34 := (Old.here M3 _).trans hO4
  have hs4 := hO4.1
  rw [mx_size] at hs4
  simp only [List.length_cons, List.length_nil] at hs4
  have hz4 : m.size + 3 < M4.size := Nat.lt_of_lt_of_le hz3 hO34.1
  have b34 := (hO34.2 _ hz3).trans b33
  have hzx4 : M1.size < M4.size := Nat.lt_of_lt_of_le hzx3 hO34.1
  have bx4 := (hO34.2 _ hzx3).trans bx3
  have b9 := (hO4.2 (M3.size + 1) (by rw [mx_size]; simp)).trans (mx_new M3 _ 1)
  simp only [List.getD_cons_succ, List.getD_cons_zero] at b9
  have hz9 : M3.size + 1 < M4.size := by omega
  have hO5 : Old M0 (M4.set (M3.size + 1) (.cells [.int .u8 nP.k, .string ⟨nP.d.toArray⟩, .slice a4 nP.es.length cap4] 26 true .exact)) := by
    refine ((hO1.trans hO12).trans hO23).trans ⟨hO34.1, fun y hy => ?_⟩
    rw [AMem.get_set_ne _ _ (by omega)]
    exact hO34.2 y hy
  have hT5 := hT.old hO5
  have hP5 : TrC (M4.set (M3.size + 1) (.cells [.int .u8 nP.k, .string ⟨nP.d.toArray⟩, .slice a4 nP.es.length cap4] 26 true .exact)) nP [.int .u8 nP.k, .string ⟨nP.d.toArray⟩, .slice a4 nP.es.length cap4] := by
    refine hc4 _ ⟨Nat.le_refl _, fun b hb hb2 => AMem.get_set_ne _ _ ?_⟩
    rw [mx_size] at hb2
    simp only [List.length_cons, List.length_nil] at hb2
    have := ((hO1.trans hO12).trans hO23).1
    omega
  have b35 := (AMem.get_set_ne M4 (.cells [.int .u8 nP.k, .string ⟨nP.d.toArray⟩, .slice a4 nP.es.length cap4] 26 true .exact) (show m.size + 3 ≠ M3.size + 1 by omega)).trans b34
  have bx5 := (AMem.get_set_ne M4 (.cells [.int .u8 nP.k, .string ⟨nP.d.toArray⟩, .slice a4 nP.es.length cap4] 26 true .exact) (show M1.size ≠ M3.size + 1 by omega)).trans bx4
  have b95 := AMem.get_set_self M4 (M3.size + 1) (.cells [.int .u8 nP.k, .string ⟨nP.d.toArray⟩, .slice a4 nP.es.length cap4] 26 true .exact)
  have s5 := AMem.size_set M4 (M3.size + 1) (.cells [.int .u8 nP.k, .string ⟨nP.d.toArray⟩, .slice a4 nP.es.length cap4] 26 true .exact)
  have hm5 := hO0.trans hO5
  repeat first | simp (implicitDefEqProofs := false) (maxSteps := 1000000) (disch := first | omega | with_reducible assumption | (simp only [lenT, Nat.reduceAdd]; omega)) only [amT, cut, bnd, Nat.reduceBEq, reduceCtorEq, Nat.reduceEqDiff, Nat.reduceAdd, Nat.reduceMul, Nat.reduceSub, Int.reduceToNat, Int.reduceEq, Int.reduceLT, Int.reduceLE, Int.reduceAdd, Int.reduceSub, Int.reduceMul, reduceIte, resVs, resV, packV, initT, addr, cellsOf_node, splice3, b9, hz9, BarA_sl] | refine OrW.go ?_
  generalize M4.set (M3.size + 1) (.cells [.int .u8 nP.k, .string ⟨nP.d.toArray⟩, .slice a4 nP.es.length cap4] 26 true .exact) = M5 at *
  have z5 : m.size + 3 < M5.size := by omega
  have kC := DetC.known (count_ok _ nW _ (hT5.old (Old.here M5 [])) (by decide +kernel))
  have kD := DetC.known (depth_ok _ nW _ (hT5.old (Old.here M5 [])) (by decide +kernel))
  have kZ := DetC.known (size_ok _ nW _ (hT5.old (Old.here M5 [])) (by decide +kernel))
  rw [w_count] at kC
  rw [w_depth] at kD
  rw [w_size] at kZ
  repeat first | simp (implicitDefEqProofs := false) (maxSteps := 1000000) (disch := first | omega | with_reducible assumption | (simp only [lenT, Nat.reduceAdd]; omega)) only [amT, cut, bnd, Nat.reduceBEq, reduceCtorEq, Nat.reduceEqDiff, Nat.reduceAdd, Nat.reduceMul, Nat.reduceSub, Int.reduceToNat, Int.reduceEq, Int.reduceLT, Int.reduceLE, Int.reduceAdd, Int.reduceSub, Int.reduceMul, reduceIte, resVs, resV, packV, initT, addr, b34, b35, z5, cutL3, kC, kD, kZ] | refine OrW.go ?_
  refine RelC.call (filPaths_ok _ nW _ (hT5.old (Old.here M5 [])) (by decide +kernel)) ?_
  rintro v M6 ⟨hO6, a6, cap6, rfl, hS6⟩
  rw [w_paths] at hS6 ⊢
  have hO56 := (Old.here M5 _).trans hO6
  have z6 := Nat.lt_of_lt_of_le z5 hO56.1
  have b36 := (hO56.2 _ z5).trans b35
  have bx6 := (hO56.2 M1.size (by omega)).trans bx5
  have b96 := (hO56.2 (M3.size + 1) (by omega)).trans b95
  have zx6 : M1.size < M6.size := by have := hO56.1; omega
  have z96 : M3.size + 1 < M6.size := by have := hO56.1; omega
  have kS := DetC.known (sameTexts_ok (mx M6 [.cells [.string ⟨#[]⟩, .string ⟨#[97]⟩, .string ⟨#[100]⟩, .string ⟨#[100, 47, 120]⟩] 9 true .exact]) a6 (some ⟨M6.size, 0, none⟩) cap6 4 [[], [97], [100], [100, 47, 120]] [[], [97], [100], [100, 47, 120]]
    (hS6.old (Old.here M6 _)) (StrS.lit (ls := [[], [97], [100], [100, 47, 120]]) (by rw [mx_size]; simp) (mx_new0 M6 _) (by simp)) (by simp))
  rw [decide_eq_true rfl] at kS
  simp only [List.length_cons, List.length_nil, Nat.zero_add, Nat.reduceAdd] at kS
  have ek : nX.k = 3 := rfl
  have hP6 := hP5.old (hO56.trans (Old.here M6 [.cells [.string ⟨#[]⟩, .string ⟨#[97]⟩, .string ⟨#[100]⟩, .string ⟨#[100, 47, 120]⟩] 9 true .exact]))
  have hT6 := hT5.old (hO56.trans (Old.here M6 [.cells [.string ⟨#[]⟩, .string ⟨#[97]⟩, .string ⟨#[100]⟩, .string ⟨#[100, 47, 120]⟩] 9 true .exact]))
  repeat first | simp (implicitDefEqProofs := false) (maxSteps := 1000000) (disch := first | omega | with_reducible assumption | (simp only [lenT, Nat.reduceAdd]; omega)) only [amT, cut, bnd, Nat.reduceBEq, reduceCtorEq, Nat.reduceEqDiff, Nat.reduceAdd, Nat.reduceMul, Nat.reduceSub, Int.reduceToNat, Int.reduceEq, Int.reduceLT, Int.reduceLE, Int.reduceAdd, Int.reduceSub, Int.reduceMul, reduceIte, resVs, resV, packV, initT, addr, kS, bx6, b96, zx6, z96, cutL3, cutL3_0, ek] | refine OrW.go ?_
  refine RelC.call (filPaths_ok _ nP _ hP6 (by decide +kernel)) ?_
  rintro v M7 ⟨hO7, a7, cap7, rfl, hS7⟩
  rw [w_paths2] at hS7 ⊢
  have hO67 := (Old.here M6 _).trans hO7
  have z7 := Nat.lt_of_lt_of_le z6 hO67.1
  have b37 := (hO67.2 _ z6).trans b36
  have kS2 := DetC.known (sameTexts_ok (mx M7 [.cells [.string ⟨#[]⟩, .string ⟨#[97]⟩, .string ⟨#[100]⟩, .string ⟨#[100, 47, 120]⟩, .string ⟨#[100, 47, 121]⟩] 9 true .exact]) a7 (some ⟨M7.size, 0, none⟩) cap7 5 [[], [97], [100], [100, 47, 120], [100, 47, 121]] [[], [97], [100], [100, 47, 120], [100, 47, 121]]
    (hS7.old (Old.here M7 _)) (StrS.lit (ls := [[], [97], [100], [100, 47, 120], [100, 47, 121]]) (by rw [mx_size]; simp) (mx_new0 M7 _) (by simp)) (by simp))
  rw [decide_eq_true rfl] at kS2
  simp only [List.length_cons, List.length_nil, Nat.zero_add, Nat.reduceAdd] at kS2
  have kN := fun M => DetC.known (name_ok M [97])
  rw [w_name] at kN
  have kR := DetC.known (right_ok _ nW _ (hT6.old (hO7.trans (Old.here M7 [.cells [.string ⟨#[]⟩, .string ⟨#[97]⟩, .string ⟨#[100]⟩, .string ⟨#[100, 47, 120]⟩, .string ⟨#[100, 47, 121]⟩] 9 true .exact]))) (by decide +kernel))
  rw [w_right] at kR
  repeat first | simp (implicitDefEqProofs := false) (maxSteps := 1000000) (disch := first | omega | with_reducible assumption | (simp only [lenT, Nat.reduceAdd]; omega)) only [amT, cut, bnd, Nat.reduceBEq, reduceCtorEq, Nat.reduceEqDiff, Nat.reduceAdd, Nat.reduceMul, Nat.reduceSub, Int.reduceToNat, Int.reduceEq, Int.reduceLT, Int.reduceLE, Int.reduceAdd, Int.reduceSub, Int.reduceMul, reduceIte, resVs, resV, packV, initT, addr, kS2, kN, b37, z7, cutL3, kR] | refine OrW.go ?_
  exact ((hm5.trans hO56).trans hO67).trans (Old.here M7 _)
end Go.Proofs.YtfjgpeoblnpelaaDoor
namespace Go.Proofs.YtfjgpeoblnpelaaDoor
open Go Go.AM
set_option linter.unusedVariables false
set_option linter.unusedSimpArgs false
set_option maxRecDepth 100000
set_option maxHeartbeats 2000000

theorem lawName (m : AMem) (l : List UInt8) (hl : l.length ≤ 9223372036854775807) : PureC Tryd.prog 3 3 [.string ⟨l.toArray⟩] m (.bool true) := by
  have kW := fun M => DetC.known (works_ok M)
  refine pure_of_W (fn := Tryd.f3) rfl rfl F3_ok (by simp [F3]) (.bool _) ?_
  by_cases h : (l.length : Int) > 2000
  · repeat first | simp (implicitDefEqProofs := false) (maxSteps := 1000000) (disch := first | omega | with_reducible assumption | (simp only [lenT, Nat.reduceAdd]; omega)) only [amT, cut, bnd, Nat.reduceBEq, reduceCtorEq, Nat.reduceEqDiff, Nat.reduceAdd, Nat.reduceMul, Nat.reduceSub, Int.reduceToNat, Int.reduceEq, Int.reduceLT, Int.reduceLE, Int.reduceAdd, Int.reduceSub, Int.reduceMul, reduceIte, resVs, resV, packV, initT, addr, F3, h, kW, undef] | refine OrW.go ?_
  · have k1 := fun M => DetC.known (name_ok M l)
    have k2 := fun M => DetC.known (refName_ok M l (by omega))
    cases hn : nameB l with
    | true =>
      rw [hn] at k1 k2
      repeat first | simp (implicitDefEqProofs := false) (maxSteps := 1000000) (disch := first | omega | with_reducible assumption | (simp only [lenT, Nat.reduceAdd]; omega)) only [amT, cut, bnd, Nat.reduceBEq, reduceCtorEq, Nat.reduceEqDiff, Nat.reduceAdd, Nat.reduceMul, Nat.reduceSub, Int.reduceToNat, Int.reduceEq, Int.reduceLT, Int.reduceLE, Int.reduceAdd, Int.reduceSub, Int.reduceMul, reduceIte, resVs, resV, packV, initT, addr, F3, h, k1, k2, kW] | refine OrW.go ?_
    | false =>
      rw [hn] at k1 k2
      repeat first | simp (implicitDefEqProofs := false) (maxSteps := 1000000) (disch := first | omega | with_reducible assumption | (simp only [lenT, Nat.reduceAdd]; omega)) only [amT, cut, bnd, Nat.reduceBEq, reduceCtorEq, Nat.reduceEqDiff, Nat.reduceAdd, Nat.reduceMul, Nat.reduceSub, Int.reduceToNat, Int.reduceEq, Int.reduceLT, Int.reduceLE, Int.reduceAdd, Int.reduceSub, Int.reduceMul, reduceIte, resVs, resV, packV, initT, addr, F3, h, k1, k2, kW] | refine OrW.go ?_
end Go.Proofs.YtfjgpeoblnpelaaDoor
namespace Go.Proofs.YtfjgpeoblnpelaaDoor
open Go Go.AM
set_option linter.unusedVariables false
set_option linter.unusedSimpArgs false
set_option maxRecDepth 100000
set_option maxHeartbeats 2000000

end Go.Proofs.YtfjgpeoblnpelaaDoor
namespace Go.Proofs.YtfjgpeoblnpelaaDoor.gl
open Go.ChangeShapes Go.WideShapes Go.ChangeAt Go.RowKit
set_option linter.unusedVariables false
set_option maxRecDepth 100000
theorem own : ownKnob Tryd.prog.godebug = none := by kernel_rfl
theorem laidOut : laidOutB Tryd.prog = true := by kernel_rfl
abbrev laid : List (String × DataW Unit) := [("unicode/utf8.acceptRanges", Rows.laid_unicode_utf8_acceptRanges), ("unicode/utf8.first", Rows.laid_unicode_utf8_first)]

/-- The third listed variable lies where it should. -/
theorem globs {W : World} (h : laidMetH Tryd.prog laid W) : ∃ cs ty frz, W.heap[2]? = some (.cells cs ty frz) := by
  rw [MakeChecks.laidMetH_plain _ _ _ (by kernel_rfl)] at h
  obtain ⟨ps, ⟨g, t, cs, fuel, p, q, hg, ht, hv, hd, _⟩, _⟩ := h
  have k0 : Tryd.prog.globalNamed "unicode/utf8.acceptRanges" = some 2 := by kernel_rfl
  simp only [World.var?, k0, Option.bind_some] at hv
  split at hv
  · rename_i cs' ty frz hh
    exact ⟨cs', ty, frz, hh⟩
  · cases hv
def accCells : List Value := [128, 191, 160, 191, 128, 159, 144, 191, 128, 143, 0, 0, 0, 0, 0, 0, 0, 0, 0, 0, 0, 0, 0, 0, 0, 0, 0, 0, 0, 0, 0, 0].map fun n => .int .u8 n
/-- A world in which they are as listed. -/
noncomputable def laidWorld (os : Os) : World :=
  let w0 := World.holding Tryd.prog os ⟨#[], #[], []⟩
  { w0 with heap := (w0.heap.modify 2 fun
      | .cells _ t frozen => .cells accCells.toArray t frozen
      | o => o).modify 1 fun
      | .cells _ t frozen => .cells (Go.Pinned.utf8FirstZ.map fun n : Nat => Value.int .u8 (n : Int)).toArray t frozen
      | o => o }
theorem laidWorld_met (os : Os) (args : Array Value) : laidMetH Tryd.prog laid ((laidWorld os).forCall (fun _ _ => 0) ⟨#[], args, []⟩).memory := by
  rw [MakeChecks.laidMetH_plain _ _ _ (by kernel_rfl)]
  exact laidMet_of_run' 8 (by kernel_rfl) (by kernel_rfl)
end Go.Proofs.YtfjgpeoblnpelaaDoor.gl
namespace Go.Proofs.YtfjgpeoblnpelaaDoor.gl
open Go.ChangeShapes Go.WideShapes Go.ChangeAt Go.RowKit
set_option linter.unusedVariables false
set_option maxRecDepth 100000
set_option maxHeartbeats 1000000

/-- The memory of which a law speaks: the variables, and what the arguments lead to. -/
def osOf (ty : TypeId) (l : List (AM.AObj × AM.Loc)) : List (AM.AObj × AM.Loc) :=
  (.dead, ⟨0, 0, 0, 1⟩) :: (.dead, ⟨1, 0, 0, 1⟩) :: (.cells [] ty false (.full 1), ⟨2, 0, 0, 1⟩) :: l
theorem wrtL {ty : TypeId} {l : List (AM.AObj × AM.Loc)} (hl : ∀ x ∈ l, x.1.wrt = false) : ∀ x ∈ osOf ty l, x.1.wrt = false := fun x hx => by
  simp only [osOf, List.mem_cons] at hx
  rcases hx with rfl | rfl | rfl | hx
  · rfl
  · rfl
  · rfl
  · exact hl x hx
theorem rep {W : World} {ty : TypeId} {cs : Array Value} {frz : Nat × Nat} (h : W.heap[2]? = some (.cells cs ty frz))
    {l : List (AM.AObj × AM.Loc)} (hl : ∀ x ∈ l, AM.ObjRel (AM.renOf (osOf ty l)) x.1 x.2 W) (hw : ∀ x ∈ l, x.1.wrt = false) : AM.Rep 3 (AM.memOf (osOf ty l)) (AM.renOf (osOf ty l)) W := by
  refine AM.Rep.of (osOf ty l) (fun g hg => ?_) (fun x hx => ?_) (wrtL hw)
  · match g, hg with
    | 0, _ => exact ⟨_, rfl, rfl, rfl⟩
    | 1, _ => exact ⟨_, rfl, rfl, rfl⟩
    | 2, _ => exact ⟨_, rfl, rfl, rfl⟩
  · simp only [osOf, List.mem_cons] at hx
    rcases hx with rfl | rfl | rfl | hx
    · trivial
    · trivial
    · exact AM.ObjRel.plain (c := []) (o := 0) h (by simp) (fun j hj => by cases hj) (fun v hv => by cases hv) 1 (by omega)
    · exact hl x hx
/-- An argument whose blocks are those from the k-th on. -/
def Arg (W : World) (k : Nat) (L : List (AM.AObj × AM.Loc)) (F : AM.AMem → AM.Ren → Prop) : Prop :=
  (∀ x ∈ L, x.1.wrt = false) ∧ ∀ (ty : TypeId) (l : List (AM.AObj × AM.Loc)), (∀ j (h : j < L.length), l[k + j]? = some L[j]) → (∀ x ∈ L, AM.ObjRel (AM.renOf (osOf ty l)) x.1 x.2 W) ∧ F (AM.memOf (osOf ty l)) (AM.renOf (osOf ty l))
theorem Arg.none (W : World) (k : Nat) : Arg W k [] fun _ _ => True := ⟨(fun x h => by cases h), fun ty l _ => ⟨(fun x h => by cases h), trivial⟩⟩
theorem Arg.and {W : World} {k : Nat} {L1 L2 : List (AM.AObj × AM.Loc)} {F1 F2 : AM.AMem → AM.Ren → Prop} (h1 : Arg W k L1 F1) (h2 : Arg W (k + L1.length) L2 F2) : Arg W k (L1 ++ L2) fun m ρ => F1 m ρ ∧ F2 m ρ := by
  refine ⟨fun x hx => (List.mem_append.1 hx).elim (h1.1 x) (h2.1 x), fun ty l hl => ?_⟩
  obtain ⟨a1, b1⟩ := h1.2 ty l fun j h => by rw [hl j (by rw [List.length_append]; omega), List.getElem_append_left h]
  obtain ⟨a2, b2⟩ := h2.2 ty l fun j h => by
    rw [Nat.add_assoc, hl (L1.length + j) (by rw [List.length_append]; omega), List.getElem_append_right (by omega)]
    simp only [Nat.add_sub_cancel_left]
  exact ⟨fun x hx => (List.mem_append.1 hx).elim (a1 x) (a2 x), b1, b2⟩
theorem Arg.mono {W : World} {k : Nat} {L : List (AM.AObj × AM.Loc)} {F F' : AM.AMem → AM.Ren → Prop} (h : Arg W k L F) (hf : ∀ m ρ, F m ρ → F' m ρ) : Arg W k L F' :=
  ⟨h.1, fun ty l hl => ⟨(h.2 ty l hl).1, hf _ _ (h.2 ty l hl).2⟩⟩
theorem Arg.all {W : World} {L : List (AM.AObj × AM.Loc)} {F : AM.AMem → AM.Ren → Prop} (h : Arg W 0 L F) (ty : TypeId) : (∀ x ∈ L, AM.ObjRel (AM.renOf (osOf ty L)) x.1 x.2 W) ∧ F (AM.memOf (osOf ty L)) (AM.renOf (osOf ty L)) :=
  h.2 ty L fun j hj => by rw [Nat.zero_add]; exact List.getElem?_eq_getElem hj
/-- A tree's cells, in a world. -/
inductive TrW (w : World) : AM.Tr → List Value → Prop
  | nil (k : Int) (d : List UInt8) : TrW w (.nd k d []) [.int .u8 k, .string ⟨d.toArray⟩, .slice none 0 0]
  | none (k : Int) (d : List UInt8) (a : Addr) : TrW w (.nd k d []) [.int .u8 k, .string ⟨d.toArray⟩, .slice (some a) 0 0]
  | some (k : Int) (d : List UInt8) (es : List AM.En) (b o cap : Nat) (carr : Array Value) (ty : TypeId) (frz : Nat × Nat) (q : Nat → List Value) (hh : w.heap[b]? = some (.cells carr ty frz)) (hl : o + es.length * 4 ≤ carr.size)
      (hc : ∀ i (h : i < es.length) r, r < 4 → carr.getD (o + (i * 4 + r)) undef = (.string ⟨es[i].n.toArray⟩ :: q i).getD r undef) (hq : ∀ i (h : i < es.length), TrW w es[i].t (q i)) (hcap : cap ≤ 9223372036854775807) (hle : es.length ≤ cap) :
      TrW w (.nd k d es) [.int .u8 k, .string ⟨d.toArray⟩, .slice (some ⟨b, o, Option.none⟩) es.length cap]
theorem TrW.len {w : World} {t : AM.Tr} {cs : List Value} (h : TrW w t cs) : cs.length = 3 := by cases h <;> rfl

end Go.Proofs.YtfjgpeoblnpelaaDoor.gl
namespace Go.Proofs.YtfjgpeoblnpelaaDoor.gl
open Go.ChangeShapes Go.WideShapes Go.ChangeAt Go.RowKit
set_option linter.unusedVariables false
set_option maxRecDepth 100000
set_option maxHeartbeats 1000000

end Go.Proofs.YtfjgpeoblnpelaaDoor.gl
