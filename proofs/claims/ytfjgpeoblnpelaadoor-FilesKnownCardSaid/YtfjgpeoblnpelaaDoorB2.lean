/- How much a tree has, by the program. -/
import Derived.Test.YtfjgpeoblnpelaaDoorB1
set_option linter.unusedVariables false
set_option linter.unusedSimpArgs false
set_option linter.unnecessarySimpa false
open Nat renaming reduceBEq → qA, reduceEqDiff → qB, reduceAdd → qC, reduceMul → qD, reduceSub → qE
open Int renaming reduceToNat → qF, reduceEq → qG, reduceLT → qH, reduceLE → qI, reduceAdd → qJ, reduceSub → qK, reduceMul → qL
namespace Go.Proofs.YtfjgpeoblnpelaaDoor
open Go Go.AM
set_option linter.unusedVariables false
set_option linter.unusedSimpArgs false
set_option maxRecDepth 100000
set_option maxHeartbeats 2000000

structure NJ (m : AMem) (v : Value) (t : Tmps) (rec : Loop) (M : AMem) : Prop where
  size : m.size + 5 ≤ M.size
  old : ∀ y, y < m.size → M.get y = m.get y
  cnt : M.get (m.size + 1) = .cells [v] 3 true .exact
  defd : M.get (m.size + 3) = .defd
  loop : M.get (m.size + 4) = .loop .ready none t rec
theorem NJ.st {m : AMem} {v : Value} {t : Tmps} {rec : Loop} {M M' : AMem} (h : NJ m v t rec M) (ho : Old M M') : NJ m v t rec M' := by
  have hz := h.size
  exact ⟨by have := ho.1; omega, fun y hy => by rw [ho.2 y (by omega)]; exact h.old y hy, by rw [ho.2 _ (by omega)]; exact h.cnt, by rw [ho.2 _ (by omega)]; exact h.defd, by rw [ho.2 _ (by omega)]; exact h.loop⟩
theorem NJ.mem {m : AMem} {v : Value} {t : Tmps} {rec : Loop} {M : AMem} (h : NJ m v t rec M) : Old m M := ⟨by have := h.size; omega, h.old⟩
def NO (m : AMem) (x : Nat) : Prop := x = m.size + 1 ∨ x = m.size + 4
theorem NJ.next {m : AMem} {v v' : Value} {t : Tmps} {rec : Loop} {M M' : AMem} (h : NJ m v t rec M) (hk : Keep (NO m) M M') (h1 : M'.get (m.size + 1) = .cells [v'] 3 true .exact) (h2 : M'.get (m.size + 4) = .loop .ready none t rec) : NJ m v' t rec M' := by
  have hz := h.size
  have no : ∀ y, y < m.size ∨ y = m.size + 3 → ¬ NO m y := fun y hy hn => by rcases hn with hn | hn <;> omega
  exact ⟨by have := hk.1; omega, fun y hy => by rw [hk.2 y (by omega) (no y (.inl hy))]; exact h.old y hy, h1, by rw [hk.2 _ (by omega) (no _ (.inr rfl))]; exact h.defd, h2⟩
theorem nodes_here {m : AMem} {t : Tr} {c : List Value} (hc : TrC m t c) (v : Value) : DetC Tryd.prog 3 43 [.agg c.toArray] (mx m [.cells c 26 true .exact, .cells [v] 3 true .exact]) (.func (.func 60) #[] #[.pointer (some ⟨m.size + 2, 0, none⟩)]) (mx m [.cells c 26 true .exact, .cells [v] 3 true .exact, .cells c 26 true .exact]) := by
  have := nodes_ok (mx m [.cells c 26 true .exact, .cells [v] 3 true .exact]) t c (hc.old (Old.here m _))
  rw [mx_mx, mx_size] at this
  exact this
theorem nodes_loop {m : AMem} {tr : Tr} {c : List Value} (hc : TrC m tr c) (hn : tr.count ≤ 500000000) {x : AOpd} {ps : List Nat} {a b : ACode} {Q : AExit → ASt → Prop} {t : Tmps} (hx : x.ev t = .func (.func 60) #[] #[.pointer (some ⟨m.size + 2, 0, none⟩)]) (hps : ps.length = 2)
    (f : List (Nat × Tr) → Nat) (hf0 : f [] = 0)
    (hround : ∀ rec D d s r M c, tr.pre 0 = D ++ (d, s) :: r → TrC m s c → NJ m (.int .i64 (f D : Nat)) t rec M → W Tryd.prog 3 a (AssignK (m.size + 4) t rec fun s' => W Tryd.prog 3 b (RoundK (m.size + 4) t rec fun r' M' => Keep (NO m) (mx M []) M' ∧ r' = .ret (.bool true) ∧
      M'.get (m.size + 1) = .cells [.int .i64 (f (D ++ [(d, s)]) : Nat)] 3 true .exact ∧ M'.get (m.size + 4) = .loop .ready none t rec) s') ⟨roundT t ps [.int .i64 (d : Nat), .agg c.toArray], mx M [], []⟩)
    (hdone : ∀ rec M, NJ m (.int .i64 (f (tr.pre 0) : Nat)) t rec M → Q .normal ⟨t, mx (M.set (m.size + 4) .dead) [], [⟨.collected (m.size + 3), #[]⟩]⟩) :
    W Tryd.prog 3 (.rangeF x ps a b) Q ⟨t, mx m [.cells c 26 true .exact, .cells [.int .i64 0] 3 true .exact, .cells c 26 true .exact], []⟩ := by
  refine W_rangeN (gf := 60) (captured := #[.pointer (some ⟨m.size + 2, 0, none⟩)]) (m0 := m) (tr := tr) hx ⟨_, _, rfl, rfl, rfl⟩ hps (nodes1_ok m tr c (m.size + 2) hc hn) (fun rec L M => ∃ D, tr.pre 0 = D ++ L ∧ NJ m (.int .i64 (f D : Nat)) t rec M) (fun _ _ _ => False) (NO m) (m.size + 3) (m.size + 4)
    (by rw [mx_size]; rfl) rfl ?_ ?_ ?_ ?_ ?_ ?_ ?_ ?_ ?_
  · rintro rec L M M' ⟨D, h1, h2⟩ ho; exact ⟨D, h1, h2.st ho⟩
  · intro _ _ _ _ h _; exact h.elim
  · rintro rec L M ⟨D, h1, h2⟩; exact h2.mem
  · rintro x (h | h) <;> omega
  · rintro rec L M ⟨D, h1, h2⟩; exact ⟨by have := h2.size; omega, h2.loop⟩
  · intro rec
    refine ⟨⟨[], rfl, by rw [mx_size]; simp, fun y hy => mx_old hy, ?_, mx_new _ _ 3, mx_new _ _ 4⟩, by rw [mx_size]; simp, mx_new _ _ 2⟩
    rw [hf0]; exact mx_new _ _ 1
  · rintro rec d s r M c ⟨D, h1, h2⟩ hcs
    have hz := h2.size
    refine W_mono _ _ _ _ (fun e s' h => ?_) (hround rec D d s r M c h1 hcs h2)
    cases e with
    | normal =>
      refine ⟨h.1, W_mono _ _ _ _ (fun e s'' h => ?_) h.2⟩
      have key : ∀ r' M', (Keep (NO m) (mx M []) M' ∧ r' = .ret (.bool true) ∧ M'.get (m.size + 1) = .cells [.int .i64 (f (D ++ [(d, s)]) : Nat)] 3 true .exact ∧ M'.get (m.size + 4) = .loop .ready none t rec) →
          (Keep (NO m) (mx M []) M' ∧ ((r' = .ret (.bool true) ∧ ∃ D, tr.pre 0 = D ++ r ∧ NJ m (.int .i64 (f D : Nat)) t rec M') ∨ ∃ c, r' = AEnd.pan c ∧ False)) := by
        rintro r' M' ⟨k1, k2, k3, k4⟩
        refine ⟨k1, .inl ⟨k2, D ++ [(d, s)], by rw [h1]; simp, ?_⟩⟩
        exact (h2.st (Old.here M [])).next k1 k3 k4
      cases e with
      | normal => exact ⟨h.1, key _ _ h.2⟩
      | ret => exact ⟨h.1, key _ _ h.2⟩
      | exit _ => exact ⟨h.1, key _ _ h.2⟩
      | goto _ => exact ⟨h.1, key _ _ h.2⟩
      | pan _ => exact ⟨h.1, key _ _ h.2⟩
    | _ => exact h
  · rintro rec M ⟨D, h1, h2⟩
    rw [List.append_nil] at h1
    rw [← h1] at h2
    exact hdone rec M h2
  · intro _ _ _ h; exact h.elim
theorem NJ.fin {m : AMem} {n : Nat} {t : Tmps} {rec : Loop} {M : AMem} (h : NJ m (.int .i64 n) t rec M) : let N := M.set (m.size + 4) .dead
    N.get (m.size + 1) = .cells [.int .i64 n] 3 true .exact ∧ m.size + 1 < N.size ∧ m.size + 3 < N.size ∧ N.get (m.size + 3) = .defd ∧ Old m N := by
  have hz := h.size
  refine ⟨by rw [AMem.get_set_ne _ _ (by omega)]; exact h.cnt, by rw [AMem.size_set]; omega, by rw [AMem.size_set]; omega, by rw [AMem.get_set_ne _ _ (by omega)]; exact h.defd, by rw [AMem.size_set]; omega, fun y hy => by rw [AMem.get_set_ne _ _ (by omega)]; exact h.old y hy⟩

theorem NJ.done {m : AMem} {n : Nat} {t0 t : Tmps} {rec : Loop} {M : AMem} (h : NJ m (.int .i64 n) t0 rec M) {r : Nat} (hr : t r = .int .i64 n) :
    RetKD [.t r] (fun r' m' => r' = .ret (.int .i64 n) ∧ Old m m') .ret ⟨t, mx (M.set (m.size + 4) .dead) [], [⟨.collected (m.size + 3), #[]⟩]⟩ := by
  obtain ⟨h1, h2, h3, h4, h5⟩ := h.fin
  have hz := h.size
  refine ⟨mx ((M.set (m.size + 4) .dead).set (m.size + 3) .dead) [], ?_, ?_⟩
  · simp only [takeD]
    rw [mx_old h3, h4]
    simp only
    rw [mx_set_old h3]
  · simp only [resVs, resV, hr, packV]
    exact ⟨by first | rfl | trivial, (h5.set (by omega) _).mx _⟩
theorem NJ.busy {m : AMem} {v : Value} {t : Tmps} {rec : Loop} {M : AMem} (h : NJ m v t rec M) : let M1 := M.set (m.size + 4) (.loop .busy none t rec)
    M1.get (m.size + 1) = .cells [v] 3 true .exact ∧ M1.get (m.size + 4) = .loop .busy none t rec ∧ M1.size = M.size ∧ ∀ y, y ≠ m.size + 4 → M1.get y = M.get y := by
  have hz := h.size
  exact ⟨by rw [AMem.get_set_ne _ _ (by omega)]; exact h.cnt, AMem.get_set_self _ _ _, rfl, fun y hy => AMem.get_set_ne _ _ hy⟩
theorem count_round (m : AMem) (t : Tmps) (h3 : t 3 = .pointer (some ⟨m.size + 1, 0, none⟩)) (rec : Loop) (n : Nat) (hn : n ≤ 500000000) (d : Nat) (c : List Value) (M : AMem) (hJ : NJ m (.int .i64 n) t rec M) :
    W Tryd.prog 3 F16_g0 (AssignK (m.size + 4) t rec fun s' => W Tryd.prog 3 F16_b0 (RoundK (m.size + 4) t rec fun r' M' => Keep (NO m) (mx M []) M' ∧ r' = .ret (.bool true) ∧
      M'.get (m.size + 1) = .cells [.int .i64 (n + 1 : Nat)] 3 true .exact ∧ M'.get (m.size + 4) = .loop .ready none t rec) s') ⟨roundT t [6, 7] [.int .i64 (d : Nat), .agg c.toArray], mx M [], []⟩ := by
  have hz := hJ.size
  have l5 : m.size + 4 < M.size := by omega
  simp -implicitDefEqProofs (disch := first | omega | with_reducible assumption | (simp only [qU, qC]; omega)) only [qT, qA, reduceCtorEq, qB, qC, qD, qE, qF, qG, qH, qI, qJ, qK, qL, reduceIte, F16_g0, roundT, List.zip_cons_cons, List.zip_nil_right, List.foldl_cons, List.foldl_nil]
  refine ⟨by rw [mx_old l5]; exact hJ.loop, ?_⟩
  simp only
  rw [mx_set_old l5]
  obtain ⟨e1, e2, e3, e4⟩ := hJ.busy
  generalize M.set (m.size + 4) (.loop .busy none t rec) = M1 at *
  have q1 : m.size + 1 < M1.size := by omega
  repeat first | simp -implicitDefEqProofs (disch := first | omega | with_reducible assumption | (simp only [qU, qC]; omega)) only [qT, qA, reduceCtorEq, qB, qC, qD, qE, qF, qG, qH, qI, qJ, qK, qL, reduceIte, F16_b0, h3, e1, q1] | refine OrW.go ?_
  refine ⟨?_, ?_⟩
  · simp only
    rw [mx_old (by rw [AMem.size_set]; omega), AMem.get_set_ne _ _ (by omega)]; exact e2
  · simp only
    rw [mx_set_old (by rw [AMem.size_set]; omega)]
    refine ⟨⟨by rw [mx_nil_size, mx_nil_size]; simp only [AMem.size_set]; omega, fun x hx hno => ?_⟩, by first | rfl | trivial, ?_, ?_⟩
    · rw [mx_nil_size] at hx
      have n1 : x ≠ m.size + 1 := fun e => hno (.inl e)
      have n2 : x ≠ m.size + 4 := fun e => hno (.inr e)
      rw [mx_old (by simp only [AMem.size_set]; omega), AMem.get_set_ne _ _ n2, AMem.get_set_ne _ _ n1, mx_old hx, e4 x n2]
    · rw [mx_old (by simp only [AMem.size_set]; omega), AMem.get_set_ne _ _ (by omega), AMem.get_set_self]; rfl
    · rw [mx_old (by simp only [AMem.size_set]; omega), AMem.get_set_self]
theorem count_ok (m : AMem) (t : Tr) (c : List Value) (hc : TrC m t c) (hn : t.count ≤ 500000000) : PureC Tryd.prog 3 16 [.agg c.toArray] m (.int .i64 (t.count : Nat)) := by
  obtain ⟨a, cap, rfl, hE⟩ := hc.ex
  refine purE_of_WD (fn := Tryd.f16) rfl rfl F16_ok (by simp [F16]) (Plain.int _ _) ?_
  have kN := DetC.known (nodes_here hc (.int .i64 0))
  repeat first | simp -implicitDefEqProofs (disch := first | omega | with_reducible assumption | (simp only [qU, qC]; omega)) only [qT, qA, reduceCtorEq, qB, qC, qD, qE, qF, qG, qH, qI, qJ, qK, qL, reduceIte, F16, cellsOf_node, cutL3, kN] | refine OrW.go ?_
  refine nodes_loop (ps := [6, 7]) hc hn ?hx rfl List.length rfl (fun rec D d s r M c h1 hcs hJ => ?_) (fun rec M hJ => ?_)
  case hx => simp -implicitDefEqProofs (disch := first | omega | with_reducible assumption | (simp only [qU, qC]; omega)) only [qT, qA, reduceCtorEq, qB, qC, qD, qE, qF, qG, qH, qI, qJ, qK, qL, reduceIte]
  · rw [List.length_append, List.length_singleton]
    refine count_round m _ ?h3 rec D.length ?_ d c M hJ
    case h3 => simp -implicitDefEqProofs (disch := first | omega | with_reducible assumption | (simp only [qU, qC]; omega)) only [qT, qA, reduceCtorEq, qB, qC, qD, qE, qF, qG, qH, qI, qJ, qK, qL, reduceIte]
    have := t.pre_len 0
    rw [h1] at this; simp at this; omega
  · rw [t.pre_len] at hJ
    obtain ⟨f1, f2, f3, f4, f5⟩ := hJ.fin
    have f0 := hJ.cnt
    simp -implicitDefEqProofs (disch := first | omega | with_reducible assumption | (simp only [qU, qC]; omega)) only [qT, qA, reduceCtorEq, qB, qC, qD, qE, qF, qG, qH, qI, qJ, qK, qL, reduceIte, f0, f2]
    refine hJ.done ?_
    simp -implicitDefEqProofs (disch := first | omega | with_reducible assumption | (simp only [qU, qC]; omega)) only [qT, qA, reduceCtorEq, qB, qC, qD, qE, qF, qG, qH, qI, qJ, qK, qL, reduceIte]

theorem NJ.endr {m : AMem} {v : Value} {t : Tmps} {rec : Loop} {M : AMem} (hJ : NJ m v t rec M) {M1 : AMem} (e2 : M1.get (m.size + 4) = .loop .busy none t rec) (e3 : M1.size = M.size) (e4 : ∀ y, y ≠ m.size + 4 → M1.get y = M.get y) (v' : Value) (objs : List AObj) :
    let N := mx (M1.set (m.size + 1) (.cells [v'] 3 true .exact)) objs
    N.get (m.size + 4) = .loop .busy none t rec ∧ Keep (NO m) (mx M []) (N.set (m.size + 4) (.loop .ready none t rec)) ∧ (N.set (m.size + 4) (.loop .ready none t rec)).get (m.size + 1) = .cells [v'] 3 true .exact ∧
      (N.set (m.size + 4) (.loop .ready none t rec)).get (m.size + 4) = .loop .ready none t rec := by
  have hz := hJ.size
  refine ⟨by rw [mx_old (by rw [AMem.size_set]; omega), AMem.get_set_ne _ _ (by omega)]; exact e2, ⟨by rw [mx_nil_size, AMem.size_set, mx_size, AMem.size_set]; omega, fun x hx hno => ?_⟩, ?_, AMem.get_set_self _ _ _⟩
  · rw [mx_nil_size] at hx
    have n1 : x ≠ m.size + 1 := fun e => hno (.inl e)
    have n2 : x ≠ m.size + 4 := fun e => hno (.inr e)
    rw [AMem.get_set_ne _ _ n2, mx_old (by rw [AMem.size_set]; omega), AMem.get_set_ne _ _ n1, mx_old hx, e4 x n2]
  · rw [AMem.get_set_ne _ _ (by omega), mx_old (by rw [AMem.size_set]; omega), AMem.get_set_self]
def maxD (D : List (Nat × Tr)) : Nat := D.foldl (fun n p => max n p.1) 0
def sumD (D : List (Nat × Tr)) : Nat := (D.map fun p => p.2.d.length).sum
theorem maxD_snoc (D : List (Nat × Tr)) (p : Nat × Tr) : maxD (D ++ [p]) = max (maxD D) p.1 := by simp [maxD]
theorem sumD_snoc (D : List (Nat × Tr)) (p : Nat × Tr) : sumD (D ++ [p]) = sumD D + p.2.d.length := by simp [sumD]
theorem maxD_from : ∀ (D : List (Nat × Tr)) (n : Nat), D.foldl (fun n p => max n p.1) n = max n (maxD D)
  | [], n => by simp [maxD]
  | p :: D, n => by
    have h1 := maxD_from D (max n p.1)
    have h2 := maxD_from D (max 0 p.1)
    simp only [maxD, List.foldl_cons] at h1 h2 ⊢
    rw [h1, h2]; omega
theorem maxD_app (D D' : List (Nat × Tr)) : maxD (D ++ D') = max (maxD D) (maxD D') := by
  rw [show maxD (D ++ D') = (D ++ D').foldl (fun n p => max n p.1) 0 from rfl, List.foldl_append, maxD_from]; rfl
theorem sumD_app (D D' : List (Nat × Tr)) : sumD (D ++ D') = sumD D + sumD D' := by simp [sumD]
theorem maxD_pre (t : Tr) : ∀ n, maxD (t.pre n) = n + t.depth := by
  induction t using Tr.ind with
  | h k d es ih =>
    intro n
    rw [Tr.pre_nd, show (n, Tr.nd k d es) :: preL es (n + 1) = [(n, Tr.nd k d es)] ++ preL es (n + 1) from rfl, maxD_app, Tr.depth]
    have key : ∀ (l : List En), (∀ e ∈ l, ∀ n, maxD (e.t.pre n) = n + e.t.depth) → ∀ n, max n (maxD (preL l (n + 1))) = n + depthL l := by
      intro l
      induction l with
      | nil => intro _ n; simp [preL, depthL, maxD]
      | cons e r ihr =>
        intro hl n
        have h1 := hl e (by simp) (n + 1)
        have h2 := ihr (fun x hx => hl x (by simp [hx])) n
        simp only [preL, depthL, En.pre_t, En.depth_t, maxD_app]
        omega
    have := key es ih n
    simp only [maxD, List.foldl_cons, List.foldl_nil] at this ⊢
    omega
theorem sumD_pre (t : Tr) : ∀ n, sumD (t.pre n) = t.size := by
  induction t using Tr.ind with
  | h k d es ih =>
    intro n
    rw [Tr.pre_nd, show (n, Tr.nd k d es) :: preL es (n + 1) = [(n, Tr.nd k d es)] ++ preL es (n + 1) from rfl, sumD_app, Tr.size]
    have key : ∀ (l : List En), (∀ e ∈ l, ∀ n, sumD (e.t.pre n) = e.t.size) → ∀ n, sumD (preL l n) = sizeL l := by
      intro l
      induction l with
      | nil => intro _ n; simp [preL, sizeL, sumD]
      | cons e r ihr =>
        intro hl n
        simp only [preL, sizeL, En.pre_t, En.size_t, sumD_app]
        rw [hl e (by simp), ihr (fun x hx => hl x (by simp [hx]))]
    rw [key es ih]
    simp [sumD, Tr.d]
theorem depth_round (m : AMem) (t : Tmps) (h3 : t 3 = .pointer (some ⟨m.size + 1, 0, none⟩)) (rec : Loop) (n : Nat) (d : Nat) (c : List Value) (M : AMem) (hJ : NJ m (.int .i64 n) t rec M) :
    W Tryd.prog 3 F18_g0 (AssignK (m.size + 4) t rec fun s' => W Tryd.prog 3 F18_b0 (RoundK (m.size + 4) t rec fun r' M' => Keep (NO m) (mx M []) M' ∧ r' = .ret (.bool true) ∧
      M'.get (m.size + 1) = .cells [.int .i64 (max n d : Nat)] 3 true .exact ∧ M'.get (m.size + 4) = .loop .ready none t rec) s') ⟨roundT t [7, 8] [.int .i64 (d : Nat), .agg c.toArray], mx M [], []⟩ := by
  have hz := hJ.size
  have l5 : m.size + 4 < M.size := by omega
  simp -implicitDefEqProofs (disch := first | omega | with_reducible assumption | (simp only [qU, qC]; omega)) only [qT, qA, reduceCtorEq, qB, qC, qD, qE, qF, qG, qH, qI, qJ, qK, qL, reduceIte, F18_g0, roundT, List.zip_cons_cons, List.zip_nil_right, List.foldl_cons, List.foldl_nil]
  refine ⟨by rw [mx_old l5]; exact hJ.loop, ?_⟩
  simp only
  rw [mx_set_old l5]
  obtain ⟨e1, e2, e3, e4⟩ := hJ.busy
  generalize M.set (m.size + 4) (.loop .busy none t rec) = M1 at *
  have q1 : m.size + 1 < M1.size := by omega
  have em : max (n : Int) (d : Int) = ((max n d : Nat) : Int) := by omega
  repeat first | simp -implicitDefEqProofs (disch := first | omega | with_reducible assumption | (simp only [qU, qC]; omega)) only [qT, qA, reduceCtorEq, qB, qC, qD, qE, qF, qG, qH, qI, qJ, qK, qL, reduceIte, F18_b0, h3, e1, q1, stepOp_mnx, mnx_max, em] | refine OrW.go ?_
  obtain ⟨k1, k2, k3, k4⟩ := hJ.endr e2 e3 e4 (.int .i64 (max n d : Nat)) []
  exact ⟨k1, k2, by first | rfl | trivial, k3, k4⟩
theorem depth_ok (m : AMem) (t : Tr) (c : List Value) (hc : TrC m t c) (hn : t.count ≤ 500000000) : PureC Tryd.prog 3 18 [.agg c.toArray] m (.int .i64 (t.depth : Nat)) := by
  obtain ⟨a, cap, rfl, hE⟩ := hc.ex
  refine purE_of_WD (fn := Tryd.f18) rfl rfl F18_ok (by simp [F18]) (Plain.int _ _) ?_
  have kN := DetC.known (nodes_here hc (.int .i64 0))
  repeat first | simp -implicitDefEqProofs (disch := first | omega | with_reducible assumption | (simp only [qU, qC]; omega)) only [qT, qA, reduceCtorEq, qB, qC, qD, qE, qF, qG, qH, qI, qJ, qK, qL, reduceIte, F18, cellsOf_node, cutL3, kN] | refine OrW.go ?_
  refine nodes_loop (ps := [7, 8]) hc hn ?hx rfl maxD rfl (fun rec D d s r M c h1 hcs hJ => ?_) (fun rec M hJ => ?_)
  case hx => simp -implicitDefEqProofs (disch := first | omega | with_reducible assumption | (simp only [qU, qC]; omega)) only [qT, qA, reduceCtorEq, qB, qC, qD, qE, qF, qG, qH, qI, qJ, qK, qL, reduceIte]
  · rw [maxD_snoc]
    refine depth_round m _ ?h3 rec _ d c M hJ
    case h3 => simp -implicitDefEqProofs (disch := first | omega | with_reducible assumption | (simp only [qU, qC]; omega)) only [qT, qA, reduceCtorEq, qB, qC, qD, qE, qF, qG, qH, qI, qJ, qK, qL, reduceIte]
  · rw [maxD_pre, Nat.zero_add] at hJ
    obtain ⟨f1, f2, f3, f4, f5⟩ := hJ.fin
    have f0 := hJ.cnt
    simp -implicitDefEqProofs (disch := first | omega | with_reducible assumption | (simp only [qU, qC]; omega)) only [qT, qA, reduceCtorEq, qB, qC, qD, qE, qF, qG, qH, qI, qJ, qK, qL, reduceIte, f0, f2]
    refine hJ.done ?_
    simp -implicitDefEqProofs (disch := first | omega | with_reducible assumption | (simp only [qU, qC]; omega)) only [qT, qA, reduceCtorEq, qB, qC, qD, qE, qF, qG, qH, qI, qJ, qK, qL, reduceIte]
theorem size_round (m : AMem) (t : Tmps) (h3 : t 3 = .pointer (some ⟨m.size + 1, 0, none⟩)) (rec : Loop) (n : Nat) (d : Nat) (s : Tr) (c : List Value) (M : AMem) (hJ : NJ m (.int .i64 n) t rec M) (hc : TrC m s c) (hn : n + s.d.length ≤ 4000000000) :
    W Tryd.prog 3 F20_g0 (AssignK (m.size + 4) t rec fun s' => W Tryd.prog 3 F20_b0 (RoundK (m.size + 4) t rec fun r' M' => Keep (NO m) (mx M []) M' ∧ r' = .ret (.bool true) ∧
      M'.get (m.size + 1) = .cells [.int .i64 (n + s.d.length : Nat)] 3 true .exact ∧ M'.get (m.size + 4) = .loop .ready none t rec) s') ⟨roundT t [8, 9] [.int .i64 (d : Nat), .agg c.toArray], mx M [], []⟩ := by
  have hz := hJ.size
  have l5 : m.size + 4 < M.size := by omega
  obtain ⟨a, cap, rfl, hE⟩ := hc.ex
  simp -implicitDefEqProofs (disch := first | omega | with_reducible assumption | (simp only [qU, qC]; omega)) only [qT, qA, reduceCtorEq, qB, qC, qD, qE, qF, qG, qH, qI, qJ, qK, qL, reduceIte, F20_g0, roundT, List.zip_cons_cons, List.zip_nil_right, List.foldl_cons, List.foldl_nil, cellsOf_node, splice3]
  refine ⟨by rw [mx_old l5]; exact hJ.loop, ?_⟩
  simp only
  rw [mx_set_old l5]
  obtain ⟨e1, e2, e3, e4⟩ := hJ.busy
  generalize M.set (m.size + 4) (.loop .busy none t rec) = M1 at *
  have q1 : m.size + 1 < M1.size := by omega
  rw [← e3]
  have em : (n : Int) + (s.d.length : Int) = ((n + s.d.length : Nat) : Int) := by omega
  repeat first | simp -implicitDefEqProofs (disch := first | omega | with_reducible assumption | (simp only [qU, qC]; omega)) only [qT, qA, reduceCtorEq, qB, qC, qD, qE, qF, qG, qH, qI, qJ, qK, qL, reduceIte, F20_b0, h3, e1, q1, cutL3_1, em] | refine OrW.go ?_
  obtain ⟨k1, k2, k3, k4⟩ := hJ.endr e2 e3 e4 (.int .i64 (n + s.d.length : Nat)) [.cells [.int .u8 s.k, .string ⟨s.d.toArray⟩, .slice a s.es.length cap] 26 true .exact]
  exact ⟨k1, k2, by first | rfl | trivial, k3, k4⟩
theorem size_ok (m : AMem) (t : Tr) (c : List Value) (hc : TrC m t c) (hn : t.weight ≤ 500000000) : PureC Tryd.prog 3 20 [.agg c.toArray] m (.int .i64 (t.size : Nat)) := by
  have hcw := t.count_le
  have hsw := t.size_le
  obtain ⟨a, cap, rfl, hE⟩ := hc.ex
  refine purE_of_WD (fn := Tryd.f20) rfl rfl F20_ok (by simp [F20]) (Plain.int _ _) ?_
  have kN := DetC.known (nodes_here hc (.int .i64 0))
  repeat first | simp -implicitDefEqProofs (disch := first | omega | with_reducible assumption | (simp only [qU, qC]; omega)) only [qT, qA, reduceCtorEq, qB, qC, qD, qE, qF, qG, qH, qI, qJ, qK, qL, reduceIte, F20, cellsOf_node, cutL3, kN] | refine OrW.go ?_
  refine nodes_loop (ps := [8, 9]) hc (by omega) ?hx rfl sumD rfl (fun rec D d s r M c h1 hcs hJ => ?_) (fun rec M hJ => ?_)
  case hx => simp -implicitDefEqProofs (disch := first | omega | with_reducible assumption | (simp only [qU, qC]; omega)) only [qT, qA, reduceCtorEq, qB, qC, qD, qE, qF, qG, qH, qI, qJ, qK, qL, reduceIte]
  · rw [sumD_snoc]
    have hs := sumD_pre t 0
    rw [h1, show D ++ (d, s) :: r = (D ++ [(d, s)]) ++ r by simp, sumD_app, sumD_snoc] at hs
    simp only at hs
    refine size_round m _ ?h3 rec _ d s c M hJ hcs (by omega)
    case h3 => simp -implicitDefEqProofs (disch := first | omega | with_reducible assumption | (simp only [qU, qC]; omega)) only [qT, qA, reduceCtorEq, qB, qC, qD, qE, qF, qG, qH, qI, qJ, qK, qL, reduceIte]
  · rw [sumD_pre] at hJ
    obtain ⟨f1, f2, f3, f4, f5⟩ := hJ.fin
    have f0 := hJ.cnt
    simp -implicitDefEqProofs (disch := first | omega | with_reducible assumption | (simp only [qU, qC]; omega)) only [qT, qA, reduceCtorEq, qB, qC, qD, qE, qF, qG, qH, qI, qJ, qK, qL, reduceIte, f0, f2]
    refine hJ.done ?_
    simp -implicitDefEqProofs (disch := first | omega | with_reducible assumption | (simp only [qU, qC]; omega)) only [qT, qA, reduceCtorEq, qB, qC, qD, qE, qF, qG, qH, qI, qJ, qK, qL, reduceIte]
end Go.Proofs.YtfjgpeoblnpelaaDoor
namespace Go.AM
theorem sgtr_lt (a b : List UInt8) : (!(strLt ⟨a.toArray⟩ ⟨b.toArray⟩ || strEq ⟨a.toArray⟩ ⟨b.toArray⟩)) = ltB b a := by
  rw [strLt_mk, strEq_mk]
  rcases ltB_tri a b with h | h | h
  · rw [h, ltB_asymm h]; rfl
  · subst h; rw [ltB_irrefl]; simp
  · rw [h, ltB_asymm h, decide_eq_false (fun e => by subst e; rw [ltB_irrefl] at h; cases h)]; rfl
theorem sleq_lt (a b : List UInt8) : (strLt ⟨a.toArray⟩ ⟨b.toArray⟩ || strEq ⟨a.toArray⟩ ⟨b.toArray⟩) = !ltB b a := by
  rw [← sgtr_lt, Bool.not_not]
end Go.AM
namespace Go.Proofs.YtfjgpeoblnpelaaDoor
open Go Go.AM
set_option linter.unusedVariables false
set_option linter.unusedSimpArgs false
set_option maxRecDepth 100000
set_option maxHeartbeats 2000000

def ordAt (es : List En) (i : Nat) : Bool := nameB (es.getD i default).n && (decide (i = 0) || ltB (es.getD (i - 1) default).n (es.getD i default).n)
def ordE (es : List En) : Bool := (List.range es.length).all (ordAt es)
def checkB (k : Int) (d : List UInt8) (es : List En) : Bool :=
  (decide (k = 4) || es.isEmpty) && if k = 1 ∨ k = 2 then decide (d.length ≤ 65536) else if k = 3 then !decide (d = []) && decide (d.length ≤ 255) && !decide (0 ∈ d) else if k = 4 then decide (d = []) && ordE es else false
theorem ordE_bad {es : List En} {i : Nat} (hi : i < es.length) (h : ordAt es i = false) : ordE es = false := by
  rw [Bool.eq_false_iff]; intro ht
  have := List.all_eq_true.1 ht i (List.mem_range.2 hi)
  rw [h] at this; cases this
theorem ordE_all {es : List En} (h : ∀ i, i < es.length → ordAt es i = true) : ordE es = true := List.all_eq_true.2 fun i hi => h i (List.mem_range.1 hi)
theorem ordAt_eq {es : List En} {i : Nat} (hi : i < es.length) : ordAt es i = (nameB es[i].n && (decide (i = 0) || ltB (es.getD (i - 1) default).n es[i].n)) := by
  unfold ordAt; rw [show es.getD i default = es[i] by simp [List.getD, hi]]
def okE (b : Bool) : AEnd := if b then .ret (.tuple #[]) else .pan (errC 30 70)
theorem okE_plain (b : Bool) : PlainE (okE b) := by
  cases b
  · exact .err _ _
  · exact Plain.tuple (by simp)
theorem check_ok (m : AMem) (k : Int) (d : List UInt8) (es : List En) (c : List Value) (hc : TrC m (.nd k d es) c) (hn : es.length ≤ 1000000000) : PurE Tryd.prog 3 59 [.agg c.toArray] m (okE (checkB k d es)) := by
  obtain ⟨a, cap, rfl, hE⟩ := trC_nd hc
  have yes := fun M => DetC.known (need_yes M 70)
  have no := fun M => (need_no M 70).pan
  by_cases h4 : k = 4
  · by_cases hd : d = []
    · have e0 : strEq ⟨d.toArray⟩ ⟨#[]⟩ = true := by rw [hd]; exact strEq_self _
      have hcb : checkB k d es = ordE es := by simp [checkB, h4, hd]
      rw [hcb]
      refine purE_of_W (fn := Tryd.f59) rfl rfl F59_ok (by simp [F59]) (okE_plain _) ?_
      subst h4
      repeat first | simp -implicitDefEqProofs (disch := first | omega | with_reducible assumption | (simp only [qU, qC]; omega)) only [qT, qA, reduceCtorEq, qB, qC, qD, qE, qF, qG, qH, qI, qJ, qK, qL, reduceIte, F59, cellsOf_node, cutL3_0, cutL3_1, cutL3_2, e0, yes, undef] | refine OrW.go ?_
      refine W_loop (fun N qs => ∃ (i : Nat) (M : AMem), N = es.length - i ∧ qs.ds = [] ∧ qs.m = mx M [] ∧ qs.t 1 = .pointer (some ⟨m.size, 0, none⟩) ∧ qs.t 50 = .slice a es.length cap ∧ qs.t 51 = .int .i64 es.length ∧ qs.t 52 = .int .i64 i ∧ i ≤ es.length ∧ Old (mx m [.cells [.int .u8 4, .string ⟨d.toArray⟩, .slice a es.length cap] 26 true .exact]) M ∧ ∀ j, j < i → ordAt es j = true) (es.length - (0)) ⟨0, mx m [.cells [.int .u8 4, .string ⟨d.toArray⟩, .slice a es.length cap] 26 true .exact], rfl, rfl, ?qm, ?q1, ?q50, ?q51, ?q52, ?_⟩ ?_
      case qm | q1 | q50 | q51 | q52 => first | rfl | (simp -implicitDefEqProofs (disch := first | omega | with_reducible assumption | (simp only [qU, qC]; omega)) only [qT, qA, reduceCtorEq, qB, qC, qD, qE, qF, qG, qH, qI, qJ, qK, qL, reduceIte, mx_mx, List.append_nil]; first | done | rfl | (congr 1; omega))
      · exact ⟨by omega, .refl _, fun j hj => by omega⟩
      · rintro N t m1 ds ⟨i, M, rfl, hds, hm, t1, t50, t51, t52, hp⟩
        simp only at hds hm t1 t50 t51 t52
        subst hds; replace hm := hm.symm; subst hm
        obtain ⟨hi0, hO, hall⟩ := hp
        have hOm := (Old.here m _).trans hO
        have hbx : M.get m.size = .cells [.int .u8 4, .string ⟨d.toArray⟩, .slice a es.length cap] 26 true .exact := by rw [hO.2 _ (by rw [mx_size]; simp)]; exact mx_new0 _ _
        have hMs : m.size < M.size := by have := hO.1; rw [mx_size] at this; simp at this; omega
        by_cases g1 : (i : Int) < (es.length : Int)
        · have hi : i < es.length := by omega
          obtain ⟨b, o, a', cap', rfl, hbb, hE', q4, q3, q0⟩ := (hE.old hOm).get hi
          have k1 := fun M => DetC.known (name_ok M es[i].n)
          have hoa := ordAt_eq hi
          cases hnb : nameB es[i].n with
          | false =>
            rw [hnb] at k1 hoa
            have hf := ordE_bad hi (by rw [hoa]; rfl)
            rw [hf]
            repeat first | simp -implicitDefEqProofs (disch := first | omega | with_reducible assumption | (simp only [qU, qC]; omega)) only [qT, qA, reduceCtorEq, qB, qC, qD, qE, qF, qG, qH, qI, qJ, qK, qL, reduceIte, F59_l0, t1, t50, t51, t52, g1, q4, cellsOf_entry, splice4', cutL4_0, k1, no, undef, PanAny_QD] | refine OrW.go ?_
            intro _ _; exact ⟨rfl, hOm.mx _⟩
          | true =>
            rw [hnb] at k1 hoa
            by_cases g2 : (i : Int) = 0
            · have hi2 : i = 0 := by omega
              rw [decide_eq_true hi2] at hoa
              have g3 : decide ((i : Int) = 0) = true := decide_eq_true g2
              repeat first | simp -implicitDefEqProofs (disch := first | omega | with_reducible assumption | (simp only [qU, qC]; omega)) only [qT, qA, reduceCtorEq, qB, qC, qD, qE, qF, qG, qH, qI, qJ, qK, qL, reduceIte, F59_l0, t1, t50, t51, t52, g1, g3, q4, cellsOf_entry, splice4', cutL4_0, k1, yes, undef] | refine OrW.go ?_
              rw [LoopK_normal]; refine ⟨_, ?_, i + 1, mx M [.cells [.string ⟨es[i].n.toArray⟩, .int .u8 es[i].t.k, .string ⟨es[i].t.d.toArray⟩, .slice a' es[i].t.es.length cap'] 48 true .exact], rfl, rfl, ?qm, ?q1, ?q50, ?q51, ?q52, ?_⟩
              case qm | q1 | q50 | q51 | q52 => first | rfl | (simp -implicitDefEqProofs (disch := first | omega | with_reducible assumption | (simp only [qU, qC]; omega)) only [qT, qA, reduceCtorEq, qB, qC, qD, qE, qF, qG, qH, qI, qJ, qK, qL, reduceIte, t1, t50, t51, t52, Int.natCast_add, mx_mx, List.append_nil]; first | done | rfl | (congr 1; omega))
              · omega
              · refine ⟨by omega, hO.mx _, fun j hj => ?_⟩
                by_cases e : j = i
                · subst e; exact hoa
                · exact hall j (by omega)
            · have hi2 : ¬ i = 0 := by omega
              rw [decide_eq_false hi2] at hoa
              have hi3 : i - 1 < es.length := by omega
              obtain ⟨b2, o2, a2', cap2', e2, hbb2, hE2', r4, r3, r0⟩ := (hE.old hOm).get hi3
              cases e2
              have e3 : es.getD (i - 1) default = es[i - 1] := by simp [List.getD, hi3]
              rw [e3] at hoa
              have e4 : (i : Int) - 1 = ((i - 1 : Nat) : Int) := by omega
              have e5 := sgtr_lt es[i].n es[i - 1].n
              cases hlt : ltB es[i - 1].n es[i].n with
              | true =>
                rw [hlt] at hoa e5
                repeat first | simp -implicitDefEqProofs (disch := first | omega | with_reducible assumption | (simp only [qU, qC]; omega)) only [qT, qA, reduceCtorEq, qB, qC, qD, qE, qF, qG, qH, qI, qJ, qK, qL, reduceIte, F59_l0, t1, t50, t51, t52, g1, g2, e4, q4, r0, cellsOf_entry, splice4', cutL4_0, cutL3_2, hbx, k1, yes, binV_sgtr, e5] | refine OrW.go ?_
                rw [LoopK_normal]; refine ⟨_, ?_, i + 1, mx M [.cells [.string ⟨es[i].n.toArray⟩, .int .u8 es[i].t.k, .string ⟨es[i].t.d.toArray⟩, .slice a' es[i].t.es.length cap'] 48 true .exact], rfl, rfl, ?qm, ?q1, ?q50, ?q51, ?q52, ?_⟩
                case qm | q1 | q50 | q51 | q52 => first | rfl | (simp -implicitDefEqProofs (disch := first | omega | with_reducible assumption | (simp only [qU, qC]; omega)) only [qT, qA, reduceCtorEq, qB, qC, qD, qE, qF, qG, qH, qI, qJ, qK, qL, reduceIte, t1, t50, t51, t52, Int.natCast_add, mx_mx, List.append_nil]; first | done | rfl | (congr 1; omega))
                · omega
                · refine ⟨by omega, hO.mx _, fun j hj => ?_⟩
                  by_cases e : j = i
                  · subst e; exact hoa
                  · exact hall j (by omega)
              | false =>
                rw [hlt] at hoa e5
                have hf := ordE_bad hi (by rw [hoa]; rfl)
                rw [hf]
                repeat first | simp -implicitDefEqProofs (disch := first | omega | with_reducible assumption | (simp only [qU, qC]; omega)) only [qT, qA, reduceCtorEq, qB, qC, qD, qE, qF, qG, qH, qI, qJ, qK, qL, reduceIte, F59_l0, t1, t50, t51, t52, g1, g2, e4, q4, r0, cellsOf_entry, splice4', cutL4_0, cutL3_2, hbx, k1, no, binV_sgtr, e5, PanAny_QD] | refine OrW.go ?_
                intro _ _; exact ⟨rfl, hOm.mx _⟩
        · rw [ordE_all fun j hj => hall j (by omega)]
          repeat first | simp -implicitDefEqProofs (disch := first | omega | with_reducible assumption | (simp only [qU, qC]; omega)) only [qT, qA, reduceCtorEq, qB, qC, qD, qE, qF, qG, qH, qI, qJ, qK, qL, reduceIte, F59_l0, t1, t50, t51, t52, g1] | refine OrW.go ?_
          exact ⟨rfl, hOm.mx _⟩
    · have e0 : strEq ⟨d.toArray⟩ ⟨#[]⟩ = false := by rw [show strEq ⟨d.toArray⟩ ⟨#[]⟩ = decide (d = []) from strEq_mk d []]; exact decide_eq_false hd
      have hcb : checkB k d es = false := by simp [checkB, h4, hd]
      rw [hcb]
      refine purE_of_W (fn := Tryd.f59) rfl rfl F59_ok (by simp [F59]) (okE_plain _) ?_
      subst h4
      repeat first | simp -implicitDefEqProofs (disch := first | omega | with_reducible assumption | (simp only [qU, qC]; omega)) only [qT, qA, reduceCtorEq, qB, qC, qD, qE, qF, qG, qH, qI, qJ, qK, qL, reduceIte, F59, cellsOf_node, cutL3_0, cutL3_1, cutL3_2, e0, yes, no, undef] | refine OrW.go ?_
      rfl
  · by_cases he : (es.length : Int) = 0
    case neg =>
      have hcb : checkB k d es = false := by
        have : es.isEmpty = false := by cases es with | nil => simp at he | cons => rfl
        simp [checkB, h4, this]
      rw [hcb]
      refine purE_of_W (fn := Tryd.f59) rfl rfl F59_ok (by simp [F59]) (okE_plain _) ?_
      repeat first | simp -implicitDefEqProofs (disch := first | omega | with_reducible assumption | (simp only [qU, qC]; omega)) only [qT, qA, reduceCtorEq, qB, qC, qD, qE, qF, qG, qH, qI, qJ, qK, qL, reduceIte, F59, cellsOf_node, cutL3_0, cutL3_2, h4, he, no] | refine OrW.go ?_
      rfl
    have hes : es.isEmpty = true := by
      have : es = [] := List.length_eq_zero_iff.1 (by omega)
      subst this; rfl
    by_cases h1 : k = 1
    · have hcb : checkB k d es = decide (d.length ≤ 65536) := by simp [checkB, h1, hes]
      rw [hcb]
      by_cases hl : (d.length : Int) ≤ 65536
      · rw [decide_eq_true (by omega)]
        refine purE_of_W (fn := Tryd.f59) rfl rfl F59_ok (by simp [F59]) (okE_plain _) ?_
        subst h1
        repeat first | simp -implicitDefEqProofs (disch := first | omega | with_reducible assumption | (simp only [qU, qC]; omega)) only [qT, qA, reduceCtorEq, qB, qC, qD, qE, qF, qG, qH, qI, qJ, qK, qL, reduceIte, F59, cellsOf_node, cutL3_0, cutL3_1, cutL3_2, he, yes, hl] | refine OrW.go ?_
        rfl
      · rw [decide_eq_false (by omega)]
        refine purE_of_W (fn := Tryd.f59) rfl rfl F59_ok (by simp [F59]) (okE_plain _) ?_
        subst h1
        repeat first | simp -implicitDefEqProofs (disch := first | omega | with_reducible assumption | (simp only [qU, qC]; omega)) only [qT, qA, reduceCtorEq, qB, qC, qD, qE, qF, qG, qH, qI, qJ, qK, qL, reduceIte, F59, cellsOf_node, cutL3_0, cutL3_1, cutL3_2, he, yes, no, hl] | refine OrW.go ?_
        rfl
    · by_cases h2 : k = 2
      · have hcb : checkB k d es = decide (d.length ≤ 65536) := by simp [checkB, h2, hes]
        rw [hcb]
        by_cases hl : (d.length : Int) ≤ 65536
        · rw [decide_eq_true (by omega)]
          refine purE_of_W (fn := Tryd.f59) rfl rfl F59_ok (by simp [F59]) (okE_plain _) ?_
          subst h2
          repeat first | simp -implicitDefEqProofs (disch := first | omega | with_reducible assumption | (simp only [qU, qC]; omega)) only [qT, qA, reduceCtorEq, qB, qC, qD, qE, qF, qG, qH, qI, qJ, qK, qL, reduceIte, F59, cellsOf_node, cutL3_0, cutL3_1, cutL3_2, he, yes, hl] | refine OrW.go ?_
          rfl
        · rw [decide_eq_false (by omega)]
          refine purE_of_W (fn := Tryd.f59) rfl rfl F59_ok (by simp [F59]) (okE_plain _) ?_
          subst h2
          repeat first | simp -implicitDefEqProofs (disch := first | omega | with_reducible assumption | (simp only [qU, qC]; omega)) only [qT, qA, reduceCtorEq, qB, qC, qD, qE, qF, qG, qH, qI, qJ, qK, qL, reduceIte, F59, cellsOf_node, cutL3_0, cutL3_1, cutL3_2, he, yes, no, hl] | refine OrW.go ?_
          rfl
      · by_cases h3 : k = 3
        · have hcb : checkB k d es = (!decide (d = []) && decide (d.length ≤ 255) && !decide (0 ∈ d)) := by simp [checkB, h3, hes]
          rw [hcb]
          have e0 : strEq ⟨d.toArray⟩ ⟨#[]⟩ = decide (d = []) := strEq_mk d []
          by_cases hd : d = []
          · rw [decide_eq_true hd] at e0 ⊢
            refine purE_of_W (fn := Tryd.f59) rfl rfl F59_ok (by simp [F59]) (okE_plain _) ?_
            subst h3
            repeat first | simp -implicitDefEqProofs (disch := first | omega | with_reducible assumption | (simp only [qU, qC]; omega)) only [qT, qA, reduceCtorEq, qB, qC, qD, qE, qF, qG, qH, qI, qJ, qK, qL, reduceIte, F59, cellsOf_node, cutL3_0, cutL3_1, cutL3_2, he, yes, no, e0, undef] | refine OrW.go ?_
            rfl
          · rw [decide_eq_false hd] at e0 ⊢
            by_cases hl : (d.length : Int) ≤ 255
            · rw [decide_eq_true (show d.length ≤ 255 by omega)]
              have kI := fun M => DetC.known (indexByte_ok M ⟨d.toArray⟩ 0)
              have u0 : ((UInt8.toNat 0 : Nat) : Int) = 0 := rfl
              rw [u0] at kI
              by_cases hz : (0 : UInt8) ∈ d
              · have hge : ¬ firstIdx ⟨d.toArray⟩ 0 < 0 := fun h => (firstIdx_neg d 0).1 h hz
                rw [decide_eq_true hz]
                refine purE_of_W (fn := Tryd.f59) rfl rfl F59_ok (by simp [F59]) (okE_plain _) ?_
                subst h3
                repeat first | simp -implicitDefEqProofs (disch := first | omega | with_reducible assumption | (simp only [qU, qC]; omega)) only [qT, qA, reduceCtorEq, qB, qC, qD, qE, qF, qG, qH, qI, qJ, qK, qL, reduceIte, F59, cellsOf_node, cutL3_0, cutL3_1, cutL3_2, he, yes, no, e0, hl, kI, hge] | refine OrW.go ?_
                rfl
              · have hge : firstIdx ⟨d.toArray⟩ 0 < 0 := (firstIdx_neg d 0).2 hz
                rw [decide_eq_false hz]
                refine purE_of_W (fn := Tryd.f59) rfl rfl F59_ok (by simp [F59]) (okE_plain _) ?_
                subst h3
                repeat first | simp -implicitDefEqProofs (disch := first | omega | with_reducible assumption | (simp only [qU, qC]; omega)) only [qT, qA, reduceCtorEq, qB, qC, qD, qE, qF, qG, qH, qI, qJ, qK, qL, reduceIte, F59, cellsOf_node, cutL3_0, cutL3_1, cutL3_2, he, yes, no, e0, hl, kI, hge] | refine OrW.go ?_
                rfl
            · rw [decide_eq_false (show ¬ d.length ≤ 255 by omega)]
              refine purE_of_W (fn := Tryd.f59) rfl rfl F59_ok (by simp [F59]) (okE_plain _) ?_
              subst h3
              repeat first | simp -implicitDefEqProofs (disch := first | omega | with_reducible assumption | (simp only [qU, qC]; omega)) only [qT, qA, reduceCtorEq, qB, qC, qD, qE, qF, qG, qH, qI, qJ, qK, qL, reduceIte, F59, cellsOf_node, cutL3_0, cutL3_1, cutL3_2, he, yes, no, e0, hl, undef] | refine OrW.go ?_
              rfl
        · have hcb : checkB k d es = false := by simp [checkB, h1, h2, h3, h4]
          rw [hcb]
          refine purE_of_W (fn := Tryd.f59) rfl rfl F59_ok (by simp [F59]) (okE_plain _) ?_
          repeat first | simp -implicitDefEqProofs (disch := first | omega | with_reducible assumption | (simp only [qU, qC]; omega)) only [qT, qA, reduceCtorEq, qB, qC, qD, qE, qF, qG, qH, qI, qJ, qK, qL, reduceIte, F59, cellsOf_node, cutL3_0, cutL3_1, cutL3_2, he, yes, no, h1, h2, h3, h4, undef] | refine OrW.go ?_
          rfl
end Go.Proofs.YtfjgpeoblnpelaaDoor
namespace Go.Proofs.YtfjgpeoblnpelaaDoor
open Go Go.AM
set_option linter.unusedVariables false
set_option linter.unusedSimpArgs false
set_option maxRecDepth 100000
set_option maxHeartbeats 2000000

mutual
def mayT : Tr → Bool
  | .nd k d es => checkB k d es && mayL es
def mayL : List En → Bool
  | [] => true
  | e :: r => mayE e && mayL r
def mayE : En → Bool
  | .mk _ t => mayT t
end
theorem mayE_t (e : En) : mayE e = mayT e.t := by cases e; unfold mayE; rfl
theorem mayT_nd (k : Int) (d : List UInt8) (es : List En) : mayT (.nd k d es) = (checkB k d es && mayL es) := by unfold mayT; rfl
theorem mayL_all : ∀ (es : List En), mayL es = es.all fun e => mayT e.t
  | [] => rfl
  | e :: r => by unfold mayL; rw [mayE_t, mayL_all r]; rfl
theorem mayL_iff (es : List En) : mayL es = true ↔ ∀ i (h : i < es.length), mayT es[i].t = true := by
  rw [mayL_all, List.all_eq_true]
  constructor
  · intro h i hi; exact h _ (List.getElem_mem hi)
  · intro h e he; obtain ⟨i, hi, rfl⟩ := List.mem_iff_getElem.1 he; exact h i hi
theorem mayT_pre (t : Tr) : ∀ n, mayT t = (t.pre n).all fun p => checkB p.2.k p.2.d p.2.es := by
  induction t using Tr.ind with
  | h k d es ih =>
    intro n
    rw [Tr.pre_nd, mayT_nd, List.all_cons]
    congr 1
    have key : ∀ (l : List En), (∀ e ∈ l, ∀ n, mayT e.t = (e.t.pre n).all fun p => checkB p.2.k p.2.d p.2.es) → ∀ n, mayL l = (preL l n).all fun p => checkB p.2.k p.2.d p.2.es := by
      intro l
      induction l with
      | nil => intro _ n; rfl
      | cons e r ihr =>
        intro hl n
        unfold mayL preL
        rw [mayE_t, En.pre_t, List.all_append, ← ihr (fun x hx => hl x (by simp [hx])) n, ← hl e (by simp) n]
    exact key es ih _
def rightT (t : Tr) : Bool := decide (t.count ≤ 4096) && decide (t.depth ≤ 32) && mayT t
theorem weight_get {es : List En} {i : Nat} (h : i < es.length) : es[i].n.length + es[i].t.weight ≤ weightL es := by
  have h1 := weightL_succ h
  have h2 := weightL_le es (i + 1)
  omega
theorem weightL_len (es : List En) : es.length ≤ weightL es := by
  induction es with
  | nil => simp [weightL]
  | cons e r ih =>
    have : 1 ≤ e.t.weight := Nat.le_trans e.t.count_pos e.t.count_le
    simp only [weightL, List.length_cons, En.weight_t]; omega
theorem noZero {d : List UInt8} {i : Nat} (h : ∀ j (hj : j < d.length), j < i → d[j] ≠ 0) (hi : i = d.length) : (0 : UInt8) ∉ d := by
  intro hm
  obtain ⟨j, hj, e⟩ := List.getElem_of_mem hm
  exact h j hj (by omega) e
theorem refMay_ok (t : Tr) : ∀ (m : AMem) (c : List Value), TrC m t c → t.weight ≤ 1000000 → PureC Tryd.prog 3 42 [.agg c.toArray] m (.bool (mayT t)) := by
  induction t using Tr.ind2 with
  | h k d es ih =>
    intro m c hc hn
    have hlen := weightL_len es
    simp only [Tr.weight] at hn
    obtain ⟨a, cap, rfl, hE⟩ := trC_nd hc
    have he0 : es.isEmpty = decide ((es.length : Int) = 0) := by
      cases es with
      | nil => rfl
      | cons e r => rw [decide_eq_false (by simp only [List.length_cons]; omega)]; rfl
    have mayE0 : ∀ h : (es.length : Int) = 0, mayL es = true := fun h => by
      have : es = [] := List.length_eq_zero_iff.1 (by omega)
      subst this; rfl
    by_cases h12 : k = 1 ∨ k = 2
    · have hk4 : k ≠ 4 := by omega
      have hv : mayT (.nd k d es) = (decide (d.length ≤ 65536) && decide ((es.length : Int) = 0)) := by
        rw [mayT_nd, checkB, if_pos h12, decide_eq_false hk4, Bool.false_or, he0]
        by_cases h : (es.length : Int) = 0
        · rw [mayE0 h, decide_eq_true h]; simp
        · rw [decide_eq_false h]; simp
      rw [hv]
      have hd : decide (d.length ≤ 65536) = decide ((d.length : Int) ≤ 65536) := by
        congr 1; exact propext ⟨fun h => by omega, fun h => by omega⟩
      rw [hd]
      rcases h12 with h1 | h1
      · by_cases hl : (d.length : Int) ≤ 65536
        · rw [decide_eq_true hl]
          refine pure_of_W (fn := Tryd.f42) rfl rfl F42_ok (by simp [F42]) (.bool _) ?_
          subst h1
          repeat first | simp -implicitDefEqProofs (disch := first | omega | with_reducible assumption | (simp only [qU, qC]; omega)) only [qT, qA, reduceCtorEq, qB, qC, qD, qE, qF, qG, qH, qI, qJ, qK, qL, reduceIte, F42, cellsOf_node, cutL3_0, cutL3_1, cutL3_2, hl] | refine OrW.go ?_
        · rw [decide_eq_false hl]
          refine pure_of_W (fn := Tryd.f42) rfl rfl F42_ok (by simp [F42]) (.bool _) ?_
          subst h1
          repeat first | simp -implicitDefEqProofs (disch := first | omega | with_reducible assumption | (simp only [qU, qC]; omega)) only [qT, qA, reduceCtorEq, qB, qC, qD, qE, qF, qG, qH, qI, qJ, qK, qL, reduceIte, F42, cellsOf_node, cutL3_0, cutL3_1, cutL3_2, hl, undef] | refine OrW.go ?_
      · by_cases hl : (d.length : Int) ≤ 65536
        · rw [decide_eq_true hl]
          refine pure_of_W (fn := Tryd.f42) rfl rfl F42_ok (by simp [F42]) (.bool _) ?_
          subst h1
          repeat first | simp -implicitDefEqProofs (disch := first | omega | with_reducible assumption | (simp only [qU, qC]; omega)) only [qT, qA, reduceCtorEq, qB, qC, qD, qE, qF, qG, qH, qI, qJ, qK, qL, reduceIte, F42, cellsOf_node, cutL3_0, cutL3_1, cutL3_2, hl] | refine OrW.go ?_
        · rw [decide_eq_false hl]
          refine pure_of_W (fn := Tryd.f42) rfl rfl F42_ok (by simp [F42]) (.bool _) ?_
          subst h1
          repeat first | simp -implicitDefEqProofs (disch := first | omega | with_reducible assumption | (simp only [qU, qC]; omega)) only [qT, qA, reduceCtorEq, qB, qC, qD, qE, qF, qG, qH, qI, qJ, qK, qL, reduceIte, F42, cellsOf_node, cutL3_0, cutL3_1, cutL3_2, hl, undef] | refine OrW.go ?_
    · by_cases h3 : k = 3
      · have hk4 : k ≠ 4 := by omega
        have hv : mayT (.nd k d es) = (!decide (0 ∈ d) && (decide (1 ≤ (d.length : Int)) && decide ((d.length : Int) ≤ 255) && decide ((es.length : Int) = 0))) := by
          rw [mayT_nd, checkB, if_neg h12, if_pos h3, decide_eq_false hk4, Bool.false_or, he0]
          have e1 : (!decide (d = [])) = decide (1 ≤ (d.length : Int)) := by
            cases d with
            | nil => rfl
            | cons x r =>
              have h : (1 : Int) ≤ ((x :: r).length : Int) := by simp only [List.length_cons]; omega
              rw [decide_eq_true h, decide_eq_false (by simp)]; rfl
          have e2 : decide (d.length ≤ 255) = decide ((d.length : Int) ≤ 255) := by
            congr 1; exact propext ⟨fun h => by omega, fun h => by omega⟩
          rw [e1, e2]
          by_cases h : (es.length : Int) = 0
          · rw [mayE0 h, decide_eq_true h]; simp [Bool.and_comm]
          · rw [decide_eq_false h]; simp
        rw [hv]
        subst h3
        by_cases hz : ∃ j, ∃ hj : j < d.length, j < 256 ∧ d[j] = 0
        · obtain ⟨j, hj, hj2, hj3⟩ := hz
          have hmem : (0 : UInt8) ∈ d := by rw [← hj3]; exact List.getElem_mem hj
          rw [decide_eq_true hmem]
          refine pure_of_W (fn := Tryd.f42) rfl rfl F42_ok (by simp [F42]) (.bool _) ?_
          repeat first | simp -implicitDefEqProofs (disch := first | omega | with_reducible assumption | (simp only [qU, qC]; omega)) only [qT, qA, reduceCtorEq, qB, qC, qD, qE, qF, qG, qH, qI, qJ, qK, qL, reduceIte, F42, cellsOf_node, cutL3_0, cutL3_1, cutL3_2] | refine OrW.go ?_
          refine W_loop (fun N qs => ∃ (i : Nat), N = d.length - i ∧ qs.ds = [] ∧ qs.m = mx m [.cells [.int .u8 3, .string ⟨d.toArray⟩, .slice a es.length cap] 26 true .exact] ∧ qs.t 1 = .pointer (some ⟨m.size, 0, none⟩) ∧ qs.t 3 = .int .i64 i ∧ i ≤ j) (d.length - (0)) ⟨0, rfl, rfl, ?qm, ?q1, ?q3, ?_⟩ ?_
          case qm | q1 | q3 => first | rfl | (simp -implicitDefEqProofs (disch := first | omega | with_reducible assumption | (simp only [qU, qC]; omega)) only [qT, qA, reduceCtorEq, qB, qC, qD, qE, qF, qG, qH, qI, qJ, qK, qL, reduceIte]; first | done | rfl | (congr 1; omega))
          · exact Nat.zero_le _
          · rintro N t m1 ds ⟨i, rfl, hds, hm, t1, t3, hp⟩
            simp only at hds hm t1 t3
            subst hds; replace hm := hm.symm; subst hm
            have g1 : (i : Int) < (d.length : Int) := by omega
            have g2 : (i : Int) < 256 := by omega
            have hi : i < d.length := by omega
            by_cases g3 : d[i] = 0
            · have g4 : (d[i].toNat : Int) = 0 := by rw [g3]; rfl
              repeat first | simp -implicitDefEqProofs (disch := first | omega | with_reducible assumption | (simp only [qU, qC]; omega)) only [qT, qA, reduceCtorEq, qB, qC, qD, qE, qF, qG, qH, qI, qJ, qK, qL, reduceIte, F42_l0, t1, t3, g1, g2, g4, cutL3_1] | refine OrW.go ?_
            · have g4 : ¬ (d[i].toNat : Int) = 0 := fun h => g3 (UInt8.toNat_inj.1 (by simpa using h))
              repeat first | simp -implicitDefEqProofs (disch := first | omega | with_reducible assumption | (simp only [qU, qC]; omega)) only [qT, qA, reduceCtorEq, qB, qC, qD, qE, qF, qG, qH, qI, qJ, qK, qL, reduceIte, F42_l0, t1, t3, g1, g2, g4, cutL3_1] | refine OrW.go ?_
              rw [LoopK_normal]; refine ⟨_, ?_, i + 1, rfl, rfl, ?qm, ?q1, ?q3, ?_⟩
              case qm | q1 | q3 => first | rfl | (simp -implicitDefEqProofs (disch := first | omega | with_reducible assumption | (simp only [qU, qC]; omega)) only [qT, qA, reduceCtorEq, qB, qC, qD, qE, qF, qG, qH, qI, qJ, qK, qL, reduceIte, t1, t3, Int.natCast_add]; first | done | rfl | (congr 1; omega))
              · omega
              · by_cases e : i = j
                · subst e; exact absurd hj3 g3
                · omega
        · have hnz : ∀ j (hj : j < d.length), j < 256 → d[j] ≠ 0 := fun j hj h2 e => hz ⟨j, hj, h2, e⟩
          have key : ∀ (u : Bool), u = (!decide (0 ∈ d) && (decide (1 ≤ (d.length : Int)) && decide ((d.length : Int) ≤ 255) && decide ((es.length : Int) = 0))) ↔ u = (decide (1 ≤ (d.length : Int)) && decide ((d.length : Int) ≤ 255) && decide ((es.length : Int) = 0)) := by
            intro u
            by_cases hl : (d.length : Int) ≤ 255
            · have : (0 : UInt8) ∉ d := noZero (i := d.length) (fun j hj h2 => hnz j hj (by omega)) rfl
              rw [decide_eq_false this]; simp
            · rw [decide_eq_false hl]; simp
          rw [(key _).1 rfl]
          by_cases g5 : 1 ≤ (d.length : Int)
          · by_cases g6 : (d.length : Int) ≤ 255
            · rw [decide_eq_true g5, decide_eq_true g6]
              refine pure_of_W (fn := Tryd.f42) rfl rfl F42_ok (by simp [F42]) (.bool _) ?_
              repeat first | simp -implicitDefEqProofs (disch := first | omega | with_reducible assumption | (simp only [qU, qC]; omega)) only [qT, qA, reduceCtorEq, qB, qC, qD, qE, qF, qG, qH, qI, qJ, qK, qL, reduceIte, F42, cellsOf_node, cutL3_0, cutL3_1, cutL3_2] | refine OrW.go ?_
              refine W_loop (fun N qs => ∃ (i : Nat), N = d.length - i ∧ qs.ds = [] ∧ qs.m = mx m [.cells [.int .u8 3, .string ⟨d.toArray⟩, .slice a es.length cap] 26 true .exact] ∧ qs.t 1 = .pointer (some ⟨m.size, 0, none⟩) ∧ qs.t 3 = .int .i64 i ∧ i ≤ d.length) (d.length - (0)) ⟨0, rfl, rfl, ?qm, ?q1, ?q3, ?_⟩ ?_
              case qm | q1 | q3 => first | rfl | (simp -implicitDefEqProofs (disch := first | omega | with_reducible assumption | (simp only [qU, qC]; omega)) only [qT, qA, reduceCtorEq, qB, qC, qD, qE, qF, qG, qH, qI, qJ, qK, qL, reduceIte]; first | done | rfl | (congr 1; omega))
              · exact Nat.zero_le _
              · rintro N t m1 ds ⟨i, rfl, hds, hm, t1, t3, hp⟩
                simp only at hds hm t1 t3
                subst hds; replace hm := hm.symm; subst hm
                by_cases g1 : (i : Int) < (d.length : Int)
                · have hi : i < d.length := by omega
                  have g2 : (i : Int) < 256 := by omega
                  have g4 : ¬ (d[i].toNat : Int) = 0 := fun h => hnz i hi (by omega) (UInt8.toNat_inj.1 (by simpa using h))
                  repeat first | simp -implicitDefEqProofs (disch := first | omega | with_reducible assumption | (simp only [qU, qC]; omega)) only [qT, qA, reduceCtorEq, qB, qC, qD, qE, qF, qG, qH, qI, qJ, qK, qL, reduceIte, F42_l0, t1, t3, g1, g2, g4, cutL3_1] | refine OrW.go ?_
                  rw [LoopK_normal]; refine ⟨_, ?_, i + 1, rfl, rfl, ?qm, ?q1, ?q3, ?_⟩
                  case qm | q1 | q3 => first | rfl | (simp -implicitDefEqProofs (disch := first | omega | with_reducible assumption | (simp only [qU, qC]; omega)) only [qT, qA, reduceCtorEq, qB, qC, qD, qE, qF, qG, qH, qI, qJ, qK, qL, reduceIte, t1, t3, Int.natCast_add]; first | done | rfl | (congr 1; omega))
                  · omega
                  · omega
                · repeat first | simp -implicitDefEqProofs (disch := first | omega | with_reducible assumption | (simp only [qU, qC]; omega)) only [qT, qA, reduceCtorEq, qB, qC, qD, qE, qF, qG, qH, qI, qJ, qK, qL, reduceIte, F42_l0, t1, t3, g1, cutL3_1, cutL3_2, g5, g6, undef] | refine OrW.go ?_
            · rw [decide_eq_true g5, decide_eq_false g6]
              refine pure_of_W (fn := Tryd.f42) rfl rfl F42_ok (by simp [F42]) (.bool _) ?_
              repeat first | simp -implicitDefEqProofs (disch := first | omega | with_reducible assumption | (simp only [qU, qC]; omega)) only [qT, qA, reduceCtorEq, qB, qC, qD, qE, qF, qG, qH, qI, qJ, qK, qL, reduceIte, F42, cellsOf_node, cutL3_0, cutL3_1, cutL3_2] | refine OrW.go ?_
              refine W_loop (fun N qs => ∃ (i : Nat), N = d.length - i ∧ qs.ds = [] ∧ qs.m = mx m [.cells [.int .u8 3, .string ⟨d.toArray⟩, .slice a es.length cap] 26 true .exact] ∧ qs.t 1 = .pointer (some ⟨m.size, 0, none⟩) ∧ qs.t 3 = .int .i64 i ∧ i ≤ d.length) (d.length - (0)) ⟨0, rfl, rfl, ?qm, ?q1, ?q3, ?_⟩ ?_
              case qm | q1 | q3 => first | rfl | (simp -implicitDefEqProofs (disch := first | omega | with_reducible assumption | (simp only [qU, qC]; omega)) only [qT, qA, reduceCtorEq, qB, qC, qD, qE, qF, qG, qH, qI, qJ, qK, qL, reduceIte]; first | done | rfl | (congr 1; omega))
              · exact Nat.zero_le _
              · rintro N t m1 ds ⟨i, rfl, hds, hm, t1, t3, hp⟩
                simp only at hds hm t1 t3
                subst hds; replace hm := hm.symm; subst hm
                by_cases g1 : (i : Int) < (d.length : Int)
                · have hi : i < d.length := by omega
                  by_cases g2 : (i : Int) < 256
                  · have g4 : ¬ (d[i].toNat : Int) = 0 := fun h => hnz i hi (by omega) (UInt8.toNat_inj.1 (by simpa using h))
                    repeat first | simp -implicitDefEqProofs (disch := first | omega | with_reducible assumption | (simp only [qU, qC]; omega)) only [qT, qA, reduceCtorEq, qB, qC, qD, qE, qF, qG, qH, qI, qJ, qK, qL, reduceIte, F42_l0, t1, t3, g1, g2, g4, cutL3_1] | refine OrW.go ?_
                    rw [LoopK_normal]; refine ⟨_, ?_, i + 1, rfl, rfl, ?qm, ?q1, ?q3, ?_⟩
                    case qm | q1 | q3 => first | rfl | (simp -implicitDefEqProofs (disch := first | omega | with_reducible assumption | (simp only [qU, qC]; omega)) only [qT, qA, reduceCtorEq, qB, qC, qD, qE, qF, qG, qH, qI, qJ, qK, qL, reduceIte, t1, t3, Int.natCast_add]; first | done | rfl | (congr 1; omega))
                    · omega
                    · omega
                  · repeat first | simp -implicitDefEqProofs (disch := first | omega | with_reducible assumption | (simp only [qU, qC]; omega)) only [qT, qA, reduceCtorEq, qB, qC, qD, qE, qF, qG, qH, qI, qJ, qK, qL, reduceIte, F42_l0, t1, t3, g1, g2, cutL3_1, cutL3_2, g5, g6, undef] | refine OrW.go ?_
                · repeat first | simp -implicitDefEqProofs (disch := first | omega | with_reducible assumption | (simp only [qU, qC]; omega)) only [qT, qA, reduceCtorEq, qB, qC, qD, qE, qF, qG, qH, qI, qJ, qK, qL, reduceIte, F42_l0, t1, t3, g1, cutL3_1, cutL3_2, g5, g6, undef] | refine OrW.go ?_
          · rw [decide_eq_false g5]
            refine pure_of_W (fn := Tryd.f42) rfl rfl F42_ok (by simp [F42]) (.bool _) ?_
            repeat first | simp -implicitDefEqProofs (disch := first | omega | with_reducible assumption | (simp only [qU, qC]; omega)) only [qT, qA, reduceCtorEq, qB, qC, qD, qE, qF, qG, qH, qI, qJ, qK, qL, reduceIte, F42, cellsOf_node, cutL3_0, cutL3_1, cutL3_2] | refine OrW.go ?_
            refine W_loop (fun N qs => ∃ (i : Nat), N = d.length - i ∧ qs.ds = [] ∧ qs.m = mx m [.cells [.int .u8 3, .string ⟨d.toArray⟩, .slice a es.length cap] 26 true .exact] ∧ qs.t 1 = .pointer (some ⟨m.size, 0, none⟩) ∧ qs.t 3 = .int .i64 i ∧ i ≤ d.length) (d.length - (0)) ⟨0, rfl, rfl, ?qm, ?q1, ?q3, ?_⟩ ?_
            case qm | q1 | q3 => first | rfl | (simp -implicitDefEqProofs (disch := first | omega | with_reducible assumption | (simp only [qU, qC]; omega)) only [qT, qA, reduceCtorEq, qB, qC, qD, qE, qF, qG, qH, qI, qJ, qK, qL, reduceIte]; first | done | rfl | (congr 1; omega))
            · exact Nat.zero_le _
            · rintro N t m1 ds ⟨i, rfl, hds, hm, t1, t3, hp⟩
              simp only at hds hm t1 t3
              subst hds; replace hm := hm.symm; subst hm
              have g1 : ¬ (i : Int) < (d.length : Int) := by omega
              repeat first | simp -implicitDefEqProofs (disch := first | omega | with_reducible assumption | (simp only [qU, qC]; omega)) only [qT, qA, reduceCtorEq, qB, qC, qD, qE, qF, qG, qH, qI, qJ, qK, qL, reduceIte, F42_l0, t1, t3, g1, cutL3_1, cutL3_2, g5, undef] | refine OrW.go ?_
      · by_cases h4 : k = 4
        · have hv : mayT (.nd k d es) = (decide (d = []) && ordE es && mayL es) := by
            rw [mayT_nd, checkB, if_neg h12, if_neg h3, if_pos h4, decide_eq_true h4, Bool.true_or, Bool.true_and]
          rw [hv]
          refine pure_of_W (fn := Tryd.f42) rfl rfl F42_ok (by simp [F42]) (.bool _) ?_
          subst h4
          repeat first | simp -implicitDefEqProofs (disch := first | omega | with_reducible assumption | (simp only [qU, qC]; omega)) only [qT, qA, reduceCtorEq, qB, qC, qD, qE, qF, qG, qH, qI, qJ, qK, qL, reduceIte, F42, cellsOf_node, cutL3_0, cutL3_1, cutL3_2] | refine OrW.go ?_
          refine W_loop (fun N qs => ∃ (i : Nat), N = es.length - i ∧ qs.ds = [] ∧ qs.m = mx m [.cells [.int .u8 4, .string ⟨d.toArray⟩, .slice a es.length cap] 26 true .exact] ∧ qs.t 1 = .pointer (some ⟨m.size, 0, none⟩) ∧ qs.t 4 = .int .i64 i ∧ i ≤ es.length ∧ ∀ j (hj : j < es.length), j < i → ordAt es j = true ∧ mayT es[j].t = true) (es.length - (0)) ⟨0, rfl, rfl, ?qm, ?q1, ?q4, ?_⟩ ?_
          case qm | q1 | q4 => first | rfl | (simp -implicitDefEqProofs (disch := first | omega | with_reducible assumption | (simp only [qU, qC]; omega)) only [qT, qA, reduceCtorEq, qB, qC, qD, qE, qF, qG, qH, qI, qJ, qK, qL, reduceIte]; first | done | rfl | (congr 1; omega))
          · exact ⟨by omega, fun j _ hj => by omega⟩
          · rintro N t m1 ds ⟨i, rfl, hds, hm, t1, t4, hp⟩
            simp only at hds hm t1 t4
            subst hds; replace hm := hm.symm; subst hm
            obtain ⟨hi0, hall⟩ := hp
            by_cases g1 : (i : Int) < (es.length : Int)
            · have hi : i < es.length := by omega
              obtain ⟨b, o, a', cap', rfl, hbb, hE', q4, q3, q0⟩ := hE.get hi
              have hw := weight_get hi
              have k1 := fun M => DetC.known (refName_ok M es[i].n (by omega))
              have hoa := ordAt_eq hi
              have k2 := DetC.known (ih i hi (mx m [.cells [.int .u8 4, .string ⟨d.toArray⟩, .slice (some ⟨b, o, none⟩) es.length cap] 26 true .exact]) _ (TrC.of (hE'.old (Old.here m _))) (by omega))
              have bad : ordAt es i = false ∨ mayT es[i].t = false → (decide (d = []) && ordE es && mayL es) = false := by
                rintro (h | h)
                · rw [ordE_bad hi h]; simp
                · have : mayL es = false := by
                    rw [Bool.eq_false_iff]; intro ht
                    have := (mayL_iff es).1 ht i hi
                    rw [h] at this; cases this
                  rw [this]; simp
              cases hnb : nameB es[i].n with
              | false =>
                rw [hnb] at k1 hoa
                rw [bad (.inl (by rw [hoa]; rfl))]
                repeat first | simp -implicitDefEqProofs (disch := first | omega | with_reducible assumption | (simp only [qU, qC]; omega)) only [qT, qA, reduceCtorEq, qB, qC, qD, qE, qF, qG, qH, qI, qJ, qK, qL, reduceIte, F42_l1, t1, t4, g1, q0, cutL3_2, k1, undef] | refine OrW.go ?_
              | true =>
                rw [hnb] at k1 hoa
                by_cases g2 : i = 0
                · have g3 : ¬ (0 : Int) < (i : Int) := by omega
                  have g4 : ¬ (i : Int) > 0 := by omega
                  rw [decide_eq_true g2] at hoa
                  cases hm : mayT es[i].t with
                  | false =>
                    rw [bad (.inr hm)]
                    rw [hm] at k2
                    repeat first | simp -implicitDefEqProofs (disch := first | omega | with_reducible assumption | (simp only [qU, qC]; omega)) only [qT, qA, reduceCtorEq, qB, qC, qD, qE, qF, qG, qH, qI, qJ, qK, qL, reduceIte, F42_l1, t1, t4, g1, q0, q3, cutL3_2, k1, k2, g3, g4, undef] | refine OrW.go ?_
                  | true =>
                    rw [hm] at k2
                    repeat first | simp -implicitDefEqProofs (disch := first | omega | with_reducible assumption | (simp only [qU, qC]; omega)) only [qT, qA, reduceCtorEq, qB, qC, qD, qE, qF, qG, qH, qI, qJ, qK, qL, reduceIte, F42_l1, t1, t4, g1, q0, q3, cutL3_2, k1, k2, g3, g4, undef] | refine OrW.go ?_
                    rw [LoopK_normal]; refine ⟨_, ?_, i + 1, rfl, rfl, ?qm, ?q1, ?q4, ?_⟩
                    case qm | q1 | q4 => first | rfl | (simp -implicitDefEqProofs (disch := first | omega | with_reducible assumption | (simp only [qU, qC]; omega)) only [qT, qA, reduceCtorEq, qB, qC, qD, qE, qF, qG, qH, qI, qJ, qK, qL, reduceIte, t1, t4, Int.natCast_add]; first | done | rfl | (congr 1; omega))
                    · omega
                    · refine ⟨by omega, fun j hj hj2 => ?_⟩
                      by_cases e : j = i
                      · subst e; exact ⟨hoa, hm⟩
                      · exact hall j hj (by omega)
                · have g3 : (0 : Int) < (i : Int) := by omega
                  have g4 : (i : Int) > 0 := by omega
                  rw [decide_eq_false g2] at hoa
                  have hi3 : i - 1 < es.length := by omega
                  obtain ⟨b2, o2, a2', cap2', e2, hbb2, hE2', r4, r3, r0⟩ := hE.get hi3
                  cases e2
                  have e3 : es.getD (i - 1) default = es[i - 1] := by simp [List.getD, hi3]
                  rw [e3] at hoa
                  have e4 : (i : Int) - 1 = ((i - 1 : Nat) : Int) := by omega
                  have e5 := sleq_lt es[i].n es[i - 1].n
                  cases hlt : ltB es[i - 1].n es[i].n with
                  | false =>
                    rw [hlt] at hoa e5
                    rw [bad (.inl (by rw [hoa]; rfl))]
                    repeat first | simp -implicitDefEqProofs (disch := first | omega | with_reducible assumption | (simp only [qU, qC]; omega)) only [qT, qA, reduceCtorEq, qB, qC, qD, qE, qF, qG, qH, qI, qJ, qK, qL, reduceIte, F42_l1, t1, t4, g1, q0, q3, r0, e4, cutL3_2, k1, g3, g4, binV_sleq, e5, undef] | refine OrW.go ?_
                  | true =>
                    rw [hlt] at hoa e5
                    cases hm : mayT es[i].t with
                    | false =>
                      rw [bad (.inr hm)]
                      rw [hm] at k2
                      repeat first | simp -implicitDefEqProofs (disch := first | omega | with_reducible assumption | (simp only [qU, qC]; omega)) only [qT, qA, reduceCtorEq, qB, qC, qD, qE, qF, qG, qH, qI, qJ, qK, qL, reduceIte, F42_l1, t1, t4, g1, q0, q3, r0, e4, cutL3_2, k1, k2, g3, g4, binV_sleq, e5, undef] | refine OrW.go ?_
                    | true =>
                      rw [hm] at k2
                      repeat first | simp -implicitDefEqProofs (disch := first | omega | with_reducible assumption | (simp only [qU, qC]; omega)) only [qT, qA, reduceCtorEq, qB, qC, qD, qE, qF, qG, qH, qI, qJ, qK, qL, reduceIte, F42_l1, t1, t4, g1, q0, q3, r0, e4, cutL3_2, k1, k2, g3, g4, binV_sleq, e5, undef] | refine OrW.go ?_
                      rw [LoopK_normal]; refine ⟨_, ?_, i + 1, rfl, rfl, ?qm, ?q1, ?q4, ?_⟩
                      case qm | q1 | q4 => first | rfl | (simp -implicitDefEqProofs (disch := first | omega | with_reducible assumption | (simp only [qU, qC]; omega)) only [qT, qA, reduceCtorEq, qB, qC, qD, qE, qF, qG, qH, qI, qJ, qK, qL, reduceIte, t1, t4, Int.natCast_add]; first | done | rfl | (congr 1; omega))
                      · omega
                      · refine ⟨by omega, fun j hj hj2 => ?_⟩
                        by_cases e : j = i
                        · subst e; exact ⟨hoa, hm⟩
                        · exact hall j hj (by omega)
            · have h1 : ordE es = true := ordE_all fun j hj => (hall j hj (by omega)).1
              have h2 : mayL es = true := (mayL_iff es).2 fun j hj => (hall j hj (by omega)).2
              have e0 : strEq ⟨d.toArray⟩ ⟨#[]⟩ = decide (d = []) := strEq_mk d []
              rw [h1, h2, Bool.and_true, Bool.and_true]
              repeat first | simp -implicitDefEqProofs (disch := first | omega | with_reducible assumption | (simp only [qU, qC]; omega)) only [qT, qA, reduceCtorEq, qB, qC, qD, qE, qF, qG, qH, qI, qJ, qK, qL, reduceIte, F42_l1, t1, t4, g1, cutL3_1, cutL3_2, e0] | refine OrW.go ?_
        · have hv : mayT (.nd k d es) = false := by
            rw [mayT_nd, checkB, if_neg h12, if_neg h3, if_neg h4]; simp
          rw [hv]
          have h1 : k ≠ 1 := fun h => h12 (.inl h)
          have h2 : k ≠ 2 := fun h => h12 (.inr h)
          refine pure_of_W (fn := Tryd.f42) rfl rfl F42_ok (by simp [F42]) (.bool _) ?_
          repeat first | simp -implicitDefEqProofs (disch := first | omega | with_reducible assumption | (simp only [qU, qC]; omega)) only [qT, qA, reduceCtorEq, qB, qC, qD, qE, qF, qG, qH, qI, qJ, qK, qL, reduceIte, F42, cellsOf_node, cutL3_0, cutL3_1, cutL3_2, h1, h2, h3, h4] | refine OrW.go ?_
end Go.Proofs.YtfjgpeoblnpelaaDoor
namespace Go.Proofs.YtfjgpeoblnpelaaDoor
open Go Go.AM
set_option linter.unusedVariables false
set_option linter.unusedSimpArgs false
set_option maxRecDepth 100000
set_option maxHeartbeats 2000000

def okP (p : Nat × Tr) : Bool := decide (p.1 ≤ 32) && checkB p.2.k p.2.d p.2.es
def okN (D : List (Nat × Tr)) : Bool := decide (D.length ≤ 4096) && D.all okP
theorem maxD_le (D : List (Nat × Tr)) (n : Nat) : maxD D ≤ n ↔ ∀ p ∈ D, p.1 ≤ n := by
  induction D with
  | nil => simp [maxD]
  | cons p D ih =>
    have : maxD (p :: D) = max (maxD [p]) (maxD D) := maxD_app [p] D
    rw [this]
    have h1 : maxD [p] = p.1 := by simp [maxD]
    rw [h1, Nat.max_le, ih]; simp
theorem rightT_pre (t : Tr) : rightT t = okN (t.pre 0) := by
  have h1 := t.pre_len 0
  have h2 := maxD_pre t 0
  have h3 := mayT_pre t 0
  have h4 := maxD_le (t.pre 0) 32
  rw [h2, Nat.zero_add] at h4
  rw [rightT, okN, h1, h3, Bool.and_assoc]
  congr 1
  rw [Bool.eq_iff_iff]
  simp only [Bool.and_eq_true, decide_eq_true_eq, List.all_eq_true, okP, h4]
  exact ⟨fun h p hp => ⟨h.1 p hp, h.2 p hp⟩, fun h => ⟨fun p hp => (h p hp).1, fun p hp => (h p hp).2⟩⟩
theorem okN_app {D D' : List (Nat × Tr)} (h : okN (D ++ D') = true) : okN D = true := by
  simp only [okN, Bool.and_eq_true, decide_eq_true_eq, List.all_append, List.length_append] at h ⊢
  exact ⟨by omega, h.2.1⟩
theorem okN_snoc {D : List (Nat × Tr)} (h : okN D = true) (p : Nat × Tr) : okN (D ++ [p]) = (decide (D.length + 1 ≤ 4096) && okP p) := by
  simp only [okN, Bool.and_eq_true] at h
  rw [okN, List.length_append, List.all_append, h.2]; simp
theorem okN_nil : okN [] = true := rfl
theorem rightT_no {t : Tr} {D r : List (Nat × Tr)} (h : t.pre 0 = D ++ r) (hD : okN D = false) : rightT t = false := by
  rw [rightT_pre, Bool.eq_false_iff]
  intro ht
  rw [h] at ht
  rw [okN_app ht] at hD; cases hD

theorem tree_round (m : AMem) (t : Tmps) (t2 : t 2 = .pointer (some ⟨m.size + 1, 0, none⟩)) (rec : Loop) (n : Nat) (hn : n ≤ 4096) (d : Nat) (s : Tr) (c : List Value) (hc : TrC m s c) (hes : s.es.length ≤ 1000000000) (M : AMem) (hJ : NJ m (.int .i64 n) t rec M) :
    W Tryd.prog 3 F41_g0 (AssignK (m.size + 4) t rec fun s' => W Tryd.prog 3 F41_b0 (RoundK (m.size + 4) t rec fun r' M' => Keep (NO m) (mx M []) M' ∧
      ((r' = .ret (.bool true) ∧ (decide (n + 1 ≤ 4096) && okP (d, s)) = true ∧ M'.get (m.size + 1) = .cells [.int .i64 (n + 1 : Nat)] 3 true .exact ∧ M'.get (m.size + 4) = .loop .ready none t rec) ∨
       (r' = .pan (errC 30 70) ∧ (decide (n + 1 ≤ 4096) && okP (d, s)) = false))) s') ⟨roundT t [7, 8] [.int .i64 (d : Nat), .agg c.toArray], mx M [], []⟩ := by
  have hz := hJ.size
  have l5 : m.size + 4 < M.size := by omega
  have hm := hJ.mem
  have hc0 := hc
  obtain ⟨a, cap, rfl, hE⟩ := hc.ex
  simp -implicitDefEqProofs (disch := first | omega | with_reducible assumption | (simp only [qU, qC]; omega)) only [qT, qA, reduceCtorEq, qB, qC, qD, qE, qF, qG, qH, qI, qJ, qK, qL, reduceIte, F41_g0, roundT, List.zip_cons_cons, List.zip_nil_right, List.foldl_cons, List.foldl_nil, cellsOf_node, splice3]
  refine ⟨by rw [mx_old l5]; exact hJ.loop, ?_⟩
  simp only
  rw [mx_set_old l5]
  obtain ⟨e1, e2, e3, e4⟩ := hJ.busy
  generalize M.set (m.size + 4) (.loop .busy none t rec) = M1 at *
  have q1 : m.size + 1 < M1.size := by omega
  rw [← e3]
  have yes := fun M => DetC.known (need_yes M 70)
  have no := fun M => (need_no M 70).pan
  have en : (n : Int) + 1 = ((n + 1 : Nat) : Int) := by omega
  obtain ⟨k1, k2, k3, k4⟩ := hJ.endr e2 e3 e4 (.int .i64 (n + 1 : Nat)) [.cells [.int .u8 s.k, .string ⟨s.d.toArray⟩, .slice a s.es.length cap] 26 true .exact]
  have hk : Keep (NO m) (mx M []) (mx (M1.set (m.size + 1) (.cells [.int .i64 (n + 1 : Nat)] 3 true .exact)) [.cells [.int .u8 s.k, .string ⟨s.d.toArray⟩, .slice a s.es.length cap] 26 true .exact]) := by
    refine ⟨by rw [mx_nil_size, mx_size, AMem.size_set]; omega, fun x hx hno => ?_⟩
    rw [mx_nil_size] at hx
    have n1 : x ≠ m.size + 1 := fun e => hno (.inl e)
    have n2 : x ≠ m.size + 4 := fun e => hno (.inr e)
    rw [mx_old (by rw [AMem.size_set]; omega), AMem.get_set_ne _ _ n1, mx_old hx, e4 x n2]
  have hbx : (mx (M1.set (m.size + 1) (.cells [.int .i64 (n + 1 : Nat)] 3 true .exact)) [.cells [.int .u8 s.k, .string ⟨s.d.toArray⟩, .slice a s.es.length cap] 26 true .exact]).get M1.size = .cells [.int .u8 s.k, .string ⟨s.d.toArray⟩, .slice a s.es.length cap] 26 true .exact := mx_new0 (M1.set (m.size + 1) _) _
  by_cases g1 : (d : Int) ≤ 32
  · by_cases g2 : ((n + 1 : Nat) : Int) ≤ 4096
    · have hO2 : Old m (mx (M1.set (m.size + 1) (.cells [.int .i64 (n + 1 : Nat)] 3 true .exact)) [.cells [.int .u8 s.k, .string ⟨s.d.toArray⟩, .slice a s.es.length cap] 26 true .exact]) := by
        refine ⟨by rw [mx_size, AMem.size_set]; have := hm.1; omega, fun y hy => ?_⟩
        rw [mx_old (by rw [AMem.size_set]; omega), AMem.get_set_ne _ _ (by omega), e4 y (by omega)]
        exact hm.2 y hy
      have hc2 := hc0.old hO2
      have kc := check_ok _ s.k s.d s.es _ (show TrC _ (.nd s.k s.d s.es) _ by rw [Tr.eta]; exact hc2) hes
      cases hch : checkB s.k s.d s.es with
      | true =>
        have hok : (decide (n + 1 ≤ 4096) && okP (d, s)) = true := by
          rw [okP, hch, decide_eq_true (show d ≤ 32 by omega), decide_eq_true (show n + 1 ≤ 4096 by omega)]; rfl
        rw [hok]
        rw [hch] at kc
        have kc' := DetC.known (PurE.ret kc)
        repeat first | simp -implicitDefEqProofs (disch := first | omega | with_reducible assumption | (simp only [qU, qC]; omega)) only [qT, qA, reduceCtorEq, qB, qC, qD, qE, qF, qG, qH, qI, qJ, qK, qL, reduceIte, F41_b0, t2, e1, q1, g1, g2, en, yes, hbx, cutL3, kc'] | refine OrW.go ?_
        first | exact ⟨k1, k2, .inl ⟨rfl, k3, k4⟩⟩ | exact ⟨k1, k2, .inl ⟨k3, k4⟩⟩ | exact ⟨k1, k2, k3, k4⟩
      | false =>
        have hok : (decide (n + 1 ≤ 4096) && okP (d, s)) = false := by
          rw [okP, hch]; simp
        rw [hok]
        rw [hch] at kc
        have kc' := kc.pan
        repeat first | simp -implicitDefEqProofs (disch := first | omega | with_reducible assumption | (simp only [qU, qC]; omega)) only [qT, qA, reduceCtorEq, qB, qC, qD, qE, qF, qG, qH, qI, qJ, qK, qL, reduceIte, F41_b0, t2, e1, q1, g1, g2, en, yes, hbx, cutL3, kc'] | refine OrW.go ?_
        show _ ∧ _ ∧ _
        exact ⟨by first | rfl | trivial, hk, .inr (by first | rfl | trivial)⟩
    · have hok : (decide (n + 1 ≤ 4096) && okP (d, s)) = false := by
        rw [decide_eq_false (show ¬ n + 1 ≤ 4096 by omega)]; rfl
      rw [hok]
      repeat first | simp -implicitDefEqProofs (disch := first | omega | with_reducible assumption | (simp only [qU, qC]; omega)) only [qT, qA, reduceCtorEq, qB, qC, qD, qE, qF, qG, qH, qI, qJ, qK, qL, reduceIte, F41_b0, t2, e1, q1, g1, g2, en, no] | refine OrW.go ?_
      show _ ∧ _ ∧ _
      exact ⟨by first | rfl | trivial, hk, .inr (by first | rfl | trivial)⟩
  · have hok : (decide (n + 1 ≤ 4096) && okP (d, s)) = false := by
      rw [okP, decide_eq_false (show ¬ d ≤ 32 by omega)]; simp
    rw [hok]
    repeat first | simp -implicitDefEqProofs (disch := first | omega | with_reducible assumption | (simp only [qU, qC]; omega)) only [qT, qA, reduceCtorEq, qB, qC, qD, qE, qF, qG, qH, qI, qJ, qK, qL, reduceIte, F41_b0, t2, e1, q1, g1, en, no, undef] | refine OrW.go ?_
    show _ ∧ _ ∧ _
    exact ⟨by first | rfl | trivial, hk, .inr (by first | rfl | trivial)⟩
theorem pre_es {t : Tr} {D r : List (Nat × Tr)} {d : Nat} {s : Tr} (h : t.pre 0 = D ++ (d, s) :: r) : s.es.length ≤ t.count := by
  have key : ∀ (t : Tr) (n : Nat) (p : Nat × Tr), p ∈ t.pre n → p.2.count ≤ t.count := by
    intro t
    induction t using Tr.ind with
    | h k d es ih =>
      intro n p hp
      rw [Tr.pre_nd] at hp
      rcases List.mem_cons.1 hp with rfl | hp
      · exact Nat.le_refl _
      · have key : ∀ (l : List En), (∀ e ∈ l, ∀ (n : Nat) (p : Nat × Tr), p ∈ e.t.pre n → p.2.count ≤ e.t.count) → ∀ n, p ∈ preL l n → p.2.count ≤ countL l := by
          intro l
          induction l with
          | nil => intro _ n h; unfold preL at h; cases h
          | cons e r ihr =>
            intro hl n h
            unfold preL at h
            rw [En.pre_t] at h
            simp only [countL, En.count_t]
            rcases List.mem_append.1 h with h | h
            · have := hl e (by simp) n p h; omega
            · have := ihr (fun x hx => hl x (by simp [hx])) n h; omega
        have := key es ih _ hp
        simp only [Tr.count]; omega
  have h1 := key t 0 (d, s) (by rw [h]; simp)
  obtain ⟨k, d, es⟩ := s
  have := countL_len es
  simp only [Tr.count, Tr.es] at h1 ⊢
  omega
theorem W_round_mono {P : Program} {G l : Nat} {t : Tmps} {rec : Loop} {g b : ACode} {s0 : ASt} {K K' : AEnd → AMem → Prop} (hk : ∀ r m, K r m → K' r m) (h : W P G g (AssignK l t rec fun s' => W P G b (RoundK l t rec K) s') s0) :
    W P G g (AssignK l t rec fun s' => W P G b (RoundK l t rec K') s') s0 := by
  refine W_mono _ _ _ _ (fun e s' h => ?_) h
  cases e with
  | normal =>
    refine ⟨h.1, W_mono _ _ _ _ (fun e s'' h => ?_) h.2⟩
    cases e with
    | normal => exact ⟨h.1, hk _ _ h.2⟩
    | ret => exact ⟨h.1, hk _ _ h.2⟩
    | exit _ => exact ⟨h.1, hk _ _ h.2⟩
    | goto _ => exact ⟨h.1, hk _ _ h.2⟩
    | pan _ => exact ⟨h.1, hk _ _ h.2⟩
  | _ => exact h
theorem tree_loop {m : AMem} {tr : Tr} {c : List Value} (hc : TrC m tr c) (hn : tr.count ≤ 500000000) (t : Tmps) (t2 : t 2 = .pointer (some ⟨m.size + 1, 0, none⟩)) (t6 : t 6 = .func (.func 60) #[] #[.pointer (some ⟨m.size + 2, 0, none⟩)])
    {Q : AExit → ASt → Prop}
    (hdone : rightT tr = true → ∀ rec M, NJ m (.int .i64 (tr.count : Nat)) t rec M → Q .normal ⟨t, mx (M.set (m.size + 4) .dead) [], [⟨.collected (m.size + 3), #[]⟩]⟩)
    (hpan : rightT tr = false → ∀ M, m.size + 3 < M.size → M.get (m.size + 3) = .defd → Old m M → Q (.pan (errC 30 70)) ⟨t, mx M [], [⟨.collected (m.size + 3), #[]⟩]⟩) :
    W Tryd.prog 3 (.rangeF (.t 6) [7, 8] F41_g0 F41_b0) Q ⟨t, mx m [.cells c 26 true .exact, .cells [.int .i64 0] 3 true .exact, .cells c 26 true .exact], []⟩ := by
  refine W_rangeN (gf := 60) (captured := #[.pointer (some ⟨m.size + 2, 0, none⟩)]) (m0 := m) (tr := tr) t6 ⟨_, _, rfl, rfl, rfl⟩ rfl (nodes1_ok m tr c (m.size + 2) hc hn) (fun rec L M => ∃ D, tr.pre 0 = D ++ L ∧ okN D = true ∧ NJ m (.int .i64 (D.length : Nat)) t rec M)
    (fun _ c M => c = errC 30 70 ∧ rightT tr = false ∧ m.size + 3 < M.size ∧ M.get (m.size + 3) = .defd ∧ Old m M) (NO m) (m.size + 3) (m.size + 4)
    (by rw [mx_size]; rfl) rfl ?_ ?_ ?_ ?_ ?_ ?_ ?_ ?_ ?_
  · rintro rec L M M' ⟨D, h1, h2, h3⟩ ho; exact ⟨D, h1, h2, h3.st ho⟩
  · rintro _ _ M M' ⟨h1, h2, h3, h4, h5⟩ ho
    exact ⟨h1, h2, by have := ho.1; omega, by rw [ho.2 _ h3]; exact h4, h5.trans ho⟩
  · rintro rec L M ⟨D, h1, h2, h3⟩; exact h3.mem
  · rintro x (h | h) <;> omega
  · rintro rec L M ⟨D, h1, h2, h3⟩; exact ⟨by have := h3.size; omega, h3.loop⟩
  · intro rec
    refine ⟨⟨[], rfl, okN_nil, by rw [mx_size]; simp, fun y hy => mx_old hy, ?_, mx_new _ _ 3, mx_new _ _ 4⟩, by rw [mx_size]; simp, mx_new _ _ 2⟩
    exact mx_new _ _ 1
  · rintro rec d s r M c ⟨D, h1, hok, h2⟩ hcs
    have hz := h2.size
    have hDl : D.length ≤ 4096 := by simp only [okN, Bool.and_eq_true, decide_eq_true_eq] at hok; exact hok.1
    have hpe := pre_es h1
    refine W_round_mono ?_ (tree_round m t t2 rec D.length hDl d s c hcs (by omega) M h2)
    have key : ∀ r' M', (Keep (NO m) (mx M []) M' ∧
      ((r' = .ret (.bool true) ∧ (decide (D.length + 1 ≤ 4096) && okP (d, s)) = true ∧ M'.get (m.size + 1) = .cells [.int .i64 (D.length + 1 : Nat)] 3 true .exact ∧ M'.get (m.size + 4) = .loop .ready none t rec) ∨
       (r' = .pan (errC 30 70) ∧ (decide (D.length + 1 ≤ 4096) && okP (d, s)) = false))) →
          (Keep (NO m) (mx M []) M' ∧ ((r' = .ret (.bool true) ∧ ∃ D, tr.pre 0 = D ++ r ∧ okN D = true ∧ NJ m (.int .i64 (D.length : Nat)) t rec M') ∨ ∃ c, r' = AEnd.pan c ∧ c = errC 30 70 ∧ rightT tr = false ∧ m.size + 3 < M'.size ∧ M'.get (m.size + 3) = .defd ∧ Old m M')) := by
      rintro r' M' ⟨k1, ⟨k2, k3, k4, k5⟩ | ⟨k2, k3⟩⟩
      · refine ⟨k1, .inl ⟨k2, D ++ [(d, s)], by rw [h1]; simp, by rw [okN_snoc hok, k3], ?_⟩⟩
        rw [List.length_append, List.length_singleton]
        exact (h2.st (Old.here M [])).next k1 k4 k5
      · have hs := k1.1
        rw [mx_nil_size] at hs
        refine ⟨k1, .inr ⟨_, k2, rfl, ?_, by omega, ?_, by omega, fun y hy => ?_⟩⟩
        · exact rightT_no (D := D ++ [(d, s)]) (r := r) (by rw [h1]; simp) (by rw [okN_snoc hok, k3])
        · rw [k1.2 _ (by rw [mx_nil_size]; omega) (by unfold NO; omega), mx_old (by omega)]; exact h2.defd
        · rw [k1.2 _ (by rw [mx_nil_size]; omega) (by unfold NO; omega), mx_old (by omega)]; exact h2.old y hy
    exact key
  · rintro rec M ⟨D, h1, hok, h2⟩
    rw [List.append_nil] at h1
    have hr : rightT tr = true := by rw [rightT_pre, h1]; exact hok
    have : tr.count = D.length := by rw [← tr.pre_len 0, h1]
    rw [← this] at h2
    exact hdone hr rec M h2
  · rintro _ _ M ⟨rfl, h2, h3, h4, h5⟩
    exact hpan h2 M h3 h4 h5
theorem tree_ok (m : AMem) (t : Tr) (c : List Value) (hc : TrC m t c) (hn : t.count ≤ 500000000) : PurE Tryd.prog 3 41 [.agg c.toArray] m (okE (rightT t)) := by
  obtain ⟨a, cap, rfl, hE⟩ := hc.ex
  refine purE_of_WD (fn := Tryd.f41) rfl rfl F41_ok (by simp [F41]) (okE_plain _) ?_
  have kN := DetC.known (nodes_here hc (.int .i64 0))
  repeat first | simp -implicitDefEqProofs (disch := first | omega | with_reducible assumption | (simp only [qU, qC]; omega)) only [qT, qA, reduceCtorEq, qB, qC, qD, qE, qF, qG, qH, qI, qJ, qK, qL, reduceIte, F41, cellsOf_node, cutL3, kN] | refine OrW.go ?_
  refine tree_loop hc hn _ ?h2 ?h6 (fun hr rec M hJ => ?_) (fun hr M h3 h4 h5 => ?_)
  case h2 => simp -implicitDefEqProofs (disch := first | omega | with_reducible assumption | (simp only [qU, qC]; omega)) only [qT, qA, reduceCtorEq, qB, qC, qD, qE, qF, qG, qH, qI, qJ, qK, qL, reduceIte]
  case h6 => simp -implicitDefEqProofs (disch := first | omega | with_reducible assumption | (simp only [qU, qC]; omega)) only [qT, qA, reduceCtorEq, qB, qC, qD, qE, qF, qG, qH, qI, qJ, qK, qL, reduceIte]
  · rw [hr]
    obtain ⟨f1, f2, f3, f4, f5⟩ := hJ.fin
    refine ⟨mx ((M.set (m.size + 4) .dead).set (m.size + 3) .dead) [], ?_, ?_⟩
    · simp only [takeD]
      rw [mx_old f3, f4]
      simp only
      rw [mx_set_old f3]
    · simp only [resVs, packV]
      exact ⟨rfl, (f5.set (by omega) _).mx _⟩
  · rw [hr]
    refine ⟨mx (M.set (m.size + 3) .dead) [], ?_, ?_⟩
    · simp only [takeD]
      rw [mx_old h3, h4]
      simp only
      rw [mx_set_old h3]
    · exact ⟨rfl, (h5.set (by omega) _).mx _⟩
end Go.Proofs.YtfjgpeoblnpelaaDoor
namespace Go.Proofs.YtfjgpeoblnpelaaDoor
open Go Go.AM
set_option linter.unusedVariables false
set_option linter.unusedSimpArgs false
set_option maxRecDepth 100000
set_option maxHeartbeats 2000000

theorem right1_yes (m : AMem) (b bn : Nat) (t : Tr) (c : List Value) {w : Bool} {sp : Spare} (hbn : bn < m.size) (hmn : m.get bn = .cells c 26 w sp) (hc : TrC m t c) (hn : t.count ≤ 500000000) (hr : rightT t = true) :
    DetC Tryd.prog 3 38 [.pointer (some ⟨b, 0, none⟩), .pointer (some ⟨bn, 0, none⟩)] m (.tuple #[]) (mx m []) := by
  have k := tree_ok (mx m []) t c (hc.old (Old.here m [])) hn
  rw [hr] at k
  have k' := DetC.known (PurE.ret k)
  obtain ⟨a, cap, rfl, hE⟩ := hc.ex
  refine ACall.eqv (m1 := mx m []) (mx_nil_size m) (fun b hb => mx_old hb) (ACall_of_WX (fn := Tryd.f38) rfl rfl F38_ok (by simp [F38]) ?_)
  repeat first | simp -implicitDefEqProofs (disch := first | omega | with_reducible assumption | (simp only [qU, qC]; omega)) only [qT, qA, reduceCtorEq, qB, qC, qD, qE, qF, qG, qH, qI, qJ, qK, qL, reduceIte, F38, W_dfr, DfrK_v, DfrV_func, hmn, cutL3, k'] | refine OrW.go ?_
  refine RetKX_one (u := .ret) (.inl ⟨rfl, rfl⟩) ?_
  refine ACallD.mono (d39_no _ b) ?_
  rintro e u m' ⟨rfl, rfl, rfl⟩
  refine ⟨.ret, rfl, ?_⟩
  exact ⟨rfl, by first | rfl | rw [mx_mx]; rfl⟩
theorem right1_no (m : AMem) (b bn : Nat) (t : Tr) (c : List Value) {w : Bool} {sp sp2 : Spare} {v : Value} {T : TypeId} (hb : b < m.size) (hm : m.get b = .cells [v] T true sp2) (hbn : bn < m.size) (hmn : m.get bn = .cells c 26 w sp) (hc : TrC m t c) (hn : t.count ≤ 500000000) (hr : rightT t = false) :
    DetC Tryd.prog 3 38 [.pointer (some ⟨b, 0, none⟩), .pointer (some ⟨bn, 0, none⟩)] m (.tuple #[]) (mx (m.set b (.cells [.int .i64 70] T true sp2)) []) := by
  have k := tree_ok (mx m []) t c (hc.old (Old.here m [])) hn
  rw [hr] at k
  have k' := PurE.pan k
  obtain ⟨a, cap, rfl, hE⟩ := hc.ex
  refine ACall.eqv (m1 := mx m []) (mx_nil_size m) (fun b hb => mx_old hb) (ACall_of_WX (fn := Tryd.f38) rfl rfl F38_ok (by simp [F38]) ?_)
  repeat first | simp -implicitDefEqProofs (disch := first | omega | with_reducible assumption | (simp only [qU, qC]; omega)) only [qT, qA, reduceCtorEq, qB, qC, qD, qE, qF, qG, qH, qI, qJ, qK, qL, reduceIte, F38, W_dfr, DfrK_v, DfrV_func, hmn, cutL3, k'] | refine OrW.go ?_
  refine RetKX_one (u := .pan (errC 30 70)) (.inr (.inr ⟨_, rfl, rfl⟩)) ?_
  refine ACallD.mono (d39_yes _ b 70 (by rw [mx_nil_size]; exact hb) ((mx_old hb).trans hm)) ?_
  rintro e u m' ⟨rfl, rfl, rfl⟩
  refine ⟨.ret, rfl, ?_⟩
  exact ⟨rfl, by rw [mx_set_old hb, mx_mx]; rfl⟩
theorem right_ok (m : AMem) (t : Tr) (c : List Value) (hc : TrC m t c) (hn : t.count ≤ 500000000) : PureC Tryd.prog 3 14 [.agg c.toArray] m (.bool (rightT t)) := by
  have hc0 := hc
  obtain ⟨a, cap, rfl, hE⟩ := hc.ex
  refine pure_of_W (fn := Tryd.f14) rfl rfl F14_ok (by simp [F14]) (.bool _) ?_
  have hcc := hc0.old (Old.here m [.cells [.int .u8 t.k, .string ⟨t.d.toArray⟩, .slice a t.es.length cap] 26 true .exact, .cells [.int .i64 0] 30 true .exact])
  cases hr : rightT t with
  | true =>
    have k := DetC.known (right1_yes (mx m [.cells [.int .u8 t.k, .string ⟨t.d.toArray⟩, .slice a t.es.length cap] 26 true .exact, .cells [.int .i64 0] 30 true .exact]) (m.size + 1) m.size t _ (by rw [mx_size]; simp) (mx_new0 _ _) hcc hn hr)
    rw [mx_mx, List.append_nil] at k
    repeat first | simp -implicitDefEqProofs (disch := first | omega | with_reducible assumption | (simp only [qU, qC]; omega)) only [qT, qA, reduceCtorEq, qB, qC, qD, qE, qF, qG, qH, qI, qJ, qK, qL, reduceIte, F14, cellsOf_node, k] | refine OrW.go ?_
  | false =>
    have k := DetC.known (right1_no (mx m [.cells [.int .u8 t.k, .string ⟨t.d.toArray⟩, .slice a t.es.length cap] 26 true .exact, .cells [.int .i64 0] 30 true .exact]) (m.size + 1) m.size t _ (by rw [mx_size]; simp) (mx_new _ _ 1) (by rw [mx_size]; simp) (mx_new0 _ _) hcc hn hr)
    have q0 : (mx ((mx m [.cells [.int .u8 t.k, .string ⟨t.d.toArray⟩, .slice a t.es.length cap] 26 true .exact, .cells [.int .i64 0] 30 true .exact]).set (m.size + 1) (.cells [.int .i64 70] 30 true .exact)) []).get (m.size + 1) = .cells [.int .i64 70] 30 true .exact := by
      rw [mx_old (by rw [AMem.size_set, mx_size]; simp), AMem.get_set_self]
    repeat first | simp -implicitDefEqProofs (disch := first | omega | with_reducible assumption | (simp only [qU, qC]; omega)) only [qT, qA, reduceCtorEq, qB, qC, qD, qE, qF, qG, qH, qI, qJ, qK, qL, reduceIte, F14, cellsOf_node, k, q0] | refine OrW.go ?_
theorem refRight_ok (m : AMem) (t : Tr) (c : List Value) (hc : TrC m t c) (hn : t.weight ≤ 1000000) : PureC Tryd.prog 3 15 [.agg c.toArray] m (.bool (rightT t)) := by
  have hc0 := hc
  have hcw := t.count_le
  have hdw := t.depth_lt
  obtain ⟨a, cap, rfl, hE⟩ := hc.ex
  have hcc := hc0.old (Old.here m [.cells [.int .u8 t.k, .string ⟨t.d.toArray⟩, .slice a t.es.length cap] 26 true .exact])
  have k1 := DetC.known (refCount_ok t _ _ hcc (by omega))
  have k2 := DetC.known (refDepth_ok t _ _ hcc (by omega))
  have k3 := DetC.known (refMay_ok t _ _ hcc (by omega))
  by_cases g1 : (t.count : Int) ≤ 4096
  · by_cases g2 : (t.depth : Int) ≤ 32
    · have e : rightT t = mayT t := by rw [rightT, decide_eq_true (show t.count ≤ 4096 by omega), decide_eq_true (show t.depth ≤ 32 by omega)]; rfl
      rw [e]
      refine pure_of_W (fn := Tryd.f15) rfl rfl F15_ok (by simp [F15]) (.bool _) ?_
      repeat first | simp -implicitDefEqProofs (disch := first | omega | with_reducible assumption | (simp only [qU, qC]; omega)) only [qT, qA, reduceCtorEq, qB, qC, qD, qE, qF, qG, qH, qI, qJ, qK, qL, reduceIte, F15, cellsOf_node, cutL3, k1, k2, k3, g1, g2] | refine OrW.go ?_
    · have e : rightT t = false := by rw [rightT, decide_eq_false (show ¬ t.depth ≤ 32 by omega)]; simp
      rw [e]
      refine pure_of_W (fn := Tryd.f15) rfl rfl F15_ok (by simp [F15]) (.bool _) ?_
      repeat first | simp -implicitDefEqProofs (disch := first | omega | with_reducible assumption | (simp only [qU, qC]; omega)) only [qT, qA, reduceCtorEq, qB, qC, qD, qE, qF, qG, qH, qI, qJ, qK, qL, reduceIte, F15, cellsOf_node, cutL3, k1, k2, g1, g2, undef] | refine OrW.go ?_
  · have e : rightT t = false := by rw [rightT, decide_eq_false (show ¬ t.count ≤ 4096 by omega)]; simp
    rw [e]
    refine pure_of_W (fn := Tryd.f15) rfl rfl F15_ok (by simp [F15]) (.bool _) ?_
    repeat first | simp -implicitDefEqProofs (disch := first | omega | with_reducible assumption | (simp only [qU, qC]; omega)) only [qT, qA, reduceCtorEq, qB, qC, qD, qE, qF, qG, qH, qI, qJ, qK, qL, reduceIte, F15, cellsOf_node, cutL3, k1, g1, undef] | refine OrW.go ?_
end Go.Proofs.YtfjgpeoblnpelaaDoor
namespace Go.AM
variable {P : Program} {G : Nat}
theorem rel_of_WX {f : FuncId} {fn : Func} {A : AFun} (hf : P.funcs[f]? = some fn) (hn : (fn.name == "runtime.NumGoroutine") = false) (hA : compFun P G fn = some A) {args : List Value} (hlen : args.length ≤ A.n) {m : AMem} {R : Value → AMem → Prop}
    (h : W P G A.code (RetKX P G A.res fun r m' => ∃ v, r = .ret v ∧ (m.size ≤ m'.size → R v m')) ⟨initT args, mx m [], []⟩) : RelC P G f args m R := by
  refine ACall.mono (ACall.grow (ACall.eqv (m1 := mx m []) (mx_nil_size m) (fun b hb => mx_old hb) (ACall_of_WX hf hn hA hlen h))) ?_
  rintro r m' ⟨⟨v, rfl, h1⟩, h2⟩
  exact ⟨v, rfl, h1 h2⟩
end Go.AM
namespace Go.Proofs.YtfjgpeoblnpelaaDoor
open Go Go.AM
set_option linter.unusedVariables false
set_option linter.unusedSimpArgs false
set_option maxRecDepth 100000
set_option maxHeartbeats 2000000

def stepT (t : Tr) (s : List UInt8) : Option Tr := if t.k = 4 ∧ 0 ≤ idxE t.es s then some (t.es.getD (idxE t.es s).toNat default).t else none
def goT : Tr → List (List UInt8) → Option Tr
  | t, [] => some t
  | t, s :: r => match stepT t s with | some u => goT u r | none => none
def zT : Tr := .nd 0 [] []
def atR (t : Tr) (l : List UInt8) : Int × Tr := match namesR l with
  | none => (2, zT)
  | some ns => match goT t ns with
    | none => (5, zT)
    | some u => (0, u)
theorem trC_zT (m : AMem) : TrC m zT zN := trC_mk (SlE.nil m)
theorem count_get {es : List En} {i : Nat} (h : i < es.length) : es[i].t.count < 1 + countL es := by
  have h1 := countL_succ h
  have h2 := countL_le es (i + 1)
  omega
theorem stepT_some {k : Int} {d : List UInt8} {es : List En} {s : List UInt8} {i : Nat} (hk : k = 4) (hi : i < es.length) (h : idxE es s = (i : Nat)) : stepT (.nd k d es) s = some es[i].t := by
  refine (if_pos (show (Tr.nd k d es).k = 4 ∧ 0 ≤ idxE (Tr.nd k d es).es s from ⟨hk, by rw [show (Tr.nd k d es).es = es from rfl, h]; omega⟩)).trans ?_
  rw [show (Tr.nd k d es).es = es from rfl, h]
  simp [List.getD, hi]
theorem stepT_none {k : Int} {d : List UInt8} {es : List En} {s : List UInt8} (h : k ≠ 4 ∨ idxE es s = -1) : stepT (.nd k d es) s = none := by
  refine if_neg ?_
  rintro ⟨h1, h2⟩
  have h1 : k = 4 := h1
  have h2 : 0 ≤ idxE es s := h2
  rcases h with h | h
  · exact h h1
  · omega
theorem atE {t : Tmps} {M : AMem} {b e : Nat} {k : Int} {c : List Value} {sp sp2 : Spare} {T T2 : TypeId} {w w2 : Bool} (h4 : t 4 = .pointer (some ⟨b, 0, none⟩)) (h5 : t 5 = .pointer (some ⟨e, 0, none⟩)) (hl : c.length = 3)
    (hb : M.get b = .cells c T w sp) (he : M.get e = .cells [.int .i64 k] T2 w2 sp2) {Q : AEnd → AMem → Prop} (h : Q (.ret (.tuple #[.agg c.toArray, .int .i64 k])) M) : finA F22.res t Q .ret M := by
  have e1 : rd M b 0 3 = some c := by rw [rd_def, hb]; exact cutL_all hl
  have e2 : rd M e 0 1 = some [.int .i64 k] := by rw [rd_def, he]; rfl
  have : resVs F22.res t M = some [.agg c.toArray, .int .i64 k] := by
    simp [F22, resVs, resV, h4, h5, addr, e1, e2]
  show (match resVs F22.res t M with | some l => Q (.ret (packV l)) M | none => False)
  rw [this]
  exact h
theorem at_pan {t : Tmps} {m M : AMem} {k : Int} (h4 : t 4 = .pointer (some ⟨m.size + 1, 0, none⟩)) (h5 : t 5 = .pointer (some ⟨m.size + 2, 0, none⟩)) (hs : m.size + 3 ≤ M.size) (hO : Old m M) (h1 : M.get (m.size + 1) = .cells zN 26 true .exact) {v : Value} (h2 : M.get (m.size + 2) = .cells [v] 30 true .exact) {R : Value → AMem → Prop}
    (hR : ∀ M', Old m M' → R (.tuple #[.agg zN.toArray, .int .i64 k]) M') :
    RetKX Tryd.prog 3 F22.res (fun r m' => ∃ v, r = .ret v ∧ (m.size ≤ m'.size → R v m')) (.pan (errC 30 k)) ⟨t, mx M [], [{ target := .fn (.func 44) #[.pointer (some ⟨m.size + 2, 0, none⟩), .pointer (some ⟨m.size + 1, 0, none⟩)], args := #[] ++ #[] }]⟩ := by
  refine RetKX_one (u := .pan (errC 30 k)) (.inr (.inr ⟨_, rfl, rfl⟩)) ?_
  refine ACallD.mono (d44_yes (mx M []) (m.size + 2) (m.size + 1) k (by rw [mx_nil_size]; omega) ((mx_old (by omega)).trans h2) (by rw [mx_nil_size]; omega) ((mx_old (by omega)).trans h1) (by omega)) ?_
  rintro e u m' ⟨rfl, rfl, rfl⟩
  refine ⟨.ret, rfl, ?_⟩
  refine atE h4 h5 rfl (T := 26) (w := true) (sp := .exact) (T2 := 30) (w2 := true) (sp2 := .exact) (k := k) ?_ ?_ ⟨_, rfl, fun _ => hR _ ?_⟩
  · rw [mx_old (by simp only [AMem.size_set, mx_nil_size]; omega), AMem.get_set_self]
  · rw [mx_old (by simp only [AMem.size_set, mx_nil_size]; omega), AMem.get_set_ne _ _ (by omega), AMem.get_set_self]
  · refine ((((hO.mx []).set (by omega) _).set (by omega) _).mx _)
theorem at_ok (m1 m : AMem) (tr : Tr) (c : List Value) (l : List UInt8) (hc : TrC m1 tr c) (ho : Old m1 m) (hn : tr.count ≤ 500000000) (hl : l.length ≤ 1000000) : RelC Tryd.prog 3 22 [.agg c.toArray, .string ⟨l.toArray⟩] m fun v M =>
    Old m M ∧ ∃ c', v = .tuple #[.agg c'.toArray, .int .i64 (atR tr l).1] ∧ TrC m1 (atR tr l).2 c' := by
  have hc0 := hc
  obtain ⟨a, cap, rfl, hE⟩ := hc.ex
  have kS := split_ok (mx m [.cells [.int .u8 tr.k, .string ⟨tr.d.toArray⟩, .slice a tr.es.length cap] 26 true .exact, .cells zN 26 true .exact, .cells [.int .i64 0] 30 true .exact]) l hl
  refine rel_of_WX (fn := Tryd.f22) rfl rfl F22_ok (by simp [F22]) ?_
  repeat first | simp -implicitDefEqProofs (disch := first | omega | with_reducible assumption | (simp only [qU, qC]; omega)) only [qT, qA, reduceCtorEq, qB, qC, qD, qE, qF, qG, qH, qI, qJ, qK, qL, reduceIte, F22, cellsOf_node, W_dfr, DfrK_v, DfrV_func] | refine OrW.go ?_
  refine (ACall.norm kS).mono ?_
  rintro r m' ⟨M0, rfl, hO0, hr⟩
  cases hns : namesR l with
  | none =>
    rw [hns] at hr
    subst hr
    have hat : atR tr l = (2, zT) := by simp [atR, hns]
    repeat first | simp -implicitDefEqProofs (disch := first | omega | with_reducible assumption | (simp only [qU, qC]; omega)) only [qT, qA, reduceCtorEq, qB, qC, qD, qE, qF, qG, qH, qI, qJ, qK, qL, reduceIte] | refine OrW.go ?_
    have hs0 := hO0.1
    rw [mx_size] at hs0
    simp only [List.length_cons, List.length_nil] at hs0
    refine at_pan (m := m) ?_ ?_ (by omega) ((Old.here m _).trans hO0) ((hO0.2 _ (by rw [mx_size]; simp)).trans (mx_new _ _ 1)) ((hO0.2 _ (by rw [mx_size]; simp)).trans (mx_new _ _ 2)) fun M' hM => ⟨hM, zN, by rw [hat], by rw [hat]; exact trC_zT _⟩
    · simp -implicitDefEqProofs (disch := first | omega | with_reducible assumption | (simp only [qU, qC]; omega)) only [qT, qA, reduceCtorEq, qB, qC, qD, qE, qF, qG, qH, qI, qJ, qK, qL, reduceIte]
    · simp -implicitDefEqProofs (disch := first | omega | with_reducible assumption | (simp only [qU, qC]; omega)) only [qT, qA, reduceCtorEq, qB, qC, qD, qE, qF, qG, qH, qI, qJ, qK, qL, reduceIte]
  | some ns =>
    rw [hns] at hr
    obtain ⟨a1, cap1, rfl, hS, hnew⟩ := hr
    have hnl := namesR_len hns
    have hs0 := hO0.1
    rw [mx_size] at hs0
    simp only [List.length_cons, List.length_nil] at hs0
    have hm0 : Old m M0 := (Old.here m _).trans hO0
    have w0 : M0.get m.size = .cells [.int .u8 tr.k, .string ⟨tr.d.toArray⟩, .slice a tr.es.length cap] 26 true .exact := (hO0.2 _ (by rw [mx_size]; simp)).trans (mx_new0 _ _)
    have w1 : M0.get (m.size + 1) = .cells zN 26 true .exact := (hO0.2 _ (by rw [mx_size]; simp)).trans (mx_new _ _ 1)
    have w2 : M0.get (m.size + 2) = .cells [.int .i64 0] 30 true .exact := (hO0.2 _ (by rw [mx_size]; simp)).trans (mx_new _ _ 2)
    have yes := fun M => DetC.known (need_yes M 5)
    have no := fun M => (need_no M 5).pan
    repeat first | simp -implicitDefEqProofs (disch := first | omega | with_reducible assumption | (simp only [qU, qC]; omega)) only [qT, qA, reduceCtorEq, qB, qC, qD, qE, qF, qG, qH, qI, qJ, qK, qL, reduceIte] | refine OrW.go ?_
    refine W_loop (fun N qs => ∃ (i : Nat) (M : AMem) (u : Tr) (a2 : Option Addr) (cap2 : Nat), N = ns.length - i ∧ qs.ds = [{ target := .fn (.func 44) #[.pointer (some ⟨m.size + 2, 0, none⟩), .pointer (some ⟨m.size + 1, 0, none⟩)], args := #[] ++ #[] }] ∧ qs.m = mx M [] ∧ qs.t 2 = .pointer (some ⟨m.size, 0, none⟩) ∧ qs.t 4 = .pointer (some ⟨m.size + 1, 0, none⟩) ∧ qs.t 5 = .pointer (some ⟨m.size + 2, 0, none⟩) ∧ qs.t 12 = .slice a1 ns.length cap1 ∧ qs.t 13 = .int .i64 ns.length ∧ qs.t 14 = .int .i64 i ∧ i ≤ ns.length ∧ Old m M ∧ m.size + 3 ≤ M.size ∧ (∀ b, m.size < b → b < M0.size → M.get b = M0.get b) ∧ M.get m.size = .cells [.int .u8 u.k, .string ⟨u.d.toArray⟩, .slice a2 u.es.length cap2] 26 true .exact ∧ M0.size ≤ M.size ∧ SlE m1 a2 cap2 u.es ∧ u.count ≤ tr.count ∧ goT tr ns = goT u (ns.drop i)) (ns.length - (0)) ⟨0, M0, tr, a, cap, rfl, rfl, ?qm, ?q2, ?q4, ?q5, ?q12, ?q13, ?q14, ?_⟩ ?_
    case qm | q2 | q4 | q5 | q12 | q13 | q14 => first | rfl | (simp -implicitDefEqProofs (disch := first | omega | with_reducible assumption | (simp only [qU, qC]; omega)) only [qT, qA, reduceCtorEq, qB, qC, qD, qE, qF, qG, qH, qI, qJ, qK, qL, reduceIte]; first | done | rfl | (congr 1; omega))
    · exact ⟨by omega, hm0, by omega, fun b _ _ => rfl, w0, Nat.le_refl _, hE, Nat.le_refl _, rfl⟩
    · rintro N t m1 ds ⟨i, M, u, a2, cap2, rfl, hds, hm, t2, t4, t5, t12, t13, t14, hp⟩
      simp only at hds hm t2 t4 t5 t12 t13 t14
      subst hds; replace hm := hm.symm; subst hm
      obtain ⟨hi0, hO, hs, hsame, hbx, hsz, hE2, hcn, hgo⟩ := hp
      have v1 : M.get (m.size + 1) = .cells zN 26 true .exact := (hsame _ (by omega) (by omega)).trans w1
      have v2 : M.get (m.size + 2) = .cells [.int .i64 0] 30 true .exact := (hsame _ (by omega) (by omega)).trans w2
      by_cases g1 : (i : Int) < (ns.length : Int)
      · have hi : i < ns.length := by omega
        obtain ⟨b, o, rfl, hb, q0⟩ := hS.get hi
        have hbn := hnew b o rfl
        rw [mx_size] at hbn
        simp only [List.length_cons, List.length_nil] at hbn
        rw [← hsame b (by omega) hb] at q0
        rw [List.drop_eq_getElem_cons hi] at hgo
        obtain ⟨k, d, es⟩ := u
        simp only [Tr.k, Tr.d, Tr.es] at hbx hE2
        have hcl := countL_len es
        simp only [Tr.count] at hcn
        have kF := find_ok (mx M []) k d es ns[i] _ (trC_mk ((hE2.old (ho.trans hO)).old (Old.here M []))) (by omega)
        have fail : goT tr ns = none → atR tr l = (5, zT) := fun h => by simp [atR, hns, h]
        by_cases hk : k = 4
        · rw [if_pos hk] at kF
          have kF' := DetC.known (PurE.ret kF)
          rcases idxE_cases es ns[i] with ⟨hx, _⟩ | ⟨j, hj, hx, _⟩
          · have hat := fail (by rw [hgo, goT, stepT_none (.inr hx)])
            rw [hx, decide_eq_false (by omega)] at kF'
            repeat first | simp -implicitDefEqProofs (disch := first | omega | with_reducible assumption | (simp only [qU, qC]; omega)) only [qT, qA, reduceCtorEq, qB, qC, qD, qE, qF, qG, qH, qI, qJ, qK, qL, reduceIte, F22_l0, t2, t4, t5, t12, t13, t14, g1, q0, hbx, cutL3, kF', no] | refine OrW.go ?_
            refine at_pan (m := m) ?_ ?_ hs hO v1 v2 fun M' hM => ⟨hM, zN, by rw [hat], by rw [hat]; exact trC_zT _⟩
            · simp -implicitDefEqProofs (disch := first | omega | with_reducible assumption | (simp only [qU, qC]; omega)) only [qT, qA, reduceCtorEq, qB, qC, qD, qE, qF, qG, qH, qI, qJ, qK, qL, reduceIte, t2, t4, t5, t12, t13, t14]
            · simp -implicitDefEqProofs (disch := first | omega | with_reducible assumption | (simp only [qU, qC]; omega)) only [qT, qA, reduceCtorEq, qB, qC, qD, qE, qF, qG, qH, qI, qJ, qK, qL, reduceIte, t2, t4, t5, t12, t13, t14]
          · rw [hx, decide_eq_true (by omega)] at kF'
            obtain ⟨b2, o2, a', cap', rfl, hbb, hE', q4, q3, q00⟩ := hE2.get hj
            have hcg := count_get hj
            rw [← (ho.trans hO).2 b2 hbb] at q3
            have hb3 := Nat.lt_of_lt_of_le hbb ho.1
            repeat first | simp -implicitDefEqProofs (disch := first | omega | with_reducible assumption | (simp only [qU, qC]; omega)) only [qT, qA, reduceCtorEq, qB, qC, qD, qE, qF, qG, qH, qI, qJ, qK, qL, reduceIte, F22_l0, t2, t4, t5, t12, t13, t14, g1, q0, q3, hbx, cutL3, cutL3_2, kF', yes, splice3, cellsOf_node] | refine OrW.go ?_
            rw [LoopK_normal]; refine ⟨_, ?_, i + 1, M.set m.size (.cells [.int .u8 es[j].t.k, .string ⟨es[j].t.d.toArray⟩, .slice a' es[j].t.es.length cap'] 26 true .exact), es[j].t, a', cap', rfl, rfl, ?qm, ?q2, ?q4, ?q5, ?q12, ?q13, ?q14, ?_⟩
            case qm | q2 | q4 | q5 | q12 | q13 | q14 => first | rfl | (simp -implicitDefEqProofs (disch := first | omega | with_reducible assumption | (simp only [qU, qC]; omega)) only [qT, qA, reduceCtorEq, qB, qC, qD, qE, qF, qG, qH, qI, qJ, qK, qL, reduceIte, t2, t4, t5, t12, t13, t14, Int.natCast_add]; first | done | rfl | (congr 1; omega))
            · omega
            · refine ⟨by omega, hO.set (by omega) _, by rw [AMem.size_set]; exact hs, fun b h1 h2 => by rw [AMem.get_set_ne _ _ (by omega)]; exact hsame b h1 h2, AMem.get_set_self _ _ _, by rw [AMem.size_set]; exact hsz, hE', by omega, ?_⟩
              rw [hgo, goT, stepT_some hk hj hx]
        · rw [if_neg hk] at kF
          have kF' := kF.pan
          have hat := fail (by rw [hgo, goT, stepT_none (.inl hk)])
          repeat first | simp -implicitDefEqProofs (disch := first | omega | with_reducible assumption | (simp only [qU, qC]; omega)) only [qT, qA, reduceCtorEq, qB, qC, qD, qE, qF, qG, qH, qI, qJ, qK, qL, reduceIte, F22_l0, t2, t4, t5, t12, t13, t14, g1, q0, hbx, cutL3, kF'] | refine OrW.go ?_
          refine at_pan (m := m) ?_ ?_ hs hO v1 v2 fun M' hM => ⟨hM, zN, by rw [hat], by rw [hat]; exact trC_zT _⟩
          · simp -implicitDefEqProofs (disch := first | omega | with_reducible assumption | (simp only [qU, qC]; omega)) only [qT, qA, reduceCtorEq, qB, qC, qD, qE, qF, qG, qH, qI, qJ, qK, qL, reduceIte, t2, t4, t5, t12, t13, t14]
          · simp -implicitDefEqProofs (disch := first | omega | with_reducible assumption | (simp only [qU, qC]; omega)) only [qT, qA, reduceCtorEq, qB, qC, qD, qE, qF, qG, qH, qI, qJ, qK, qL, reduceIte, t2, t4, t5, t12, t13, t14]
      · obtain rfl : i = ns.length := by omega
        rw [List.drop_of_length_le (Nat.le_refl _), goT] at hgo
        have hat : atR tr l = (0, u) := by simp [atR, hns, hgo]
        repeat first | simp -implicitDefEqProofs (disch := first | omega | with_reducible assumption | (simp only [qU, qC]; omega)) only [qT, qA, reduceCtorEq, qB, qC, qD, qE, qF, qG, qH, qI, qJ, qK, qL, reduceIte, F22_l0, t2, t4, t5, t12, t13, t14, g1, hbx, v1, v2, cutL3, splice3, zN, cellsOf_node] | refine OrW.go ?_
        refine RetKX_one (u := .ret) (.inr (.inl ⟨rfl, rfl⟩)) ?_
        refine ACallD.mono (d44_no _ (m.size + 2) (m.size + 1)) ?_
        rintro e u' m' ⟨rfl, rfl, rfl⟩
        have hfin : Old m (mx (mx ((M.set (m.size + 1) (.cells [.int .u8 u.k, .string ⟨u.d.toArray⟩, .slice a2 u.es.length cap2] 26 true .exact)).set (m.size + 2) (.cells [.int .i64 0] 30 true .exact)) []) []) :=
          ((((hO.set (by omega) _).set (by omega) _).mx []).mx [])
        refine ⟨.ret, rfl, ?_⟩
        refine atE (b := m.size + 1) (e := m.size + 2) (k := 0) (c := [.int .u8 u.k, .string ⟨u.d.toArray⟩, .slice a2 u.es.length cap2]) (T := 26) (w := true) (sp := .exact) (T2 := 30) (w2 := true) (sp2 := .exact) ?_ ?_ rfl ?_ ?_ ⟨_, rfl, fun _ => ⟨hfin, _, by rw [hat], ?_⟩⟩
        · simp -implicitDefEqProofs (disch := first | omega | with_reducible assumption | (simp only [qU, qC]; omega)) only [qT, qA, reduceCtorEq, qB, qC, qD, qE, qF, qG, qH, qI, qJ, qK, qL, reduceIte, t2, t4, t5, t12, t13, t14]
        · simp -implicitDefEqProofs (disch := first | omega | with_reducible assumption | (simp only [qU, qC]; omega)) only [qT, qA, reduceCtorEq, qB, qC, qD, qE, qF, qG, qH, qI, qJ, qK, qL, reduceIte, t2, t4, t5, t12, t13, t14]
        · rw [mx_mx, mx_old (by simp only [AMem.size_set]; omega), AMem.get_set_ne _ _ (by omega), AMem.get_set_self]
        · rw [mx_mx, mx_old (by simp only [AMem.size_set]; omega), AMem.get_set_self]
        · rw [hat]; exact TrC.of hE2
end Go.Proofs.YtfjgpeoblnpelaaDoor
namespace Go.Proofs.YtfjgpeoblnpelaaDoor
open Go Go.AM
set_option linter.unusedVariables false
set_option linter.unusedSimpArgs false
set_option maxRecDepth 100000
set_option maxHeartbeats 2000000

theorem refAt_ok (m : AMem) (tr : Tr) (c : List Value) (l : List UInt8) (hc : TrC m tr c) (hn : tr.count ≤ 500000000) (hl : l.length ≤ 1000000) : RelC Tryd.prog 3 23 [.agg c.toArray, .string ⟨l.toArray⟩] m fun v M =>
    Old m M ∧ ∃ c', v = .tuple #[.agg c'.toArray, .int .i64 (atR tr l).1] ∧ TrC m (atR tr l).2 c' := by
  have hc0 := hc
  obtain ⟨a, cap, rfl, hE⟩ := hc.ex
  have kS := refNames_ok (mx m [.cells [.int .u8 tr.k, .string ⟨tr.d.toArray⟩, .slice a tr.es.length cap] 26 true .exact, .cells zN 26 true .exact]) l hl
  refine rel_of_W (fn := Tryd.f23) rfl rfl F23_ok (by simp [F23]) ?_
  repeat first | simp -implicitDefEqProofs (disch := first | omega | with_reducible assumption | (simp only [qU, qC]; omega)) only [qT, qA, reduceCtorEq, qB, qC, qD, qE, qF, qG, qH, qI, qJ, qK, qL, reduceIte, F23, cellsOf_node] | refine OrW.go ?_
  refine RelC.call kS ?_
  rintro v M0 ⟨hO0, hr⟩
  have hs0 := hO0.1
  rw [mx_size] at hs0
  simp only [List.length_cons, List.length_nil] at hs0
  have hm0 : Old m M0 := (Old.here m _).trans hO0
  have w0 : M0.get m.size = .cells [.int .u8 tr.k, .string ⟨tr.d.toArray⟩, .slice a tr.es.length cap] 26 true .exact := (hO0.2 _ (by rw [mx_size]; simp)).trans (mx_new0 _ _)
  have w1 : M0.get (m.size + 1) = .cells zN 26 true .exact := (hO0.2 _ (by rw [mx_size]; simp)).trans (mx_new _ _ 1)
  have cz : cellsOf (.agg [.int .u8 0, .string ⟨#[]⟩, .slice none 0 0].toArray) = some [.int .u8 0, .string ⟨#[]⟩, .slice none 0 0] := rfl
  cases hns : namesR l with
  | none =>
    rw [hns] at hr
    subst hr
    have hat : atR tr l = (2, zT) := by simp [atR, hns]
    repeat first | simp -implicitDefEqProofs (disch := first | omega | with_reducible assumption | (simp only [qU, qC]; omega)) only [qT, qA, reduceCtorEq, qB, qC, qD, qE, qF, qG, qH, qI, qJ, qK, qL, reduceIte, w1, zN, cellsOf_node, splice3, cutL3] | refine OrW.go ?_
    refine ⟨_, rfl, fun _ => ⟨(hm0.set (by omega) _).mx _, zN, by rw [hat]; rfl, by rw [hat]; exact trC_zT _⟩⟩
  | some ns =>
    rw [hns] at hr
    obtain ⟨a1, cap1, rfl, hS, hnew⟩ := hr
    have hnl := namesR_len hns
    repeat first | simp -implicitDefEqProofs (disch := first | omega | with_reducible assumption | (simp only [qU, qC]; omega)) only [qT, qA, reduceCtorEq, qB, qC, qD, qE, qF, qG, qH, qI, qJ, qK, qL, reduceIte] | refine OrW.go ?_
    refine W_loop (fun N qs => ∃ (i : Nat) (M : AMem) (u : Tr) (a2 : Option Addr) (cap2 : Nat), N = ns.length - i ∧ qs.ds = [] ∧ qs.m = mx M [] ∧ qs.t 2 = .pointer (some ⟨m.size, 0, none⟩) ∧ qs.t 4 = .pointer (some ⟨m.size + 1, 0, none⟩) ∧ qs.t 6 = .slice a1 ns.length cap1 ∧ qs.t 8 = .int .i64 i ∧ i ≤ ns.length ∧ Old m M ∧ m.size + 2 ≤ M.size ∧ (∀ b, m.size < b → b < M0.size → M.get b = M0.get b) ∧ M.get m.size = .cells [.int .u8 u.k, .string ⟨u.d.toArray⟩, .slice a2 u.es.length cap2] 26 true .exact ∧ M0.size ≤ M.size ∧ SlE m a2 cap2 u.es ∧ u.count ≤ tr.count ∧ goT tr ns = goT u (ns.drop i)) (ns.length - (0)) ⟨0, M0, tr, a, cap, rfl, rfl, ?qm, ?q2, ?q4, ?q6, ?q8, ?_⟩ ?_
    case qm | q2 | q4 | q6 | q8 => first | rfl | (simp -implicitDefEqProofs (disch := first | omega | with_reducible assumption | (simp only [qU, qC]; omega)) only [qT, qA, reduceCtorEq, qB, qC, qD, qE, qF, qG, qH, qI, qJ, qK, qL, reduceIte]; first | done | rfl | (congr 1; omega))
    · exact ⟨by omega, hm0, by omega, fun b _ _ => rfl, w0, Nat.le_refl _, hE, Nat.le_refl _, rfl⟩
    · rintro N t m1 ds ⟨i, M, u, a2, cap2, rfl, hds, hm, t2, t4, t6, t8, hp⟩
      simp only at hds hm t2 t4 t6 t8
      subst hds; replace hm := hm.symm; subst hm
      obtain ⟨hi0, hO, hs, hsame, hbx, hsz, hE2, hcn, hgo⟩ := hp
      have v1 : M.get (m.size + 1) = .cells zN 26 true .exact := (hsame _ (by omega) (by omega)).trans w1
      by_cases g1 : (i : Int) < (ns.length : Int)
      · have hi : i < ns.length := by omega
        obtain ⟨b, o, rfl, hb, q0⟩ := hS.get hi
        have hbn := hnew b o rfl
        rw [mx_size] at hbn
        simp only [List.length_cons, List.length_nil] at hbn
        rw [← hsame b (by omega) hb] at q0
        rw [List.drop_eq_getElem_cons hi] at hgo
        obtain ⟨k, d, es⟩ := u
        simp only [Tr.k, Tr.d, Tr.es] at hbx hE2
        have hcl := countL_len es
        simp only [Tr.count] at hcn
        have kF := DetC.known (refFind_ok (mx M []) k d es ns[i] _ (trC_mk ((hE2.old hO).old (Old.here M []))) (by omega))
        have fail : goT tr ns = none → atR tr l = (5, zT) := fun h => by simp [atR, hns, h]
        by_cases hk : k = 4
        · rw [if_pos hk] at kF
          rcases idxE_cases es ns[i] with ⟨hx, _⟩ | ⟨j, hj, hx, _⟩
          · have hat := fail (by rw [hgo, goT, stepT_none (.inr hx)])
            rw [hx] at kF
            repeat first | simp -implicitDefEqProofs (disch := first | omega | with_reducible assumption | (simp only [qU, qC]; omega)) only [qT, qA, reduceCtorEq, qB, qC, qD, qE, qF, qG, qH, qI, qJ, qK, qL, reduceIte, F23_l0, t2, t4, t6, t8, g1, q0, hbx, v1, cutL3, kF, zN, cellsOf_node, splice3] | refine OrW.go ?_
            refine ⟨_, rfl, fun _ => ⟨(hO.set (by omega) _).mx _, zN, by rw [hat]; rfl, by rw [hat]; exact trC_zT _⟩⟩
          · rw [hx] at kF
            obtain ⟨b2, o2, a', cap', rfl, hbb, hE', q4, q3, q00⟩ := hE2.get hj
            have hcg := count_get hj
            rw [← hO.2 b2 hbb] at q3
            have g3 : ¬ (j : Int) < 0 := by omega
            repeat first | simp -implicitDefEqProofs (disch := first | omega | with_reducible assumption | (simp only [qU, qC]; omega)) only [qT, qA, reduceCtorEq, qB, qC, qD, qE, qF, qG, qH, qI, qJ, qK, qL, reduceIte, F23_l0, t2, t4, t6, t8, g1, g3, q0, q3, hbx, cutL3, cutL3_2, kF, splice3, cellsOf_node] | refine OrW.go ?_
            rw [LoopK_normal]; refine ⟨_, ?_, i + 1, M.set m.size (.cells [.int .u8 es[j].t.k, .string ⟨es[j].t.d.toArray⟩, .slice a' es[j].t.es.length cap'] 26 true .exact), es[j].t, a', cap', rfl, rfl, ?qm, ?q2, ?q4, ?q6, ?q8, ?_⟩
            case qm | q2 | q4 | q6 | q8 => first | rfl | (simp -implicitDefEqProofs (disch := first | omega | with_reducible assumption | (simp only [qU, qC]; omega)) only [qT, qA, reduceCtorEq, qB, qC, qD, qE, qF, qG, qH, qI, qJ, qK, qL, reduceIte, t2, t4, t6, t8, Int.natCast_add]; first | done | rfl | (congr 1; omega))
            · omega
            · refine ⟨by omega, hO.set (by omega) _, by rw [AMem.size_set]; exact hs, fun b h1 h2 => by rw [AMem.get_set_ne _ _ (by omega)]; exact hsame b h1 h2, AMem.get_set_self _ _ _, by rw [AMem.size_set]; exact hsz, hE', by omega, ?_⟩
              rw [hgo, goT, stepT_some hk hj hx]
        · rw [if_neg hk] at kF
          have hat := fail (by rw [hgo, goT, stepT_none (.inl hk)])
          repeat first | simp -implicitDefEqProofs (disch := first | omega | with_reducible assumption | (simp only [qU, qC]; omega)) only [qT, qA, reduceCtorEq, qB, qC, qD, qE, qF, qG, qH, qI, qJ, qK, qL, reduceIte, F23_l0, t2, t4, t6, t8, g1, q0, hbx, v1, cutL3, kF, zN, cellsOf_node, splice3] | refine OrW.go ?_
          refine ⟨_, rfl, fun _ => ⟨(hO.set (by omega) _).mx _, zN, by rw [hat]; rfl, by rw [hat]; exact trC_zT _⟩⟩
      · obtain rfl : i = ns.length := by omega
        rw [List.drop_of_length_le (Nat.le_refl _), goT] at hgo
        have hat : atR tr l = (0, u) := by simp [atR, hns, hgo]
        repeat first | simp -implicitDefEqProofs (disch := first | omega | with_reducible assumption | (simp only [qU, qC]; omega)) only [qT, qA, reduceCtorEq, qB, qC, qD, qE, qF, qG, qH, qI, qJ, qK, qL, reduceIte, F23_l0, t2, t4, t6, t8, g1, hbx, v1, cutL3, splice3, zN, cellsOf_node] | refine OrW.go ?_
        refine ⟨_, rfl, fun _ => ⟨(hO.set (by omega) _).mx _, _, by rw [hat], ?_⟩⟩
        rw [hat]; exact TrC.of hE2
end Go.Proofs.YtfjgpeoblnpelaaDoor
namespace Go.AM
def zE : List Value := [.string ⟨#[]⟩, .int .u8 0, .string ⟨#[]⟩, .slice none 0 0]
theorem EnC.one {m : AMem} {e : En} {c : List Value} (h : EnC m e c) : c.all oneCell = true := by
  obtain ⟨q, rfl, hq⟩ := h.ex
  obtain ⟨a, cap, rfl, _⟩ := hq.ex
  rfl
theorem EsC.one {m : AMem} : ∀ {es : List En} {X : List Value}, EsC m es X → X.all oneCell = true
  | [], X, h => by unfold EsC at h; subst h; rfl
  | e :: es, X, h => by
    obtain ⟨c, Y, rfl, h1, h2⟩ := h.un
    rw [List.all_append, h1.one, EsC.one h2]; rfl
def SlX (m1 m : AMem) (a : Option Addr) (cap : Nat) (es : List En) : Prop := ∃ X, SlC m a cap 4 es.length X ∧ EsC m1 es X
theorem SlE.x {m1 m : AMem} {a : Option Addr} {cap : Nat} {es : List En} (h : SlE m1 a cap es) (ho : Old m1 m) : SlX m1 m a cap es := by
  obtain ⟨X, h1, h2⟩ := h
  exact ⟨X, h1.old ho, h2⟩
theorem SlX.old {m1 m M : AMem} {a : Option Addr} {cap : Nat} {es : List En} (h : SlX m1 m a cap es) (ho : Old m M) : SlX m1 M a cap es := by
  obtain ⟨X, h1, h2⟩ := h
  exact ⟨X, h1.old ho, h2⟩
theorem SlX.take {m1 m : AMem} {a : Option Addr} {cap : Nat} {es : List En} (h : SlX m1 m a cap es) (hn : es.length < openCap) {k : Nat} (hk : k ≤ es.length) :
    ∃ cap', slVv 4 (.slice a es.length cap) none (some (.int .i64 (k : Int))) none m = some (.slice a (es.take k).length cap', m) ∧ SlX m1 m a cap' (es.take k) := by
  obtain ⟨X, q1, q2⟩ := h
  have hl : (es.take k).length = k := by rw [List.length_take]; omega
  obtain ⟨cap', h1, h2⟩ := SlC.take q1 hn (by omega) hk
  exact ⟨cap', by rw [hl]; exact h1, _, by rw [hl]; exact h2, q2.take k⟩
theorem SlX.drop {m1 m : AMem} {a : Option Addr} {cap : Nat} {es : List En} (h : SlX m1 m a cap es) (hn : es.length < openCap) {k : Nat} (hk : k ≤ es.length) :
    ∃ a' cap', slVv 4 (.slice a es.length cap) (some (.int .i64 (k : Int))) none none m = some (.slice a' (es.drop k).length cap', m) ∧ SlX m1 m a' cap' (es.drop k) := by
  obtain ⟨X, q1, q2⟩ := h
  have hl : (es.drop k).length = es.length - k := by rw [List.length_drop]
  obtain ⟨a', cap', h1, h2⟩ := SlC.drop q1 hn (by omega) hk
  exact ⟨a', cap', by rw [hl]; exact h1, _, by rw [hl]; exact h2, q2.drop k⟩
theorem SlX.src {m1 m : AMem} {a : Option Addr} {cap : Nat} {es : List En} (h : SlX m1 m a cap es) : ∃ X, EsC m1 es X ∧ X.length = es.length * 4 ∧ X.all oneCell = true ∧ ∀ M, Old m M → srcCells 4 es.length (.slice a es.length cap) M = some X := by
  obtain ⟨X, h1, h2⟩ := h
  refine ⟨X, h2, h2.len, h2.one, fun M hO => ?_⟩
  rcases h1 with ⟨rfl, _, hn, rfl⟩ | ⟨b, o, Y, e, w, sp, rfl, hb, hm, hc, _⟩
  · simp [srcCells, hn]
  · simp only [srcCells]
    rw [if_pos (Nat.le_refl _), rd_def, hO.2 b hb, hm]
    exact hc
theorem eqPL_zE : eqPL zE zE = true := by decide
theorem SlE.whole {m : AMem} {b : Nat} {es : List En} {X : List Value} {e : TypeId} {w : Bool} (hb : b < m.size) (h : m.get b = .cells X e w (.room zE)) (hX : EsC m es X) : SlE m (some ⟨b, 0, none⟩) openCap es :=
  ⟨X, .inr ⟨b, 0, _, _, _, _, rfl, hb, h, by rw [← hX.len]; exact cutL_all rfl, .inl ⟨rfl, rfl⟩⟩, hX⟩
theorem appE_nil {m1 m M : AMem} {a : Option Addr} {cap : Nat} {es : List En} (h : SlX m1 m a cap es) (ho : Old m M) (hn : es.length ≤ 1000000) (h0 : 0 < es.length) :
    ∃ X, EsC m1 es X ∧ appV 48 4 64 zE (.slice none 0 0) (.slice a es.length cap) (mx M []) = some (.slice (some ⟨M.size, 0, none⟩) es.length openCap, mx M [.cells X 48 true (.room zE)]) := by
  obtain ⟨X, h1, h2, h3, h4⟩ := h.src
  refine ⟨X, h1, ?_⟩
  simp only [appV, srcLen_slice]
  rw [h4 _ (ho.mx [])]
  simp only
  rw [if_pos ⟨rfl, by omega, h3, h2⟩, appendTo_nil h0 (by omega) (by omega), mx_push, mx_nil_size]
  rfl
theorem appE_clone {m1 m : AMem} {a : Option Addr} {cap : Nat} {es : List En} (h : SlX m1 m a cap es) (hn : es.length ≤ 1000000) (h0 : 0 < es.length) :
    ∃ X, EsC m1 es X ∧ appV 48 4 64 zE (.slice (some ⟨m.size, 0, none⟩) 0 0) (.slice a es.length cap) (mx m [.cells [] 48 true .exact]) = some (.slice (some ⟨m.size + 1, 0, none⟩) es.length openCap, mx m [.cells [] 48 true .exact, .cells X 48 true (.room zE)]) := by
  obtain ⟨X, h1, h2, h3, h4⟩ := h.src
  refine ⟨X, h1, ?_⟩
  simp only [appV, srcLen_slice]
  rw [h4 _ (Old.here m _)]
  simp only
  rw [if_pos ⟨rfl, by omega, h3, h2⟩]
  simp only [appendTo, if_neg (Nat.ne_of_lt zeroCap_lt)]
  rw [if_neg (by omega), rd_def, mx_new0, List.getD_cons_zero, rdO_cells, show cutL ([] : List Value) 0 (0 * 4) = some [] from rfl]
  simp only
  rw [if_pos (by omega), mx_push, mx_size]; simp
theorem appE_in {m1 m : AMem} {a : Option Addr} {cap tot : Nat} {D es : List En} {Z : List Value} (h : SlX m1 m a cap es) (hD : EsC m1 D Z) (ht : D.length + es.length ≤ tot) (_hb : tot ≤ 1000000) :
    ∃ X, EsC m1 (D ++ es) (Z ++ X) ∧ appV 48 4 64 zE (.slice (some ⟨m.size, 0, none⟩) D.length openCap) (.slice a es.length cap) (mx m [.cells (Z ++ rep zE (tot - D.length)) 48 true (.room zE)]) =
      some (.slice (some ⟨m.size, 0, none⟩) (D ++ es).length openCap, mx m [.cells (Z ++ X ++ rep zE (tot - (D ++ es).length)) 48 true (.room zE)]) := by
  obtain ⟨X, h1, h2, h3, h4⟩ := h.src
  have hrl : ∀ n, (rep zE n).length = 4 * n := fun n => by simp [rep, zE]; omega
  have hZ := hD.len
  refine ⟨X, hD.app h1, ?_⟩
  simp only [appV, srcLen_slice]
  rw [h4 _ (Old.here m _)]
  simp only
  rw [if_pos ⟨rfl, by omega, h3, h2⟩]
  simp only [appendTo, if_true, mx_new0, List.getD_cons_zero, Spare.size, show zE.length = 4 from rfl]
  rw [if_pos (by rw [List.length_append, hrl, hZ]; omega)]
  by_cases h0 : es.length = 0
  · obtain rfl : es = [] := List.length_eq_zero_iff.1 h0
    obtain rfl : X = [] := List.length_eq_zero_iff.1 (by rw [h2]; rfl)
    simp
  · rw [if_neg h0]
    simp only [List.length_append, Option.some.injEq, Prod.mk.injEq, true_and]
    rw [mx_set0 _ _ _ (by simp)]
    simp only [List.set_cons_zero]
    congr 3
    simp only [splice, Nat.zero_add]
    rw [List.take_left' (by rw [hZ]), List.append_assoc, List.append_assoc]
    congr 2
    rw [List.drop_append, List.drop_of_length_le (by rw [hZ]; omega), List.nil_append, hZ, h2]
    have : D.length * 4 + es.length * 4 - D.length * 4 = 4 * es.length := by omega
    rw [this]
    have hrd : ∀ k n, k ≤ n → (rep zE n).drop (4 * k) = rep zE (n - k) := by
      intro k
      induction k with
      | zero => intro n _; simp
      | succ k ih =>
        intro n hn
        obtain ⟨n, rfl⟩ : ∃ q, n = q + 1 := ⟨n - 1, by omega⟩
        have e : rep zE (n + 1) = zE ++ rep zE n := by simp [rep, List.replicate_succ]
        rw [e, List.drop_append, List.drop_of_length_le (by simp [zE]; omega), List.nil_append, show zE.length = 4 from rfl, show 4 * (k + 1) - 4 = 4 * k by omega, ih n (by omega)]
        congr 1; omega
    rw [hrd _ _ (by omega)]
    congr 1; omega
def EBuf (m1 m M : AMem) (v : Value) (D : List En) : Prop :=
  (D = [] ∧ v = .slice none 0 0) ∨ ∃ b Z, m.size ≤ b ∧ b < M.size ∧ v = .slice (some ⟨b, 0, none⟩) D.length openCap ∧ M.get b = .cells Z 48 true (.room zE) ∧ EsC m1 D Z
theorem EBuf.nil (m1 m M : AMem) : EBuf m1 m M (.slice none 0 0) [] := .inl ⟨rfl, rfl⟩
theorem EBuf.old {m1 m M M' : AMem} {v : Value} {D : List En} (h : EBuf m1 m M v D) (ho : Old M M') : EBuf m1 m M' v D := by
  rcases h with h | ⟨b, Z, h1, h2, h3, h4, h5⟩
  · exact .inl h
  · exact .inr ⟨b, Z, h1, by have := ho.1; omega, h3, by rw [ho.2 b h2]; exact h4, h5⟩
theorem EBuf.app {m1 m M : AMem} {v : Value} {D es : List En} {a : Option Addr} {cap : Nat} (h : EBuf m1 m M v D) (hm : m.size ≤ M.size) (he : SlX m1 M a cap es) (hn : D.length + es.length ≤ 1000000) :
    ∃ v' M', appV 48 4 64 zE v (.slice a es.length cap) (mx M []) = some (v', mx M' []) ∧ EBuf m1 m M' v' (D ++ es) ∧ Keep (fun y => ∃ n, v = .slice (some ⟨y, 0, none⟩) n openCap) M M' := by
  obtain ⟨X, h1, h2, h3, h4⟩ := he.src
  have hsrc := h4 (mx M []) (Old.here M [])
  by_cases h0 : es.length = 0
  · obtain rfl : es = [] := List.length_eq_zero_iff.1 h0
    obtain rfl : X = [] := List.length_eq_zero_iff.1 (by rw [h2]; rfl)
    refine ⟨v, M, ?_, by rw [List.append_nil]; exact h, Nat.le_refl _, fun _ _ _ => rfl⟩
    simp only [appV, srcLen_slice, hsrc]
    rw [if_pos ⟨rfl, by omega, rfl, rfl⟩]
    rcases h with ⟨rfl, rfl⟩ | ⟨b, Z, q1, q2, rfl, q4, q5⟩
    · simp [appendTo]
    · have hZ := q5.len
      simp only [appendTo, if_true, mx_old q2, q4, Spare.size, show zE.length = 4 from rfl, List.length_nil, Nat.add_zero]
      rw [if_pos (by omega)]
  · simp only [appV, srcLen_slice, hsrc]
    rw [if_pos ⟨rfl, by omega, h3, h2⟩]
    rcases h with ⟨rfl, rfl⟩ | ⟨b, Z, q1, q2, rfl, q4, q5⟩
    · refine ⟨.slice (some ⟨M.size, 0, none⟩) es.length openCap, mx M [.cells X 48 true (.room zE)], ?_, .inr ⟨M.size, X, hm, by rw [mx_size]; simp, rfl, mx_new0 _ _, h1⟩, by rw [mx_size]; omega, fun b hb _ => mx_old hb⟩
      rw [appendTo_nil (by omega) (by omega) (by omega), mx_push, mx_mx, mx_nil_size]; rfl
    · have hZ := q5.len
      refine ⟨.slice (some ⟨M.size, 0, none⟩) (D.length + es.length) openCap, mx (M.set b .dead) [.cells (Z ++ X) 48 true (.room zE)], ?_, .inr ⟨M.size, Z ++ X, hm, by rw [mx_size, AMem.size_set]; simp, by rw [List.length_append], mx_new0 (M.set b .dead) _, q5.app h1⟩, by rw [mx_size, AMem.size_set]; omega, fun y hy hne => ?_⟩
      · rw [appendTo_open (sz := 4) (z' := zE) ((mx_old q2).trans q4) eqPL_zE rfl (by omega) hZ (by omega) (by omega) (by omega), mx_set_old q2, mx_push, mx_mx, mx_nil_size]; rfl
      · have : y ≠ b := fun e => hne ⟨_, by rw [e]⟩
        rw [mx_old (by rw [AMem.size_set]; exact hy), AMem.get_set_ne _ _ this]
theorem EBuf.keepOld {m1 m M M' : AMem} {v : Value} {D : List En} (h : EBuf m1 m M v D) (hk : Keep (fun y => ∃ n, v = .slice (some ⟨y, 0, none⟩) n openCap) M M') (ho : Old m M) : Old m M' := by
  refine ⟨Nat.le_trans ho.1 hk.1, fun y hy => (hk.2 y (Nat.lt_of_lt_of_le hy ho.1) ?_).trans (ho.2 y hy)⟩
  rintro ⟨n, rfl⟩
  rcases h with ⟨_, h⟩ | ⟨b, Z, q1, q2, q3, _⟩
  · cases h
  · cases q3; omega
theorem SlX.one {m1 m : AMem} {s : List UInt8} {x : Tr} {c : List Value} (hx : TrC m1 x c) : SlX m1 (mx m [.cells (.string ⟨s.toArray⟩ :: c) 48 true .exact]) (some ⟨m.size, 0, none⟩) 1 [.mk s x] := by
  have hl := hx.len
  refine ⟨.string ⟨s.toArray⟩ :: c, .inr ⟨m.size, 0, _, _, _, _, rfl, by rw [mx_size]; simp, mx_new0 _ _, ?_, .inr ⟨SlE.len_lt (by omega), Nat.le_refl _⟩⟩, ?_⟩
  · exact cutL_all (by simp [hl])
  · have := EsC.cons (EnC.of (e := .mk s x) hx) (EsC.nil m1)
    rwa [List.append_nil] at this
theorem splice_eq (X v : List Value) (o : Nat) : splice X o v = X.take o ++ v ++ X.drop (o + v.length) := rfl
theorem EsC.set {m : AMem} : ∀ {es : List En} {X : List Value} {i : Nat} {e : En} {c : List Value}, EsC m es X → i < es.length → EnC m e c → EsC m (es.set i e) (splice X (i * 4) c)
  | [], X, i, e, c, h, hi, _ => by simp at hi
  | e0 :: es, X, 0, e, c, h, hi, he => by
    obtain ⟨c0, Y, rfl, h1, h2⟩ := h.un
    have l0 := h1.len
    have l1 := he.len
    rw [splice_eq, Nat.zero_mul, List.take_zero, List.nil_append, Nat.zero_add, l1, ← l0, List.drop_left, List.set_cons_zero]
    exact EsC.cons he h2
  | e0 :: es, X, i + 1, e, c, h, hi, he => by
    obtain ⟨c0, Y, rfl, h1, h2⟩ := h.un
    have l0 := h1.len
    have ih := EsC.set (i := i) h2 (by simpa using hi) he
    rw [splice_eq] at ih
    rw [List.set_cons_succ, splice_eq, List.take_append, List.take_of_length_le (by omega), l0, show (i + 1) * 4 - 4 = i * 4 by omega, List.drop_append, List.drop_of_length_le (by omega), List.nil_append, l0,
      show (i + 1) * 4 + c.length - 4 = i * 4 + c.length by omega, List.append_assoc, List.append_assoc]
    refine EsC.cons h1 ?_
    rw [← List.append_assoc]
    exact ih
theorem EsC.set3 {m : AMem} : ∀ {es : List En} {X : List Value} {i : Nat} {u : Tr} {c : List Value}, EsC m es X → ∀ hi : i < es.length, TrC m u c → EsC m (es.set i (.mk es[i].n u)) (splice X (i * 4 + 1) c)
  | [], X, i, u, c, h, hi, _ => by simp at hi
  | e0 :: es, X, 0, u, c, h, hi, he => by
    obtain ⟨c0, Y, rfl, h1, h2⟩ := h.un
    obtain ⟨q, rfl, h3⟩ := h1.ex
    have l0 := h3.len
    have l1 := he.len
    rw [splice_eq, Nat.zero_mul, Nat.zero_add, l1, List.set_cons_zero]
    have e1 : (Value.string ⟨e0.n.toArray⟩ :: q ++ Y).drop (1 + 3) = Y := by
      rw [show 1 + 3 = (Value.string ⟨e0.n.toArray⟩ :: q).length by simp [l0], List.drop_left]
    rw [e1]
    exact EsC.cons (e := .mk e0.n u) (EnC.of (e := .mk e0.n u) he) h2
  | e0 :: es, X, i + 1, u, c, h, hi, he => by
    obtain ⟨c0, Y, rfl, h1, h2⟩ := h.un
    have l0 := h1.len
    have ih := EsC.set3 (i := i) h2 (by simpa using hi) he
    rw [splice_eq] at ih
    rw [List.set_cons_succ, splice_eq, List.take_append, List.take_of_length_le (by omega), l0, show (i + 1) * 4 + 1 - 4 = i * 4 + 1 by omega, List.drop_append, List.drop_of_length_le (by omega), List.nil_append, l0,
      show (i + 1) * 4 + 1 + c.length - 4 = i * 4 + 1 + c.length by omega, List.append_assoc, List.append_assoc]
    refine EsC.cons h1 ?_
    rw [← List.append_assoc]
    exact ih
theorem slVv_map (sz : Nat) (x : Value) (lo hi mx : Option Value) (m M : AMem) (hb : ∀ b o l c, x = .slice (some ⟨b, o, none⟩) l c → M.get b = m.get b) : slVv sz x lo hi mx M = (slVv sz x lo hi mx m).map fun p => (p.1, M) := by
  unfold slVv
  cases x <;> try rfl
  rename_i a l c
  rcases a with _ | ⟨b, o, p⟩
  · simp only
    by_cases hc : c = openCap
    · rw [if_pos hc, if_pos hc]; rfl
    · rw [if_neg hc, if_neg hc]
      rcases cutV l c lo hi mx with _ | ⟨i, h, k⟩ <;> rfl
  · rcases p with _ | p
    · simp only [hb b o l c rfl]
      by_cases hc : c = openCap
      · rw [if_pos hc, if_pos hc]
        rcases m.get b <;> try rfl
        rename_i y e w sp
        simp only
        split
        · rcases cutV l ((y.length - o) / sz) lo hi mx with _ | ⟨i, h, k⟩ <;> try rfl
          rcases mx with _ | q
          · rfl
          · simp only
            split <;> rfl
        · rfl
      · rw [if_neg hc, if_neg hc]
        rcases cutV l c lo hi mx with _ | ⟨i, h, k⟩ <;> rfl
    · simp only
      by_cases hc : c = openCap
      · simp [hc]
      · rcases cutV l c lo hi mx with _ | ⟨i, h, k⟩ <;> simp [hc]
theorem StrS.dropM {m : AMem} {a : Option Addr} {cap : Nat} {ls : List (List UInt8)} (h : StrS m a cap ls) (hn : ls.length < openCap) {k : Nat} (hk : k ≤ ls.length) :
    ∃ a' cap', (∀ M, Old m M → slVv 1 (.slice a ls.length cap) (some (.int .i64 (k : Int))) none none M = some (.slice a' (ls.drop k).length cap', M)) ∧ StrS m a' cap' (ls.drop k) := by
  obtain ⟨a', cap', h1, h2⟩ := h.drop hn hk
  refine ⟨a', cap', fun M hO => ?_, h2⟩
  rw [slVv_map _ _ _ _ _ m M, h1]; rfl
  rintro b o l c he
  cases he
  rcases h with ⟨h, _⟩ | ⟨b', o', Y, e, w, sp, h, hb, _⟩
  · cases h
  · cases h; exact hO.2 b hb
theorem SlX.takeM {m1 m : AMem} {a : Option Addr} {cap : Nat} {es : List En} (h : SlX m1 m a cap es) (hn : es.length < openCap) {k : Nat} (hk : k ≤ es.length) :
    ∃ cap', (∀ M, Old m M → slVv 4 (.slice a es.length cap) none (some (.int .i64 (k : Int))) none M = some (.slice a (es.take k).length cap', M)) ∧ SlX m1 m a cap' (es.take k) := by
  obtain ⟨cap', h1, h2⟩ := h.take hn hk
  refine ⟨cap', fun M hO => ?_, h2⟩
  rw [slVv_map _ _ _ _ _ m M, h1]; rfl
  rintro b o l c he
  cases he
  obtain ⟨X, h, _⟩ := h
  rcases h with ⟨h, _⟩ | ⟨b', o', Y, e, w, sp, h, hb, _⟩
  · cases h
  · cases h; exact hO.2 b hb
theorem SlX.dropM {m1 m : AMem} {a : Option Addr} {cap : Nat} {es : List En} (h : SlX m1 m a cap es) (hn : es.length < openCap) {k : Nat} (hk : k ≤ es.length) :
    ∃ a' cap', (∀ M, Old m M → slVv 4 (.slice a es.length cap) (some (.int .i64 (k : Int))) none none M = some (.slice a' (es.drop k).length cap', M)) ∧ SlX m1 m a' cap' (es.drop k) := by
  obtain ⟨a', cap', h1, h2⟩ := h.drop hn hk
  refine ⟨a', cap', fun M hO => ?_, h2⟩
  rw [slVv_map _ _ _ _ _ m M, h1]; rfl
  rintro b o l c he
  cases he
  obtain ⟨X, h, _⟩ := h
  rcases h with ⟨h, _⟩ | ⟨b', o', Y, e, w, sp, h, hb, _⟩
  · cases h
  · cases h; exact hO.2 b hb
end Go.AM
namespace Go.Proofs.YtfjgpeoblnpelaaDoor
open Go Go.AM
set_option linter.unusedVariables false
set_option linter.unusedSimpArgs false
set_option maxRecDepth 100000
set_option maxHeartbeats 2000000

def SortE (es : List En) : Prop := es.Pairwise fun a b => ltB a.n b.n = true
def placeE (es : List En) (s : List UInt8) : Nat := es.findIdx fun e => !ltB e.n s
def isAtE (es : List En) (s : List UInt8) : Bool := match es[placeE es s]? with | some e => decide (e.n = s) | none => false
theorem placeE_of {es : List En} {s : List UInt8} {i : Nat} (hi : i ≤ es.length) (h1 : ∀ k (hk : k < es.length), k < i → ltB es[k].n s = true) (h2 : ∀ h : i < es.length, ltB es[i].n s = false) : placeE es s = i := by
  unfold placeE
  rcases Nat.lt_or_ge i es.length with h | h
  · rw [List.findIdx_eq h]
    exact ⟨by simp [h2 h], fun j hj => by simp [h1 j (by omega) hj]⟩
  · obtain rfl : i = es.length := by omega
    rw [List.findIdx_eq_length]
    intro x hx
    obtain ⟨j, hj, rfl⟩ := List.mem_iff_getElem.1 hx
    simp [h1 j hj hj]
theorem placeE_le (es : List En) (s : List UInt8) : placeE es s ≤ es.length := List.findIdx_le_length
theorem isAtE_of {es : List En} {s : List UInt8} {i : Nat} (h : placeE es s = i) : isAtE es s = (match es[i]? with | some e => decide (e.n = s) | none => false) := by unfold isAtE; rw [h]
theorem ordE_sort {es : List En} (h : ordE es = true) : SortE es := by
  have h1 : ∀ i (hi : i < es.length), 0 < i → ltB (es[i - 1]'(by omega)).n es[i].n = true := by
    intro i hi h0
    have := List.all_eq_true.1 h i (List.mem_range.2 hi)
    rw [ordAt_eq hi, decide_eq_false (by omega), Bool.and_eq_true, Bool.false_or] at this
    have e : es.getD (i - 1) default = es[i - 1] := by simp [List.getD, show i - 1 < es.length by omega]
    rw [e] at this
    exact this.2
  refine List.pairwise_iff_getElem.2 fun i j hi hj hij => ?_
  induction j with
  | zero => omega
  | succ j ih =>
    have h2 := h1 (j + 1) hj (by omega)
    simp only [Nat.add_sub_cancel] at h2
    rcases Nat.lt_or_ge i j with h' | h'
    · exact ltB_trans (ih (by omega) h') h2
    · obtain rfl : i = j := by omega
      exact h2
theorem ordE_name {es : List En} (h : ordE es = true) : ∀ e ∈ es, nameB e.n = true := by
  intro e he
  obtain ⟨i, hi, rfl⟩ := List.mem_iff_getElem.1 he
  have := List.all_eq_true.1 h i (List.mem_range.2 hi)
  rw [ordAt_eq hi, Bool.and_eq_true] at this
  exact this.1
theorem cmp67_ok (m : AMem) (e : En) (s : List UInt8) (a : Option Addr) (n cap : Nat) :
    PureC Tryd.prog 3 67 [.agg [.string ⟨e.n.toArray⟩, .int .u8 e.t.k, .string ⟨e.t.d.toArray⟩, .slice a n cap].toArray, .string ⟨s.toArray⟩] m (.int .i64 (cmpB e.n s)) := by
  have k := fun M => DetC.known (cmp68_ok M e.n s)
  refine pure_of_W (fn := Tryd.f67) rfl rfl F67_ok (by simp [F67]) (.int _ _) ?_
  repeat first | simp -implicitDefEqProofs (disch := first | omega | with_reducible assumption | (simp only [qU, qC]; omega)) only [qT, qA, reduceCtorEq, qB, qC, qD, qE, qF, qG, qH, qI, qJ, qK, qL, reduceIte, F67, cellsOf_entry, cutL4_0, k] | refine OrW.go ?_
theorem bin66_ok (m : AMem) (a : Option Addr) (cap : Nat) (es : List En) (s : List UInt8) (hE : SlE m a cap es) (hS : SortE es) (hn : es.length ≤ 1000000) :
    PureC Tryd.prog 3 66 [.slice a es.length cap, .string ⟨s.toArray⟩, .func (.func 67) #[] #[]] m (.tuple #[.int .i64 (placeE es s), .bool (isAtE es s)]) := by
  refine pure_of_W (fn := Tryd.f66) rfl rfl F66_ok (by simp [F66]) (.tuple2 (.int _ _) (.bool _)) ?_
  simp -implicitDefEqProofs (disch := first | omega | with_reducible assumption | (simp only [qU, qC]; omega)) only [qT, qA, reduceCtorEq, qB, qC, qD, qE, qF, qG, qH, qI, qJ, qK, qL, reduceIte, F66]
  refine W_loop (fun N qs => ∃ (i j : Nat), N = j - i ∧ qs.ds = [] ∧ qs.m = mx m [] ∧ qs.t 0 = .slice a es.length cap ∧ qs.t 1 = .string ⟨s.toArray⟩ ∧ qs.t 2 = .func (.func 67) #[] #[] ∧ qs.t 8 = .int .i64 es.length ∧ qs.t 9 = .int .i64 i ∧ qs.t 10 = .int .i64 j ∧ i ≤ j ∧ j ≤ es.length ∧ (∀ k (hk : k < es.length), k < i → ltB es[k].n s = true) ∧ (∀ k (hk : k < es.length), j ≤ k → ltB es[k].n s = false)) ((es.length) - (0)) ⟨0, es.length, rfl, rfl, ?qm, ?q0, ?q1, ?q2, ?q8, ?q9, ?q10, ?_⟩ ?_
  case qm | q0 | q1 | q2 | q8 | q9 | q10 => first | rfl | (simp -implicitDefEqProofs (disch := first | omega | with_reducible assumption | (simp only [qU, qC]; omega)) only [qT, qA, reduceCtorEq, qB, qC, qD, qE, qF, qG, qH, qI, qJ, qK, qL, reduceIte]; first | done | rfl | (congr 1; omega))
  · exact ⟨by omega, by omega, fun k _ h => by omega, fun k h1 h2 => by omega⟩
  · rintro N t m1 ds ⟨i, j, rfl, hds, hm, t0, t1, t2, t8, t9, t10, hp⟩
    simp only at hds hm t0 t1 t2 t8 t9 t10
    subst hds; replace hm := hm.symm; subst hm
    obtain ⟨hi, hj, p1, p2⟩ := hp
    have hp := List.pairwise_iff_getElem.1 hS
    by_cases h1 : (i : Int) < (j : Int)
    · have hsh : shr .u64 ((i : Int) + (j : Int)) 1 = (((i + j) / 2 : Nat) : Int) := by
        have := shr_nat .u64 (i + j) 1 (by decide)
        rw [Nat.shiftRight_eq_div_pow, Nat.pow_one] at this
        rw [← this]; norm_cast
      have hm : (i + j) / 2 < es.length := by omega
      obtain ⟨b, o, a', cap', rfl, hb, hE', q4, q3, q0⟩ := hE.get hm
      have k := fun M => DetC.known (cmp67_ok M es[(i + j) / 2] s a' es[(i + j) / 2].t.es.length cap')
      repeat first | simp -implicitDefEqProofs (disch := first | omega | with_reducible assumption | (simp only [qU, qC]; omega)) only [qT, qA, reduceCtorEq, qB, qC, qD, qE, qF, qG, qH, qI, qJ, qK, qL, reduceIte, F66_l0, t0, t1, t2, t8, t9, t10, h1, hsh, binV_shr, q4, k] | refine OrW.go ?_
      refine BoolW_dec (fun h => ?_) (fun h => ?_)
      · rw [cmpB_lt] at h
        rw [LoopK_normal]; refine ⟨_, ?_, (i + j) / 2 + 1, j, rfl, rfl, ?qm, ?q0, ?q1, ?q2, ?q8, ?q9, ?q10, ?_⟩
        case qm | q0 | q1 | q2 | q8 | q9 | q10 => first | rfl | (simp -implicitDefEqProofs (disch := first | omega | with_reducible assumption | (simp only [qU, qC]; omega)) only [qT, qA, reduceCtorEq, qB, qC, qD, qE, qF, qG, qH, qI, qJ, qK, qL, reduceIte, t0, t1, t2, t8, t9, t10]; first | done | rfl | (congr 1; omega))
        · omega
        · refine ⟨by omega, hj, fun k hk hki => ?_, p2⟩
          rcases Nat.lt_or_ge k ((i + j) / 2) with h' | h'
          · exact ltB_trans (hp k ((i + j) / 2) hk hm h') h
          · obtain rfl : k = (i + j) / 2 := by omega
            exact h
      · rw [cmpB_lt] at h
        rw [LoopK_normal]; refine ⟨_, ?_, i, (i + j) / 2, rfl, rfl, ?qm, ?q0, ?q1, ?q2, ?q8, ?q9, ?q10, ?_⟩
        case qm | q0 | q1 | q2 | q8 | q9 | q10 => first | rfl | (simp -implicitDefEqProofs (disch := first | omega | with_reducible assumption | (simp only [qU, qC]; omega)) only [qT, qA, reduceCtorEq, qB, qC, qD, qE, qF, qG, qH, qI, qJ, qK, qL, reduceIte, t0, t1, t2, t8, t9, t10]; first | done | rfl | (congr 1; omega))
        · omega
        · refine ⟨by omega, by omega, p1, fun k hk hki => ?_⟩
          cases hl : ltB es[k].n s with
          | false => rfl
          | true =>
            rcases Nat.eq_or_lt_of_le hki with h' | h'
            · subst h'; exact absurd hl h
            · exact absurd (ltB_trans (hp _ k hm hk h') hl) h
    · obtain rfl : i = j := by omega
      have hpl := placeE_of hj p1 (fun h => p2 i h (Nat.le_refl _))
      rw [isAtE_of hpl, hpl]
      by_cases h2 : (i : Int) < (es.length : Int)
      · have hm : i < es.length := by omega
        obtain ⟨b, o, a', cap', rfl, hb, hE', q4, q3, q0⟩ := hE.get hm
        have k := fun M => DetC.known (cmp67_ok M es[i] s a' es[i].t.es.length cap')
        repeat first | simp -implicitDefEqProofs (disch := first | omega | with_reducible assumption | (simp only [qU, qC]; omega)) only [qT, qA, reduceCtorEq, qB, qC, qD, qE, qF, qG, qH, qI, qJ, qK, qL, reduceIte, F66_l0, t0, t1, t2, t8, t9, t10, h1, h2, q4, k] | refine OrW.go ?_
        simp [hm, cmpB_eq]
      · have hm : ¬ i < es.length := by omega
        repeat first | simp -implicitDefEqProofs (disch := first | omega | with_reducible assumption | (simp only [qU, qC]; omega)) only [qT, qA, reduceCtorEq, qB, qC, qD, qE, qF, qG, qH, qI, qJ, qK, qL, reduceIte, F66_l0, t0, t1, t2, t8, t9, t10, h1, h2] | refine OrW.go ?_
        simp [hm]
theorem eqV_someS (a : Addr) (l c l' c' : Nat) : eqV .nilS (.slice (some a) l c) (.slice none l' c') = some false := rfl
theorem clone65_ok (m1 m : AMem) (a : Option Addr) (cap : Nat) (es : List En) (hE : SlE m1 a cap es) (ho : Old m1 m) (hn : es.length ≤ 1000000) (h0 : 0 < es.length) :
    ∃ X, EsC m1 es X ∧ DetC Tryd.prog 3 65 [.slice a es.length cap] m (.slice (some ⟨m.size + 1, 0, none⟩) es.length openCap) (mx m [.cells [] 48 true .exact, .cells X 48 true (.room zE)]) := by
  obtain ⟨X, hX, happ⟩ := appE_clone (hE.x ho) hn h0
  obtain ⟨b, o, a', cap', rfl, hb, hE', q4, q3, q0⟩ := hE.get h0
  refine ⟨X, hX, det_exact (fn := Tryd.f65) rfl rfl F65_ok (by simp [F65]) ?_⟩
  simp only [zE] at happ
  repeat first | simp -implicitDefEqProofs (disch := first | omega | with_reducible assumption | (simp only [qU, qC]; omega)) only [qT, qA, reduceCtorEq, qB, qC, qD, qE, qF, qG, qH, qI, qJ, qK, qL, reduceIte, F65, eqV_someS, stepOp_app_v, happ, zE] | refine OrW.go ?_
theorem rep_len (n : Nat) : (rep zE n).length = n * 4 := by simp [rep, zE]
theorem grow78_ok (m : AMem) (n : Nat) (h0 : 0 < n) (hn : n ≤ 1000000) :
    DetC Tryd.prog 3 78 [.slice none 0 0, .int .i64 n] m (.slice (some ⟨m.size, 0, none⟩) 0 openCap) (mx m [.cells (rep zE n) 48 true (.room zE)]) := by
  refine det_exact (fn := Tryd.f78) rfl rfl F78_ok (by simp [F78]) ?_
  have e : appendTo 48 4 64 zE (.slice none 0 0) n (rep zE n) (mx m []) = some (.slice (some ⟨m.size, 0, none⟩) n openCap, mx m [.cells (rep zE n) 48 true (.room zE)]) := by
    rw [appendTo_nil h0 (by omega) (by omega), mx_push, mx_nil_size]; rfl
  have e1 : slVv 4 (.slice none 0 0) none (some (.int .i64 0)) none (mx m []) = some (.slice none 0 0, mx m []) := by
    simp only [slVv, if_neg (Nat.ne_of_lt zeroCap_lt)]; rfl
  have e2 : slVv 4 (.slice (some ⟨m.size, 0, none⟩) n openCap) none (some (.int .i64 0)) none (mx m [.cells (rep zE n) 48 true (.room zE)]) = some (.slice (some ⟨m.size, 0, none⟩) 0 openCap, mx m [.cells (rep zE n) 48 true (.room zE)]) := by
    simp only [slVv, if_true, mx_new0, List.getD_cons_zero, Spare.size, rep_len]
    rw [if_pos ⟨by simp [zE], by omega⟩]
    simp [cutV]
  have h1 : ¬ (n : Int) < 0 := by omega
  have h2 : (0 : Int) < (n : Int) := by omega
  simp only [zE] at e e1 e2
  repeat first | simp -implicitDefEqProofs (disch := first | omega | with_reducible assumption | (simp only [qU, qC]; omega)) only [qT, qA, reduceCtorEq, qB, qC, qD, qE, qF, qG, qH, qI, qJ, qK, qL, reduceIte, F78, stepOp_appN, stepOp_slV_v, e1, e, e2, h1, h2, Int.sub_zero, zE] | refine OrW.go ?_
def SSE (m1 m : AMem) (a : Option Addr) (ls : List (List En)) : Prop := ∀ i (h : i < ls.length), ∃ b o a' cap', a = some ⟨b, o, none⟩ ∧ b < m.size ∧ rdO (m.get b) (o + i) 1 = some [.slice a' ls[i].length cap'] ∧ SlX m1 m a' cap' ls[i]
theorem flatE_succ {ls : List (List En)} {i : Nat} (h : i < ls.length) : (ls.take (i + 1)).flatten = (ls.take i).flatten ++ ls[i] := by
  rw [List.take_succ_eq_append_getElem h, List.flatten_append]; simp
theorem flatE_le (ls : List (List En)) (i : Nat) : (ls.take i).flatten.length ≤ ls.flatten.length := by
  conv => rhs; rw [← List.take_append_drop i ls, List.flatten_append, List.length_append]
  omega
theorem concat69_ok (m1 m : AMem) (a : Option Addr) (cap : Nat) (ls : List (List En)) (hls : SSE m1 m a ls) (hl : ls.length ≤ 1000) (hn : 0 < ls.flatten.length) (hb : ls.flatten.length ≤ 1000000) :
    RelC Tryd.prog 3 69 [.slice a ls.length cap] m fun v M => ∃ Z, EsC m1 ls.flatten Z ∧ v = .slice (some ⟨m.size, 0, none⟩) ls.flatten.length openCap ∧ M = mx m [.cells Z 48 true (.room zE)] := by
  refine rel_of_W (fn := Tryd.f69) rfl rfl F69_ok (by simp [F69]) ?_
  simp -implicitDefEqProofs (disch := first | omega | with_reducible assumption | (simp only [qU, qC]; omega)) only [qT, qA, reduceCtorEq, qB, qC, qD, qE, qF, qG, qH, qI, qJ, qK, qL, reduceIte, F69]
  refine W_loop (fun N qs => ∃ (i : Nat), N = ls.length - i ∧ qs.ds = [] ∧ qs.m = mx m [] ∧ qs.t 0 = .slice a ls.length cap ∧ qs.t 3 = .int .i64 (ls.take i).flatten.length ∧ qs.t 9 = .slice a ls.length cap ∧ qs.t 10 = .int .i64 ls.length ∧ qs.t 11 = .int .i64 i ∧ i ≤ ls.length) (ls.length - (0)) ⟨0, rfl, rfl, ?qm, ?q0, ?q3, ?q9, ?q10, ?q11, ?_⟩ ?_
  case qm | q0 | q3 | q9 | q10 | q11 => first | rfl | (simp -implicitDefEqProofs (disch := first | omega | with_reducible assumption | (simp only [qU, qC]; omega)) only [qT, qA, reduceCtorEq, qB, qC, qD, qE, qF, qG, qH, qI, qJ, qK, qL, reduceIte, List.take_zero, List.flatten_nil]; first | done | rfl | (congr 1; omega))
  · omega
  · rintro N t m1 ds ⟨i, rfl, hds, hm, t0, t3, t9, t10, t11, hp⟩
    simp only at hds hm t0 t3 t9 t10 t11
    subst hds; replace hm := hm.symm; subst hm
    have hfl := flatE_le ls i
    by_cases h1 : (i : Int) < (ls.length : Int)
    · have hi : i < ls.length := by omega
      obtain ⟨b, o, a', cap', rfl, hbb, hr, hE⟩ := hls i hi
      have hns := flatE_succ hi
      have hfl2 := flatE_le ls (i + 1)
      have hlen : (ls.take (i + 1)).flatten.length = (ls.take i).flatten.length + ls[i].length := by rw [hns, List.length_append]
      have hneg : ¬ ((ls.take i).flatten.length : Int) + (ls[i].length : Int) < 0 := by omega
      simp -implicitDefEqProofs (disch := first | omega | with_reducible assumption | (simp only [qU, qC]; omega)) only [qT, qA, reduceCtorEq, qB, qC, qD, qE, qF, qG, qH, qI, qJ, qK, qL, reduceIte, F69_l0, t0, t3, t9, t10, t11, h1, hr, hneg]
      rw [LoopK_normal]; refine ⟨_, ?_, i + 1, rfl, rfl, ?qm, ?q0, ?q3, ?q9, ?q10, ?q11, ?_⟩
      case qm | q0 | q3 | q9 | q10 | q11 => first | rfl | (simp -implicitDefEqProofs (disch := first | omega | with_reducible assumption | (simp only [qU, qC]; omega)) only [qT, qA, reduceCtorEq, qB, qC, qD, qE, qF, qG, qH, qI, qJ, qK, qL, reduceIte, t0, t3, t9, t10, t11, hlen, Int.natCast_add]; first | done | rfl | (congr 1; omega))
      · omega
      · omega
    · obtain rfl : i = ls.length := by omega
      rw [List.take_length] at t3
      have k := DetC.known (grow78_ok (mx m []) ls.flatten.length hn hb)
      rw [mx_mx, List.nil_append, mx_nil_size] at k
      repeat first | simp -implicitDefEqProofs (disch := first | omega | with_reducible assumption | (simp only [qU, qC]; omega)) only [qT, qA, reduceCtorEq, qB, qC, qD, qE, qF, qG, qH, qI, qJ, qK, qL, reduceIte, F69_l0, t0, t3, t9, t10, t11, h1, k] | refine OrW.go ?_
      refine W_loop (fun N qs => ∃ (i : Nat) (Z : List Value), N = ls.length - i ∧ qs.ds = [] ∧ qs.m = mx m [.cells (Z ++ rep zE (ls.flatten.length - (ls.take i).flatten.length)) 48 true (.room zE)] ∧ qs.t 6 = .slice (some ⟨m.size, 0, none⟩) (ls.take i).flatten.length openCap ∧ qs.t 25 = .slice a ls.length cap ∧ qs.t 26 = .int .i64 ls.length ∧ qs.t 27 = .int .i64 i ∧ i ≤ ls.length ∧ EsC m1 (ls.take i).flatten Z) (ls.length - (0)) ⟨0, [], rfl, rfl, ?qm, ?q6, ?q25, ?q26, ?q27, ?_⟩ ?_
      case qm | q6 | q25 | q26 | q27 => first | rfl | (simp -implicitDefEqProofs (disch := first | omega | with_reducible assumption | (simp only [qU, qC]; omega)) only [qT, qA, reduceCtorEq, qB, qC, qD, qE, qF, qG, qH, qI, qJ, qK, qL, reduceIte, t0, t3, t9, t10, t11, List.take_zero, List.flatten_nil]; first | done | rfl | (congr 1; omega))
      · exact ⟨by omega, by simpa using EsC.nil m1⟩
      · rintro N t m1 ds ⟨i, Z, rfl, hds, hm, t6, t25, t26, t27, hp⟩
        simp only at hds hm t6 t25 t26 t27
        subst hds; replace hm := hm.symm; subst hm
        obtain ⟨hi0, hZ⟩ := hp
        have hfl := flatE_le ls i
        by_cases h1 : (i : Int) < (ls.length : Int)
        · have hi : i < ls.length := by omega
          obtain ⟨b, o, a', cap', rfl, hbb, hr, hE⟩ := hls i hi
          have hfl2 := flatE_le ls (i + 1)
          have hns := flatE_succ hi
          rw [hns, List.length_append] at hfl2
          obtain ⟨X, hX, happ⟩ := appE_in hE hZ hfl2 hb
          rw [← hns] at happ hX
          simp only [zE] at happ
          simp -implicitDefEqProofs (disch := first | omega | with_reducible assumption | (simp only [qU, qC]; omega)) only [qT, qA, reduceCtorEq, qB, qC, qD, qE, qF, qG, qH, qI, qJ, qK, qL, reduceIte, F69_l1, t6, t25, t26, t27, h1, hr, stepOp_app_v, happ, zE]
          rw [LoopK_normal]; refine ⟨_, ?_, i + 1, Z ++ X, rfl, rfl, ?qm, ?q6, ?q25, ?q26, ?q27, ?_⟩
          case qm | q6 | q25 | q26 | q27 => first | rfl | (simp -implicitDefEqProofs (disch := first | omega | with_reducible assumption | (simp only [qU, qC]; omega)) only [qT, qA, reduceCtorEq, qB, qC, qD, qE, qF, qG, qH, qI, qJ, qK, qL, reduceIte, t6, t25, t26, t27, zE]; first | done | rfl | (congr 1; omega))
          · omega
          · exact ⟨by omega, hX⟩
        · obtain rfl : i = ls.length := by omega
          rw [List.take_length] at t6 hZ
          simp -implicitDefEqProofs (disch := first | omega | with_reducible assumption | (simp only [qU, qC]; omega)) only [qT, qA, reduceCtorEq, qB, qC, qD, qE, qF, qG, qH, qI, qJ, qK, qL, reduceIte, F69_l1, t6, t25, t26, t27, h1, List.take_length, Nat.sub_self]
          have e0 : rep zE 0 = [] := rfl
          rw [e0, List.append_nil]
          exact ⟨_, rfl, fun _ => ⟨_, hZ, rfl, rfl⟩⟩
end Go.Proofs.YtfjgpeoblnpelaaDoor
