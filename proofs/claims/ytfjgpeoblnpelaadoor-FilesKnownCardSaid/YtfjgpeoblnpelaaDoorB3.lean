/- A node put at a path, by the document. -/
import Derived.Test.YtfjgpeoblnpelaaDoorB2
set_option linter.unusedVariables false
set_option linter.unusedSimpArgs false
set_option linter.unnecessarySimpa false
open Nat renaming reduceBEq → qA, reduceEqDiff → qB, reduceAdd → qC, reduceMul → qD, reduceSub → qE
open Int renaming reduceToNat → qF, reduceEq → qG, reduceLT → qH, reduceLE → qI, reduceAdd → qJ, reduceSub → qK, reduceMul → qL
namespace Go.AM
def Gap (m1 m M M' : AMem) : Prop := M.size ≤ M'.size ∧ ∀ b, b < M.size → (b < m1.size ∨ m.size ≤ b) → M'.get b = M.get b
theorem Gap.of {m1 m M M' : AMem} (h : Old M M') : Gap m1 m M M' := ⟨h.1, fun b hb _ => h.2 b hb⟩
theorem Gap.old {m1 m M M' : AMem} (h : Gap m1 m M M') (h1 : Old m1 M) : Old m1 M' := ⟨Nat.le_trans h1.1 h.1, fun b hb => (h.2 b (Nat.lt_of_lt_of_le hb h1.1) (.inl hb)).trans (h1.2 b hb)⟩
end Go.AM
namespace Go.Proofs.YtfjgpeoblnpelaaDoor
open Go Go.AM
set_option linter.unusedVariables false
set_option linter.unusedSimpArgs false
set_option maxRecDepth 100000
set_option maxHeartbeats 2000000

theorem fill_e13 (a b c d : Value) (k : Int) (s : ByteArray) (p : Option Addr) (n cap : Nat) : fill [a, b, c, d] [(1, 3, .agg [.int .u8 k, .string s, .slice p n cap].toArray)] = some [a, .int .u8 k, .string s, .slice p n cap] := rfl
theorem fill_e04 (a b c d : Value) (s0 : ByteArray) (k : Int) (s : ByteArray) (p : Option Addr) (n cap : Nat) : fill [a, b, c, d] [(0, 4, .agg [.string s0, .int .u8 k, .string s, .slice p n cap].toArray)] = some [.string s0, .int .u8 k, .string s, .slice p n cap] := rfl
def putT : List (List UInt8) → Tr → Tr → Option Tr
  | [], _, x => some x
  | s :: r, t, x => if t.k = 4 then
      (if 0 ≤ idxE t.es s then (putT r (t.es.getD (idxE t.es s).toNat default).t x).map fun y => .nd t.k t.d (t.es.set (idxE t.es s).toNat (.mk s y))
       else if r = [] then some (.nd t.k t.d (t.es.take (placeE t.es s) ++ .mk s x :: t.es.drop (placeE t.es s))) else none)
    else none
theorem putT_kind {k : Int} {d : List UInt8} {es : List En} {s : List UInt8} {r : List (List UInt8)} {x : Tr} (h : k ≠ 4) : putT (s :: r) (.nd k d es) x = none := if_neg h
theorem putT_in {k : Int} {d : List UInt8} {es : List En} {s : List UInt8} {r : List (List UInt8)} {x : Tr} (h : k = 4) {j : Nat} (hj : j < es.length) (hx : idxE es s = (j : Nat)) :
    putT (s :: r) (.nd k d es) x = (putT r es[j].t x).map fun y => .nd k d (es.set j (.mk s y)) := by
  refine (if_pos h).trans ?_
  refine (if_pos (show 0 ≤ idxE es s by omega)).trans ?_
  show (putT r (es.getD (idxE es s).toNat default).t x).map (fun y => Tr.nd k d (es.set (idxE es s).toNat (.mk s y))) = _
  rw [hx]; simp [List.getD, hj]
theorem putT_new {k : Int} {d : List UInt8} {es : List En} {s : List UInt8} {r : List (List UInt8)} {x : Tr} (h : k = 4) (hx : idxE es s = -1) :
    putT (s :: r) (.nd k d es) x = if r = [] then some (.nd k d (es.take (placeE es s) ++ .mk s x :: es.drop (placeE es s))) else none := by
  refine (if_pos h).trans ?_
  exact if_neg (show ¬ 0 ≤ idxE es s by omega)

theorem refPut_ok (x : Tr) : ∀ (ns : List (List UInt8)) (tr : Tr) (m1 m : AMem) (c cx : List Value) (a : Option Addr) (cap : Nat), TrC m1 tr c → TrC m1 x cx → Old m1 m → StrS m a cap ns → tr.count ≤ 500000 → ns.length ≤ 1000000 →
    RelC Tryd.prog 3 53 [.agg c.toArray, .slice a ns.length cap, .agg cx.toArray] m fun v M => Old m M ∧ ∃ u c', v = .tuple #[.agg c'.toArray, .bool (putT ns tr x).isSome] ∧ (∀ M', Gap m1 m M M' → TrC M' u c') ∧ ∀ w, putT ns tr x = some w → u = w := by
  intro ns
  induction ns with
  | nil =>
    intro tr m1 m c cx a cap hc hx ho hS hn hl
    obtain ⟨a1, cap1, rfl, hE⟩ := hc.ex
    have hx0 := hx
    obtain ⟨a2, cap2, rfl, hE2⟩ := hx.ex
    refine rel_of_W (fn := Tryd.f53) rfl rfl F53_ok (by simp [F53]) ?_
    repeat first | simp -implicitDefEqProofs (disch := first | omega | with_reducible assumption | (simp only [qU, qC]; omega)) only [qT, qA, reduceCtorEq, qB, qC, qD, qE, qF, qG, qH, qI, qJ, qK, qL, reduceIte, F53, cellsOf_node, cutL3, splice3] | refine OrW.go ?_
    refine ⟨_, rfl, fun _ => ⟨x, _, rfl, fun M' hG => ?_, fun w hw => Option.some.inj hw⟩⟩
    exact hx0.old (hG.old (ho.trans (Old.here m _)))
  | cons s r ih =>
    intro tr m1 m c cx a cap hc hx ho hS hn hl
    obtain ⟨k, d, es⟩ := tr
    have hc0 := hc
    obtain ⟨a1, cap1, rfl, hE⟩ := trC_nd hc
    have hx0 := hx
    obtain ⟨a2, cap2, rfl, hE2⟩ := hx.ex
    have hcl := countL_len es
    simp only [Tr.count] at hn
    obtain ⟨b0, o0, rfl, hb0, q0⟩ := hS.get (i := 0) (by simp)
    simp only [List.getElem_cons_zero, Nat.add_zero] at q0
    rw [List.length_cons] at hl ⊢
    have g0 : ¬ ((r.length + 1 : Nat) : Int) = 0 := by omega
    by_cases hk : k = 4
    · subst hk
      have hk : (4 : Int) = 4 := rfl
      have kF := fun objs => DetC.known (refFind_ok (mx m objs) 4 d es s _ (hc0.old (ho.trans (Old.here m _))) (by omega))
      simp only [if_pos hk] at kF
      rcases idxE_cases es s with ⟨hi, _⟩ | ⟨j, hj, hi, hjn⟩
      · rw [hi] at kF
        by_cases hr : r = []
        · subst hr
          have hp : putT [s] (.nd 4 d es) x = some (.nd 4 d (es.take (placeE es s) ++ .mk s x :: es.drop (placeE es s))) := by rw [putT_new hk hi, if_pos rfl]
          have hp' := hp
          have g1 : ¬ ((0 + 1 : Nat) : Int) > 1 := by omega
          refine rel_of_W (fn := Tryd.f53) rfl rfl F53_ok (by simp [F53]) ?_
          repeat first | simp -implicitDefEqProofs (disch := first | omega | with_reducible assumption | (simp only [qU, qC]; omega)) only [qT, qA, reduceCtorEq, qB, qC, qD, qE, qF, qG, qH, qI, qJ, qK, qL, reduceIte, F53, cellsOf_node, cutL3, cutL3_0, splice3, g0, g1, q0, kF] | refine OrW.go ?_
          refine W_loop (fun N qs => ∃ (i : Nat), N = es.length - i ∧ qs.ds = [] ∧ qs.m = mx m [.cells [.int .u8 4, .string ⟨d.toArray⟩, .slice a1 es.length cap1] 26 true .exact, .cells [.int .u8 x.k, .string ⟨x.d.toArray⟩, .slice a2 x.es.length cap2] 26 true .exact, .cells zN 26 true .exact] ∧ qs.t 1 = .slice (some ⟨b0, o0, none⟩) 1 cap ∧ qs.t 3 = .pointer (some ⟨m.size, 0, none⟩) ∧ qs.t 5 = .pointer (some ⟨m.size + 1, 0, none⟩) ∧ qs.t 6 = .pointer (some ⟨m.size + 2, 0, none⟩) ∧ qs.t 9 = .slice none 0 0 ∧ qs.t 12 = .int .i64 i ∧ i ≤ es.length ∧ ∀ k (hk : k < es.length), k < i → ltB es[k].n s = true) (es.length - (0)) ⟨0, rfl, rfl, ?qm, ?q1, ?q3, ?q5, ?q6, ?q9, ?q12, ?_⟩ ?_
          case qm | q1 | q3 | q5 | q6 | q9 | q12 => first | rfl | (simp -implicitDefEqProofs (disch := first | omega | with_reducible assumption | (simp only [qU, qC]; omega)) only [qT, qA, reduceCtorEq, qB, qC, qD, qE, qF, qG, qH, qI, qJ, qK, qL, reduceIte, zN]; first | done | rfl | (congr 1; omega))
          · exact ⟨by omega, fun k _ h => by omega⟩
          · rintro N t m1 ds ⟨i, rfl, hds, hm, t1, t3, t5, t6, t9, t12, hp⟩
            simp only at hds hm t1 t3 t5 t6 t9 t12
            subst hds; replace hm := hm.symm; subst hm
            obtain ⟨hi0, hall⟩ := hp
            have hoz := ho.1
            have stop : (∀ h : i < es.length, ltB es[i].n s = false) → ∃ capA aB capB v1 M1, (∀ objs, slVv 4 (.slice a1 es.length cap1) none (some (.int .i64 (i : Int))) none (mx m objs) = some (.slice a1 (es.take i).length capA, mx m objs)) ∧
                (∀ M, Old m M → slVv 4 (.slice a1 es.length cap1) (some (.int .i64 (i : Int))) none none M = some (.slice aB (es.drop i).length capB, M)) ∧ SlX m1 m aB capB (es.drop i) ∧ placeE es s = i ∧
                appV 48 4 64 zE (.slice none 0 0) (.slice a1 (es.take i).length capA) (mx m [.cells [.int .u8 4, .string ⟨d.toArray⟩, .slice a1 es.length cap1] 26 true .exact, .cells [.int .u8 x.k, .string ⟨x.d.toArray⟩, .slice a2 x.es.length cap2] 26 true .exact, .cells zN 26 true .exact]) = some (v1, mx M1 []) ∧
                EBuf m1 (mx m [.cells [.int .u8 4, .string ⟨d.toArray⟩, .slice a1 es.length cap1] 26 true .exact, .cells [.int .u8 x.k, .string ⟨x.d.toArray⟩, .slice a2 x.es.length cap2] 26 true .exact, .cells zN 26 true .exact]) M1 v1 (es.take i) ∧
                Old (mx m [.cells [.int .u8 4, .string ⟨d.toArray⟩, .slice a1 es.length cap1] 26 true .exact, .cells [.int .u8 x.k, .string ⟨x.d.toArray⟩, .slice a2 x.es.length cap2] 26 true .exact, .cells zN 26 true .exact]) M1 := by
              intro h
              obtain ⟨capA, htk, hA⟩ := (hE.x ho).takeM (SlE.len_lt (by omega)) hi0
              obtain ⟨aB, capB, hdr, hBd⟩ := (hE.x ho).dropM (SlE.len_lt (by omega)) hi0
              obtain ⟨v1, M1, happ1, hB1, hk1⟩ := (EBuf.nil m1 _ _).app (Nat.le_refl _) (hA.old (Old.here m [.cells [.int .u8 4, .string ⟨d.toArray⟩, .slice a1 es.length cap1] 26 true .exact, .cells [.int .u8 x.k, .string ⟨x.d.toArray⟩, .slice a2 x.es.length cap2] 26 true .exact, .cells zN 26 true .exact])) (by rw [List.length_take]; simp only [List.length_nil]; omega)
              rw [mx_mx, List.append_nil] at happ1
              exact ⟨capA, aB, capB, v1, M1, fun objs => htk _ (Old.here m objs), hdr, hBd, placeE_of hi0 hall h, happ1, hB1, ⟨hk1.1, fun y hy => hk1.2 y hy (by rintro ⟨n, h⟩; cases h)⟩⟩
            by_cases h1 : (i : Int) < (es.length : Int)
            · have hi : i < es.length := by omega
              obtain ⟨b2, o2, a', cap', rfl, hbb, hE', q4, q3, q00⟩ := hE.get hi
              rw [← ho.2 b2 hbb] at q00
              have e5 := strLt_mk es[i].n s
              cases hlt : ltB es[i].n s with
              | true =>
                rw [hlt] at e5
                repeat first | simp -implicitDefEqProofs (disch := first | omega | with_reducible assumption | (simp only [qU, qC]; omega)) only [qT, qA, reduceCtorEq, qB, qC, qD, qE, qF, qG, qH, qI, qJ, qK, qL, reduceIte, F53_l0, t1, t3, t5, t6, t9, t12, h1, q0, q00, binV_slss, e5, cutL3_2] | refine OrW.go ?_
                rw [LoopK_normal]; refine ⟨_, ?_, i + 1, rfl, rfl, ?qm, ?q1, ?q3, ?q5, ?q6, ?q9, ?q12, ?_⟩
                case qm | q1 | q3 | q5 | q6 | q9 | q12 => first | rfl | (simp -implicitDefEqProofs (disch := first | omega | with_reducible assumption | (simp only [qU, qC]; omega)) only [qT, qA, reduceCtorEq, qB, qC, qD, qE, qF, qG, qH, qI, qJ, qK, qL, reduceIte, t1, t3, t5, t6, t9, t12, Int.natCast_add, zN]; first | done | rfl | (congr 1; omega))
                · omega
                · refine ⟨by omega, fun k hk hki => ?_⟩
                  by_cases e : k = i
                  · subst e; exact hlt
                  · exact hall k hk (by omega)
              | false =>
                rw [hlt] at e5
                obtain ⟨capA, aB, capB, v1, M1, htk, hdr, hBd, hpl, happ1, hB1, hO1⟩ := stop fun _ => hlt
                rw [hpl] at hp'
                have lD1 : (es.take i).length ≤ es.length := by rw [List.length_take]; omega
                have lD2 : (es.take i).length + (es.drop i).length = es.length := by rw [List.length_take, List.length_drop]; omega
                generalize es.take i = D1 at *
                generalize es.drop i = D2 at *
                simp only [zE, zN] at happ1
                repeat first | simp -implicitDefEqProofs (disch := first | omega | with_reducible assumption | (simp only [qU, qC]; omega)) only [qT, qA, reduceCtorEq, qB, qC, qD, qE, qF, qG, qH, qI, qJ, qK, qL, reduceIte, F53_l0, t1, t3, t5, t6, t9, t12, h1, q0, q00, binV_slss, e5, cutL3_2, zN, stepOp_slV_v, htk, stepOp_app_v, happ1] | refine OrW.go ?_
                have hm1 : Old m M1 := (Old.here m _).trans hO1
                have hz1 := hO1.1
                rw [mx_size] at hz1
                simp only [List.length_cons, List.length_nil] at hz1
                have w0 : M1.get m.size = .cells [.int .u8 4, .string ⟨d.toArray⟩, .slice (some ⟨b2, o2, none⟩) es.length cap1] 26 true .exact := (hO1.2 _ (by rw [mx_size]; simp)).trans (mx_new0 _ _)
                have w1 : M1.get (m.size + 1) = .cells [.int .u8 x.k, .string ⟨x.d.toArray⟩, .slice a2 x.es.length cap2] 26 true .exact := (hO1.2 _ (by rw [mx_size]; simp)).trans (mx_new _ _ 1)
                have q1 := q0
                rw [← hm1.2 b0 hb0] at q1
                have g6 : b0 < M1.size := by omega
                obtain ⟨v2, M2, happ2, hB2, hk2⟩ := (hB1.old (Old.here M1 [.cells [.string ⟨s.toArray⟩, .int .u8 x.k, .string ⟨x.d.toArray⟩, .slice a2 x.es.length cap2] 48 true .exact])).app (by rw [mx_size, mx_size]; simp only [List.length_cons, List.length_nil]; omega) (SlX.one (s := s) hx0) (by simp only [List.length_cons, List.length_nil]; omega)
                have hO2 := (hB1.old (Old.here M1 _)).keepOld hk2 (hO1.trans (Old.here M1 _))
                rw [mx_mx, List.append_nil] at happ2
                have hm2 : Old m M2 := (Old.here m _).trans hO2
                have hz2 := hO2.1
                rw [mx_size] at hz2
                simp only [List.length_cons, List.length_nil] at hz2
                have x0 : M2.get m.size = .cells [.int .u8 4, .string ⟨d.toArray⟩, .slice (some ⟨b2, o2, none⟩) es.length cap1] 26 true .exact := (hO2.2 _ (by rw [mx_size]; simp)).trans (mx_new0 _ _)
                have hdr2 := hdr (mx M2 []) (hm2.mx _)
                obtain ⟨v3, M3, happ3, hB3, hk3⟩ := hB2.app (by rw [mx_size]; simp only [List.length_cons, List.length_nil]; omega) (hBd.old hm2) (by rw [List.length_append]; simp only [List.length_cons, List.length_nil]; omega)
                have hO3 := hB2.keepOld hk3 hO2
                have hm3 : Old m M3 := (Old.here m _).trans hO3
                have hz3 := hO3.1
                rw [mx_size] at hz3
                simp only [List.length_cons, List.length_nil] at hz3
                have y0 : M3.get m.size = .cells [.int .u8 4, .string ⟨d.toArray⟩, .slice (some ⟨b2, o2, none⟩) es.length cap1] 26 true .exact := (hO3.2 _ (by rw [mx_size]; simp)).trans (mx_new0 _ _)
                have y2 : M3.get (m.size + 2) = .cells zN 26 true .exact := (hO3.2 _ (by rw [mx_size]; simp)).trans (mx_new _ _ 2)
                simp only [zE, zN, List.length_cons, List.length_nil, Nat.zero_add] at happ2 happ3 y2
                rcases hB3 with ⟨hn0, _⟩ | ⟨bZ, Z, z1, z2, rfl, z4, z5⟩
                · simp at hn0
                rw [mx_size] at z1
                simp only [List.length_cons, List.length_nil] at z1
                repeat first | simp -implicitDefEqProofs (disch := first | omega | with_reducible assumption | (simp only [qU, qC]; omega)) only [qT, qA, reduceCtorEq, qB, qC, qD, qE, qF, qG, qH, qI, qJ, qK, qL, reduceIte, t1, t3, t5, t6, t9, t12, w1, q1, g6, fill_e04, fill_e13, cutL3, zN, stepOp_app_v, happ2, x0, cutL3_2, stepOp_slV_v, hdr2, happ3, y0, y2, splice3_2, splice3, cellsOf_node, cellsOf_entry] | refine OrW.go ?_
                have hf : ∀ A B objs, Old m (mx ((M3.set m.size A).set (m.size + 2) B) objs) := fun A B objs => ((hm3.set (Nat.le_refl _) A).set (by omega) B).mx objs
                refine ⟨_, rfl, fun _ => ⟨hf _ _ _, .nd 4 d (D1 ++ .mk s x :: D2), [.int .u8 4, .string ⟨d.toArray⟩, .slice (some ⟨bZ, 0, none⟩) (D1.length + 1 + D2.length) openCap], by rw [hp']; rfl, fun M' hG => ?_, fun w hw => ?_⟩⟩
                · have ho' := hG.old (ho.trans (hf _ _ _))
                  obtain ⟨hG1, hG2⟩ := hG
                  rw [mx_size, AMem.size_set, AMem.size_set] at hG1
                  simp only [List.length_nil] at hG1
                  have e : D1 ++ [En.mk s x] ++ D2 = D1 ++ .mk s x :: D2 := by simp
                  rw [e] at z5
                  have hS' : SlE M' (some ⟨bZ, 0, none⟩) openCap (D1 ++ .mk s x :: D2) := by
                    refine SlE.whole (e := 48) (w := true) (by omega) ?_ (z5.old ho')
                    rw [hG2 bZ (by rw [mx_size, AMem.size_set, AMem.size_set]; omega) (by omega), mx_old (by rw [AMem.size_set, AMem.size_set]; omega), AMem.get_set_ne _ _ (by omega), AMem.get_set_ne _ _ (by omega)]
                    exact z4
                  have := trC_mk (k := 4) (d := d) hS'
                  rw [show (D1 ++ En.mk s x :: D2).length = D1.length + 1 + D2.length by rw [List.length_append, List.length_cons]; omega] at this
                  exact this
                · rw [hp'] at hw; exact Option.some.inj hw
            · obtain ⟨capA, aB, capB, v1, M1, htk, hdr, hBd, hpl, happ1, hB1, hO1⟩ := stop fun h => by omega
              rw [hpl] at hp'
              have lD1 : (es.take i).length ≤ es.length := by rw [List.length_take]; omega
              have lD2 : (es.take i).length + (es.drop i).length = es.length := by rw [List.length_take, List.length_drop]; omega
              generalize es.take i = D1 at *
              generalize es.drop i = D2 at *
              simp only [zE, zN] at happ1
              repeat first | simp -implicitDefEqProofs (disch := first | omega | with_reducible assumption | (simp only [qU, qC]; omega)) only [qT, qA, reduceCtorEq, qB, qC, qD, qE, qF, qG, qH, qI, qJ, qK, qL, reduceIte, F53_l0, t1, t3, t5, t6, t9, t12, h1, cutL3_2, undef, zN, stepOp_slV_v, htk, stepOp_app_v, happ1] | refine OrW.go ?_
              have hm1 : Old m M1 := (Old.here m _).trans hO1
              have hz1 := hO1.1
              rw [mx_size] at hz1
              simp only [List.length_cons, List.length_nil] at hz1
              have w0 : M1.get m.size = .cells [.int .u8 4, .string ⟨d.toArray⟩, .slice a1 es.length cap1] 26 true .exact := (hO1.2 _ (by rw [mx_size]; simp)).trans (mx_new0 _ _)
              have w1 : M1.get (m.size + 1) = .cells [.int .u8 x.k, .string ⟨x.d.toArray⟩, .slice a2 x.es.length cap2] 26 true .exact := (hO1.2 _ (by rw [mx_size]; simp)).trans (mx_new _ _ 1)
              have q1 := q0
              rw [← hm1.2 b0 hb0] at q1
              have g6 : b0 < M1.size := by omega
              obtain ⟨v2, M2, happ2, hB2, hk2⟩ := (hB1.old (Old.here M1 [.cells [.string ⟨s.toArray⟩, .int .u8 x.k, .string ⟨x.d.toArray⟩, .slice a2 x.es.length cap2] 48 true .exact])).app (by rw [mx_size, mx_size]; simp only [List.length_cons, List.length_nil]; omega) (SlX.one (s := s) hx0) (by simp only [List.length_cons, List.length_nil]; omega)
              have hO2 := (hB1.old (Old.here M1 _)).keepOld hk2 (hO1.trans (Old.here M1 _))
              rw [mx_mx, List.append_nil] at happ2
              have hm2 : Old m M2 := (Old.here m _).trans hO2
              have hz2 := hO2.1
              rw [mx_size] at hz2
              simp only [List.length_cons, List.length_nil] at hz2
              have x0 : M2.get m.size = .cells [.int .u8 4, .string ⟨d.toArray⟩, .slice a1 es.length cap1] 26 true .exact := (hO2.2 _ (by rw [mx_size]; simp)).trans (mx_new0 _ _)
              have hdr2 := hdr (mx M2 []) (hm2.mx _)
              obtain ⟨v3, M3, happ3, hB3, hk3⟩ := hB2.app (by rw [mx_size]; simp only [List.length_cons, List.length_nil]; omega) (hBd.old hm2) (by rw [List.length_append]; simp only [List.length_cons, List.length_nil]; omega)
              have hO3 := hB2.keepOld hk3 hO2
              have hm3 : Old m M3 := (Old.here m _).trans hO3
              have hz3 := hO3.1
              rw [mx_size] at hz3
              simp only [List.length_cons, List.length_nil] at hz3
              have y0 : M3.get m.size = .cells [.int .u8 4, .string ⟨d.toArray⟩, .slice a1 es.length cap1] 26 true .exact := (hO3.2 _ (by rw [mx_size]; simp)).trans (mx_new0 _ _)
              have y2 : M3.get (m.size + 2) = .cells zN 26 true .exact := (hO3.2 _ (by rw [mx_size]; simp)).trans (mx_new _ _ 2)
              simp only [zE, zN, List.length_cons, List.length_nil, Nat.zero_add] at happ2 happ3 y2
              rcases hB3 with ⟨hn0, _⟩ | ⟨bZ, Z, z1, z2, rfl, z4, z5⟩
              · simp at hn0
              rw [mx_size] at z1
              simp only [List.length_cons, List.length_nil] at z1
              repeat first | simp -implicitDefEqProofs (disch := first | omega | with_reducible assumption | (simp only [qU, qC]; omega)) only [qT, qA, reduceCtorEq, qB, qC, qD, qE, qF, qG, qH, qI, qJ, qK, qL, reduceIte, t1, t3, t5, t6, t9, t12, w1, q1, g6, fill_e04, fill_e13, cutL3, zN, stepOp_app_v, happ2, x0, cutL3_2, stepOp_slV_v, hdr2, happ3, y0, y2, splice3_2, splice3, cellsOf_node, cellsOf_entry] | refine OrW.go ?_
              have hf : ∀ A B objs, Old m (mx ((M3.set m.size A).set (m.size + 2) B) objs) := fun A B objs => ((hm3.set (Nat.le_refl _) A).set (by omega) B).mx objs
              refine ⟨_, rfl, fun _ => ⟨hf _ _ _, .nd 4 d (D1 ++ .mk s x :: D2), [.int .u8 4, .string ⟨d.toArray⟩, .slice (some ⟨bZ, 0, none⟩) (D1.length + 1 + D2.length) openCap], by rw [hp']; rfl, fun M' hG => ?_, fun w hw => ?_⟩⟩
              · have ho' := hG.old (ho.trans (hf _ _ _))
                obtain ⟨hG1, hG2⟩ := hG
                rw [mx_size, AMem.size_set, AMem.size_set] at hG1
                simp only [List.length_nil] at hG1
                have e : D1 ++ [En.mk s x] ++ D2 = D1 ++ .mk s x :: D2 := by simp
                rw [e] at z5
                have hS' : SlE M' (some ⟨bZ, 0, none⟩) openCap (D1 ++ .mk s x :: D2) := by
                  refine SlE.whole (e := 48) (w := true) (by omega) ?_ (z5.old ho')
                  rw [hG2 bZ (by rw [mx_size, AMem.size_set, AMem.size_set]; omega) (by omega), mx_old (by rw [AMem.size_set, AMem.size_set]; omega), AMem.get_set_ne _ _ (by omega), AMem.get_set_ne _ _ (by omega)]
                  exact z4
                have := trC_mk (k := 4) (d := d) hS'
                rw [show (D1 ++ En.mk s x :: D2).length = D1.length + 1 + D2.length by rw [List.length_append, List.length_cons]; omega] at this
                exact this
              · rw [hp'] at hw; exact Option.some.inj hw
        · have hp : putT (s :: r) (.nd 4 d es) x = none := by rw [putT_new hk hi, if_neg hr]
          have g1 : ((r.length + 1 : Nat) : Int) > 1 := by
            have := List.length_pos_iff.2 hr
            omega
          rw [hp]
          refine rel_of_W (fn := Tryd.f53) rfl rfl F53_ok (by simp [F53]) ?_
          repeat first | simp -implicitDefEqProofs (disch := first | omega | with_reducible assumption | (simp only [qU, qC]; omega)) only [qT, qA, reduceCtorEq, qB, qC, qD, qE, qF, qG, qH, qI, qJ, qK, qL, reduceIte, F53, cellsOf_node, cutL3, cutL3_0, splice3, g0, g1, q0, kF] | refine OrW.go ?_
          refine ⟨_, rfl, fun _ => ⟨.nd 4 d es, _, rfl, fun M' hG => ?_, fun w hw => by cases hw⟩⟩
          exact hc0.old (hG.old (ho.trans (Old.here m _)))
      · rw [hi] at kF
        have hp := putT_in (d := d) (r := r) (x := x) hk hj hi
        rw [hp]
        obtain ⟨b2, o2, a', cap', rfl, hbb, hE', q4, q3, q00⟩ := hE.get hj
        have hcg := count_get hj
        have hoz := ho.1
        have g2 : 0 ≤ (j : Int) := by omega
        obtain ⟨a3, cap3, hdrop, hS3⟩ := hS.dropM (k := 1) (SlE.len_lt (by simp only [List.length_cons]; omega)) (by simp)
        simp only [List.drop_succ_cons, List.drop_zero, List.length_cons] at hdrop hS3
        have hdr := fun objs => hdrop (mx m objs) (Old.here m objs)
        have e1 : ((1 : Nat) : Int) = 1 := rfl
        rw [e1] at hdr
        have kI := ih es[j].t m1 (mx m [.cells [.int .u8 4, .string ⟨d.toArray⟩, .slice (some ⟨b2, o2, none⟩) es.length cap1] 26 true .exact, .cells [.int .u8 x.k, .string ⟨x.d.toArray⟩, .slice a2 x.es.length cap2] 26 true .exact, .cells zN 26 true .exact, .cells zN 26 true .exact]) _ _ a3 cap3 (TrC.of hE') hx0 (ho.trans (Old.here m _)) (hS3.old (Old.here m _)) (by omega) (by omega)
        rw [← ho.2 b2 hbb] at q3
        refine rel_of_W (fn := Tryd.f53) rfl rfl F53_ok (by simp [F53]) ?_
        repeat first | simp -implicitDefEqProofs (disch := first | omega | with_reducible assumption | (simp only [qU, qC]; omega)) only [qT, qA, reduceCtorEq, qB, qC, qD, qE, qF, qG, qH, qI, qJ, qK, qL, reduceIte, F53, cellsOf_node, cutL3, cutL3_0, cutL3_2, splice3, g0, g2, q0, q3, kF, hi, stepOp_slV_v, hdr] | refine OrW.go ?_
        refine RelC.call kI ?_
        rintro v M3 ⟨hO3, u, c', rfl, hu, hw'⟩
        have hs3 := hO3.1
        rw [mx_size] at hs3
        simp only [List.length_cons, List.length_nil] at hs3
        have w0 : M3.get m.size = .cells [.int .u8 4, .string ⟨d.toArray⟩, .slice (some ⟨b2, o2, none⟩) es.length cap1] 26 true .exact := (hO3.2 _ (by rw [mx_size]; simp)).trans (mx_new0 _ _)
        have w2 : M3.get (m.size + 2) = .cells zN 26 true .exact := (hO3.2 _ (by rw [mx_size]; simp)).trans (mx_new _ _ 2)
        have w3 : M3.get (m.size + 3) = .cells zN 26 true .exact := (hO3.2 _ (by rw [mx_size]; simp)).trans (mx_new _ _ 3)
        have hm3 : Old m M3 := (Old.here m _).trans hO3
        obtain ⟨a5, cap5, rfl, hE5⟩ := (hu M3 (Gap.of ⟨Nat.le_refl _, fun _ _ => rfl⟩)).ex
        have hM5 : Old m (M3.set (m.size + 3) (.cells [.int .u8 u.k, .string ⟨u.d.toArray⟩, .slice a5 u.es.length cap5] 26 true .exact)) := hm3.set (by omega) _
        have f0 := (AMem.get_set_ne M3 (.cells [.int .u8 u.k, .string ⟨u.d.toArray⟩, .slice a5 u.es.length cap5] 26 true .exact) (show m.size ≠ m.size + 3 by omega)).trans w0
        have f2 := (AMem.get_set_ne M3 (.cells [.int .u8 u.k, .string ⟨u.d.toArray⟩, .slice a5 u.es.length cap5] 26 true .exact) (show m.size + 2 ≠ m.size + 3 by omega)).trans w2
        have f3 := AMem.get_set_self M3 (m.size + 3) (.cells [.int .u8 u.k, .string ⟨u.d.toArray⟩, .slice a5 u.es.length cap5] 26 true .exact)
        have f4 : ∀ y, y ≠ m.size + 3 → (M3.set (m.size + 3) (.cells [.int .u8 u.k, .string ⟨u.d.toArray⟩, .slice a5 u.es.length cap5] 26 true .exact)).get y = M3.get y := fun y hy => AMem.get_set_ne _ _ hy
        have f5 := AMem.size_set M3 (m.size + 3) (.cells [.int .u8 u.k, .string ⟨u.d.toArray⟩, .slice a5 u.es.length cap5] 26 true .exact)
        repeat first | simp -implicitDefEqProofs (disch := first | omega | with_reducible assumption | (simp only [qU, qC]; omega)) only [qT, qA, reduceCtorEq, qB, qC, qD, qE, qF, qG, qH, qI, qJ, qK, qL, reduceIte, w0, w2, w3, cellsOf_node, splice3, cutL3_2, zN] | refine OrW.go ?_
        generalize M3.set (m.size + 3) (.cells [.int .u8 u.k, .string ⟨u.d.toArray⟩, .slice a5 u.es.length cap5] 26 true .exact) = M5 at *
        obtain ⟨X, hX, happ⟩ := appE_nil (hE.x ho) hM5 (by omega) (by omega)
        have hXl := hX.len
        have q0' := q0
        rw [← hM5.2 b0 hb0] at q0'
        have g4 : m.size + 2 < M5.size := by omega
        have g5 : m.size + 3 < M5.size := by omega
        have g6 : b0 < M5.size := by omega
        simp only [zE, zN] at happ f0 f2 f3
        repeat first | simp -implicitDefEqProofs (disch := first | omega | with_reducible assumption | (simp only [qU, qC]; omega)) only [qT, qA, reduceCtorEq, qB, qC, qD, qE, qF, qG, qH, qI, qJ, qK, qL, reduceIte, stepOp_app_v, happ, zE, f0, f2, f3, q0', g4, g5, g6, hXl, cutL3, cutL3_2, splice3, splice3_2, cellsOf_node, cellsOf_entry, fill_e13] | refine OrW.go ?_
        have hf : ∀ A B objs, Old m (mx ((M5.set m.size A).set (m.size + 2) B) objs) := fun A B objs => ((hM5.set (Nat.le_refl _) A).set (by omega) B).mx objs
        refine ⟨_, rfl, fun _ => ⟨hf _ _ _, .nd 4 d (es.set j (.mk s u)), _, by rw [Option.isSome_map], fun M' hG => ?_, fun w hw => ?_⟩⟩
        · have ho' := hG.old (ho.trans (hf _ _ _))
          obtain ⟨hG1, hG2⟩ := hG
          rw [mx_size, AMem.size_set, AMem.size_set] at hG1
          simp only [List.length_cons, List.length_nil] at hG1
          have hu' := hu M' ⟨by omega, fun b hb hb2 => by
            rw [mx_size] at hb2
            simp only [List.length_cons, List.length_nil] at hb2
            rw [hG2 b (by rw [mx_size, AMem.size_set, AMem.size_set]; omega) (by omega), mx_old (by rw [AMem.size_set, AMem.size_set]; omega), AMem.get_set_ne _ _ (by omega), AMem.get_set_ne _ _ (by omega), f4 b (by omega)]⟩
          have hS' : SlE M' (some ⟨M5.size, 0, none⟩) openCap (es.set j (.mk s u)) := by
            refine SlE.whole (e := 48) (w := true) (by omega) ?_ (EsC.set (hX.old ho') hj (EnC.of (e := .mk s u) hu'))
            rw [hG2 M5.size (by rw [mx_size, AMem.size_set, AMem.size_set]; simp) (by omega)]
            exact mx_new0 ((M5.set m.size _).set (m.size + 2) _) _
          have := trC_mk (k := 4) (d := d) hS'
          rw [List.length_set] at this
          exact this
        · cases hq : putT r es[j].t x with
          | none => rw [hq] at hw; cases hw
          | some y => rw [hq] at hw; cases hw; rw [hw' y hq]
    · have hp := putT_kind (d := d) (es := es) (s := s) (r := r) (x := x) hk
      rw [hp]
      refine rel_of_W (fn := Tryd.f53) rfl rfl F53_ok (by simp [F53]) ?_
      repeat first | simp -implicitDefEqProofs (disch := first | omega | with_reducible assumption | (simp only [qU, qC]; omega)) only [qT, qA, reduceCtorEq, qB, qC, qD, qE, qF, qG, qH, qI, qJ, qK, qL, reduceIte, F53, cellsOf_node, cutL3, cutL3_0, splice3, hk, g0] | refine OrW.go ?_
      refine ⟨_, rfl, fun _ => ⟨.nd k d es, _, rfl, fun M' hG => ?_, fun w hw => by cases hw⟩⟩
      exact hc0.old (hG.old (ho.trans (Old.here m _)))
end Go.Proofs.YtfjgpeoblnpelaaDoor
namespace Go.Proofs.YtfjgpeoblnpelaaDoor
open Go Go.AM
set_option linter.unusedVariables false
set_option linter.unusedSimpArgs false
set_option maxRecDepth 100000
set_option maxHeartbeats 2000000

theorem mayT_sort {d : List UInt8} {es : List En} (h : mayT (.nd 4 d es) = true) : SortE es ∧ mayL es = true := by
  rw [mayT_nd, Bool.and_eq_true, checkB] at h
  have h1 := h.1
  simp at h1
  exact ⟨ordE_sort h1.2, h.2⟩
theorem EsC_get3 {m : AMem} {es : List En} {X : List Value} {i : Nat} (h : i < es.length) (hX : EsC m es X) : ∃ a' cap', cutL X (i * 4 + 1) 3 = some [.int .u8 es[i].t.k, .string ⟨es[i].t.d.toArray⟩, .slice a' es[i].t.es.length cap'] ∧ SlE m a' cap' es[i].t.es := by
  obtain ⟨c, h3, h4⟩ := hX.get h
  obtain ⟨q, rfl, h5⟩ := h4.ex
  obtain ⟨a', cap', rfl, h6⟩ := h5.ex
  exact ⟨a', cap', cutL_cutL h3 (show cutL _ 1 3 = _ from rfl), h6⟩
theorem put_ok (x : Tr) : ∀ (ns : List (List UInt8)) (tr : Tr) (m1 m : AMem) (c cx : List Value) (a : Option Addr) (cap : Nat), TrC m1 tr c → TrC m1 x cx → Old m1 m → StrS m a cap ns → mayT tr = true → tr.count ≤ 500000 → ns.length ≤ 1000000 →
    ACall Tryd.prog 3 52 [.agg c.toArray, .slice a ns.length cap, .agg cx.toArray] m fun r M => Old m M ∧ match putT ns tr x with
      | some w => ∃ c', r = .ret (.agg c'.toArray) ∧ ∀ M', Gap m1 m M M' → TrC M' w c'
      | none => r = .pan (errC 30 5) := by
  intro ns
  induction ns with
  | nil =>
    intro tr m1 m c cx a cap hc hx ho hS hmay hn hl
    obtain ⟨a1, cap1, rfl, hE⟩ := hc.ex
    have hx0 := hx
    obtain ⟨a2, cap2, rfl, hE2⟩ := hx.ex
    refine ACall.eqv (m1 := mx m []) (mx_nil_size m) (fun b hb => mx_old hb) (ACall_of_W (fn := Tryd.f52) rfl rfl F52_ok (by simp [F52]) ?_)
    repeat first | simp -implicitDefEqProofs (disch := first | omega | with_reducible assumption | (simp only [qU, qC]; omega)) only [qT, qA, reduceCtorEq, qB, qC, qD, qE, qF, qG, qH, qI, qJ, qK, qL, reduceIte, F52, cellsOf_node, cutL3, splice3] | refine OrW.go ?_
    exact ⟨_, rfl, fun M' hG => hx0.old (hG.old (ho.trans (Old.here m _)))⟩
  | cons s r ih =>
    intro tr m1 m c cx a cap hc hx ho hS hmay hn hl
    obtain ⟨k, d, es⟩ := tr
    have hc0 := hc
    obtain ⟨a1, cap1, rfl, hE⟩ := trC_nd hc
    have hx0 := hx
    obtain ⟨a2, cap2, rfl, hE2⟩ := hx.ex
    have hcl := countL_len es
    simp only [Tr.count] at hn
    obtain ⟨b0, o0, rfl, hb0, q0⟩ := hS.get (i := 0) (by simp)
    simp only [List.getElem_cons_zero, Nat.add_zero] at q0
    rw [List.length_cons] at hl ⊢
    have g0 : ¬ ((r.length + 1 : Nat) : Int) = 0 := by omega
    have yes := fun M => DetC.known (need_yes M 5)
    have no := fun M => (need_no M 5).pan
    have hoz := ho.1
    by_cases hk : k = 4
    · subst hk
      obtain ⟨hsort, hmayL⟩ := mayT_sort hmay
      have kF := fun objs => find_ok (mx m objs) 4 d es s _ (hc0.old (ho.trans (Old.here m objs))) (by omega)
      simp only [if_true] at kF
      have kF' := fun objs => DetC.known (PurE.ret (kF objs))
      rcases idxE_cases es s with ⟨hi, _⟩ | ⟨j, hj, hi, hjn⟩
      · rw [hi, decide_eq_false (by omega)] at kF'
        by_cases hr : r = []
        · subst hr
          have hp : putT [s] (.nd 4 d es) x = some (.nd 4 d (es.take (placeE es s) ++ .mk s x :: es.drop (placeE es s))) := by rw [putT_new rfl hi, if_pos rfl]
          rw [hp]
          have kB := fun objs => DetC.known (bin66_ok (mx m objs) a1 cap1 es s ((hE.old ho).old (Old.here m objs)) hsort (by omega))
          have hpl := placeE_le es s
          obtain ⟨capA, htk, hA⟩ := (hE.x ho).takeM (SlE.len_lt (by omega)) hpl
          obtain ⟨aB, capB, hdr, hBd⟩ := (hE.x ho).dropM (SlE.len_lt (by omega)) hpl
          have htk' := fun objs => htk (mx m objs) (Old.here m objs)
          have hdr' := fun objs => hdr (mx m objs) (Old.here m objs)
          have lD1 : (es.take (placeE es s)).length ≤ es.length := by rw [List.length_take]; omega
          have lD2 : (es.take (placeE es s)).length + (es.drop (placeE es s)).length = es.length := by rw [List.length_take, List.length_drop]; omega
          generalize placeE es s = p at *
          generalize es.take p = D1 at *
          generalize es.drop p = D2 at *
          refine ACall.eqv (m1 := mx m []) (mx_nil_size m) (fun b hb => mx_old hb) (ACall_of_W (fn := Tryd.f52) rfl rfl F52_ok (by simp [F52]) ?_)
          repeat first | simp -implicitDefEqProofs (disch := first | omega | with_reducible assumption | (simp only [qU, qC]; omega)) only [qT, qA, reduceCtorEq, qB, qC, qD, qE, qF, qG, qH, qI, qJ, qK, qL, reduceIte, F52, cellsOf_node, cutL3, cutL3_0, cutL3_2, splice3, g0, q0, kF', yes, kB, stepOp_slV_v, htk', hdr', fill_e13, fill_e04] | refine OrW.go ?_
          have hSS : SSE m1 (mx m [.cells [.int .u8 4, .string ⟨d.toArray⟩, .slice a1 es.length cap1] 26 true .exact, .cells [.int .u8 x.k, .string ⟨x.d.toArray⟩, .slice a2 x.es.length cap2] 26 true .exact, .cells zN 26 true .exact, .cells [.string ⟨s.toArray⟩, .int .u8 x.k, .string ⟨x.d.toArray⟩, .slice a2 x.es.length cap2] 48 true .exact, .cells [.slice a1 D1.length capA, .slice (some ⟨m.size + 3, 0, none⟩) 1 1, .slice aB D2.length capB] 24 true .exact]) (some ⟨m.size + 4, 0, none⟩) [D1, [.mk s x], D2] := by
            intro i hi
            have hrow : ∀ c v, cutL [.slice a1 D1.length capA, .slice (some ⟨m.size + 3, 0, none⟩) 1 1, .slice aB D2.length capB] (0 + i) 1 = some [v] → c = v → rdO ((mx m [.cells [.int .u8 4, .string ⟨d.toArray⟩, .slice a1 es.length cap1] 26 true .exact, .cells [.int .u8 x.k, .string ⟨x.d.toArray⟩, .slice a2 x.es.length cap2] 26 true .exact, .cells zN 26 true .exact, .cells [.string ⟨s.toArray⟩, .int .u8 x.k, .string ⟨x.d.toArray⟩, .slice a2 x.es.length cap2] 48 true .exact, .cells [.slice a1 D1.length capA, .slice (some ⟨m.size + 3, 0, none⟩) 1 1, .slice aB D2.length capB] 24 true .exact]).get (m.size + 4)) (0 + i) 1 = some [c] := by
              rintro c v h rfl
              rw [mx_new m _ 4]; exact h
            rcases i with _ | _ | _ | i
            · exact ⟨m.size + 4, 0, a1, capA, rfl, by rw [mx_size]; simp, hrow _ _ rfl rfl, hA.old (Old.here m _)⟩
            · refine ⟨m.size + 4, 0, some ⟨m.size + 3, 0, none⟩, 1, rfl, by rw [mx_size]; simp, hrow _ _ rfl rfl, ?_⟩
              have := (SlX.one (m := mx m [.cells [.int .u8 4, .string ⟨d.toArray⟩, .slice a1 es.length cap1] 26 true .exact, .cells [.int .u8 x.k, .string ⟨x.d.toArray⟩, .slice a2 x.es.length cap2] 26 true .exact, .cells zN 26 true .exact]) (s := s) hx0).old (Old.here _ [.cells [.slice a1 D1.length capA, .slice (some ⟨m.size + 3, 0, none⟩) 1 1, .slice aB D2.length capB] 24 true .exact])
              rw [mx_mx, mx_mx, mx_size] at this
              exact this
            · exact ⟨m.size + 4, 0, aB, capB, rfl, by rw [mx_size]; simp, hrow _ _ rfl rfl, hBd.old (Old.here m _)⟩
            · exfalso; simp only [List.length_cons, List.length_nil] at hi; omega
          have hfl : [D1, [En.mk s x], D2].flatten = D1 ++ .mk s x :: D2 := by simp
          have hfn : (D1 ++ .mk s x :: D2).length = es.length + 1 := by rw [List.length_append, List.length_cons]; omega
          have kC := concat69_ok m1 _ (some ⟨m.size + 4, 0, none⟩) 3 [D1, [.mk s x], D2] hSS (by simp) (by rw [hfl, hfn]; omega) (by rw [hfl, hfn]; omega)
          refine RelC.call kC ?_
          rintro v M ⟨Z, hZ, rfl, rfl⟩
          rw [hfl] at hZ ⊢
          rw [hfn, mx_mx, mx_mx, mx_size]
          repeat first | simp -implicitDefEqProofs (disch := first | omega | with_reducible assumption | (simp only [qU, qC]; omega)) only [qT, qA, reduceCtorEq, qB, qC, qD, qE, qF, qG, qH, qI, qJ, qK, qL, reduceIte, cutL3, cutL3_2, zN, splice3_2, splice3, cellsOf_node] | refine OrW.go ?_
          refine ⟨_, rfl, fun M' hG => ?_⟩
          have hS' : SlE M' (some ⟨m.size + 5, 0, none⟩) openCap (D1 ++ .mk s x :: D2) := by
            have hG1 := hG.1
            rw [mx_size] at hG1
            simp only [List.length_cons, List.length_nil] at hG1
            refine SlE.whole (e := 48) (w := true) (by omega) ?_ (hZ.old (hG.old (ho.trans (Old.here m _))))
            rw [hG.2 (m.size + 5) (by rw [mx_size]; simp) (by omega)]
            exact mx_new m _ 5
          have := trC_mk (k := 4) (d := d) hS'
          rw [hfn] at this
          exact this
        · have hp : putT (s :: r) (.nd 4 d es) x = none := by rw [putT_new rfl hi, if_neg hr]
          rw [hp]
          have g1 : ¬ ((r.length + 1 : Nat) : Int) = 1 := by
            have := List.length_pos_iff.2 hr
            omega
          refine ACall.eqv (m1 := mx m []) (mx_nil_size m) (fun b hb => mx_old hb) (ACall_of_W (fn := Tryd.f52) rfl rfl F52_ok (by simp [F52]) ?_)
          repeat first | simp -implicitDefEqProofs (disch := first | omega | with_reducible assumption | (simp only [qU, qC]; omega)) only [qT, qA, reduceCtorEq, qB, qC, qD, qE, qF, qG, qH, qI, qJ, qK, qL, reduceIte, F52, cellsOf_node, cutL3, cutL3_0, splice3, g0, g1, q0, kF', no] | refine OrW.go ?_
      · rw [hi, decide_eq_true (by omega)] at kF'
        have hp := putT_in (d := d) (r := r) (x := x) rfl hj hi
        rw [hp]
        obtain ⟨b2, o2, a', cap', rfl, hbb, hE', q4, q3, q00⟩ := hE.get hj
        have hcg := count_get hj
        have hmayj := (mayL_iff es).1 hmayL j hj
        obtain ⟨X, hX, kC⟩ := clone65_ok m1 (mx m [.cells [.int .u8 4, .string ⟨d.toArray⟩, .slice (some ⟨b2, o2, none⟩) es.length cap1] 26 true .exact, .cells [.int .u8 x.k, .string ⟨x.d.toArray⟩, .slice a2 x.es.length cap2] 26 true .exact, .cells zN 26 true .exact]) _ cap1 es hE (ho.trans (Old.here m _)) (by omega) (by omega)
        have kC' := DetC.known kC
        rw [mx_mx, mx_size] at kC'
        simp only [List.length_cons, List.length_nil, zN, zE, Nat.zero_add, Nat.add_assoc, qC] at kC'
        have hXl := hX.len
        obtain ⟨a6, cap6, q6, hE6⟩ := EsC_get3 hj hX
        obtain ⟨a3, cap3, hdrop, hS3⟩ := hS.dropM (k := 1) (SlE.len_lt (by simp only [List.length_cons]; omega)) (by simp)
        simp only [List.drop_succ_cons, List.drop_zero, List.length_cons] at hdrop hS3
        have hdr := fun objs => hdrop (mx m objs) (Old.here m objs)
        have e1 : ((1 : Nat) : Int) = 1 := rfl
        rw [e1] at hdr
        have kI := ih es[j].t m1 (mx m [.cells [.int .u8 4, .string ⟨d.toArray⟩, .slice (some ⟨m.size + 4, 0, none⟩) es.length openCap] 26 true .exact, .cells [.int .u8 x.k, .string ⟨x.d.toArray⟩, .slice a2 x.es.length cap2] 26 true .exact, .cells zN 26 true .exact, .cells [] 48 true .exact, .cells X 48 true (.room zE)]) _ _ a3 cap3 (TrC.of hE6) hx0 (ho.trans (Old.here m _)) (hS3.old (Old.here m _)) hmayj (by omega) (by omega)
        refine ACall.eqv (m1 := mx m []) (mx_nil_size m) (fun b hb => mx_old hb) (ACall_of_W (fn := Tryd.f52) rfl rfl F52_ok (by simp [F52]) ?_)
        repeat first | simp -implicitDefEqProofs (disch := first | omega | with_reducible assumption | (simp only [qU, qC]; omega)) only [qT, qA, reduceCtorEq, qB, qC, qD, qE, qF, qG, qH, qI, qJ, qK, qL, reduceIte, F52, cellsOf_node, cutL3, cutL3_0, cutL3_2, splice3, splice3_2, g0, q0, kF', kC', q6, hXl, stepOp_slV_v, hdr] | refine OrW.go ?_
        refine (ACall.norm kI).mono ?_
        rintro r' m' ⟨M3, rfl, hO3, hr⟩
        have hm3 : Old m M3 := (Old.here m _).trans hO3
        cases hq : putT r es[j].t x with
        | none =>
          rw [hq] at hr
          subst hr
          repeat first | simp -implicitDefEqProofs (disch := first | omega | with_reducible assumption | (simp only [qU, qC]; omega)) only [qT, qA, reduceCtorEq, qB, qC, qD, qE, qF, qG, qH, qI, qJ, qK, qL, reduceIte, PanAny_QD] | refine OrW.go ?_
          exact fun _ _ => by first | exact ⟨hm3.mx _, rfl⟩ | exact ⟨hm3.mx _, trivial⟩ | exact hm3.mx _
        | some y =>
          rw [hq] at hr
          obtain ⟨c', rfl, hu⟩ := hr
          have hs3 := hO3.1
          rw [mx_size] at hs3
          simp only [List.length_cons, List.length_nil] at hs3
          have w0 : M3.get m.size = .cells [.int .u8 4, .string ⟨d.toArray⟩, .slice (some ⟨m.size + 4, 0, none⟩) es.length openCap] 26 true .exact := (hO3.2 _ (by rw [mx_size]; simp)).trans (mx_new0 _ _)
          have w2 : M3.get (m.size + 2) = .cells zN 26 true .exact := (hO3.2 _ (by rw [mx_size]; simp)).trans (mx_new _ _ 2)
          have w4 : M3.get (m.size + 4) = .cells X 48 true (.room zE) := (hO3.2 _ (by rw [mx_size]; simp)).trans (mx_new _ _ 4)
          obtain ⟨a5, cap5, rfl, hE5⟩ := (hu M3 (Gap.of ⟨Nat.le_refl _, fun _ _ => rfl⟩)).ex
          have hf : ∀ A B objs, Old m (mx ((M3.set (m.size + 4) A).set (m.size + 2) B) objs) := fun A B objs => ((hm3.set (by omega) A).set (by omega) B).mx objs
          repeat first | simp -implicitDefEqProofs (disch := first | omega | with_reducible assumption | (simp only [qU, qC]; omega)) only [qT, qA, reduceCtorEq, qB, qC, qD, qE, qF, qG, qH, qI, qJ, qK, qL, reduceIte, w0, w2, w4, cellsOf_node, splice3, cutL3, cutL3_2, zN, hXl] | refine OrW.go ?_
          refine ⟨hf _ _ _, _, rfl, fun M' hG => ?_⟩
          have ho' := hG.old (ho.trans (hf _ _ _))
          obtain ⟨hG1, hG2⟩ := hG
          rw [mx_size, AMem.size_set, AMem.size_set] at hG1
          simp only [List.length_nil] at hG1
          have hu' := hu M' ⟨by omega, fun b hb hb2 => by
            rw [mx_size] at hb2
            simp only [List.length_cons, List.length_nil] at hb2
            rw [hG2 b (by rw [mx_size, AMem.size_set, AMem.size_set]; omega) (by omega), mx_old (by rw [AMem.size_set, AMem.size_set]; omega), AMem.get_set_ne _ _ (by omega), AMem.get_set_ne _ _ (by omega)]⟩
          have hS' : SlE M' (some ⟨m.size + 4, 0, none⟩) openCap (es.set j (.mk s y)) := by
            have hX' := EsC.set3 (hX.old ho') hj hu'
            rw [hjn] at hX'
            refine SlE.whole (e := 48) (w := true) (by omega) ?_ hX'
            rw [hG2 (m.size + 4) (by rw [mx_size, AMem.size_set, AMem.size_set]; omega) (by omega), mx_old (by rw [AMem.size_set, AMem.size_set]; omega), AMem.get_set_ne _ _ (by omega), AMem.get_set_self]
          have := trC_mk (k := 4) (d := d) hS'
          rw [List.length_set] at this
          exact this
    · have hp := putT_kind (d := d) (es := es) (s := s) (r := r) (x := x) hk
      rw [hp]
      have kF := fun objs => find_ok (mx m objs) k d es s _ (hc0.old (ho.trans (Old.here m objs))) (by omega)
      simp only [if_neg hk] at kF
      have kF' := fun objs => (kF objs).pan
      refine ACall.eqv (m1 := mx m []) (mx_nil_size m) (fun b hb => mx_old hb) (ACall_of_W (fn := Tryd.f52) rfl rfl F52_ok (by simp [F52]) ?_)
      repeat first | simp -implicitDefEqProofs (disch := first | omega | with_reducible assumption | (simp only [qU, qC]; omega)) only [qT, qA, reduceCtorEq, qB, qC, qD, qE, qF, qG, qH, qI, qJ, qK, qL, reduceIte, F52, cellsOf_node, cutL3, cutL3_0, splice3, hk, g0, q0, kF', PanAny_QD] | refine OrW.go ?_
      exact fun _ _ => trivial
end Go.Proofs.YtfjgpeoblnpelaaDoor
namespace Go.AM
theorem countL_set : ∀ (es : List En) (i : Nat) (hi : i < es.length) (e : En), countL (es.set i e) + es[i].t.count = countL es + e.t.count
  | [], i, hi, e => by simp at hi
  | e0 :: es, 0, hi, e => by simp only [List.set_cons_zero, countL, En.count_t, List.getElem_cons_zero]; omega
  | e0 :: es, i + 1, hi, e => by
    have := countL_set es i (by simpa using hi) e
    simp only [List.set_cons_succ, countL, En.count_t, List.getElem_cons_succ]; omega
theorem weightL_set : ∀ (es : List En) (i : Nat) (hi : i < es.length) (e : En), weightL (es.set i e) + (es[i].n.length + es[i].t.weight) = weightL es + (e.n.length + e.t.weight)
  | [], i, hi, e => by simp at hi
  | e0 :: es, 0, hi, e => by simp only [List.set_cons_zero, weightL, En.weight_t, List.getElem_cons_zero]; omega
  | e0 :: es, i + 1, hi, e => by
    have := weightL_set es i (by simpa using hi) e
    simp only [List.set_cons_succ, weightL, En.weight_t, List.getElem_cons_succ]; omega
end Go.AM
namespace Go.Proofs.YtfjgpeoblnpelaaDoor
open Go Go.AM
set_option linter.unusedVariables false
set_option linter.unusedSimpArgs false
set_option maxRecDepth 100000
set_option maxHeartbeats 2000000

theorem putT_le (x : Tr) (L : Nat) : ∀ (ns : List (List UInt8)) (t w : Tr), (∀ s ∈ ns, s.length ≤ L) → putT ns t x = some w → w.count ≤ t.count + x.count ∧ w.weight ≤ t.weight + x.weight + L := by
  intro ns
  induction ns with
  | nil =>
    intro t w hL h
    cases h
    exact ⟨by omega, by omega⟩
  | cons s r ih =>
    intro t w hL h
    obtain ⟨k, d, es⟩ := t
    by_cases hk : k = 4
    · rcases idxE_cases es s with ⟨hi, _⟩ | ⟨j, hj, hi, hjn⟩
      · rw [putT_new hk hi] at h
        split at h
        · cases h
          have hs := hL s (by simp)
          have e1 : countL es = countL (es.take (placeE es s)) + countL (es.drop (placeE es s)) := by rw [← countL_app, List.take_append_drop]
          have e2 : weightL es = weightL (es.take (placeE es s)) + weightL (es.drop (placeE es s)) := by rw [← weightL_app, List.take_append_drop]
          simp only [Tr.count, Tr.weight, countL_app, weightL_app, countL, weightL, En.count_t, En.weight_t, En.t, En.n]
          omega
        · cases h
      · rw [putT_in hk hj hi] at h
        cases hq : putT r es[j].t x with
        | none => rw [hq] at h; cases h
        | some y =>
          rw [hq] at h
          cases h
          have h1 := ih es[j].t y (fun s' hs' => hL s' (by simp [hs'])) hq
          have h2 := countL_set es j hj (.mk s y)
          have h3 := weightL_set es j hj (.mk s y)
          have h4 := count_get hj
          have h5 := weight_get hj
          have h6 : es[j].n.length = s.length := by rw [hjn]
          have e1 : (En.mk s y).t = y := rfl
          have e2 : (En.mk s y).n = s := rfl
          rw [e1] at h2 h3
          rw [e2] at h3
          simp only [Tr.count, Tr.weight]
          omega
    · rw [putT_kind hk] at h; cases h
def putR (t : Tr) (l : List UInt8) (x : Tr) : Int × Tr := if rightT t && rightT x then (match namesR l with
    | none => (2, zT)
    | some ns => match putT ns t x with
      | none => (5, zT)
      | some w => if rightT w then (0, w) else (70, zT)) else (70, zT)
theorem rightT_may {t : Tr} (h : rightT t = true) : mayT t = true := by
  rw [rightT, Bool.and_eq_true] at h; exact h.2
theorem putE {t : Tmps} {M : AMem} {b e : Nat} {k : Int} {c : List Value} {sp sp2 : Spare} {T T2 : TypeId} {w w2 : Bool} (h4 : t 6 = .pointer (some ⟨b, 0, none⟩)) (h5 : t 7 = .pointer (some ⟨e, 0, none⟩)) (hl : c.length = 3)
    (hb : M.get b = .cells c T w sp) (he : M.get e = .cells [.int .i64 k] T2 w2 sp2) {Q : AEnd → AMem → Prop} (h : Q (.ret (.tuple #[.agg c.toArray, .int .i64 k])) M) : finA F26.res t Q .ret M := by
  have e1 : rd M b 0 3 = some c := by rw [rd_def, hb]; exact cutL_all hl
  have e2 : rd M e 0 1 = some [.int .i64 k] := by rw [rd_def, he]; rfl
  have : resVs F26.res t M = some [.agg c.toArray, .int .i64 k] := by
    simp [F26, resVs, resV, h4, h5, addr, e1, e2]
  show (match resVs F26.res t M with | some l => Q (.ret (packV l)) M | none => False)
  rw [this]
  exact h
theorem put_pan {t : Tmps} {m M : AMem} {k : Int} {x y z : Value} (h4 : t 6 = .pointer (some ⟨m.size + 2, 0, none⟩)) (h5 : t 7 = .pointer (some ⟨m.size + 3, 0, none⟩)) (hs : m.size + 4 ≤ M.size) (hO : Old m M) (h1 : M.get (m.size + 2) = .cells [x, y, z] 26 true .exact) {v : Value} (h2 : M.get (m.size + 3) = .cells [v] 30 true .exact) {R : Value → AMem → Prop}
    (hR : ∀ M', Old m M' → R (.tuple #[.agg zN.toArray, .int .i64 k]) M') :
    RetKX Tryd.prog 3 F26.res (fun r m' => ∃ v, r = .ret v ∧ (m.size ≤ m'.size → R v m')) (.pan (errC 30 k)) ⟨t, mx M [], [{ target := .fn (.func 51) #[.pointer (some ⟨m.size + 3, 0, none⟩), .pointer (some ⟨m.size + 2, 0, none⟩)], args := #[] ++ #[] }]⟩ := by
  refine RetKX_one (u := .pan (errC 30 k)) (.inr (.inr ⟨_, rfl, rfl⟩)) ?_
  refine ACallD.mono (d51_yes (mx M []) (m.size + 3) (m.size + 2) k (by rw [mx_nil_size]; omega) ((mx_old (by omega)).trans h2) (by rw [mx_nil_size]; omega) ((mx_old (by omega)).trans h1) (by omega)) ?_
  rintro e u m' ⟨rfl, rfl, rfl⟩
  refine ⟨.ret, rfl, ?_⟩
  refine putE h4 h5 rfl (T := 26) (w := true) (sp := .exact) (T2 := 30) (w2 := true) (sp2 := .exact) (k := k) ?_ ?_ ⟨_, rfl, fun _ => hR _ ?_⟩
  · rw [mx_old (by simp only [AMem.size_set, mx_nil_size]; omega), AMem.get_set_self]
  · rw [mx_old (by simp only [AMem.size_set, mx_nil_size]; omega), AMem.get_set_ne _ _ (by omega), AMem.get_set_self]
  · refine ((((hO.mx []).set (by omega) _).set (by omega) _).mx _)
theorem Put_ok (m1 m : AMem) (tr x : Tr) (c cx : List Value) (l : List UInt8) (hc : TrC m1 tr c) (hx : TrC m1 x cx) (ho : Old m1 m) (hn : tr.count ≤ 200000) (hnx : x.count ≤ 200000) (hl : l.length ≤ 900000) : RelC Tryd.prog 3 26 [.agg c.toArray, .string ⟨l.toArray⟩, .agg cx.toArray] m fun v M =>
    Old m M ∧ ∃ c', v = .tuple #[.agg c'.toArray, .int .i64 (putR tr l x).1] ∧ ∀ M', Gap m1 m M M' → TrC M' (putR tr l x).2 c' := by
  have hc0 := hc
  have hx0 := hx
  obtain ⟨a, cap, rfl, hE⟩ := hc.ex
  obtain ⟨a2, cap2, rfl, hE2⟩ := hx.ex
  have k1 := fun objs => tree_ok (mx m objs) tr _ (hc0.old (ho.trans (Old.here m objs))) (by omega)
  have k2 := fun objs => tree_ok (mx m objs) x _ (hx0.old (ho.trans (Old.here m objs))) (by omega)
  cases hr1 : rightT tr with
  | false =>
    have hat : putR tr l x = (70, zT) := by rw [putR, hr1]; rfl
    rw [hr1] at k1
    have k1' := fun objs => (k1 objs).pan
    refine rel_of_WX (fn := Tryd.f26) rfl rfl F26_ok (by simp [F26]) ?_
    repeat first | simp -implicitDefEqProofs (disch := first | omega | with_reducible assumption | (simp only [qU, qC]; omega)) only [qT, qA, reduceCtorEq, qB, qC, qD, qE, qF, qG, qH, qI, qJ, qK, qL, reduceIte, F26, cellsOf_node, W_dfr, DfrK_v, DfrV_func, cutL3, k1'] | refine OrW.go ?_
    have hz4 : ∀ o0 o1 o2 o3, m.size + 4 ≤ (mx m [o0, o1, o2, o3]).size := fun _ _ _ _ => by rw [mx_size]; simp
    have e0 : ∀ objs, mx m objs = mx (mx m objs) [] := fun objs => by rw [mx_mx, List.append_nil]
    rw [e0]
    refine put_pan (m := m) (x := .int .u8 0) (y := .string ⟨#[]⟩) (z := .slice none 0 0) ?_ ?_ (hz4 _ _ _ _) (Old.here m _) (mx_new m _ 2) (mx_new m _ 3) fun M' hM => ⟨hM, zN, by rw [hat], by rw [hat]; exact fun M' _ => trC_zT M'⟩
    · simp -implicitDefEqProofs (disch := first | omega | with_reducible assumption | (simp only [qU, qC]; omega)) only [qT, qA, reduceCtorEq, qB, qC, qD, qE, qF, qG, qH, qI, qJ, qK, qL, reduceIte]
    · simp -implicitDefEqProofs (disch := first | omega | with_reducible assumption | (simp only [qU, qC]; omega)) only [qT, qA, reduceCtorEq, qB, qC, qD, qE, qF, qG, qH, qI, qJ, qK, qL, reduceIte]
  | true =>
    rw [hr1] at k1
    have k1' := fun objs => DetC.known (PurE.ret (k1 objs))
    cases hr2 : rightT x with
    | false =>
      have hat : putR tr l x = (70, zT) := by rw [putR, hr1, hr2]; rfl
      rw [hr2] at k2
      have k2' := fun objs => (k2 objs).pan
      refine rel_of_WX (fn := Tryd.f26) rfl rfl F26_ok (by simp [F26]) ?_
      repeat first | simp -implicitDefEqProofs (disch := first | omega | with_reducible assumption | (simp only [qU, qC]; omega)) only [qT, qA, reduceCtorEq, qB, qC, qD, qE, qF, qG, qH, qI, qJ, qK, qL, reduceIte, F26, cellsOf_node, W_dfr, DfrK_v, DfrV_func, cutL3, k1', k2'] | refine OrW.go ?_
      have hz4 : ∀ o0 o1 o2 o3, m.size + 4 ≤ (mx m [o0, o1, o2, o3]).size := fun _ _ _ _ => by rw [mx_size]; simp
      have e0 : ∀ objs, mx m objs = mx (mx m objs) [] := fun objs => by rw [mx_mx, List.append_nil]
      rw [e0]
      refine put_pan (m := m) (x := .int .u8 0) (y := .string ⟨#[]⟩) (z := .slice none 0 0) ?_ ?_ (hz4 _ _ _ _) (Old.here m _) (mx_new m _ 2) (mx_new m _ 3) fun M' hM => ⟨hM, zN, by rw [hat], by rw [hat]; exact fun M' _ => trC_zT M'⟩
      · simp -implicitDefEqProofs (disch := first | omega | with_reducible assumption | (simp only [qU, qC]; omega)) only [qT, qA, reduceCtorEq, qB, qC, qD, qE, qF, qG, qH, qI, qJ, qK, qL, reduceIte]
      · simp -implicitDefEqProofs (disch := first | omega | with_reducible assumption | (simp only [qU, qC]; omega)) only [qT, qA, reduceCtorEq, qB, qC, qD, qE, qF, qG, qH, qI, qJ, qK, qL, reduceIte]
    | true =>
      rw [hr2] at k2
      have k2' := fun objs => DetC.known (PurE.ret (k2 objs))
      have kS := split_ok (mx m [.cells [.int .u8 tr.k, .string ⟨tr.d.toArray⟩, .slice a tr.es.length cap] 26 true .exact, .cells [.int .u8 x.k, .string ⟨x.d.toArray⟩, .slice a2 x.es.length cap2] 26 true .exact, .cells zN 26 true .exact, .cells [.int .i64 0] 30 true .exact]) l (by omega)
      refine rel_of_WX (fn := Tryd.f26) rfl rfl F26_ok (by simp [F26]) ?_
      repeat first | simp -implicitDefEqProofs (disch := first | omega | with_reducible assumption | (simp only [qU, qC]; omega)) only [qT, qA, reduceCtorEq, qB, qC, qD, qE, qF, qG, qH, qI, qJ, qK, qL, reduceIte, F26, cellsOf_node, W_dfr, DfrK_v, DfrV_func, cutL3, k1', k2'] | refine OrW.go ?_
      refine (ACall.norm kS).mono ?_
      rintro r m' ⟨M0, rfl, hO0, hr⟩
      have hs0 := hO0.1
      rw [mx_size] at hs0
      simp only [List.length_cons, List.length_nil] at hs0
      have hm0 : Old m M0 := (Old.here m _).trans hO0
      have w0 : M0.get m.size = .cells [.int .u8 tr.k, .string ⟨tr.d.toArray⟩, .slice a tr.es.length cap] 26 true .exact := (hO0.2 _ (by rw [mx_size]; simp)).trans (mx_new0 _ _)
      have w1 : M0.get (m.size + 1) = .cells [.int .u8 x.k, .string ⟨x.d.toArray⟩, .slice a2 x.es.length cap2] 26 true .exact := (hO0.2 _ (by rw [mx_size]; simp)).trans (mx_new _ _ 1)
      have w2 : M0.get (m.size + 2) = .cells zN 26 true .exact := (hO0.2 _ (by rw [mx_size]; simp)).trans (mx_new _ _ 2)
      have w3 : M0.get (m.size + 3) = .cells [.int .i64 0] 30 true .exact := (hO0.2 _ (by rw [mx_size]; simp)).trans (mx_new _ _ 3)
      cases hns : namesR l with
      | none =>
        rw [hns] at hr
        subst hr
        have hat : putR tr l x = (2, zT) := by rw [putR, hr1, hr2, hns]; rfl
        repeat first | simp -implicitDefEqProofs (disch := first | omega | with_reducible assumption | (simp only [qU, qC]; omega)) only [qT, qA, reduceCtorEq, qB, qC, qD, qE, qF, qG, qH, qI, qJ, qK, qL, reduceIte, PanAny_QD] | refine OrW.go ?_
        intro t' ht'
        refine put_pan (m := m) (x := .int .u8 0) (y := .string ⟨#[]⟩) (z := .slice none 0 0) ((ht' 6 (by rfl)).trans ?_) ((ht' 7 (by rfl)).trans ?_) (by omega) hm0 w2 w3 fun M' hM => ⟨hM, zN, by rw [hat], by rw [hat]; exact fun M' _ => trC_zT M'⟩
        · simp -implicitDefEqProofs (disch := first | omega | with_reducible assumption | (simp only [qU, qC]; omega)) only [qT, qA, reduceCtorEq, qB, qC, qD, qE, qF, qG, qH, qI, qJ, qK, qL, reduceIte]
        · simp -implicitDefEqProofs (disch := first | omega | with_reducible assumption | (simp only [qU, qC]; omega)) only [qT, qA, reduceCtorEq, qB, qC, qD, qE, qF, qG, qH, qI, qJ, qK, qL, reduceIte]
      | some ns =>
        rw [hns] at hr
        obtain ⟨a1, cap1, rfl, hS, hnew⟩ := hr
        have hnl := namesR_len hns
        have hput : ∀ w, putT ns tr x = some w → w.count ≤ 500000 := fun w h => by
          have := (putT_le x l.length ns tr w (namesR_mem hns) h).1
          omega
        have kP := put_ok x ns tr m1 M0 _ _ a1 cap1 hc0 hx0 (ho.trans hm0) hS (rightT_may hr1) (by omega) (by omega)
        repeat first | simp -implicitDefEqProofs (disch := first | omega | with_reducible assumption | (simp only [qU, qC]; omega)) only [qT, qA, reduceCtorEq, qB, qC, qD, qE, qF, qG, qH, qI, qJ, qK, qL, reduceIte, w0, w1, cutL3] | refine OrW.go ?_
        refine (ACall.norm (ACall.eqv (m := mx M0 []) (mx_nil_size M0).symm (fun b hb => (mx_nil_get M0 (by rwa [mx_nil_size] at hb)).symm) kP)).mono ?_
        rintro r m' ⟨M1, rfl, hO1, hr⟩
        have hs1 := hO1.1
        have hm1 : Old m M1 := hm0.trans hO1
        have hoz := ho.1
        have x2 : M1.get (m.size + 2) = .cells zN 26 true .exact := (hO1.2 _ (by omega)).trans w2
        have x3 : M1.get (m.size + 3) = .cells [.int .i64 0] 30 true .exact := (hO1.2 _ (by omega)).trans w3
        cases hp : putT ns tr x with
        | none =>
          rw [hp] at hr
          subst hr
          have hat : putR tr l x = (5, zT) := by rw [putR, hr1, hr2, hns]; simp only [Bool.and_self, if_true, hp]
          repeat first | simp -implicitDefEqProofs (disch := first | omega | with_reducible assumption | (simp only [qU, qC]; omega)) only [qT, qA, reduceCtorEq, qB, qC, qD, qE, qF, qG, qH, qI, qJ, qK, qL, reduceIte, PanAny_QD] | refine OrW.go ?_
          intro t' ht'
          refine put_pan (m := m) (x := .int .u8 0) (y := .string ⟨#[]⟩) (z := .slice none 0 0) ((ht' 6 (by rfl)).trans ?_) ((ht' 7 (by rfl)).trans ?_) (by omega) hm1 x2 x3 fun M' hM => ⟨hM, zN, by rw [hat], by rw [hat]; exact fun M' _ => trC_zT M'⟩
          · simp -implicitDefEqProofs (disch := first | omega | with_reducible assumption | (simp only [qU, qC]; omega)) only [qT, qA, reduceCtorEq, qB, qC, qD, qE, qF, qG, qH, qI, qJ, qK, qL, reduceIte]
          · simp -implicitDefEqProofs (disch := first | omega | with_reducible assumption | (simp only [qU, qC]; omega)) only [qT, qA, reduceCtorEq, qB, qC, qD, qE, qF, qG, qH, qI, qJ, qK, qL, reduceIte]
        | some w =>
          rw [hp] at hr
          obtain ⟨c', rfl, hw⟩ := hr
          have hwc := hput w hp
          obtain ⟨a5, cap5, rfl, hE5⟩ := (hw M1 (Gap.of ⟨Nat.le_refl _, fun _ _ => rfl⟩)).ex
          have hG : ∀ A objs, Gap m1 M0 M1 (mx (M1.set (m.size + 2) A) objs) := fun A objs => ⟨by rw [mx_size, AMem.size_set]; omega, fun b hb hb2 => by rw [mx_old (by rw [AMem.size_set]; exact hb), AMem.get_set_ne _ _ (by omega)]⟩
          have k3 := fun A objs => tree_ok (mx (M1.set (m.size + 2) A) objs) w _ (hw _ (hG A objs)) (by omega)
          have y3 : ∀ A, (M1.set (m.size + 2) A).get (m.size + 3) = .cells [.int .i64 0] 30 true .exact := fun A => by rw [AMem.get_set_ne _ _ (by omega)]; exact x3
          have hm2 : ∀ A, Old m (M1.set (m.size + 2) A) := fun A => hm1.set (by omega) A
          cases hr3 : rightT w with
          | false =>
            rw [hr3] at k3
            have k3' := fun A objs => (k3 A objs).pan
            have hat : putR tr l x = (70, zT) := by rw [putR, hr1, hr2, hns]; simp only [Bool.and_self, if_true, hp, hr3]; rfl
            repeat first | simp -implicitDefEqProofs (disch := first | omega | with_reducible assumption | (simp only [qU, qC]; omega)) only [qT, qA, reduceCtorEq, qB, qC, qD, qE, qF, qG, qH, qI, qJ, qK, qL, reduceIte, x2, zN, cellsOf_node, splice3, cutL3, k3'] | refine OrW.go ?_
            refine put_pan (m := m) ?_ ?_ (by rw [AMem.size_set]; omega) (hm2 _) (AMem.get_set_self _ _ _) (y3 _) fun M' hM => ⟨hM, zN, by rw [hat], by rw [hat]; exact fun M' _ => trC_zT M'⟩
            · simp -implicitDefEqProofs (disch := first | omega | with_reducible assumption | (simp only [qU, qC]; omega)) only [qT, qA, reduceCtorEq, qB, qC, qD, qE, qF, qG, qH, qI, qJ, qK, qL, reduceIte]
            · simp -implicitDefEqProofs (disch := first | omega | with_reducible assumption | (simp only [qU, qC]; omega)) only [qT, qA, reduceCtorEq, qB, qC, qD, qE, qF, qG, qH, qI, qJ, qK, qL, reduceIte]
          | true =>
            rw [hr3] at k3
            have k3' := fun A objs => DetC.known (PurE.ret (k3 A objs))
            have hat : putR tr l x = (0, w) := by rw [putR, hr1, hr2, hns]; simp only [Bool.and_self, if_true, hp, hr3]
            repeat first | simp -implicitDefEqProofs (disch := first | omega | with_reducible assumption | (simp only [qU, qC]; omega)) only [qT, qA, reduceCtorEq, qB, qC, qD, qE, qF, qG, qH, qI, qJ, qK, qL, reduceIte, x2, x3, zN, cellsOf_node, splice3, cutL3, k3'] | refine OrW.go ?_
            refine RetKX_one (u := .ret) (.inr (.inl ⟨rfl, rfl⟩)) ?_
            refine ACallD.mono (d51_no _ (m.size + 3) (m.size + 2)) ?_
            rintro e u' m' ⟨rfl, rfl, rfl⟩
            have hfin : Old m (mx (mx ((M1.set (m.size + 2) (.cells [.int .u8 w.k, .string ⟨w.d.toArray⟩, .slice a5 w.es.length cap5] 26 true .exact)).set (m.size + 3) (.cells [.int .i64 0] 30 true .exact)) []) []) :=
              ((((hm2 _).set (by omega) _).mx []).mx [])
            refine ⟨.ret, rfl, ?_⟩
            refine putE (b := m.size + 2) (e := m.size + 3) (k := 0) (c := [.int .u8 w.k, .string ⟨w.d.toArray⟩, .slice a5 w.es.length cap5]) (T := 26) (w := true) (sp := .exact) (T2 := 30) (w2 := true) (sp2 := .exact) ?_ ?_ rfl ?_ ?_ ⟨_, rfl, fun _ => ⟨hfin, _, by rw [hat], ?_⟩⟩
            · simp -implicitDefEqProofs (disch := first | omega | with_reducible assumption | (simp only [qU, qC]; omega)) only [qT, qA, reduceCtorEq, qB, qC, qD, qE, qF, qG, qH, qI, qJ, qK, qL, reduceIte]
            · simp -implicitDefEqProofs (disch := first | omega | with_reducible assumption | (simp only [qU, qC]; omega)) only [qT, qA, reduceCtorEq, qB, qC, qD, qE, qF, qG, qH, qI, qJ, qK, qL, reduceIte]
            · rw [mx_mx, mx_old (by simp only [AMem.size_set]; omega), AMem.get_set_ne _ _ (by omega), AMem.get_set_self]
            · rw [mx_mx, mx_old (by simp only [AMem.size_set]; omega), AMem.get_set_self]
            · rw [hat]
              intro M' hG'
              obtain ⟨hG1, hG2⟩ := hG'
              rw [mx_mx] at hG1 hG2
              rw [mx_size, AMem.size_set, AMem.size_set] at hG1 hG2
              refine hw M' ⟨by omega, fun b hb hb2 => ?_⟩
              rw [hG2 b (by omega) (by omega), mx_old (by rw [AMem.size_set, AMem.size_set]; exact hb), AMem.get_set_ne _ _ (by omega), AMem.get_set_ne _ _ (by omega)]
theorem refPutD_ok (m1 m : AMem) (tr x : Tr) (c cx : List Value) (l : List UInt8) (hc : TrC m1 tr c) (hx : TrC m1 x cx) (ho : Old m1 m) (hn : tr.weight ≤ 200000) (hnx : x.weight ≤ 200000) (hl : l.length ≤ 200000) : RelC Tryd.prog 3 27 [.agg c.toArray, .string ⟨l.toArray⟩, .agg cx.toArray] m fun v M =>
    Old m M ∧ ∃ c', v = .tuple #[.agg c'.toArray, .int .i64 (putR tr l x).1] ∧ ∀ M', Gap m1 m M M' → TrC M' (putR tr l x).2 c' := by
  have hcn := tr.count_le
  have hcx := x.count_le
  have hc0 := hc
  have hx0 := hx
  obtain ⟨a, cap, rfl, hE⟩ := hc.ex
  obtain ⟨a2, cap2, rfl, hE2⟩ := hx.ex
  have k1 := fun objs => DetC.known (refRight_ok (mx m objs) tr _ (hc0.old (ho.trans (Old.here m objs))) (by omega))
  have k2 := fun objs => DetC.known (refRight_ok (mx m objs) x _ (hx0.old (ho.trans (Old.here m objs))) (by omega))
  cases hr1 : rightT tr with
  | false =>
    have hat : putR tr l x = (70, zT) := by rw [putR, hr1]; rfl
    rw [hr1] at k1
    refine rel_of_W (fn := Tryd.f27) rfl rfl F27_ok (by simp [F27]) ?_
    repeat first | simp -implicitDefEqProofs (disch := first | omega | with_reducible assumption | (simp only [qU, qC]; omega)) only [qT, qA, reduceCtorEq, qB, qC, qD, qE, qF, qG, qH, qI, qJ, qK, qL, reduceIte, F27, cellsOf_node, cutL3, splice3, k1, undef] | refine OrW.go ?_
    exact ⟨_, rfl, fun _ => ⟨zN, by rw [hat]; rfl, by rw [hat]; exact fun M' _ => trC_zT M'⟩⟩
  | true =>
    rw [hr1] at k1
    cases hr2 : rightT x with
    | false =>
      have hat : putR tr l x = (70, zT) := by rw [putR, hr1, hr2]; rfl
      rw [hr2] at k2
      refine rel_of_W (fn := Tryd.f27) rfl rfl F27_ok (by simp [F27]) ?_
      repeat first | simp -implicitDefEqProofs (disch := first | omega | with_reducible assumption | (simp only [qU, qC]; omega)) only [qT, qA, reduceCtorEq, qB, qC, qD, qE, qF, qG, qH, qI, qJ, qK, qL, reduceIte, F27, cellsOf_node, cutL3, splice3, k1, k2] | refine OrW.go ?_
      exact ⟨_, rfl, fun _ => ⟨zN, by rw [hat]; rfl, by rw [hat]; exact fun M' _ => trC_zT M'⟩⟩
    | true =>
      rw [hr2] at k2
      have kS := refNames_ok (mx m [.cells [.int .u8 tr.k, .string ⟨tr.d.toArray⟩, .slice a tr.es.length cap] 26 true .exact, .cells [.int .u8 x.k, .string ⟨x.d.toArray⟩, .slice a2 x.es.length cap2] 26 true .exact, .cells zN 26 true .exact]) l (by omega)
      refine rel_of_W (fn := Tryd.f27) rfl rfl F27_ok (by simp [F27]) ?_
      repeat first | simp -implicitDefEqProofs (disch := first | omega | with_reducible assumption | (simp only [qU, qC]; omega)) only [qT, qA, reduceCtorEq, qB, qC, qD, qE, qF, qG, qH, qI, qJ, qK, qL, reduceIte, F27, cellsOf_node, cutL3, splice3, k1, k2] | refine OrW.go ?_
      refine RelC.call kS ?_
      rintro v M0 ⟨hO0, hr⟩
      have hs0 := hO0.1
      rw [mx_size] at hs0
      simp only [List.length_cons, List.length_nil] at hs0
      have hm0 : Old m M0 := (Old.here m _).trans hO0
      have w0 : M0.get m.size = .cells [.int .u8 tr.k, .string ⟨tr.d.toArray⟩, .slice a tr.es.length cap] 26 true .exact := (hO0.2 _ (by rw [mx_size]; simp)).trans (mx_new0 _ _)
      have w1 : M0.get (m.size + 1) = .cells [.int .u8 x.k, .string ⟨x.d.toArray⟩, .slice a2 x.es.length cap2] 26 true .exact := (hO0.2 _ (by rw [mx_size]; simp)).trans (mx_new _ _ 1)
      have w2 : M0.get (m.size + 2) = .cells zN 26 true .exact := (hO0.2 _ (by rw [mx_size]; simp)).trans (mx_new _ _ 2)
      cases hns : namesR l with
      | none =>
        rw [hns] at hr
        subst hr
        have hat : putR tr l x = (2, zT) := by rw [putR, hr1, hr2, hns]; rfl
        repeat first | simp -implicitDefEqProofs (disch := first | omega | with_reducible assumption | (simp only [qU, qC]; omega)) only [qT, qA, reduceCtorEq, qB, qC, qD, qE, qF, qG, qH, qI, qJ, qK, qL, reduceIte, w2, zN, cellsOf_node, splice3, cutL3] | refine OrW.go ?_
        exact ⟨_, rfl, fun _ => ⟨(hm0.set (by omega) _).mx _, zN, by rw [hat]; rfl, by rw [hat]; exact fun M' _ => trC_zT M'⟩⟩
      | some ns =>
        rw [hns] at hr
        obtain ⟨a1, cap1, rfl, hS, hnew⟩ := hr
        have hnl := namesR_len hns
        have hput : ∀ w, putT ns tr x = some w → w.weight ≤ 1000000 := fun w h => by
          have := (putT_le x l.length ns tr w (namesR_mem hns) h).2
          omega
        have kP := refPut_ok x ns tr m1 M0 _ _ a1 cap1 hc0 hx0 (ho.trans hm0) hS (by omega) (by omega)
        repeat first | simp -implicitDefEqProofs (disch := first | omega | with_reducible assumption | (simp only [qU, qC]; omega)) only [qT, qA, reduceCtorEq, qB, qC, qD, qE, qF, qG, qH, qI, qJ, qK, qL, reduceIte, w0, w1, cutL3] | refine OrW.go ?_
        refine RelC.call kP.at ?_
        rintro v M1 ⟨hO1, u, c', rfl, hu, hw⟩
        have hs1 := hO1.1
        have hm1 : Old m M1 := hm0.trans hO1
        have hoz := ho.1
        have x2 : M1.get (m.size + 2) = .cells zN 26 true .exact := (hO1.2 _ (by omega)).trans w2
        have hu0 := hu
        obtain ⟨a5, cap5, rfl, hE5⟩ := (hu M1 (Gap.of ⟨Nat.le_refl _, fun _ _ => rfl⟩)).ex
        have g5 : m.size + 2 < M1.size := by omega
        cases hp : putT ns tr x with
        | none =>
          have hat : putR tr l x = (5, zT) := by rw [putR, hr1, hr2, hns]; simp only [Bool.and_self, if_true, hp]
          repeat first | simp -implicitDefEqProofs (disch := first | omega | with_reducible assumption | (simp only [qU, qC]; omega)) only [qT, qA, reduceCtorEq, qB, qC, qD, qE, qF, qG, qH, qI, qJ, qK, qL, reduceIte, Option.isSome_none, x2, g5, zN, cellsOf_node, splice3, cutL3] | refine OrW.go ?_
          refine ⟨_, rfl, fun _ => ⟨(hm1.set (by omega) _).mx _, zN, by rw [hat]; rfl, by rw [hat]; exact fun M' _ => trC_zT M'⟩⟩
        | some w =>
          obtain rfl := hw w hp
          have hwc := hput u hp
          have hG : ∀ objs, Gap m1 M0 M1 (mx M1 objs) := fun objs => ⟨by rw [mx_size]; omega, fun b hb hb2 => mx_old hb⟩
          have k3 := fun objs => DetC.known (refRight_ok (mx M1 objs) u _ (hu0 _ (hG objs)) (by omega))
          cases hr3 : rightT u with
          | false =>
            rw [hr3] at k3
            have hat : putR tr l x = (70, zT) := by rw [putR, hr1, hr2, hns]; simp only [Bool.and_self, if_true, hp, hr3]; rfl
            repeat first | simp -implicitDefEqProofs (disch := first | omega | with_reducible assumption | (simp only [qU, qC]; omega)) only [qT, qA, reduceCtorEq, qB, qC, qD, qE, qF, qG, qH, qI, qJ, qK, qL, reduceIte, Option.isSome_some, x2, g5, zN, cellsOf_node, splice3, cutL3, k3] | refine OrW.go ?_
            refine ⟨_, rfl, fun _ => ⟨(hm1.set (by omega) _).mx _, zN, by rw [hat]; rfl, by rw [hat]; exact fun M' _ => trC_zT M'⟩⟩
          | true =>
            rw [hr3] at k3
            have hat : putR tr l x = (0, u) := by rw [putR, hr1, hr2, hns]; simp only [Bool.and_self, if_true, hp, hr3]
            repeat first | simp -implicitDefEqProofs (disch := first | omega | with_reducible assumption | (simp only [qU, qC]; omega)) only [qT, qA, reduceCtorEq, qB, qC, qD, qE, qF, qG, qH, qI, qJ, qK, qL, reduceIte, Option.isSome_some, x2, g5, zN, cellsOf_node, splice3, cutL3, k3] | refine OrW.go ?_
            refine ⟨_, rfl, fun _ => ⟨(hm1.set (by omega) _).mx _, _, by rw [hat], ?_⟩⟩
            rw [hat]
            intro M' hG'
            obtain ⟨hG1, hG2⟩ := hG'
            rw [mx_size, AMem.size_set] at hG1 hG2
            refine hu0 M' ⟨by omega, fun b hb hb2 => ?_⟩
            rw [hG2 b (by omega) (by omega), mx_old (by rw [AMem.size_set]; exact hb), AMem.get_set_ne _ _ (by omega)]
end Go.Proofs.YtfjgpeoblnpelaaDoor
namespace Go.AM
def preP (n q : List UInt8) : List UInt8 := if q = [] then n else n ++ 47 :: q
mutual
def pathsT : Tr → List (List UInt8)
  | .nd _ _ es => [] :: pathsL es
def pathsL : List En → List (List UInt8)
  | [] => []
  | e :: r => pathsE e ++ pathsL r
def pathsE : En → List (List UInt8)
  | .mk n t => (pathsT t).map (preP n)
end
theorem pathsT_nd (k : Int) (d : List UInt8) (es : List En) : pathsT (.nd k d es) = [] :: pathsL es := by unfold pathsT; rfl
theorem pathsE_eq (e : En) : pathsE e = (pathsT e.t).map (preP e.n) := by cases e; unfold pathsE; rfl
theorem pathsL_app : ∀ (a b : List En), pathsL (a ++ b) = pathsL a ++ pathsL b
  | [], b => rfl
  | e :: a, b => by simp only [List.cons_append, pathsL, pathsL_app a b, List.append_assoc]
theorem pathsL_succ {es : List En} {i : Nat} (h : i < es.length) : pathsL (es.take (i + 1)) = pathsL (es.take i) ++ (pathsT es[i].t).map (preP es[i].n) := by
  rw [List.take_succ_eq_append_getElem h, pathsL_app]; simp [pathsL, pathsE_eq]
theorem pathsT_len (t : Tr) : (pathsT t).length = t.count := by
  induction t using Tr.ind with
  | h k d es ih =>
    rw [pathsT_nd, Tr.count, List.length_cons, Nat.add_comm]
    congr 1
    induction es with
    | nil => rfl
    | cons e r ihr =>
      simp only [pathsL, countL, List.length_append, pathsE_eq, List.length_map, En.count_t]
      rw [ih e (by simp), ihr fun x hx => ih x (by simp [hx])]
theorem pathsL_len (es : List En) : (pathsL es).length = countL es := by
  have := pathsT_len (.nd 0 [] es)
  rw [pathsT_nd, Tr.count, List.length_cons] at this
  omega
theorem preP_len (n q : List UInt8) : (preP n q).length ≤ n.length + 1 + q.length := by
  unfold preP
  split
  · omega
  · rw [List.length_append, List.length_cons]; omega
theorem pathsT_le (t : Tr) : ∀ q ∈ pathsT t, q.length ≤ t.weight := by
  induction t using Tr.ind with
  | h k d es ih =>
    intro q hq
    rw [pathsT_nd] at hq
    rcases List.mem_cons.1 hq with rfl | hq
    · simp
    · have key : ∀ (l : List En), (∀ e ∈ l, ∀ q ∈ pathsT e.t, q.length ≤ e.t.weight) → q ∈ pathsL l → q.length ≤ 1 + weightL l := by
        intro l
        induction l with
        | nil => intro _ h; simp [pathsL] at h
        | cons e r ihr =>
          intro hl h
          simp only [pathsL, pathsE_eq] at h
          simp only [weightL, En.weight_t]
          rcases List.mem_append.1 h with h | h
          · obtain ⟨q', hq', rfl⟩ := List.mem_map.1 h
            have h1 := hl e (by simp) q' hq'
            have h2 := preP_len e.n q'
            omega
          · have := ihr (fun x hx => hl x (by simp [hx])) h
            omega
      have := key es ih hq
      simp only [Tr.weight]; omega

def PBuf (m M : AMem) (v : Value) (c : List Value) : Prop :=
  Buf m M v c 9 (.string ⟨#[]⟩) ∨ ∃ b x, m.size ≤ b ∧ b < M.size ∧ v = .slice (some ⟨b, 0, none⟩) 1 1 ∧ M.get b = .cells [x] 9 true .exact ∧ c = [x]
theorem PBuf.old {m M M' : AMem} {v : Value} {c : List Value} (h : PBuf m M v c) (ho : Old M M') : PBuf m M' v c := by
  rcases h with h | ⟨b, x, h1, h2, h3, h4, h5⟩
  · rcases h with h | ⟨b, h1, h2, h3, h4⟩
    · exact .inl (.inl h)
    · exact .inl (.inr ⟨b, h1, by have := ho.1; omega, h3, by rw [ho.2 b h2]; exact h4⟩)
  · exact .inr ⟨b, x, h1, by have := ho.1; omega, h3, by rw [ho.2 b h2]; exact h4, h5⟩
theorem PBuf.new {m M : AMem} {v : Value} {c : List Value} (h : PBuf m M v c) : ∀ x o l k, v = .slice (some ⟨x, o, none⟩) l k → m.size ≤ x ∧ x < M.size := by
  intro x o l k hv
  rcases h with (⟨rfl, rfl⟩ | ⟨b, h1, h2, rfl, h4⟩) | ⟨b, y, h1, h2, rfl, _⟩
  · cases hv
  · cases hv; exact ⟨h1, h2⟩
  · cases hv; exact ⟨h1, h2⟩
theorem PBuf.set' {m M : AMem} {v : Value} {c : List Value} {y : Nat} {ob : AObj} (h : PBuf m M v c) (hy : ∀ x o l k, v = .slice (some ⟨x, o, none⟩) l k → x ≠ y) : PBuf m (M.set y ob) v c := by
  rcases h with (⟨rfl, rfl⟩ | ⟨b, h1, h2, rfl, h4⟩) | ⟨b, x, h1, h2, rfl, h4, h5⟩
  · exact .inl (.inl ⟨rfl, rfl⟩)
  · exact .inl (.inr ⟨b, h1, h2, rfl, by rw [AMem.get_set_ne _ _ (hy b _ _ _ rfl)]; exact h4⟩)
  · exact .inr ⟨b, x, h1, h2, rfl, by rw [AMem.get_set_ne _ _ (hy b _ _ _ rfl)]; exact h4, h5⟩
theorem PBuf.app1 {m M : AMem} {v x : Value} {c : List Value} (h : PBuf m M v c) (hm : m.size ≤ M.size) (ho : oneCell x = true) (hn : c.length + 1 ≤ 1000000000) :
    ∃ v' M', appV 9 1 16 [.string ⟨#[]⟩] v (.slice (some ⟨M.size, 0, none⟩) 1 1) (mx M [.cells [x] 9 true .exact]) = some (v', mx M' []) ∧ PBuf m M' v' (c ++ [x]) ∧ Fr v M M' ∧ ∀ y o l k, v' = .slice (some ⟨y, o, none⟩) l k → M.size ≤ y := by
  have hs : srcCells 1 1 (.slice (some ⟨M.size, 0, none⟩) 1 1) (mx M [.cells [x] 9 true .exact]) = some [x] := by
    rw [srcCells_b (Nat.le_refl _) (mx_new0 M _)]; rfl
  have hv : appV 9 1 16 [.string ⟨#[]⟩] v (.slice (some ⟨M.size, 0, none⟩) 1 1) (mx M [.cells [x] 9 true .exact]) = appendTo 9 1 16 [.string ⟨#[]⟩] v 1 [x] (mx M [.cells [x] 9 true .exact]) := by
    simp only [appV, srcLen_slice, hs]
    rw [if_pos ⟨rfl, by omega, by simp [ho], rfl⟩]
  rw [hv]
  rcases h with (⟨rfl, rfl⟩ | ⟨b, h1, h2, rfl, h4⟩) | ⟨b, y, h1, h2, rfl, h4, rfl⟩
  · refine ⟨_, mx M [.cells [x] 9 true .exact, .cells [x] 9 true (.room [.string ⟨#[]⟩])], ?_, .inl (.inr ⟨M.size + 1, by omega, by simp [mx_size], rfl, mx_new M _ 1⟩), ⟨by rw [mx_size]; omega, fun y hy _ => mx_old hy⟩, fun y o l k e => by cases e; omega⟩
    rw [appendTo_nil (by omega) (by omega) (by omega), mx_push, mx_mx, mx_size]; rfl
  · refine ⟨.slice (some ⟨M.size + 1, 0, none⟩) (c ++ [x]).length openCap, mx (M.set b .dead) [.cells [x] 9 true .exact, .cells (c ++ [x]) 9 true (.room [.string ⟨#[]⟩])], ?_, .inl (.inr ⟨M.size + 1, by omega, by simp only [mx_size, AMem.size_set, List.length_cons, List.length_nil]; omega, rfl, mx_new (M.set b .dead) _ 1⟩),
      ⟨by simp only [mx_size, AMem.size_set, List.length_cons, List.length_nil]; omega, fun y hy hne => ?_⟩, fun y o l k e => by cases e; omega⟩
    · rw [appendTo_open (sz := 1) (z' := [.string ⟨#[]⟩]) ((mx_old h2).trans h4) (by decide) rfl (by omega) (show c.length = c.length * 1 by omega) (by omega) (by omega) (by omega), mx_set_old h2, mx_push, mx_mx, mx_size, List.length_append]; rfl
    · have : y ≠ b := fun e => hne 0 c.length openCap (by rw [e])
      rw [mx_old (by rw [AMem.size_set]; exact hy), AMem.get_set_ne _ _ this]
  · refine ⟨.slice (some ⟨M.size + 1, 0, none⟩) 2 openCap, mx M [.cells [x] 9 true .exact, .cells [y, x] 9 true (.room [.string ⟨#[]⟩])], ?_, .inl (.inr ⟨M.size + 1, by omega, by simp [mx_size], rfl, mx_new M _ 1⟩), ⟨by rw [mx_size]; omega, fun y hy _ => mx_old hy⟩, fun y o l k e => by cases e; omega⟩
    have hne : ¬ 1 = openCap := Nat.ne_of_lt (openCap_lt (by omega))
    simp only [appendTo, if_neg hne]
    rw [if_neg (by omega), rd_def, mx_old h2, h4, rdO_cells, show cutL [y] 0 (1 * 1) = some [y] from rfl]
    simp only
    rw [if_pos (by omega), mx_push, mx_size, mx_mx]
    rfl
theorem PBuf.strs {m M : AMem} {v : Value} {ls : List (List UInt8)} (h : PBuf m M v (ls.map strC)) : ∃ a cap, v = .slice a ls.length cap ∧ StrS M a cap ls ∧ ∀ b o, a = some ⟨b, o, none⟩ → m.size ≤ b := by
  rcases h with h | ⟨b, x, h1, h2, rfl, h4, h5⟩
  · exact h.strs2
  · have hl : ls.length = 1 := by rw [← List.length_map (f := strC), h5]; rfl
    refine ⟨some ⟨b, 0, none⟩, 1, by rw [hl], .inr ⟨b, 0, [x], 9, true, .exact, rfl, h2, h4, ?_, .inr ⟨openCap_lt (by omega), by omega⟩⟩, fun _ _ e => by cases e; exact h1⟩
    rw [hl, h5]; rfl
end Go.AM
namespace Go.Proofs.YtfjgpeoblnpelaaDoor
open Go Go.AM
set_option linter.unusedVariables false
set_option linter.unusedSimpArgs false
set_option maxRecDepth 100000
set_option maxHeartbeats 2000000

theorem take_succ_map {ks : List (List UInt8)} {j : Nat} (h : j < ks.length) (n : List UInt8) : ((ks.take (j + 1)).map (preP n)) = (ks.take j).map (preP n) ++ [preP n ks[j]] := by
  rw [List.take_succ_eq_append_getElem h, List.map_append]; rfl
theorem paths50_ok (t : Tr) : ∀ (m : AMem) (c : List Value), TrC m t c → t.weight ≤ 1000000 → RelC Tryd.prog 3 50 [.agg c.toArray] m fun v M => Old m M ∧ ∃ a cap, v = .slice a (pathsT t).length cap ∧ StrS M a cap (pathsT t) ∧ ∀ b o, a = some ⟨b, o, none⟩ → m.size ≤ b := by
  induction t using Tr.ind2 with
  | h k d es ih =>
    intro m c hc hn
    simp only [Tr.weight] at hn
    have hlen := weightL_len es
    obtain ⟨a, cap, rfl, hE⟩ := trC_nd hc
    refine rel_of_W (fn := Tryd.f50) rfl rfl F50_ok (by simp [F50]) ?_
    repeat first | simp -implicitDefEqProofs (disch := first | omega | with_reducible assumption | (simp only [qU, qC]; omega)) only [qT, qA, reduceCtorEq, qB, qC, qD, qE, qF, qG, qH, qI, qJ, qK, qL, reduceIte, F50, cellsOf_node] | refine OrW.go ?_
    refine W_loop (fun N qs => ∃ (i : Nat) (M : AMem) (v : Value), N = es.length - i ∧ qs.ds = [] ∧ qs.m = mx M [] ∧ qs.t 1 = .pointer (some ⟨m.size, 0, none⟩) ∧ qs.t 3 = v ∧ qs.t 4 = .int .i64 i ∧ i ≤ es.length ∧ Old (mx m [.cells [.int .u8 k, .string ⟨d.toArray⟩, .slice a es.length cap] 26 true .exact]) M ∧ PBuf (mx m [.cells [.int .u8 k, .string ⟨d.toArray⟩, .slice a es.length cap] 26 true .exact]) M v (([] :: pathsL (es.take i)).map strC)) (es.length - (0)) ⟨0, mx m [.cells [.int .u8 k, .string ⟨d.toArray⟩, .slice a es.length cap] 26 true .exact, .cells [.string ⟨#[]⟩] 9 true .exact], .slice (some ⟨m.size + 1, 0, none⟩) 1 1, rfl, rfl, ?qm, ?q1, ?q3, ?q4, ?_⟩ ?_
    case qm | q1 | q3 | q4 => first | rfl | (simp -implicitDefEqProofs (disch := first | omega | with_reducible assumption | (simp only [qU, qC]; omega)) only [qT, qA, reduceCtorEq, qB, qC, qD, qE, qF, qG, qH, qI, qJ, qK, qL, reduceIte, mx_mx, List.append_nil]; first | done | rfl | (congr 1; omega))
    · refine ⟨Nat.zero_le _, ?_, .inr ⟨m.size + 1, strC [], by rw [mx_size]; simp, by rw [mx_size]; simp, rfl, mx_new m _ 1, rfl⟩⟩
      have := Old.here (mx m [.cells [.int .u8 k, .string ⟨d.toArray⟩, .slice a es.length cap] 26 true .exact]) [.cells [.string ⟨#[]⟩] 9 true .exact]
      rw [mx_mx] at this
      exact this
    · rintro N t m1 ds ⟨i, M, v, rfl, hds, hm, t1, t3, t4, hp⟩
      simp only at hds hm t1 t3 t4
      subst hds; replace hm := hm.symm; subst hm
      obtain ⟨hi0, hO, hB⟩ := hp
      have hOm := (Old.here m _).trans hO
      have hz := hO.1
      rw [mx_size] at hz
      simp only [List.length_cons, List.length_nil] at hz
      have hbx : M.get m.size = .cells [.int .u8 k, .string ⟨d.toArray⟩, .slice a es.length cap] 26 true .exact := by rw [hO.2 _ (by rw [mx_size]; simp)]; exact mx_new0 _ _
      by_cases g1 : (i : Int) < (es.length : Int)
      · have hi : i < es.length := by omega
        obtain ⟨b, o, a', cap', rfl, hbb, hE', q4, q3, q0⟩ := hE.get hi
        have hw := weight_get hi
        have kI := ih i hi M _ (TrC.of (hE'.old hOm)) (by omega)
        rw [← hOm.2 b hbb] at q3
        repeat first | simp -implicitDefEqProofs (disch := first | omega | with_reducible assumption | (simp only [qU, qC]; omega)) only [qT, qA, reduceCtorEq, qB, qC, qD, qE, qF, qG, qH, qI, qJ, qK, qL, reduceIte, F50_l0, t1, t3, t4, g1, hbx, cutL3_2, q3] | refine OrW.go ?_
        refine RelC.call kI.at ?_
        rintro v2 M2 ⟨hO2, a2, cap2, rfl, hS2, hnew⟩
        have hO3 := hO.trans hO2
        have hsuc := pathsL_succ hi
        have hks : ∀ q ∈ pathsT es[i].t, q.length ≤ 1000000 := fun q hq => by have := pathsT_le es[i].t q hq; omega
        have hkl := pathsT_len es[i].t
        have hkc := es[i].t.count_le
        have hDl := pathsL_len (es.take i)
        have hDc := countL_le es i
        have hwc : countL es ≤ 1000000 := by
          have := (Tr.nd 0 [] es).count_le
          simp only [Tr.count, Tr.weight, List.length_nil] at this
          omega
        generalize pathsT es[i].t = ks at *
        generalize pathsL (es.take i) = D at *
        repeat first | simp -implicitDefEqProofs (disch := first | omega | with_reducible assumption | (simp only [qU, qC]; omega)) only [qT, qA, reduceCtorEq, qB, qC, qD, qE, qF, qG, qH, qI, qJ, qK, qL, reduceIte] | refine OrW.go ?_
        refine W_loop (fun N qs => ∃ (j : Nat) (N0 : AMem) (w : Value), N = ks.length - j ∧ qs.ds = [] ∧ qs.m = mx N0 [] ∧ qs.t 1 = .pointer (some ⟨m.size, 0, none⟩) ∧ qs.t 3 = w ∧ qs.t 4 = .int .i64 i ∧ qs.t 5 = .slice a2 ks.length cap2 ∧ qs.t 6 = .int .i64 j ∧ j ≤ ks.length ∧ Old (mx m [.cells [.int .u8 k, .string ⟨d.toArray⟩, .slice (some ⟨b, o, none⟩) es.length cap] 26 true .exact]) N0 ∧ PBuf (mx m [.cells [.int .u8 k, .string ⟨d.toArray⟩, .slice (some ⟨b, o, none⟩) es.length cap] 26 true .exact]) N0 w (([] :: D ++ (ks.take j).map (preP es[i].n)).map strC) ∧ StrS N0 a2 cap2 ks ∧ ∀ y o l k b o', w = .slice (some ⟨y, o, none⟩) l k → a2 = some ⟨b, o', none⟩ → y ≠ b) (ks.length - (0)) ⟨0, M2, v, rfl, rfl, ?qm, ?q1, ?q3, ?q4, ?q5, ?q6, ?_⟩ ?_
        case qm | q1 | q3 | q4 | q5 | q6 => first | rfl | (simp -implicitDefEqProofs (disch := first | omega | with_reducible assumption | (simp only [qU, qC]; omega)) only [qT, qA, reduceCtorEq, qB, qC, qD, qE, qF, qG, qH, qI, qJ, qK, qL, reduceIte, t1, t3, t4]; first | done | rfl | (congr 1; omega))
        · refine ⟨Nat.zero_le _, hO3, by simpa using hB.old hO2, hS2, fun y o l k b o' e1 e2 => ?_⟩
          have h1 := hB.new y o l k e1
          have h2 := hnew b o' e2
          omega
        · rintro N t m1 ds ⟨j, N0, w, rfl, hds, hm, t1, t3, t4, t5, t6, hp⟩
          simp only at hds hm t1 t3 t4 t5 t6
          subst hds; replace hm := hm.symm; subst hm
          obtain ⟨hj0, hON, hBN, hSN, hsep⟩ := hp
          have hz2 := hON.1
          rw [mx_size] at hz2
          simp only [List.length_cons, List.length_nil] at hz2
          have hOmN := (Old.here m _).trans hON
          have hbx2 : N0.get m.size = .cells [.int .u8 k, .string ⟨d.toArray⟩, .slice (some ⟨b, o, none⟩) es.length cap] 26 true .exact := by rw [hON.2 _ (by rw [mx_size]; simp)]; exact mx_new0 _ _
          by_cases g2 : (j : Int) < (ks.length : Int)
          · have hj : j < ks.length := by omega
            obtain ⟨b4, o4, rfl, hb4, r0⟩ := hSN.get hj
            have q00 := q0
            rw [← hOmN.2 b hbb] at q00
            have hkj := hks ks[j] (List.getElem_mem hj)
            have hmap := take_succ_map hj es[i].n
            have hlen2 : (([] :: D ++ (ks.take j).map (preP es[i].n)).map strC).length = 1 + D.length + j := by
              rw [List.length_map, List.length_append, List.length_map, List.length_take, List.length_cons]; omega
            obtain ⟨w', N0', happ, hB', hF, hfresh⟩ := hBN.app1 (x := strC (preP es[i].n ks[j])) (by rw [mx_size]; simp only [List.length_cons, List.length_nil]; omega) rfl (by rw [hlen2]; omega)
            have hO' := hON.fr hF (fun x o l k hx e => by have := (hBN.new x o l k e).1; omega)
            have hS' : StrS N0' (some ⟨b4, o4, none⟩) cap2 ks := by
              rcases hSN with ⟨h, _⟩ | ⟨y, p, Y, e, wr, sp, h1, h2, h3, h4⟩
              · cases h
              · cases h1
                refine .inr ⟨b4, o4, Y, e, wr, sp, rfl, Nat.lt_of_lt_of_le h2 hF.1, (hF.2 b4 h2 fun o l c e => ?_).trans h3, h4⟩
                exact hsep b4 o l c b4 o4 e rfl rfl
            have e0 : strEq ⟨ks[j].toArray⟩ ⟨#[]⟩ = decide (ks[j] = []) := strEq_mk _ []
            by_cases hq : ks[j] = []
            · have hpre : preP es[i].n ks[j] = es[i].n := if_pos hq
              rw [decide_eq_true hq] at e0
              rw [hpre] at happ hB' hmap
              simp only [strC] at happ
              repeat first | simp -implicitDefEqProofs (disch := first | omega | with_reducible assumption | (simp only [qU, qC]; omega)) only [qT, qA, reduceCtorEq, qB, qC, qD, qE, qF, qG, qH, qI, qJ, qK, qL, reduceIte, F50_l1, t1, t3, t4, t5, t6, g2, hbx2, cutL3_2, q00, r0, e0, stepOp_app_v, happ] | refine OrW.go ?_
              rw [LoopK_normal]; refine ⟨_, ?_, j + 1, N0', w', rfl, rfl, ?qm, ?q1, ?q3, ?q4, ?q5, ?q6, ?_⟩
              case qm | q1 | q3 | q4 | q5 | q6 => first | rfl | (simp -implicitDefEqProofs (disch := first | omega | with_reducible assumption | (simp only [qU, qC]; omega)) only [qT, qA, reduceCtorEq, qB, qC, qD, qE, qF, qG, qH, qI, qJ, qK, qL, reduceIte, t1, t3, t4, t5, t6, Int.natCast_add]; first | done | rfl | (congr 1; omega))
              · omega
              · refine ⟨by omega, hO', ?_, hS', fun y o l k b o' e1 e2 => ?_⟩
                · rw [hmap, ← List.append_assoc, List.map_append]; exact hB'
                · cases e2
                  have := hfresh y o l k e1
                  omega
            · have hpre : preP es[i].n ks[j] = es[i].n ++ [47] ++ ks[j] := by rw [preP, if_neg hq]; simp
              rw [decide_eq_false hq] at e0
              rw [hpre] at happ hB' hmap
              simp only [strC] at happ
              repeat first | simp -implicitDefEqProofs (disch := first | omega | with_reducible assumption | (simp only [qU, qC]; omega)) only [qT, qA, reduceCtorEq, qB, qC, qD, qE, qF, qG, qH, qI, qJ, qK, qL, reduceIte, F50_l1, t1, t3, t4, t5, t6, g2, hbx2, cutL3_2, q00, r0, e0, stepOp_app_v, happ] | refine OrW.go ?_
              rw [LoopK_normal]; refine ⟨_, ?_, j + 1, N0', w', rfl, rfl, ?qm, ?q1, ?q3, ?q4, ?q5, ?q6, ?_⟩
              case qm | q1 | q3 | q4 | q5 | q6 => first | rfl | (simp -implicitDefEqProofs (disch := first | omega | with_reducible assumption | (simp only [qU, qC]; omega)) only [qT, qA, reduceCtorEq, qB, qC, qD, qE, qF, qG, qH, qI, qJ, qK, qL, reduceIte, t1, t3, t4, t5, t6, Int.natCast_add]; first | done | rfl | (congr 1; omega))
              · omega
              · refine ⟨by omega, hO', ?_, hS', fun y o l k b o' e1 e2 => ?_⟩
                · rw [hmap, ← List.append_assoc, List.map_append]; exact hB'
                · cases e2
                  have := hfresh y o l k e1
                  omega
          · obtain rfl : j = ks.length := by omega
            rw [List.take_length] at hBN
            repeat first | simp -implicitDefEqProofs (disch := first | omega | with_reducible assumption | (simp only [qU, qC]; omega)) only [qT, qA, reduceCtorEq, qB, qC, qD, qE, qF, qG, qH, qI, qJ, qK, qL, reduceIte, F50_l1, t1, t3, t4, t5, t6, g2] | refine OrW.go ?_
            rw [LoopK_normal]; refine ⟨_, ?_, i + 1, N0, w, rfl, rfl, ?qm, ?q1, ?q3, ?q4, ?_⟩
            case qm | q1 | q3 | q4 => first | rfl | (simp -implicitDefEqProofs (disch := first | omega | with_reducible assumption | (simp only [qU, qC]; omega)) only [qT, qA, reduceCtorEq, qB, qC, qD, qE, qF, qG, qH, qI, qJ, qK, qL, reduceIte, t1, t3, t4, t5, t6, Int.natCast_add]; first | done | rfl | (congr 1; omega))
            · omega
            · refine ⟨by omega, hON, ?_⟩
              rw [hsuc]; exact hBN
      · obtain rfl : i = es.length := by omega
        rw [List.take_length] at hB
        obtain ⟨a5, cap5, rfl, hS5, hnew⟩ := PBuf.strs hB
        repeat first | simp -implicitDefEqProofs (disch := first | omega | with_reducible assumption | (simp only [qU, qC]; omega)) only [qT, qA, reduceCtorEq, qB, qC, qD, qE, qF, qG, qH, qI, qJ, qK, qL, reduceIte, F50_l0, t1, t3, t4, g1, hbx, cutL3_2] | refine OrW.go ?_
        rw [pathsT_nd]
        refine ⟨_, rfl, fun _ => ⟨hOm.mx _, _, _, rfl, hS5.old (Old.here M []), fun b o e => ?_⟩⟩
        have := hnew b o e
        rw [mx_size] at this
        omega
end Go.Proofs.YtfjgpeoblnpelaaDoor
namespace Go.Proofs.YtfjgpeoblnpelaaDoor
open Go Go.AM
set_option linter.unusedVariables false
set_option linter.unusedSimpArgs false
set_option maxRecDepth 100000
set_option maxHeartbeats 2000000

mutual
def onT : Tr → List UInt8 → List (List UInt8)
  | .nd _ _ es, p => p :: onL es p
def onL : List En → List UInt8 → List (List UInt8)
  | [], _ => []
  | e :: r, p => onE e p ++ onL r p
def onE : En → List UInt8 → List (List UInt8)
  | .mk n t, p => onT t (trimR (p ++ [47] ++ n) [47])
end
theorem onT_nd (k : Int) (d : List UInt8) (es : List En) (p : List UInt8) : onT (.nd k d es) p = p :: onL es p := by unfold onT; rfl
theorem onE_eq (e : En) (p : List UInt8) : onE e p = onT e.t (trimR (p ++ [47] ++ e.n) [47]) := by cases e; unfold onE; rfl
theorem onL_app : ∀ (a b : List En) (p : List UInt8), onL (a ++ b) p = onL a p ++ onL b p
  | [], b, p => rfl
  | e :: a, b, p => by simp only [List.cons_append, onL, onL_app a b, List.append_assoc]
theorem onL_succ {es : List En} {i : Nat} (h : i < es.length) (p : List UInt8) : onL (es.take (i + 1)) p = onL (es.take i) p ++ onT es[i].t (trimR (p ++ [47] ++ es[i].n) [47]) := by
  rw [List.take_succ_eq_append_getElem h, onL_app]; simp [onL, onE_eq]
theorem onT_len (t : Tr) : ∀ p, (onT t p).length = t.count := by
  induction t using Tr.ind with
  | h k d es ih =>
    intro p
    rw [onT_nd, Tr.count, List.length_cons, Nat.add_comm]
    congr 1
    induction es with
    | nil => rfl
    | cons e r ihr =>
      simp only [onL, countL, List.length_append, onE_eq, En.count_t]
      rw [ih e (by simp), ihr fun x hx => ih x (by simp [hx])]
theorem onL_len (es : List En) (p : List UInt8) : (onL es p).length = countL es := by
  have := onT_len (.nd 0 [] es) p
  rw [onT_nd, Tr.count, List.length_cons] at this
  omega
theorem trimR_le (l p : List UInt8) : (trimR l p).length ≤ l.length := by
  unfold trimR
  split
  · rw [List.length_drop]; omega
  · exact Nat.le_refl _
def overP (p q : List UInt8) : List UInt8 := if q = [] then p else if p = [] then q else p ++ 47 :: q
theorem nameB_47 {n : List UInt8} (h : nameB n = true) : n ≠ [] ∧ 47 ∉ n := by
  unfold nameB at h
  simp only [Bool.and_eq_true, Bool.not_eq_true', decide_eq_false_iff_not] at h
  refine ⟨h.1.1.1.1, fun hm => ?_⟩
  have h2 := List.any_eq_false.1 h.2 47 hm
  exact h2 (by decide)
def goodP (p : List UInt8) : Prop := p.head? ≠ some 47
theorem trim_over {p n : List UInt8} (hp : goodP p) (hn : nameB n = true) : trimR (p ++ [47] ++ n) [47] = overP p n ∧ goodP (overP p n) := by
  obtain ⟨h1, h2⟩ := nameB_47 hn
  have hg : goodP n := fun e => h2 (by cases n with | nil => cases e | cons x r => simp only [List.head?_cons, Option.some.injEq] at e; subst e; simp)
  cases p with
  | nil =>
    have e : overP [] n = n := by rw [overP, if_neg h1, if_pos rfl]
    rw [e]
    refine ⟨?_, hg⟩
    rw [trimR, if_pos (by simp)]; simp
  | cons x r =>
    have hx : x ≠ 47 := fun e => hp (by rw [e]; rfl)
    have e : overP (x :: r) n = x :: r ++ [47] ++ n := by rw [overP, if_neg h1, if_neg (by simp)]; simp
    rw [e]
    refine ⟨?_, fun e => hx ?_⟩
    · rw [trimR, if_neg]
      rw [List.isPrefixOf_iff_prefix]
      rintro ⟨t, ht⟩
      simp only [List.cons_append, List.nil_append, List.cons.injEq] at ht
      exact hx ht.1.symm
    · simpa using e
theorem over_over {p n q : List UInt8} (hn : n ≠ []) : overP (overP p n) q = overP p (preP n q) := by
  unfold overP preP
  by_cases hq : q = []
  · simp [hq, hn]
  · by_cases hp : p = []
    · simp [hq, hn, hp]
    · simp [hq, hn, hp]
theorem onT_eq (t : Tr) : ∀ p, goodP p → mayT t = true → onT t p = (pathsT t).map (overP p) := by
  induction t using Tr.ind with
  | h k d es ih =>
    intro p hp hm
    rw [mayT_nd, Bool.and_eq_true] at hm
    have hnames : ∀ e ∈ es, nameB e.n = true := by
      have h1 := hm.1
      unfold checkB at h1
      rw [Bool.and_eq_true] at h1
      by_cases h4 : k = 4
      · have h2 := h1.2
        rw [h4, if_neg (by omega), if_neg (by omega), if_pos rfl, Bool.and_eq_true] at h2
        exact ordE_name h2.2
      · have h2 := h1.1
        rw [decide_eq_false h4, Bool.false_or] at h2
        have : es = [] := by simpa using h2
        subst this; intro e he; cases he
    have hmay := (mayL_all es).symm.trans hm.2
    rw [List.all_eq_true] at hmay
    rw [onT_nd, pathsT_nd, List.map_cons]
    congr 1
    have key : ∀ (l : List En), (∀ e ∈ l, e ∈ es) → onL l p = (pathsL l).map (overP p) := by
      intro l
      induction l with
      | nil => intro _; rfl
      | cons e r ihr =>
        intro hl
        have he := hl e (by simp)
        have h1 := trim_over hp (hnames e he)
        simp only [onL, pathsL, onE_eq, pathsE_eq, List.map_append, List.map_map]
        rw [h1.1, ih e he _ h1.2 (hmay e he), ihr fun x hx => hl x (by simp [hx])]
        congr 1
        apply List.map_congr_left
        intro q _
        exact over_over (nameB_47 (hnames e he)).1
    exact key es fun _ h => h
theorem onT_paths {t : Tr} (h : mayT t = true) : onT t [] = pathsT t := by
  rw [onT_eq t [] (by simp [goodP]) h]
  have : ∀ q, overP [] q = q := fun q => by unfold overP; split <;> simp_all
  rw [show overP [] = id from funext this, List.map_id]

theorem PBuf_slice {m M : AMem} {v : Value} {c : List Value} (h : PBuf m M v c) : ∃ a n cap, v = .slice a n cap := by
  rcases h with (⟨rfl, rfl⟩ | ⟨b, h1, h2, rfl, h4⟩) | ⟨b, y, h1, h2, rfl, _⟩
  · exact ⟨_, _, _, rfl⟩
  · exact ⟨_, _, _, rfl⟩
  · exact ⟨_, _, _, rfl⟩
structure OnP (mB M : AMem) (bl : Nat) (v : Value) (D : List (List UInt8)) (M' : AMem) : Prop where
  size : M.size ≤ M'.size
  old : ∀ y, y < M.size → y ≠ bl → (∀ o l k, v ≠ .slice (some ⟨y, o, none⟩) l k) → M'.get y = M.get y
  row : ∃ v', M'.get bl = .cells [v'] 35 true .exact ∧ PBuf mB M' v' (D.map strC) ∧ ∀ y o l k, v' = .slice (some ⟨y, o, none⟩) l k → M.size ≤ y
theorem on_ok (t : Tr) : ∀ (p : List UInt8) (m0 mB M : AMem) (bl bf : Nat) (v : Value) (D : List (List UInt8)) (c : List Value), TrC m0 t c → Old m0 M → m0.size ≤ bl → bl < mB.size → bf < mB.size → bf ≠ bl → m0.size ≤ mB.size → mB.size ≤ M.size →
    M.get bl = .cells [v] 35 true .exact → M.get bf = .cells [.func (.func 56) #[] #[.pointer (some ⟨bl, 0, none⟩), .pointer (some ⟨bf, 0, none⟩)]] 69 true .exact → PBuf mB M v (D.map strC) → p.length + t.weight ≤ 2000000 → D.length + t.count ≤ 1000000 →
    ACall Tryd.prog 3 56 [.string ⟨p.toArray⟩, .agg c.toArray, .pointer (some ⟨bl, 0, none⟩), .pointer (some ⟨bf, 0, none⟩)] (mx M []) fun r M' => r = .ret (.tuple #[]) ∧ OnP mB M bl v (D ++ onT t p) M' := by
  induction t using Tr.ind2 with
  | h k d es ih =>
    intro p m0 mB M bl bf v D c hc ho h0 hbl hbf hne hmB hM hl hf hB hw hd
    simp only [Tr.weight] at hw
    simp only [Tr.count] at hd
    have hlen := weightL_len es
    have hlen2 := countL_len es
    obtain ⟨a, cap, rfl, hE⟩ := trC_nd hc
    obtain ⟨v1, M1, happ, hB1, hF1, hfr1⟩ := (hB.old (Old.here M [.cells [.int .u8 k, .string ⟨d.toArray⟩, .slice a es.length cap] 26 true .exact])).app1 (x := strC p) (by rw [mx_size]; omega) rfl (by rw [List.length_map]; omega)
    rw [mx_mx] at happ
    rw [mx_size] at happ
    simp only [List.length_cons, List.length_nil, List.cons_append, List.nil_append, strC, Nat.zero_add] at happ
    have hz1 := hF1.1
    rw [mx_size] at hz1
    simp only [List.length_cons, List.length_nil] at hz1
    have hvn := hB.new
    have old1 : ∀ y, y < M.size → (∀ o l k, v ≠ .slice (some ⟨y, o, none⟩) l k) → M1.get y = M.get y := fun y hy hv => (hF1.2 y (by rw [mx_size]; omega) hv).trans (mx_old hy)
    have box1 : M1.get M.size = .cells [.int .u8 k, .string ⟨d.toArray⟩, .slice a es.length cap] 26 true .exact := (hF1.2 M.size (by rw [mx_size]; simp) (fun o l k e => by have := (hvn _ o l k e).2; omega)).trans (mx_new0 _ _)
    have bl1 : M1.get bl = .cells [v] 35 true .exact := (old1 bl (by omega) (fun o l k e => by have := (hvn _ o l k e).1; omega)).trans hl
    refine ACall_of_W (fn := Tryd.f56) rfl rfl F56_ok (by simp [F56]) ?_
    have g1 : bl < M.size := by omega
    have g2 : bl < M1.size := by omega
    obtain ⟨a9, n9, cap9, rfl⟩ := PBuf_slice hB1
    have x0 : (M1.set bl (.cells [.slice a9 n9 cap9] 35 true .exact)).get M.size = .cells [.int .u8 k, .string ⟨d.toArray⟩, .slice a es.length cap] 26 true .exact := by rw [AMem.get_set_ne _ _ (by omega)]; exact box1
    have x1 := AMem.get_set_self M1 bl (.cells [.slice a9 n9 cap9] 35 true .exact)
    have x2 : ∀ y, y < M.size → y ≠ bl → (∀ o l k, v ≠ .slice (some ⟨y, o, none⟩) l k) → (M1.set bl (.cells [.slice a9 n9 cap9] 35 true .exact)).get y = M.get y := fun y hy hne hv => by rw [AMem.get_set_ne _ _ hne]; exact old1 y hy hv
    have x3 : PBuf mB (M1.set bl (.cells [.slice a9 n9 cap9] 35 true .exact)) (.slice a9 n9 cap9) (D.map strC ++ [strC p]) := by
      refine hB1.set' ?_
      intro y o l k e
      have := (hB1.new y o l k e).1
      omega
    have x4 := AMem.size_set M1 bl (.cells [.slice a9 n9 cap9] 35 true .exact)
    repeat first | simp -implicitDefEqProofs (disch := first | omega | with_reducible assumption | (simp only [qU, qC]; omega)) only [qT, qA, reduceCtorEq, qB, qC, qD, qE, qF, qG, qH, qI, qJ, qK, qL, reduceIte, F56, cellsOf_node, hl, g1, stepOp_app_v, happ, bl1, g2] | refine OrW.go ?_
    generalize M1.set bl (.cells [.slice a9 n9 cap9] 35 true .exact) = M2 at *
    have g3 : M.size < M2.size := by omega
    rw [mx_size] at hfr1
    simp only [List.length_cons, List.length_nil] at hfr1
    repeat first | simp -implicitDefEqProofs (disch := first | omega | with_reducible assumption | (simp only [qU, qC]; omega)) only [qT, qA, reduceCtorEq, qB, qC, qD, qE, qF, qG, qH, qI, qJ, qK, qL, reduceIte, x0, box1, g3, cutL3_2] | refine OrW.go ?_
    refine W_loop (fun N qs => ∃ (i : Nat) (N0 : AMem) (w : Value), N = es.length - i ∧ qs.ds = [] ∧ qs.m = mx N0 [] ∧ qs.t 0 = .string ⟨p.toArray⟩ ∧ qs.t 2 = .pointer (some ⟨bl, 0, none⟩) ∧ qs.t 3 = .pointer (some ⟨bf, 0, none⟩) ∧ qs.t 13 = .slice a es.length cap ∧ qs.t 14 = .int .i64 es.length ∧ qs.t 15 = .int .i64 i ∧ i ≤ es.length ∧ M.size < N0.size ∧ (∀ y, y < M.size → y ≠ bl → (∀ o l k, v ≠ .slice (some ⟨y, o, none⟩) l k) → N0.get y = M.get y) ∧ N0.get M.size = .cells [.int .u8 k, .string ⟨d.toArray⟩, .slice a es.length cap] 26 true .exact ∧ N0.get bl = .cells [w] 35 true .exact ∧ PBuf mB N0 w ((D ++ p :: onL (es.take i) p).map strC) ∧ ∀ y o l k, w = .slice (some ⟨y, o, none⟩) l k → M.size < y) (es.length - (0)) ⟨0, M2, .slice a9 n9 cap9, rfl, rfl, ?qm, ?q0, ?q2, ?q3, ?q13, ?q14, ?q15, ?_⟩ ?_
    case qm | q0 | q2 | q3 | q13 | q14 | q15 => first | rfl | (simp -implicitDefEqProofs (disch := first | omega | with_reducible assumption | (simp only [qU, qC]; omega)) only [qT, qA, reduceCtorEq, qB, qC, qD, qE, qF, qG, qH, qI, qJ, qK, qL, reduceIte]; first | done | rfl | (congr 1; omega))
    · exact ⟨Nat.zero_le _, g3, x2, x0, x1, by simpa [onL] using x3, fun y o l k e => by have := hfr1 y o l k e; omega⟩
    · rintro N t m1 ds ⟨i, N0, w, rfl, hds, hm, t0, t2, t3, t13, t14, t15, hp⟩
      simp only at hds hm t0 t2 t3 t13 t14 t15
      subst hds; replace hm := hm.symm; subst hm
      obtain ⟨hi0, hz, hsame, hbox, hlw, hBw, hfw⟩ := hp
      have hfN : N0.get bf = M.get bf := hsame bf (by omega) hne (fun o l k e => by have := (hvn _ o l k e).1; omega)
      rw [hf] at hfN
      have hO : Old m0 N0 := ⟨by omega, fun y hy => (hsame y (by omega) (by omega) (fun o l k e => by have := (hvn _ o l k e).1; omega)).trans (ho.2 y hy)⟩
      by_cases h1 : (i : Int) < (es.length : Int)
      · have hi : i < es.length := by omega
        obtain ⟨b, o, a', cap', rfl, hbb, hE', q4, q3, q0⟩ := hE.get hi
        have hwt := weight_get hi
        have hcs := countL_succ hi
        have hcl := countL_le es (i + 1)
        have hol := onL_len (es.take i) p
        have htl := trimR_le (p ++ [47] ++ es[i].n) [47]
        rw [List.length_append, List.length_append, List.length_singleton] at htl
        have kT := fun M => DetC.known (trim_ok M (p ++ [47] ++ es[i].n) [47])
        have kI := ih i hi (trimR (p ++ [47] ++ es[i].n) [47]) m0 mB (mx N0 [.cells [.string ⟨es[i].n.toArray⟩, .int .u8 es[i].t.k, .string ⟨es[i].t.d.toArray⟩, .slice a' es[i].t.es.length cap'] 48 true .exact]) bl bf w (D ++ p :: onL (es.take i) p) _ (TrC.of hE')
          (hO.trans (Old.here N0 _)) h0 hbl hbf hne hmB (by rw [mx_size]; omega) ((mx_old (by omega)).trans hlw) ((mx_old (by omega)).trans hfN) (hBw.old (Old.here N0 _)) (by omega) (by rw [List.length_append, List.length_cons, hol]; omega)
        rw [mx_mx, List.append_nil] at kI
        rw [← hO.2 b hbb] at q4
        have g4 : bf < N0.size := by omega
        repeat first | simp -implicitDefEqProofs (disch := first | omega | with_reducible assumption | (simp only [qU, qC]; omega)) only [qT, qA, reduceCtorEq, qB, qC, qD, qE, qF, qG, qH, qI, qJ, qK, qL, reduceIte, F56_l0, t0, t2, t3, t13, t14, t15, h1, q4, cellsOf_entry, splice4', cutL4_0, cutL4_t, hfN, g4, kT] | refine OrW.go ?_
        refine (ACall.norm kI).mono ?_
        rintro r' m' ⟨N1, rfl, rfl, hs, hold, w', hw1, hw2, hw3⟩
        rw [mx_size] at hs hold hw3
        simp only [List.length_cons, List.length_nil] at hs hold hw3
        repeat first | simp -implicitDefEqProofs (disch := first | omega | with_reducible assumption | (simp only [qU, qC]; omega)) only [qT, qA, reduceCtorEq, qB, qC, qD, qE, qF, qG, qH, qI, qJ, qK, qL, reduceIte, t0, t2, t3, t13, t14, t15] | refine OrW.go ?_
        rw [LoopK_normal]; refine ⟨_, ?_, i + 1, N1, w', rfl, rfl, ?qm, ?q0, ?q2, ?q3, ?q13, ?q14, ?q15, ?_⟩
        case qm | q0 | q2 | q3 | q13 | q14 | q15 => first | rfl | (simp -implicitDefEqProofs (disch := first | omega | with_reducible assumption | (simp only [qU, qC]; omega)) only [qT, qA, reduceCtorEq, qB, qC, qD, qE, qF, qG, qH, qI, qJ, qK, qL, reduceIte, t0, t2, t3, t13, t14, t15, Int.natCast_add]; first | done | rfl | (congr 1; omega))
        · omega
        · refine ⟨by omega, by omega, fun y hy hyb hv => ?_, ?_, hw1, ?_, fun y o l k e => by have := hw3 y o l k e; omega⟩
          · rw [hold y (by omega) hyb (fun o l k e => by have := hfw y o l k e; omega), mx_old (by omega)]
            exact hsame y hy hyb hv
          · rw [hold M.size (by omega) (by omega) (fun o l k e => by have := hfw _ o l k e; omega), mx_old hz]
            exact hbox
          · rw [onL_succ hi]
            simpa [List.append_assoc] using hw2
      · obtain rfl : i = es.length := by omega
        rw [List.take_length] at hBw
        repeat first | simp -implicitDefEqProofs (disch := first | omega | with_reducible assumption | (simp only [qU, qC]; omega)) only [qT, qA, reduceCtorEq, qB, qC, qD, qE, qF, qG, qH, qI, qJ, qK, qL, reduceIte, F56_l0, t0, t2, t3, t13, t14, t15, h1] | refine OrW.go ?_
        refine ⟨?_, ?_, w, ?_, ?_, ?_⟩
        · rw [mx_nil_size]; omega
        · intro y hy hyb hv
          rw [mx_old (by omega)]; exact hsame y hy hyb hv
        · rw [mx_old (by omega)]; exact hlw
        · rw [onT_nd]; exact hBw.old (Old.here N0 [])
        · intro y o l k e
          have := hfw y o l k e
          omega
theorem cellsOf_fn (f : Fn) (a b : Array Value) : cellsOf (.func f a b) = some [.func f a b] := rfl
def pathsR (t : Tr) : List (List UInt8) := if rightT t then pathsT t else []
theorem refPaths_ok (m : AMem) (t : Tr) (c : List Value) (hc : TrC m t c) (hn : t.weight ≤ 1000000) : RelC Tryd.prog 3 25 [.agg c.toArray] m fun v M => Old m M ∧ ∃ a cap, v = .slice a (pathsR t).length cap ∧ StrS M a cap (pathsR t) := by
  have hc0 := hc
  obtain ⟨a, cap, rfl, hE⟩ := hc.ex
  have kR := DetC.known (refRight_ok (mx m [.cells [.int .u8 t.k, .string ⟨t.d.toArray⟩, .slice a t.es.length cap] 26 true .exact]) t _ (hc0.old (Old.here m _)) hn)
  have kP := paths50_ok t (mx m [.cells [.int .u8 t.k, .string ⟨t.d.toArray⟩, .slice a t.es.length cap] 26 true .exact]) _ (hc0.old (Old.here m _)) hn
  refine rel_of_W (fn := Tryd.f25) rfl rfl F25_ok (by simp [F25]) ?_
  cases hr : rightT t with
  | false =>
    rw [hr] at kR
    have hp : pathsR t = [] := by rw [pathsR, hr]; rfl
    rw [hp]
    repeat first | simp -implicitDefEqProofs (disch := first | omega | with_reducible assumption | (simp only [qU, qC]; omega)) only [qT, qA, reduceCtorEq, qB, qC, qD, qE, qF, qG, qH, qI, qJ, qK, qL, reduceIte, F25, cellsOf_node, cutL3, kR] | refine OrW.go ?_
    exact ⟨_, rfl, fun _ => ⟨none, 0, rfl, StrS.nil _⟩⟩
  | true =>
    rw [hr] at kR
    have hp : pathsR t = pathsT t := by rw [pathsR, hr]; rfl
    rw [hp]
    repeat first | simp -implicitDefEqProofs (disch := first | omega | with_reducible assumption | (simp only [qU, qC]; omega)) only [qT, qA, reduceCtorEq, qB, qC, qD, qE, qF, qG, qH, qI, qJ, qK, qL, reduceIte, F25, cellsOf_node, cutL3, kR] | refine OrW.go ?_
    refine RelC.call kP ?_
    rintro v M ⟨hO, a2, cap2, rfl, hS, _⟩
    repeat first | simp -implicitDefEqProofs (disch := first | omega | with_reducible assumption | (simp only [qU, qC]; omega)) only [qT, qA, reduceCtorEq, qB, qC, qD, qE, qF, qG, qH, qI, qJ, qK, qL, reduceIte] | refine OrW.go ?_
    exact ⟨_, rfl, fun _ => ⟨((Old.here m _).trans hO).mx _, _, _, rfl, hS.old (Old.here M [])⟩⟩
theorem filPaths_ok (m : AMem) (t : Tr) (c : List Value) (hc : TrC m t c) (hn : t.weight ≤ 1000000) : RelC Tryd.prog 3 30 [.agg c.toArray] m fun v M => Old m M ∧ ∃ a cap, v = .slice a (pathsR t).length cap ∧ StrS M a cap (pathsR t) := by
  have hc0 := hc
  have hcw := t.count_le
  obtain ⟨a, cap, rfl, hE⟩ := hc.ex
  have kR := DetC.known (right_ok (mx m [.cells [.int .u8 t.k, .string ⟨t.d.toArray⟩, .slice a t.es.length cap] 26 true .exact]) t _ (hc0.old (Old.here m _)) (by omega))
  refine rel_of_W (fn := Tryd.f30) rfl rfl F30_ok (by simp [F30]) ?_
  cases hr : rightT t with
  | false =>
    rw [hr] at kR
    have hp : pathsR t = [] := by rw [pathsR, hr]; rfl
    rw [hp]
    repeat first | simp -implicitDefEqProofs (disch := first | omega | with_reducible assumption | (simp only [qU, qC]; omega)) only [qT, qA, reduceCtorEq, qB, qC, qD, qE, qF, qG, qH, qI, qJ, qK, qL, reduceIte, F30, cellsOf_node, cutL3, kR] | refine OrW.go ?_
    exact ⟨_, rfl, fun _ => ⟨none, 0, rfl, StrS.nil _⟩⟩
  | true =>
    rw [hr] at kR
    have hp : pathsR t = pathsT t := by rw [pathsR, hr]; rfl
    rw [hp, ← onT_paths (rightT_may hr)]
    repeat first | simp -implicitDefEqProofs (disch := first | omega | with_reducible assumption | (simp only [qU, qC]; omega)) only [qT, qA, reduceCtorEq, qB, qC, qD, qE, qF, qG, qH, qI, qJ, qK, qL, reduceIte, F30, cellsOf_node, cellsOf_fn, cutL3, kR] | refine OrW.go ?_
    have kO := on_ok t [] m (mx m [.cells [.int .u8 t.k, .string ⟨t.d.toArray⟩, .slice a t.es.length cap] 26 true .exact, .cells [.slice none 0 0] 35 true .exact, .cells [.func (.func 56) #[] #[.pointer (some ⟨m.size + 1, 0, none⟩), .pointer (some ⟨m.size + 2, 0, none⟩)]] 69 true .exact])
      (mx m [.cells [.int .u8 t.k, .string ⟨t.d.toArray⟩, .slice a t.es.length cap] 26 true .exact, .cells [.slice none 0 0] 35 true .exact, .cells [.func (.func 56) #[] #[.pointer (some ⟨m.size + 1, 0, none⟩), .pointer (some ⟨m.size + 2, 0, none⟩)]] 69 true .exact])
      (m.size + 1) (m.size + 2) (.slice none 0 0) [] _ hc0 (Old.here m _) (by omega) (by rw [mx_size]; simp) (by rw [mx_size]; simp) (by omega) (by rw [mx_size]; omega) (Nat.le_refl _) (mx_new m _ 1) (mx_new m _ 2) (.inl (.inl ⟨rfl, rfl⟩)) (by simp only [List.length_nil]; omega) (by simp only [List.length_nil]; omega)
    rw [mx_mx, List.append_nil] at kO
    refine (ACall.norm kO).mono ?_
    rintro r' m' ⟨M, rfl, rfl, hs, hold, v', h1, h2, h3⟩
    rw [mx_size] at hs hold
    simp only [List.length_cons, List.length_nil] at hs hold
    obtain ⟨a2, cap2, rfl, hS, _⟩ := PBuf.strs h2
    rw [List.nil_append] at hS
    have hO : Old m M := ⟨by omega, fun y hy => (hold y (by omega) (by omega) (fun o l k e => by cases e)).trans (mx_old hy)⟩
    repeat first | simp -implicitDefEqProofs (disch := first | omega | with_reducible assumption | (simp only [qU, qC]; omega)) only [qT, qA, reduceCtorEq, qB, qC, qD, qE, qF, qG, qH, qI, qJ, qK, qL, reduceIte, h1] | refine OrW.go ?_
    exact ⟨_, rfl, fun _ => ⟨hO.mx _, _, _, rfl, hS.old (Old.here M [])⟩⟩
end Go.Proofs.YtfjgpeoblnpelaaDoor
namespace Go.Proofs.YtfjgpeoblnpelaaDoor
open Go Go.AM
set_option linter.unusedVariables false
set_option linter.unusedSimpArgs false
set_option maxRecDepth 100000
set_option maxHeartbeats 2000000

theorem fill_n01 (a b c : Value) (k : Int) : fill [a, b, c] [(0, 1, .int .u8 k)] = some [.int .u8 k, b, c] := rfl
theorem fill_n011 (a b c : Value) (k : Int) (s : ByteArray) : fill [a, b, c] [(0, 1, .int .u8 k), (1, 1, .string s)] = some [.int .u8 k, .string s, c] := rfl
theorem fill_n021 (a b c : Value) (k : Int) (p : Option Addr) (n cap : Nat) : fill [a, b, c] [(0, 1, .int .u8 k), (2, 1, .slice p n cap)] = some [.int .u8 k, b, .slice p n cap] := rfl
theorem file_ok (m : AMem) (l : List UInt8) : PureC Tryd.prog 3 35 [.string ⟨l.toArray⟩] m (.agg [.int .u8 1, .string ⟨l.toArray⟩, .slice none 0 0].toArray) := by
  refine pure_of_W (fn := Tryd.f35) rfl rfl F35_ok (by simp [F35]) (.agg fun v hv => ?_) ?_
  · simp only [List.mem_toArray, List.mem_cons, List.not_mem_nil, or_false] at hv
    rcases hv with rfl | rfl | rfl
    · exact .int _ _
    · exact .string _
    · exact .nilSlice _ _
  · repeat first | simp -implicitDefEqProofs (disch := first | omega | with_reducible assumption | (simp only [qU, qC]; omega)) only [qT, qA, reduceCtorEq, qB, qC, qD, qE, qF, qG, qH, qI, qJ, qK, qL, reduceIte, F35, fill_n01, fill_n011, cellsOf_node, splice3, cutL3] | refine OrW.go ?_
theorem SlE.lit {m : AMem} {b : Nat} {es : List En} {X : List Value} {e : TypeId} {w : Bool} {sp : Spare} (hb : b < m.size) (h : m.get b = .cells X e w sp) (hX : EsC m es X) (hn : es.length ≤ 1000000) : SlE m (some ⟨b, 0, none⟩) es.length es :=
  ⟨X, .inr ⟨b, 0, _, _, _, _, rfl, hb, h, by rw [← hX.len]; exact cutL_all rfl, .inr ⟨SlE.len_lt (by omega), Nat.le_refl _⟩⟩, hX⟩
theorem StrS.lit {m : AMem} {b : Nat} {ls : List (List UInt8)} {e : TypeId} {w : Bool} {sp : Spare} (hb : b < m.size) (h : m.get b = .cells (ls.map strC) e w sp) (hn : ls.length ≤ 1000000) : StrS m (some ⟨b, 0, none⟩) ls.length ls :=
  .inr ⟨b, 0, _, _, _, _, rfl, hb, h, by rw [Nat.mul_one, ← List.length_map (f := strC)]; exact cutL_all rfl, .inr ⟨SlE.len_lt (by omega), Nat.le_refl _⟩⟩
theorem TrC.leaf (m : AMem) (k : Int) (d : List UInt8) : TrC m (.nd k d []) [.int .u8 k, .string ⟨d.toArray⟩, .slice none 0 0] := trC_mk (SlE.nil m)
def nX : Tr := .nd 3 [46, 46, 47, 97] []
def nD : Tr := .nd 4 [] [.mk [120] nX]
def nW : Tr := .nd 4 [] [.mk [97] (.nd 1 [104, 105] []), .mk [100] nD]
def nP : Tr := .nd 4 [] [.mk [97] (.nd 1 [104, 105] []), .mk [100] (.nd 4 [] [.mk [120] nX, .mk [121] (.nd 1 [] [])])]
theorem w_at1 : atR nW [100, 47, 120] = (0, nX) := by kernel_rfl
theorem w_at2 : atR nW [100, 47, 121] = (5, zT) := by kernel_rfl
theorem w_at3 : atR nW [47, 100] = (2, zT) := by kernel_rfl
theorem w_put : putR nW [100, 47, 121] (.nd 1 [] []) = (0, nP) := by kernel_rfl
theorem w_right : rightT nW = true := by kernel_rfl
theorem w_paths : pathsR nW = [[], [97], [100], [100, 47, 120]] := by kernel_rfl
theorem w_paths2 : pathsR nP = [[], [97], [100], [100, 47, 120], [100, 47, 121]] := by kernel_rfl
theorem w_count : nW.count = 4 := by kernel_rfl
theorem w_depth : nW.depth = 2 := by kernel_rfl
theorem w_size : nW.size = 6 := by kernel_rfl
theorem w_name : nameB [97] = true := by kernel_rfl
theorem fill_8 (z0 z1 z2 z3 z4 z5 z6 z7 : Value) (s0 : ByteArray) (k : Int) (s : ByteArray) (p : Option Addr) (n cap : Nat) (s0' : ByteArray) (k' : Int) (s' : ByteArray) (p' : Option Addr) (n' cap' : Nat) :
    fill [z0, z1, z2, z3, z4, z5, z6, z7] [(0, 4, .agg [.string s0, .int .u8 k, .string s, .slice p n cap].toArray), (4, 4, .agg [.string s0', .int .u8 k', .string s', .slice p' n' cap'].toArray)] =
      some [.string s0, .int .u8 k, .string s, .slice p n cap, .string s0', .int .u8 k', .string s', .slice p' n' cap'] := rfl
theorem works_ok (m : AMem) : PureC Tryd.prog 3 12 [] m (.bool true) := by
  have kF := fun M l => DetC.known (file_ok M l)
  have kF0 := fun M => kF M []
  have kF1 := fun M => kF M [104, 105]
  refine pure_of_W (fn := Tryd.f12) rfl rfl F12_ok (by simp [F12]) (.bool _) ?_
  repeat first | simp -implicitDefEqProofs (disch := first | omega | with_reducible assumption | (simp only [qU, qC]; omega)) only [qT, qA, reduceCtorEq, qB, qC, qD, qE, qF, qG, qH, qI, qJ, qK, qL, reduceIte, F12, fill_n01, fill_n011, fill_n021, fill_e13, fill_e04, fill_8, cellsOf_node, splice3, cutL3, kF1] | refine OrW.go ?_
  have hD : TrC (mx m [.cells [.string ⟨#[120]⟩, .int .u8 3, .string ⟨#[46, 46, 47, 97]⟩, .slice none 0 0] 48 true .exact, .cells [.int .u8 4, .string ⟨#[]⟩, .slice (some ⟨m.size, 0, none⟩) 1 1] 26 true .exact, .cells [.string ⟨#[97]⟩, .int .u8 1, .string ⟨#[104, 105]⟩, .slice none 0 0, .string ⟨#[100]⟩, .int .u8 4, .string ⟨#[]⟩, .slice (some ⟨m.size, 0, none⟩) 1 1] 48 true .exact,
      .cells [.int .u8 4, .string ⟨#[]⟩, .slice (some ⟨m.size + 2, 0, none⟩) 2 2] 26 true .exact]) nD [.int .u8 4, .string ⟨#[]⟩, .slice (some ⟨m.size, 0, none⟩) 1 1] :=
    trC_mk (k := 4) (d := []) (SlE.lit (b := m.size) (es := [.mk [120] nX]) (by rw [mx_size]; simp) (mx_new0 m _) (EsC.cons (c := [.string ⟨#[120]⟩, .int .u8 3, .string ⟨#[46, 46, 47, 97]⟩, .slice none 0 0]) (EnC.of (e := .mk [120] nX) (TrC.leaf _ _ _)) (EsC.nil _)) (by simp))
  have hT : TrC (mx m [.cells [.string ⟨#[120]⟩, .int .u8 3, .string ⟨#[46, 46, 47, 97]⟩, .slice none 0 0] 48 true .exact, .cells [.int .u8 4, .string ⟨#[]⟩, .slice (some ⟨m.size, 0, none⟩) 1 1] 26 true .exact, .cells [.string ⟨#[97]⟩, .int .u8 1, .string ⟨#[104, 105]⟩, .slice none 0 0, .string ⟨#[100]⟩, .int .u8 4, .string ⟨#[]⟩, .slice (some ⟨m.size, 0, none⟩) 1 1] 48 true .exact,
      .cells [.int .u8 4, .string ⟨#[]⟩, .slice (some ⟨m.size + 2, 0, none⟩) 2 2] 26 true .exact]) nW [.int .u8 4, .string ⟨#[]⟩, .slice (some ⟨m.size + 2, 0, none⟩) 2 2] :=
    trC_mk (k := 4) (d := []) (SlE.lit (b := m.size + 2) (es := [.mk [97] (.nd 1 [104, 105] []), .mk [100] nD]) (by rw [mx_size]; simp) (mx_new m _ 2)
      (EsC.cons (c := [.string ⟨#[97]⟩, .int .u8 1, .string ⟨#[104, 105]⟩, .slice none 0 0]) (EnC.of (e := .mk [97] (.nd 1 [104, 105] [])) (TrC.leaf _ _ _)) (EsC.cons (c := [.string ⟨#[100]⟩, .int .u8 4, .string ⟨#[]⟩, .slice (some ⟨m.size, 0, none⟩) 1 1]) (EnC.of (e := .mk [100] nD) hD) (EsC.nil _))) (by simp))
  have b3 := mx_new m [.cells [.string ⟨#[120]⟩, .int .u8 3, .string ⟨#[46, 46, 47, 97]⟩, .slice none 0 0] 48 true .exact, .cells [.int .u8 4, .string ⟨#[]⟩, .slice (some ⟨m.size, 0, none⟩) 1 1] 26 true .exact, .cells [.string ⟨#[97]⟩, .int .u8 1, .string ⟨#[104, 105]⟩, .slice none 0 0, .string ⟨#[100]⟩, .int .u8 4, .string ⟨#[]⟩, .slice (some ⟨m.size, 0, none⟩) 1 1] 48 true .exact,
      .cells [.int .u8 4, .string ⟨#[]⟩, .slice (some ⟨m.size + 2, 0, none⟩) 2 2] 26 true .exact] 3
  have hO0 := Old.here m [.cells [.string ⟨#[120]⟩, .int .u8 3, .string ⟨#[46, 46, 47, 97]⟩, .slice none 0 0] 48 true .exact, .cells [.int .u8 4, .string ⟨#[]⟩, .slice (some ⟨m.size, 0, none⟩) 1 1] 26 true .exact, .cells [.string ⟨#[97]⟩, .int .u8 1, .string ⟨#[104, 105]⟩, .slice none 0 0, .string ⟨#[100]⟩, .int .u8 4, .string ⟨#[]⟩, .slice (some ⟨m.size, 0, none⟩) 1 1] 48 true .exact,
      .cells [.int .u8 4, .string ⟨#[]⟩, .slice (some ⟨m.size + 2, 0, none⟩) 2 2] 26 true .exact]
  have hz0 : m.size + 3 < (mx m [.cells [.string ⟨#[120]⟩, .int .u8 3, .string ⟨#[46, 46, 47, 97]⟩, .slice none 0 0] 48 true .exact, .cells [.int .u8 4, .string ⟨#[]⟩, .slice (some ⟨m.size, 0, none⟩) 1 1] 26 true .exact, .cells [.string ⟨#[97]⟩, .int .u8 1, .string ⟨#[104, 105]⟩, .slice none 0 0, .string ⟨#[100]⟩, .int .u8 4, .string ⟨#[]⟩, .slice (some ⟨m.size, 0, none⟩) 1 1] 48 true .exact,
      .cells [.int .u8 4, .string ⟨#[]⟩, .slice (some ⟨m.size + 2, 0, none⟩) 2 2] 26 true .exact]).size := by rw [mx_size]; simp
  simp only [List.getD_cons_succ, List.getD_cons_zero] at b3
  have hcn : nW.count ≤ 200000 := by decide +kernel
  generalize mx m [.cells [.string ⟨#[120]⟩, .int .u8 3, .string ⟨#[46, 46, 47, 97]⟩, .slice none 0 0] 48 true .exact, .cells [.int .u8 4, .string ⟨#[]⟩, .slice (some ⟨m.size, 0, none⟩) 1 1] 26 true .exact, .cells [.string ⟨#[97]⟩, .int .u8 1, .string ⟨#[104, 105]⟩, .slice none 0 0, .string ⟨#[100]⟩, .int .u8 4, .string ⟨#[]⟩, .slice (some ⟨m.size, 0, none⟩) 1 1] 48 true .exact,
      .cells [.int .u8 4, .string ⟨#[]⟩, .slice (some ⟨m.size + 2, 0, none⟩) 2 2] 26 true .exact] = M0 at *
  -- the first node
  refine RelC.call (at_ok M0 M0 nW _ [100, 47, 120] hT (.refl _) (by omega) (by simp)) ?_
  rintro v M1 ⟨hO1, c1, rfl, hc1⟩
  rw [w_at1] at hc1 ⊢
  obtain ⟨a1, cap1, rfl, _⟩ := hc1.ex
  have hz1 : m.size + 3 < M1.size := Nat.lt_of_lt_of_le hz0 hO1.1
  have b31 := (hO1.2 _ hz0).trans b3
  repeat first | simp -implicitDefEqProofs (disch := first | omega | with_reducible assumption | (simp only [qU, qC]; omega)) only [qT, qA, reduceCtorEq, qB, qC, qD, qE, qF, qG, qH, qI, qJ, qK, qL, reduceIte, cellsOf_node, splice3, cutL3, b31, hz1] | refine OrW.go ?_
  refine RelC.call (at_ok M0 _ nW _ [100, 47, 121] hT (hO1.trans (Old.here M1 _)) (by omega) (by simp)) ?_
  rintro v M2 ⟨hO2, c2, rfl, hc2⟩
  rw [w_at2] at hc2 ⊢
  obtain ⟨a2, cap2, rfl, _⟩ := hc2.ex
  have hO12 := (Old.here M1 _).trans hO2
  have hz2 : m.size + 3 < M2.size := Nat.lt_of_lt_of_le hz1 hO12.1
  have b32 := (hO12.2 _ hz1).trans b31
  have hzx : M1.size < M2.size := by have := hO2.1; rw [mx_size] at this; simp at this; omega
  have bx2 := (hO2.2 M1.size (by rw [mx_size]; simp)).trans (mx_new0 M1 _)
  repeat first | simp -implicitDefEqProofs (disch := first | omega | with_reducible assumption | (simp only [qU, qC]; omega)) only [qT, qA, reduceCtorEq, qB, qC, qD, qE, qF, qG, qH, qI, qJ, qK, qL, reduceIte, cellsOf_node, splice3, cutL3, b32, hz2] | refine OrW.go ?_
  refine RelC.call (at_ok M0 _ nW _ [47, 100] hT ((hO1.trans hO12).trans (Old.here M2 _)) (by omega) (by simp)) ?_
  rintro v M3 ⟨hO3, c3, rfl, hc3⟩
  rw [w_at3] at hc3 ⊢
  obtain ⟨a3, cap3, rfl, _⟩ := hc3.ex
  have hO23 := (Old.here M2 _).trans hO3
  have hz3 : m.size + 3 < M3.size := Nat.lt_of_lt_of_le hz2 hO23.1
  have b33 := (hO23.2 _ hz2).trans b32
  have hzx3 : M1.size < M3.size := Nat.lt_of_lt_of_le hzx hO23.1
  have bx3 := (hO23.2 _ hzx).trans bx2
  repeat first | simp -implicitDefEqProofs (disch := first | omega | with_reducible assumption | (simp only [qU, qC]; omega)) only [qT, qA, reduceCtorEq, qB, qC, qD, qE, qF, qG, qH, qI, qJ, qK, qL, reduceIte, cellsOf_node, splice3, cutL3, b33, hz3, kF0] | refine OrW.go ?_
  refine RelC.call (Put_ok M0 _ nW (.nd 1 [] []) _ _ [100, 47, 121] hT (TrC.leaf _ 1 []) (((hO1.trans hO12).trans hO23).trans (Old.here M3 _)) hcn (by decide +kernel) (by simp)) ?_
  rintro v M4 ⟨hO4, c4, rfl, hc4⟩
  rw [w_put] at hc4 ⊢
  obtain ⟨a4, cap4, rfl, hE4⟩ := (hc4 M4 (Gap.of ⟨Nat.le_refl _, fun _ _ => rfl⟩)).ex
  have hO34 := (Old.here M3 _).trans hO4
  have hs4 := hO4.1
  rw [mx_size] at hs4
  simp only [List.length_cons, List.length_nil] at hs4
  have hz4 : m.size + 3 < M4.size := Nat.lt_of_lt_of_le hz3 hO34.1
  have b34 := (hO34.2 _ hz3).trans b33
  have hzx4 : M1.size < M4.size := Nat.lt_of_lt_of_le hzx3 hO34.1
  have bx4 := (hO34.2 _ hzx3).trans bx3
  have b9 := (hO4.2 (M3.size + 1) (by rw [mx_size]; simp)).trans (mx_new M3 _ 1)
  simp only [List.getD_cons_succ, List.getD_cons_zero] at b9
  have hz9 : M3.size + 1 < M4.size := by omega
  have hO5 : Old M0 (M4.set (M3.size + 1) (.cells [.int .u8 nP.k, .string ⟨nP.d.toArray⟩, .slice a4 nP.es.length cap4] 26 true .exact)) := by
    refine ((hO1.trans hO12).trans hO23).trans ⟨hO34.1, fun y hy => ?_⟩
    rw [AMem.get_set_ne _ _ (by omega)]
    exact hO34.2 y hy
  have hT5 := hT.old hO5
  have hP5 : TrC (M4.set (M3.size + 1) (.cells [.int .u8 nP.k, .string ⟨nP.d.toArray⟩, .slice a4 nP.es.length cap4] 26 true .exact)) nP [.int .u8 nP.k, .string ⟨nP.d.toArray⟩, .slice a4 nP.es.length cap4] := by
    refine hc4 _ ⟨Nat.le_refl _, fun b hb hb2 => AMem.get_set_ne _ _ ?_⟩
    rw [mx_size] at hb2
    simp only [List.length_cons, List.length_nil] at hb2
    have := ((hO1.trans hO12).trans hO23).1
    omega
  have b35 := (AMem.get_set_ne M4 (.cells [.int .u8 nP.k, .string ⟨nP.d.toArray⟩, .slice a4 nP.es.length cap4] 26 true .exact) (show m.size + 3 ≠ M3.size + 1 by omega)).trans b34
  have bx5 := (AMem.get_set_ne M4 (.cells [.int .u8 nP.k, .string ⟨nP.d.toArray⟩, .slice a4 nP.es.length cap4] 26 true .exact) (show M1.size ≠ M3.size + 1 by omega)).trans bx4
  have b95 := AMem.get_set_self M4 (M3.size + 1) (.cells [.int .u8 nP.k, .string ⟨nP.d.toArray⟩, .slice a4 nP.es.length cap4] 26 true .exact)
  have s5 := AMem.size_set M4 (M3.size + 1) (.cells [.int .u8 nP.k, .string ⟨nP.d.toArray⟩, .slice a4 nP.es.length cap4] 26 true .exact)
  have hm5 := hO0.trans hO5
  repeat first | simp -implicitDefEqProofs (disch := first | omega | with_reducible assumption | (simp only [qU, qC]; omega)) only [qT, qA, reduceCtorEq, qB, qC, qD, qE, qF, qG, qH, qI, qJ, qK, qL, reduceIte, cellsOf_node, splice3, b9, hz9, BarA_sl] | refine OrW.go ?_
  generalize M4.set (M3.size + 1) (.cells [.int .u8 nP.k, .string ⟨nP.d.toArray⟩, .slice a4 nP.es.length cap4] 26 true .exact) = M5 at *
  have z5 : m.size + 3 < M5.size := by omega
  have kC := DetC.known (count_ok _ nW _ (hT5.old (Old.here M5 [])) (by decide +kernel))
  have kD := DetC.known (depth_ok _ nW _ (hT5.old (Old.here M5 [])) (by decide +kernel))
  have kZ := DetC.known (size_ok _ nW _ (hT5.old (Old.here M5 [])) (by decide +kernel))
  rw [w_count] at kC
  rw [w_depth] at kD
  rw [w_size] at kZ
  repeat first | simp -implicitDefEqProofs (disch := first | omega | with_reducible assumption | (simp only [qU, qC]; omega)) only [qT, qA, reduceCtorEq, qB, qC, qD, qE, qF, qG, qH, qI, qJ, qK, qL, reduceIte, b34, b35, z5, cutL3, kC, kD, kZ] | refine OrW.go ?_
  refine RelC.call (filPaths_ok _ nW _ (hT5.old (Old.here M5 [])) (by decide +kernel)) ?_
  rintro v M6 ⟨hO6, a6, cap6, rfl, hS6⟩
  rw [w_paths] at hS6 ⊢
  have hO56 := (Old.here M5 _).trans hO6
  have z6 := Nat.lt_of_lt_of_le z5 hO56.1
  have b36 := (hO56.2 _ z5).trans b35
  have bx6 := (hO56.2 M1.size (by omega)).trans bx5
  have b96 := (hO56.2 (M3.size + 1) (by omega)).trans b95
  have zx6 : M1.size < M6.size := by have := hO56.1; omega
  have z96 : M3.size + 1 < M6.size := by have := hO56.1; omega
  have kS := DetC.known (sameTexts_ok (mx M6 [.cells [.string ⟨#[]⟩, .string ⟨#[97]⟩, .string ⟨#[100]⟩, .string ⟨#[100, 47, 120]⟩] 9 true .exact]) a6 (some ⟨M6.size, 0, none⟩) cap6 4 [[], [97], [100], [100, 47, 120]] [[], [97], [100], [100, 47, 120]]
    (hS6.old (Old.here M6 _)) (StrS.lit (ls := [[], [97], [100], [100, 47, 120]]) (by rw [mx_size]; simp) (mx_new0 M6 _) (by simp)) (by simp))
  rw [decide_eq_true rfl] at kS
  simp only [List.length_cons, List.length_nil, Nat.zero_add, qC] at kS
  have ek : nX.k = 3 := rfl
  have hP6 := hP5.old (hO56.trans (Old.here M6 [.cells [.string ⟨#[]⟩, .string ⟨#[97]⟩, .string ⟨#[100]⟩, .string ⟨#[100, 47, 120]⟩] 9 true .exact]))
  have hT6 := hT5.old (hO56.trans (Old.here M6 [.cells [.string ⟨#[]⟩, .string ⟨#[97]⟩, .string ⟨#[100]⟩, .string ⟨#[100, 47, 120]⟩] 9 true .exact]))
  repeat first | simp -implicitDefEqProofs (disch := first | omega | with_reducible assumption | (simp only [qU, qC]; omega)) only [qT, qA, reduceCtorEq, qB, qC, qD, qE, qF, qG, qH, qI, qJ, qK, qL, reduceIte, kS, bx6, b96, zx6, z96, cutL3, cutL3_0, ek] | refine OrW.go ?_
  refine RelC.call (filPaths_ok _ nP _ hP6 (by decide +kernel)) ?_
  rintro v M7 ⟨hO7, a7, cap7, rfl, hS7⟩
  rw [w_paths2] at hS7 ⊢
  have hO67 := (Old.here M6 _).trans hO7
  have z7 := Nat.lt_of_lt_of_le z6 hO67.1
  have b37 := (hO67.2 _ z6).trans b36
  have kS2 := DetC.known (sameTexts_ok (mx M7 [.cells [.string ⟨#[]⟩, .string ⟨#[97]⟩, .string ⟨#[100]⟩, .string ⟨#[100, 47, 120]⟩, .string ⟨#[100, 47, 121]⟩] 9 true .exact]) a7 (some ⟨M7.size, 0, none⟩) cap7 5 [[], [97], [100], [100, 47, 120], [100, 47, 121]] [[], [97], [100], [100, 47, 120], [100, 47, 121]]
    (hS7.old (Old.here M7 _)) (StrS.lit (ls := [[], [97], [100], [100, 47, 120], [100, 47, 121]]) (by rw [mx_size]; simp) (mx_new0 M7 _) (by simp)) (by simp))
  rw [decide_eq_true rfl] at kS2
  simp only [List.length_cons, List.length_nil, Nat.zero_add, qC] at kS2
  have kN := fun M => DetC.known (name_ok M [97])
  rw [w_name] at kN
  have kR := DetC.known (right_ok _ nW _ (hT6.old (hO7.trans (Old.here M7 [.cells [.string ⟨#[]⟩, .string ⟨#[97]⟩, .string ⟨#[100]⟩, .string ⟨#[100, 47, 120]⟩, .string ⟨#[100, 47, 121]⟩] 9 true .exact]))) (by decide +kernel))
  rw [w_right] at kR
  repeat first | simp -implicitDefEqProofs (disch := first | omega | with_reducible assumption | (simp only [qU, qC]; omega)) only [qT, qA, reduceCtorEq, qB, qC, qD, qE, qF, qG, qH, qI, qJ, qK, qL, reduceIte, kS2, kN, b37, z7, cutL3, kR] | refine OrW.go ?_
  exact ((hm5.trans hO56).trans hO67).trans (Old.here M7 _)
end Go.Proofs.YtfjgpeoblnpelaaDoor
namespace Go.Proofs.YtfjgpeoblnpelaaDoor
open Go Go.AM
set_option linter.unusedVariables false
set_option linter.unusedSimpArgs false
set_option maxRecDepth 100000
set_option maxHeartbeats 2000000

def barnD : Tr := .nd 4 [] [.mk [101] (.nd 4 [] []), .mk [114, 117, 110] (.nd 2 [103, 111] []), .mk [120] (.nd 3 [46, 46, 47, 97] [])]
def barnT : Tr := .nd 4 [] [.mk [97] (.nd 1 [104, 105] []), .mk [100] barnD, .mk [122] (.nd 1 [] [])]
theorem fill_12 (z0 z1 z2 z3 z4 z5 z6 z7 z8 z9 z10 z11 : Value) (s0 : ByteArray) (k : Int) (s : ByteArray) (p : Option Addr) (n cap : Nat) (s0' : ByteArray) (k' : Int) (s' : ByteArray) (p' : Option Addr) (n' cap' : Nat) (s0'' : ByteArray) (k'' : Int) (s'' : ByteArray) (p'' : Option Addr) (n'' cap'' : Nat) :
    fill [z0, z1, z2, z3, z4, z5, z6, z7, z8, z9, z10, z11] [(0, 4, .agg [.string s0, .int .u8 k, .string s, .slice p n cap].toArray), (4, 4, .agg [.string s0', .int .u8 k', .string s', .slice p' n' cap'].toArray), (8, 4, .agg [.string s0'', .int .u8 k'', .string s'', .slice p'' n'' cap''].toArray)] =
      some [.string s0, .int .u8 k, .string s, .slice p n cap, .string s0', .int .u8 k', .string s', .slice p' n' cap', .string s0'', .int .u8 k'', .string s'', .slice p'' n'' cap''] := rfl
theorem barn_ok (m : AMem) : RelC Tryd.prog 3 34 [] m fun v M => Old m M ∧ ∃ c, v = .agg c.toArray ∧ TrC M barnT c := by
  have kF := fun M l => DetC.known (file_ok M l)
  have kF0 := fun M => kF M []
  have kF1 := fun M => kF M [104, 105]
  refine rel_of_W (fn := Tryd.f34) rfl rfl F34_ok (by simp [F34]) ?_
  repeat first | simp -implicitDefEqProofs (disch := first | omega | with_reducible assumption | (simp only [qU, qC]; omega)) only [qT, qA, reduceCtorEq, qB, qC, qD, qE, qF, qG, qH, qI, qJ, qK, qL, reduceIte, F34, fill_n01, fill_n011, fill_n021, fill_e13, fill_e04, fill_8, fill_12, cellsOf_node, splice3, cutL3, kF0, kF1] | refine OrW.go ?_
  refine ⟨_, rfl, fun _ => ⟨_, rfl, ?_⟩⟩
  have leafE : ∀ (M : AMem) (s : List UInt8) (k : Int) (d : List UInt8), EnC M (.mk s (.nd k d [])) [.string ⟨s.toArray⟩, .int .u8 k, .string ⟨d.toArray⟩, .slice none 0 0] := fun M s k d => EnC.of (e := .mk s (.nd k d [])) (TrC.leaf M k d)
  refine trC_mk (k := 4) (d := []) (SlE.lit (b := m.size + 3) (es := [.mk [97] (.nd 1 [104, 105] []), .mk [100] barnD, .mk [122] (.nd 1 [] [])]) (by rw [mx_size]; simp) (mx_new m _ 3) ?_ (by simp))
  refine EsC.cons (c := [.string ⟨#[97]⟩, .int .u8 1, .string ⟨#[104, 105]⟩, .slice none 0 0]) (leafE _ _ _ _) (EsC.cons (c := [.string ⟨#[100]⟩, .int .u8 4, .string ⟨#[]⟩, .slice (some ⟨m.size + 1, 0, none⟩) 3 3]) (EnC.of (e := .mk [100] barnD) ?_) (EsC.cons (c := [.string ⟨#[122]⟩, .int .u8 1, .string ⟨#[]⟩, .slice none 0 0]) (leafE _ _ _ _) (EsC.nil _)))
  refine trC_mk (k := 4) (d := []) (SlE.lit (b := m.size + 1) (es := [.mk [101] (.nd 4 [] []), .mk [114, 117, 110] (.nd 2 [103, 111] []), .mk [120] (.nd 3 [46, 46, 47, 97] [])]) (by rw [mx_size]; simp) (mx_new m _ 1) ?_ (by simp))
  exact EsC.cons (c := [.string ⟨#[101]⟩, .int .u8 4, .string ⟨#[]⟩, .slice none 0 0]) (leafE _ _ _ _) (EsC.cons (c := [.string ⟨#[114, 117, 110]⟩, .int .u8 2, .string ⟨#[103, 111]⟩, .slice none 0 0]) (leafE _ _ _ _) (EsC.cons (c := [.string ⟨#[120]⟩, .int .u8 3, .string ⟨#[46, 46, 47, 97]⟩, .slice none 0 0]) (leafE _ _ _ _) (EsC.nil _)))
def chainT (x : Tr) : Nat → Tr
  | 0 => x
  | n + 1 => .nd 4 [] [.mk [99] (chainT x n)]
theorem chain_ok (m : AMem) (x : Tr) (c : List Value) (n : Nat) (hc : TrC m x c) (hn : n ≤ 1000) : RelC Tryd.prog 3 36 [.int .i64 n, .agg c.toArray] m fun v M => Old m M ∧ ∃ c', v = .agg c'.toArray ∧ TrC M (chainT x n) c' := by
  have hc0 := hc
  obtain ⟨a, cap, rfl, hE⟩ := hc.ex
  refine rel_of_W (fn := Tryd.f36) rfl rfl F36_ok (by simp [F36]) ?_
  repeat first | simp -implicitDefEqProofs (disch := first | omega | with_reducible assumption | (simp only [qU, qC]; omega)) only [qT, qA, reduceCtorEq, qB, qC, qD, qE, qF, qG, qH, qI, qJ, qK, qL, reduceIte, F36, cellsOf_node] | refine OrW.go ?_
  refine W_loop (fun N qs => ∃ (i : Nat) (N0 : AMem) (u : Tr) (a2 : Option Addr) (cap2 : Nat), N = n - i ∧ qs.ds = [] ∧ qs.m = mx N0 [] ∧ qs.t 0 = .int .i64 n ∧ qs.t 3 = .pointer (some ⟨m.size, 0, none⟩) ∧ qs.t 4 = .pointer (some ⟨m.size + 1, 0, none⟩) ∧ qs.t 5 = .int .i64 i ∧ i ≤ n ∧ u = chainT x i ∧ m.size + 2 ≤ N0.size ∧ Old m N0 ∧ N0.get m.size = .cells [.int .u8 u.k, .string ⟨u.d.toArray⟩, .slice a2 u.es.length cap2] 26 true .exact ∧ N0.get (m.size + 1) = .cells zN 26 true .exact ∧ ∀ M', N0.size ≤ M'.size → (∀ b, b < N0.size → b ≠ m.size → b ≠ m.size + 1 → M'.get b = N0.get b) → TrC M' u [.int .u8 u.k, .string ⟨u.d.toArray⟩, .slice a2 u.es.length cap2]) (n - (0)) ⟨0, mx m [.cells [.int .u8 x.k, .string ⟨x.d.toArray⟩, .slice a x.es.length cap] 26 true .exact, .cells zN 26 true .exact], x, a, cap, rfl, rfl, ?qm, ?q0, ?q3, ?q4, ?q5, ?_⟩ ?_
  case qm | q0 | q3 | q4 | q5 => first | rfl | (simp -implicitDefEqProofs (disch := first | omega | with_reducible assumption | (simp only [qU, qC]; omega)) only [qT, qA, reduceCtorEq, qB, qC, qD, qE, qF, qG, qH, qI, qJ, qK, qL, reduceIte, mx_mx, List.append_nil, zN]; first | done | rfl | (congr 1; omega))
  · refine ⟨Nat.zero_le _, rfl, by rw [mx_size]; simp, Old.here m _, mx_new0 _ _, mx_new _ _ 1, fun M' hs hg => hc0.old ⟨?_, fun b hb => ?_⟩⟩
    · rw [mx_size] at hs; omega
    · rw [hg b (by rw [mx_size]; omega) (by omega) (by omega), mx_old hb]
  · rintro N t m1 ds ⟨i, N0, u, a2, cap2, rfl, hds, hm, t0, t3, t4, t5, hp⟩
    simp only at hds hm t0 t3 t4 t5
    subst hds; replace hm := hm.symm; subst hm
    obtain ⟨hi0, hu, hz, hO, b0, b1, hT⟩ := hp
    have s0 : m.size < N0.size := by omega
    by_cases h1 : (i : Int) < (n : Int)
    · repeat first | simp -implicitDefEqProofs (disch := first | omega | with_reducible assumption | (simp only [qU, qC]; omega)) only [qT, qA, reduceCtorEq, qB, qC, qD, qE, qF, qG, qH, qI, qJ, qK, qL, reduceIte, F36_l0, t0, t3, t4, t5, h1, b0, s0, cutL3, fill_e13, fill_e04, fill_n021, cellsOf_node, splice3] | refine OrW.go ?_
      rw [LoopK_normal]; refine ⟨_, ?_, i + 1, mx (N0.set m.size (.cells [.int .u8 4, .string ⟨#[]⟩, .slice (some ⟨N0.size, 0, none⟩) 1 1] 26 true .exact)) [.cells [.string ⟨#[99]⟩, .int .u8 u.k, .string ⟨u.d.toArray⟩, .slice a2 u.es.length cap2] 48 true .exact], .nd 4 [] [.mk [99] u], some ⟨N0.size, 0, none⟩, 1, rfl, rfl, ?qm, ?q0, ?q3, ?q4, ?q5, ?_⟩
      case qm | q0 | q3 | q4 | q5 => first | rfl | (simp -implicitDefEqProofs (disch := first | omega | with_reducible assumption | (simp only [qU, qC]; omega)) only [qT, qA, reduceCtorEq, qB, qC, qD, qE, qF, qG, qH, qI, qJ, qK, qL, reduceIte, t0, t3, t4, t5, Int.natCast_add, mx_mx, List.append_nil]; first | done | rfl | (congr 1; omega))
      · omega
      · refine ⟨by omega, by rw [hu]; rfl, by rw [mx_size, AMem.size_set]; omega, (hO.set (Nat.le_refl _) _).mx _, ?_, ?_, fun M' hs hg => ?_⟩
        · rw [mx_old (by rw [AMem.size_set]; exact s0), AMem.get_set_self]; rfl
        · rw [mx_old (by rw [AMem.size_set]; omega), AMem.get_set_ne _ _ (by omega)]; exact b1
        · rw [mx_size, AMem.size_set] at hs hg
          simp only [List.length_cons, List.length_nil] at hs hg
          have hu' := hT M' (by omega) fun b hb h2 h3 => by rw [hg b (by omega) h2 h3, mx_old (by rw [AMem.size_set]; exact hb), AMem.get_set_ne _ _ h2]
          refine trC_mk (k := 4) (d := []) (SlE.lit (b := N0.size) (es := [.mk [99] u]) (e := 48) (w := true) (sp := .exact) (by omega) ?_ (EsC.cons (c := [.string ⟨#[99]⟩, .int .u8 u.k, .string ⟨u.d.toArray⟩, .slice a2 u.es.length cap2]) (EnC.of (e := .mk [99] u) hu') (EsC.nil _)) (by simp))
          rw [hg N0.size (by omega) (by omega) (by omega)]
          exact mx_new0 (N0.set m.size _) _
    · obtain rfl : i = n := by omega
      have s1 : m.size + 1 < N0.size := by omega
      repeat first | simp -implicitDefEqProofs (disch := first | omega | with_reducible assumption | (simp only [qU, qC]; omega)) only [qT, qA, reduceCtorEq, qB, qC, qD, qE, qF, qG, qH, qI, qJ, qK, qL, reduceIte, F36_l0, t0, t3, t4, t5, h1, b0, b1, s0, s1, cutL3, zN, cellsOf_node, splice3] | refine OrW.go ?_
      refine ⟨_, rfl, fun _ => ⟨(hO.set (by omega) _).mx _, _, rfl, ?_⟩⟩
      rw [← hu]
      exact hT _ (by rw [mx_size, AMem.size_set]; omega) fun b hb h2 h3 => by rw [mx_old (by rw [AMem.size_set]; exact hb), AMem.get_set_ne _ _ h3]
end Go.Proofs.YtfjgpeoblnpelaaDoor
namespace Go.Proofs.YtfjgpeoblnpelaaDoor
open Go Go.AM
set_option linter.unusedVariables false
set_option linter.unusedSimpArgs false
set_option maxRecDepth 100000
set_option maxHeartbeats 2000000

def leaf : Tr := .nd 1 [] []
theorem rightT_file (d : List UInt8) : rightT (.nd 1 d []) = decide (d.length ≤ 65536) := by
  have h1 : (Tr.nd 1 d []).count = 1 := rfl
  have h2 : (Tr.nd 1 d []).depth = 0 := rfl
  have h3 : mayT (.nd 1 d []) = decide (d.length ≤ 65536) := by
    rw [mayT_nd, checkB, if_pos (.inl rfl)]; simp [mayL]
  rw [rightT, h1, h2, h3]; simp
theorem right_c32 : rightT (chainT leaf 32) = true := by kernel_rfl
theorem right_c33 : rightT (chainT leaf 33) = false := by kernel_rfl
theorem put_c31 : putR (chainT leaf 32) [99, 47, 100] (chainT leaf 31) = (70, zT) := by kernel_rfl
def wName (i : Nat) : List UInt8 := [UInt8.ofNat (65 + i / 256), UInt8.ofNat (97 + i / 16 % 16), UInt8.ofNat (97 + i % 16)]
def wideE (n : Nat) : List En := (List.range n).map fun i => .mk (wName i) leaf
theorem wideE_len (n : Nat) : (wideE n).length = n := by simp [wideE]
theorem wideE_succ (n : Nat) : wideE (n + 1) = wideE n ++ [.mk (wName n) leaf] := by simp [wideE, List.range_succ]
theorem wideE_get {n i : Nat} (h : i < n) : (wideE n)[i]'(by rw [wideE_len]; exact h) = .mk (wName i) leaf := by simp [wideE]
theorem wideE_take {n k : Nat} (h : k ≤ n) : (wideE n).take k = wideE k := by
  rw [wideE, ← List.map_take, List.take_range, Nat.min_eq_left h]; rfl
theorem wNames_ok : (List.range 4096).all (fun i => nameB (wName i) && (decide (i = 0) || ltB (wName (i - 1)) (wName i))) = true := by decide +kernel
theorem wide_count (n : Nat) : countL (wideE n) = n := by
  induction n with
  | zero => rfl
  | succ n ih => rw [wideE_succ, countL_app, ih]; rfl
theorem wide_depth (n : Nat) : depthL (wideE n) ≤ 1 := by
  induction n with
  | zero => simp [wideE, depthL]
  | succ n ih =>
    rw [wideE_succ, depthL_app]
    have : depthL [En.mk (wName n) leaf] = 1 := rfl
    omega
theorem wide_may (n : Nat) : mayL (wideE n) = true := by
  rw [mayL_iff]
  intro i hi
  rw [wideE_len] at hi
  rw [wideE_get hi]
  show mayT leaf = true
  kernel_rfl
theorem wide_ord {n : Nat} (h : n ≤ 4096) : ordE (wideE n) = true := by
  refine ordE_all fun i hi => ?_
  have hi' : i < n := by rwa [wideE_len] at hi
  rw [ordAt_eq hi, wideE_get hi']
  have h1 := List.all_eq_true.1 wNames_ok i (List.mem_range.2 (by omega))
  by_cases h0 : i = 0
  · subst h0; exact h1
  · have e : (wideE n).getD (i - 1) default = .mk (wName (i - 1)) leaf := by
      rw [List.getD_eq_getElem?_getD, List.getElem?_eq_getElem (by rw [wideE_len]; omega), wideE_get (by omega)]; rfl
    rw [e]; exact h1
theorem right_less : rightT (.nd 4 [] (wideE 4095)) = true := by
  have h1 : (Tr.nd 4 [] (wideE 4095)).count = 4096 := by simp only [Tr.count, wide_count]
  have h2 : (Tr.nd 4 [] (wideE 4095)).depth ≤ 1 := wide_depth 4095
  have h3 : mayT (.nd 4 [] (wideE 4095)) = true := by
    rw [mayT_nd, wide_may, checkB, if_neg (by omega), if_neg (by omega), if_pos rfl, wide_ord (by omega)]; rfl
  rw [rightT, h1, h3, decide_eq_true (show (Tr.nd 4 [] (wideE 4095)).depth ≤ 32 by omega)]; rfl
theorem right_wide : rightT (.nd 4 [] (wideE 4096)) = false := by
  have h1 : (Tr.nd 4 [] (wideE 4096)).count = 4097 := by simp only [Tr.count, wide_count]
  rw [rightT, h1]; rfl
end Go.Proofs.YtfjgpeoblnpelaaDoor
namespace Go.Proofs.YtfjgpeoblnpelaaDoor
open Go Go.AM
set_option linter.unusedVariables false
set_option linter.unusedSimpArgs false
set_option maxRecDepth 100000
set_option maxHeartbeats 2000000

theorem idxE_find (es : List En) (s : List UInt8) : (if 0 ≤ idxE es s then some (es.getD (idxE es s).toNat default) else none) = es.find? fun e => decide (e.n = s) := by
  unfold idxE
  cases h : es.findIdx? (fun e => decide (e.n = s)) with
  | none =>
    rw [List.findIdx?_eq_none_iff] at h
    have : es.find? (fun e => decide (e.n = s)) = none := by
      rw [List.find?_eq_none]; intro x hx; rw [h x hx]; simp
    rw [this]; rfl
  | some i =>
    rw [List.findIdx?_eq_some_iff_getElem] at h
    obtain ⟨h1, h2, h3⟩ := h
    have : es.find? (fun e => decide (e.n = s)) = some es[i] := by
      rw [List.find?_eq_some_iff_getElem]
      exact ⟨h2, i, h1, rfl, fun j hj => by simpa using h3 j hj⟩
    rw [this]
    simp only
    rw [if_pos (by omega)]
    simp [List.getD, h1]
theorem stepT_find (t : Tr) (s : List UInt8) : stepT t s = if t.k = 4 then (t.es.find? fun e => decide (e.n = s)).map En.t else none := by
  unfold stepT
  rw [← idxE_find]
  by_cases h : t.k = 4
  · rw [if_pos h]
    by_cases h2 : 0 ≤ idxE t.es s
    · rw [if_pos ⟨h, h2⟩, if_pos h2]; rfl
    · rw [if_neg (fun q => h2 q.2), if_neg h2]; rfl
  · rw [if_neg h, if_neg (fun q => h q.1)]
theorem stepT_nd {k : Int} {d : List UInt8} {es : List En} {s : List UInt8} (hk : k = 4) : stepT (.nd k d es) s = (es.find? fun e => decide (e.n = s)).map En.t := by rw [stepT_find]; exact if_pos hk
theorem find_set {es : List En} {j : Nat} (hj : j < es.length) {s : List UInt8} (hs : es[j].n = s) (y : Tr) (s' : List UInt8) (hne : s' ≠ s) : (es.set j (.mk s y)).find? (fun e => decide (e.n = s')) = es.find? fun e => decide (e.n = s') := by
  induction es generalizing j with
  | nil => simp at hj
  | cons e r ih =>
    cases j with
    | zero =>
      simp only [List.getElem_cons_zero] at hs
      have h1 : ¬ s = s' := fun h => hne h.symm
      rw [List.set_cons_zero, List.find?_cons_of_neg (by show ¬ decide ((En.mk s y).n = s') = true; rw [show (En.mk s y).n = s from rfl]; simpa using h1), List.find?_cons_of_neg (by rw [hs]; simpa using h1)]
    | succ j =>
      simp only [List.getElem_cons_succ] at hs
      simp only [List.set_cons_succ, List.find?_cons]
      rw [ih (by simpa using hj) hs]
theorem find_set_self {es : List En} {j : Nat} (hj : j < es.length) {s : List UInt8} (hs : es[j].n = s) (hlt : ∀ i (h : i < es.length), i < j → es[i].n ≠ s) (y : Tr) : (es.set j (.mk s y)).find? (fun e => decide (e.n = s)) = some (.mk s y) := by
  rw [List.find?_eq_some_iff_getElem]
  refine ⟨by simp [En.n], j, by simpa using hj, by simp, fun i hi => ?_⟩
  have := hlt i (by omega) hi
  rw [List.getElem_set_ne (by omega)]
  simpa using this
theorem idxE_first {es : List En} {s : List UInt8} {j : Nat} (h : idxE es s = (j : Nat)) : ∀ i (hi : i < es.length), i < j → es[i].n ≠ s := by
  unfold idxE at h
  cases hf : es.findIdx? (fun e => decide (e.n = s)) with
  | none => rw [hf] at h; simp only at h; omega
  | some i =>
    rw [hf] at h
    simp only at h
    rw [List.findIdx?_eq_some_iff_getElem] at hf
    obtain rfl : i = j := by omega
    obtain ⟨h1, h2, h3⟩ := hf
    intro k hk hlt
    have := h3 k hlt
    simpa using this
theorem find_ins {es : List En} {p : Nat} {s s' : List UInt8} (x : Tr) (hne : s' ≠ s) : (es.take p ++ .mk s x :: es.drop p).find? (fun e => decide (e.n = s')) = es.find? fun e => decide (e.n = s') := by
  have h1 : ¬ s = s' := fun h => hne h.symm
  rw [List.find?_append, List.find?_cons]
  simp only [En.n, h1, decide_false]
  rw [← List.find?_append, List.take_append_drop]
theorem find_ins_self {es : List En} {p : Nat} {s : List UInt8} (x : Tr) (h : ∀ e ∈ es, e.n ≠ s) : (es.take p ++ .mk s x :: es.drop p).find? (fun e => decide (e.n = s)) = some (.mk s x) := by
  rw [List.find?_append, List.find?_cons]
  have : (es.take p).find? (fun e => decide (e.n = s)) = none := by
    rw [List.find?_eq_none]; intro e he
    have := h e (List.mem_of_mem_take he)
    simpa using this
  rw [this]; simp [En.n]
theorem goT_put (x : Tr) : ∀ (a : List (List UInt8)) (t w : Tr), putT a t x = some w → goT w a = some x := by
  intro a
  induction a with
  | nil => intro t w h; cases h; rfl
  | cons s r ih =>
    intro t w h
    obtain ⟨k, d, es⟩ := t
    by_cases hk : k = 4
    · rcases idxE_cases es s with ⟨hi, hno⟩ | ⟨j, hj, hi, hjn⟩
      · rw [putT_new hk hi] at h
        split at h
        · rename_i hr
          cases h
          rw [goT, stepT_nd hk, find_ins_self x hno, hr]; rfl
        · cases h
      · rw [putT_in hk hj hi] at h
        cases hq : putT r es[j].t x with
        | none => rw [hq] at h; cases h
        | some y =>
          rw [hq] at h
          cases h
          rw [goT, stepT_nd hk, find_set_self hj hjn (idxE_first hi)]
          exact ih _ _ hq
    · rw [putT_kind hk] at h; cases h
theorem goT_keep (x : Tr) : ∀ (a b : List (List UInt8)) (t w u : Tr), putT a t x = some w → ¬ a <+: b → ¬ b <+: a → goT t b = some u → goT w b = some u := by
  intro a
  induction a with
  | nil => intro b t w u _ h; exact absurd (List.nil_prefix) h
  | cons s r ih =>
    intro b t w u h hab hba hg
    cases b with
    | nil => exact absurd (List.nil_prefix) hba
    | cons s' r' =>
      obtain ⟨k, d, es⟩ := t
      by_cases hk : k = 4
      · rw [goT, stepT_nd hk] at hg
        rcases idxE_cases es s with ⟨hi, hno⟩ | ⟨j, hj, hi, hjn⟩
        · rw [putT_new hk hi] at h
          split at h
          · rename_i hr
            subst hr
            cases h
            have hne : s' ≠ s := fun e => hab (by rw [e]; simp)
            rw [goT, stepT_nd hk, find_ins x hne]
            exact hg
          · cases h
        · rw [putT_in hk hj hi] at h
          cases hq : putT r es[j].t x with
          | none => rw [hq] at h; cases h
          | some y =>
            rw [hq] at h
            cases h
            rw [goT, stepT_nd hk]
            by_cases hne : s' = s
            · subst hne
              rw [find_set_self hj hjn (idxE_first hi)]
              have h1 := idxE_find es s'
              rw [hi, if_pos (by omega)] at h1
              rw [← h1] at hg
              have e : es.getD (Int.toNat (j : Int)) default = es[j] := by simp [List.getD, hj]
              rw [e] at hg
              exact ih r' _ _ _ hq (fun h => hab (List.prefix_cons_inj _ |>.2 h)) (fun h => hba (List.prefix_cons_inj _ |>.2 h)) hg
            · rw [find_set hj hjn y s' hne]
              exact hg
      · rw [putT_kind hk] at h; cases h
def joinN : List (List UInt8) → List UInt8
  | [] => []
  | s :: r => preP s (joinN r)
theorem joinN_nil {ns : List (List UInt8)} (h : ∀ s ∈ ns, s ≠ []) : joinN ns = [] ↔ ns = [] := by
  cases ns with
  | nil => simp [joinN]
  | cons s r =>
    have := h s (by simp)
    simp only [joinN, preP]
    split <;> simp [this]
theorem spl_name {s q : List UInt8} (h : 47 ∉ s) : spl (s ++ 47 :: q) = s :: spl q := by
  have := spl_cut (l := s ++ 47 :: q) (p := s.length) (by simp) (fun j hj => by
    rw [List.getElem?_append_left hj, List.getElem?_eq_getElem hj]
    intro e
    exact h (by rw [← Option.some.inj e]; exact List.getElem_mem hj))
  rw [this]
  simp
theorem spl_join : ∀ (ns : List (List UInt8)), ns ≠ [] → (∀ s ∈ ns, nameB s = true) → spl (joinN ns) = ns
  | [], h, _ => absurd rfl h
  | s :: r, _, hn => by
    have hs := nameB_47 (hn s (by simp))
    have hr : ∀ x ∈ r, nameB x = true := fun x hx => hn x (by simp [hx])
    have hr' : ∀ x ∈ r, x ≠ [] := fun x hx => (nameB_47 (hr x hx)).1
    simp only [joinN, preP]
    by_cases e : r = []
    · rw [if_pos ((joinN_nil hr').2 e), e, spl_none hs.2]
    · rw [if_neg (fun q => e ((joinN_nil hr').1 q)), spl_name hs.2, spl_join r e hr]
theorem namesR_join {ns : List (List UInt8)} (hn : ∀ s ∈ ns, nameB s = true) : namesR (joinN ns) = some ns := by
  have hn' : ∀ s ∈ ns, s ≠ [] := fun s hs => (nameB_47 (hn s hs)).1
  unfold namesR
  by_cases e : ns = []
  · rw [if_pos ((joinN_nil hn').2 e), e]
  · rw [if_neg (fun q => e ((joinN_nil hn').1 q)), spl_join ns e hn, if_pos (List.all_eq_true.2 hn)]
theorem joinN_app : ∀ (a c : List (List UInt8)), (∀ s ∈ a, s ≠ []) → a ≠ [] → c ≠ [] → (∀ s ∈ c, s ≠ []) → joinN (a ++ c) = joinN a ++ 47 :: joinN c
  | [], c, _, h, _, _ => absurd rfl h
  | s :: r, c, ha, _, hc, hcn => by
    have hcj : joinN c ≠ [] := fun q => hc ((joinN_nil hcn).1 q)
    by_cases e : r = []
    · subst e
      simp only [List.cons_append, List.nil_append, joinN, preP, if_true]
      rw [if_neg hcj]
    · have ih := joinN_app r c (fun x hx => ha x (by simp [hx])) e hc hcn
      have hrj : joinN r ≠ [] := fun q => e ((joinN_nil fun x hx => ha x (by simp [hx])).1 q)
      simp only [List.cons_append, joinN, preP]
      rw [ih, if_neg (by simp), if_neg hrj]
      simp
theorem below_of_prefix {a b : List (List UInt8)} (hb : ∀ s ∈ b, nameB s = true) (h : a <+: b) : belowB (joinN a) (joinN b) = true := by
  obtain ⟨c, rfl⟩ := h
  have ha' : ∀ s ∈ a, s ≠ [] := fun s hs => (nameB_47 (hb s (by simp [hs]))).1
  have hc' : ∀ s ∈ c, s ≠ [] := fun s hs => (nameB_47 (hb s (by simp [hs]))).1
  by_cases e : a = []
  · subst e; simp [belowB, joinN]
  · by_cases e2 : c = []
    · subst e2; simp [belowB]
    · rw [joinN_app a c ha' e e2 hc']
      simp [belowB]
theorem pathsT_names (t : Tr) (hm : mayT t = true) : ∀ q ∈ pathsT t, ∃ ns u, q = joinN ns ∧ (∀ s ∈ ns, nameB s = true) ∧ goT t ns = some u := by
  induction t using Tr.ind2 with
  | h k d es ih =>
    rw [mayT_nd, Bool.and_eq_true] at hm
    intro q hq
    rw [pathsT_nd] at hq
    rcases List.mem_cons.1 hq with rfl | hq
    · exact ⟨[], .nd k d es, rfl, (fun s hs => by cases hs), rfl⟩
    · have key : ∀ (l : List En), q ∈ pathsL l → ∃ e ∈ l, q ∈ (pathsT e.t).map (preP e.n) := by
        intro l
        induction l with
        | nil => intro h; simp [pathsL] at h
        | cons e r ihr =>
          intro h
          simp only [pathsL, pathsE_eq] at h
          rcases List.mem_append.1 h with h | h
          · exact ⟨e, by simp, h⟩
          · obtain ⟨e', h1, h2⟩ := ihr h
            exact ⟨e', by simp [h1], h2⟩
      obtain ⟨e, he, hqe⟩ := key es hq
      obtain ⟨j, hj, rfl⟩ := List.mem_iff_getElem.1 he
      have hne : es.isEmpty = false := by cases es with | nil => simp at hj | cons => rfl
      have hk : k = 4 := by
        have h1 := hm.1
        unfold checkB at h1
        rw [Bool.and_eq_true, hne, Bool.or_false, decide_eq_true_iff] at h1
        exact h1.1
      have hord : ordE es = true := by
        have h1 := hm.1
        unfold checkB at h1
        rw [Bool.and_eq_true, hk, if_neg (by omega), if_neg (by omega), if_pos rfl, Bool.and_eq_true] at h1
        exact h1.2.2
      have hnm := ordE_name hord
      have hsrt := List.pairwise_iff_getElem.1 (ordE_sort hord)
      have hidx : idxE es es[j].n = (j : Nat) := idxE_some hj (fun i hi => ltB_ne (hsrt i j (by omega) hj hi)) rfl
      obtain ⟨q', hq', rfl⟩ := List.mem_map.1 hqe
      obtain ⟨ns, u, rfl, h1, h2⟩ := ih j hj ((mayL_iff es).1 hm.2 j hj) q' hq'
      refine ⟨es[j].n :: ns, u, rfl, fun s hs => ?_, by rw [goT, stepT_some hk hj hidx]; exact h2⟩
      rcases List.mem_cons.1 hs with rfl | hs
      · exact hnm _ (List.getElem_mem hj)
      · exact h1 s hs
theorem preP_inj {n q q' : List UInt8} (h : preP n q = preP n q') : q = q' := by
  unfold preP at h
  by_cases h1 : q = []
  · by_cases h2 : q' = []
    · rw [h1, h2]
    · rw [if_pos h1, if_neg h2] at h
      have := congrArg List.length h
      rw [List.length_append, List.length_cons] at this
      omega
  · by_cases h2 : q' = []
    · rw [if_neg h1, if_pos h2] at h
      have := congrArg List.length h
      rw [List.length_append, List.length_cons] at this
      omega
    · rw [if_neg h1, if_neg h2] at h
      have := List.append_cancel_left h
      simpa using this
theorem preP_name {n n' q q' : List UInt8} (hn : n ≠ [] ∧ 47 ∉ n) (hn' : n' ≠ [] ∧ 47 ∉ n') (h : preP n q = preP n' q') : n = n' := by
  have hs : ∀ (n q : List UInt8), 47 ∉ n → (spl (preP n q)).head? = some n := by
    intro n q hn
    unfold preP
    split
    · rw [spl_none hn]; rfl
    · rw [spl_name hn]; rfl
  have h1 := hs n q hn.2
  rw [h, hs n' q' hn'.2] at h1
  exact (Option.some.inj h1).symm
theorem pathsT_nodup (t : Tr) (hm : mayT t = true) : (pathsT t).Nodup := by
  induction t using Tr.ind with
  | h k d es ih =>
    rw [mayT_nd, Bool.and_eq_true] at hm
    rw [pathsT_nd, List.nodup_cons]
    have hmay := (mayL_all es).symm.trans hm.2
    rw [List.all_eq_true] at hmay
    by_cases he : es = []
    · subst he; simp [pathsL]
    · have hne : es.isEmpty = false := by cases es with | nil => exact absurd rfl he | cons => rfl
      have hk : k = 4 := by
        have h1 := hm.1
        unfold checkB at h1
        rw [Bool.and_eq_true, hne, Bool.or_false, decide_eq_true_iff] at h1
        exact h1.1
      have hord : ordE es = true := by
        have h1 := hm.1
        unfold checkB at h1
        rw [Bool.and_eq_true, hk, if_neg (by omega), if_neg (by omega), if_pos rfl, Bool.and_eq_true] at h1
        exact h1.2.2
      have hnm := ordE_name hord
      have hsrt := ordE_sort hord
      have key : ∀ (l : List En), (∀ e ∈ l, e ∈ es) → SortE l → (pathsL l).Nodup ∧ ∀ q ∈ pathsL l, ∃ e ∈ l, ∃ q', q = preP e.n q' := by
        intro l
        induction l with
        | nil => intro _ _; simp [pathsL]
        | cons e r ihr =>
          intro hl hs
          have hs' := List.pairwise_cons.1 hs
          obtain ⟨h1, h2⟩ := ihr (fun x hx => hl x (by simp [hx])) hs'.2
          have he := hl e (by simp)
          have hee := nameB_47 (hnm e he)
          simp only [pathsL, pathsE_eq]
          refine ⟨List.nodup_append.2 ⟨?_, h1, ?_⟩, fun q hq => ?_⟩
          · exact List.Pairwise.map _ (fun a b hab h => hab (preP_inj h)) (ih e he (hmay e he))
          · intro a ha b hb e'
            subst e'
            obtain ⟨qa, _, rfl⟩ := List.mem_map.1 ha
            obtain ⟨e2, he2, q2, hq2⟩ := h2 _ hb
            have hn := preP_name hee (nameB_47 (hnm e2 (hl e2 (by simp [he2])))) hq2
            exact ltB_ne (hs'.1 e2 he2) hn
          · rcases List.mem_append.1 hq with hq | hq
            · obtain ⟨q', _, rfl⟩ := List.mem_map.1 hq
              exact ⟨e, by simp, q', rfl⟩
            · obtain ⟨e2, he2, q2, hq2⟩ := h2 _ hq
              exact ⟨e2, by simp [he2], q2, hq2⟩
      obtain ⟨h1, h2⟩ := key es (fun _ h => h) hsrt
      refine ⟨fun hm => ?_, h1⟩
      obtain ⟨e, he, q', hq⟩ := h2 _ hm
      have hee := nameB_47 (hnm e he)
      have := congrArg List.length hq
      have hl : 0 < e.n.length := List.length_pos_iff.2 hee.1
      unfold preP at this
      split at this
      · simp only [List.length_nil] at this; omega
      · rw [List.length_append, List.length_cons, List.length_nil] at this; omega
theorem atR_path {t : Tr} (hm : mayT t = true) {q : List UInt8} (hq : q ∈ pathsT t) : (atR t q).1 = 0 := by
  obtain ⟨ns, u, rfl, h1, h2⟩ := pathsT_names t hm q hq
  unfold atR
  rw [namesR_join h1]
  simp only [h2]
theorem putR_yes {t x : Tr} {p : List UInt8} (h : (putR t p x).1 = 0) : ∃ ns w, namesR p = some ns ∧ putT ns t x = some w ∧ rightT w = true ∧ (putR t p x).2 = w := by
  unfold putR at h ⊢
  split at h
  · rename_i hr
    rw [if_pos hr]
    split at h
    · simp at h
    · rename_i ns hns
      split at h
      · simp at h
      · rename_i w hw
        split at h
        · rename_i hrw
          exact ⟨ns, w, hns, hw, hrw, by simp [hrw]⟩
        · simp at h
  · simp at h
theorem put_at {t x : Tr} {p : List UInt8} (h : (putR t p x).1 = 0) : atR (putR t p x).2 p = (0, x) ∧ rightT (putR t p x).2 = true := by
  obtain ⟨ns, w, h1, h2, h3, h4⟩ := putR_yes h
  rw [h4]
  refine ⟨?_, h3⟩
  unfold atR
  rw [h1]
  simp only [goT_put x ns t w h2]
theorem put_keep {t x : Tr} {p q : List UInt8} (hm : mayT t = true) (hp : p ∈ pathsT t) (hq : q ∈ pathsT t) (h : (putR t p x).1 = 0) (h1 : belowB p q = false) (h2 : belowB q p = false) : atR (putR t p x).2 q = atR t q := by
  obtain ⟨ns, w, e1, e2, e3, e4⟩ := putR_yes h
  rw [e4]
  obtain ⟨a, ua, rfl, a1, a2⟩ := pathsT_names t hm p hp
  obtain ⟨b, ub, rfl, b1, b2⟩ := pathsT_names t hm q hq
  rw [namesR_join a1] at e1
  cases e1
  have hab : ¬ ns <+: b := fun hh => by rw [below_of_prefix b1 hh] at h1; cases h1
  have hba : ¬ b <+: ns := fun hh => by rw [below_of_prefix a1 hh] at h2; cases h2
  have := goT_keep x ns b t w ub e2 hab hba b2
  unfold atR
  rw [namesR_join b1]
  simp only [this, b2]
end Go.Proofs.YtfjgpeoblnpelaaDoor
namespace Go.Proofs.YtfjgpeoblnpelaaDoor
open Go Go.AM
set_option linter.unusedVariables false
set_option linter.unusedSimpArgs false
set_option maxRecDepth 100000
set_option maxHeartbeats 2000000

theorem lawName (m : AMem) (l : List UInt8) (hl : l.length ≤ 9223372036854775807) : PureC Tryd.prog 3 3 [.string ⟨l.toArray⟩] m (.bool true) := by
  have kW := fun M => DetC.known (works_ok M)
  refine pure_of_W (fn := Tryd.f3) rfl rfl F3_ok (by simp [F3]) (.bool _) ?_
  by_cases h : (l.length : Int) > 2000
  · repeat first | simp -implicitDefEqProofs (disch := first | omega | with_reducible assumption | (simp only [qU, qC]; omega)) only [qT, qA, reduceCtorEq, qB, qC, qD, qE, qF, qG, qH, qI, qJ, qK, qL, reduceIte, F3, h, kW, undef] | refine OrW.go ?_
  · have k1 := fun M => DetC.known (name_ok M l)
    have k2 := fun M => DetC.known (refName_ok M l (by omega))
    cases hn : nameB l with
    | true =>
      rw [hn] at k1 k2
      repeat first | simp -implicitDefEqProofs (disch := first | omega | with_reducible assumption | (simp only [qU, qC]; omega)) only [qT, qA, reduceCtorEq, qB, qC, qD, qE, qF, qG, qH, qI, qJ, qK, qL, reduceIte, F3, h, k1, k2, kW] | refine OrW.go ?_
    | false =>
      rw [hn] at k1 k2
      repeat first | simp -implicitDefEqProofs (disch := first | omega | with_reducible assumption | (simp only [qU, qC]; omega)) only [qT, qA, reduceCtorEq, qB, qC, qD, qE, qF, qG, qH, qI, qJ, qK, qL, reduceIte, F3, h, k1, k2, kW] | refine OrW.go ?_
theorem e2000 : ((2000 : Nat) : Int) = 2000 := rfl
theorem weight_gt {t : Tr} {top : Nat} (h : top < t.weight) : (t.weightR top : Int) > (top : Int) := by
  have := (t.weightR_spec top).2.2 h
  omega
theorem weight_le {t : Tr} {top : Nat} (h : t.weight ≤ top) : ¬ (t.weightR top : Int) > (top : Int) := by
  have := (t.weightR_spec top).2.1 h
  omega
theorem lawRight (m : AMem) (t : Tr) (c : List Value) (hc : TrC m t c) : PureC Tryd.prog 3 4 [.agg c.toArray] m (.bool true) := by
  have hc0 := hc
  obtain ⟨a, cap, rfl, hE⟩ := hc.ex
  have hcc := hc0.old (Old.here m [.cells [.int .u8 t.k, .string ⟨t.d.toArray⟩, .slice a t.es.length cap] 26 true .exact])
  have kW := fun M => DetC.known (works_ok M)
  have k0 := DetC.known (weight_ok t _ _ 2000 hcc (by omega))
  refine pure_of_W (fn := Tryd.f4) rfl rfl F4_ok (by simp [F4]) (.bool _) ?_
  by_cases hw : 2000 < t.weight
  · have g := weight_gt hw
    rw [e2000] at k0 g
    repeat first | simp -implicitDefEqProofs (disch := first | omega | with_reducible assumption | (simp only [qU, qC]; omega)) only [qT, qA, reduceCtorEq, qB, qC, qD, qE, qF, qG, qH, qI, qJ, qK, qL, reduceIte, F4, cellsOf_node, cutL3, k0, g, kW] | refine OrW.go ?_
  · have hw' : t.weight ≤ 2000 := by omega
    have hcw := t.count_le
    have hdw := t.depth_lt
    have g := weight_le hw'
    rw [e2000] at k0 g
    have k1 := DetC.known (right_ok _ t _ hcc (by omega))
    have k2 := DetC.known (refRight_ok _ t _ hcc (by omega))
    have k3 := DetC.known (count_ok _ t _ hcc (by omega))
    have k4 := DetC.known (refCount_ok t _ _ hcc (by omega))
    have k5 := DetC.known (depth_ok _ t _ hcc (by omega))
    have k6 := DetC.known (refDepth_ok t _ _ hcc (by omega))
    have k7 := DetC.known (size_ok _ t _ hcc (by omega))
    have k8 := DetC.known (refSize_ok t _ _ hcc (by omega))
    cases hr : rightT t with
    | true =>
      rw [hr] at k1 k2
      repeat first | simp -implicitDefEqProofs (disch := first | omega | with_reducible assumption | (simp only [qU, qC]; omega)) only [qT, qA, reduceCtorEq, qB, qC, qD, qE, qF, qG, qH, qI, qJ, qK, qL, reduceIte, F4, cellsOf_node, cutL3, k0, g, kW, k1, k2, k3, k4, k5, k6, k7, k8] | refine OrW.go ?_
    | false =>
      rw [hr] at k1 k2
      repeat first | simp -implicitDefEqProofs (disch := first | omega | with_reducible assumption | (simp only [qU, qC]; omega)) only [qT, qA, reduceCtorEq, qB, qC, qD, qE, qF, qG, qH, qI, qJ, qK, qL, reduceIte, F4, cellsOf_node, cutL3, k0, g, kW, k1, k2, k3, k4, k5, k6, k7, k8] | refine OrW.go ?_
theorem lawSame (m : AMem) (t u : Tr) (c c' : List Value) (hc : TrC m t c) (hc' : TrC m u c') : PureC Tryd.prog 3 7 [.agg c.toArray, .agg c'.toArray] m (.bool true) := by
  have hc0 := hc
  have hc1 := hc'
  obtain ⟨a, cap, rfl, hE⟩ := hc.ex
  obtain ⟨a2, cap2, rfl, hE2⟩ := hc'.ex
  have hcc := hc0.old (Old.here m [.cells [.int .u8 t.k, .string ⟨t.d.toArray⟩, .slice a t.es.length cap] 26 true .exact, .cells [.int .u8 u.k, .string ⟨u.d.toArray⟩, .slice a2 u.es.length cap2] 26 true .exact])
  have hcd := hc1.old (Old.here m [.cells [.int .u8 t.k, .string ⟨t.d.toArray⟩, .slice a t.es.length cap] 26 true .exact, .cells [.int .u8 u.k, .string ⟨u.d.toArray⟩, .slice a2 u.es.length cap2] 26 true .exact])
  have kW := fun M => DetC.known (works_ok M)
  have k0 := DetC.known (weight_ok t _ _ 2000 hcc (by omega))
  have k1 := DetC.known (weight_ok u _ _ 2000 hcd (by omega))
  refine pure_of_W (fn := Tryd.f7) rfl rfl F7_ok (by simp [F7]) (.bool _) ?_
  by_cases hw : 2000 < t.weight
  · have g := weight_gt hw
    rw [e2000] at k0 k1 g
    repeat first | simp -implicitDefEqProofs (disch := first | omega | with_reducible assumption | (simp only [qU, qC]; omega)) only [qT, qA, reduceCtorEq, qB, qC, qD, qE, qF, qG, qH, qI, qJ, qK, qL, reduceIte, F7, cellsOf_node, cutL3, k0, k1, g, kW, undef] | refine OrW.go ?_
  · by_cases hw2 : 2000 < u.weight
    · have g := weight_le (t := t) (top := 2000) (by omega)
      have g2 := weight_gt hw2
      rw [e2000] at k0 k1 g g2
      repeat first | simp -implicitDefEqProofs (disch := first | omega | with_reducible assumption | (simp only [qU, qC]; omega)) only [qT, qA, reduceCtorEq, qB, qC, qD, qE, qF, qG, qH, qI, qJ, qK, qL, reduceIte, F7, cellsOf_node, cutL3, k0, k1, g, g2, kW] | refine OrW.go ?_
    · have g := weight_le (t := t) (top := 2000) (by omega)
      have g2 := weight_le (t := u) (top := 2000) (by omega)
      rw [e2000] at k0 k1 g g2
      have hcw := t.count_le
      have hcu := u.count_le
      have k2 := DetC.known (same_ok t (by omega) u _ _ _ hcc hcd)
      have k3 := DetC.known (refSame_ok t u _ _ _ hcc hcd (by omega))
      have k4 := DetC.known (same_ok t (by omega) t _ _ _ hcc hcc)
      have k5 := DetC.known (same_ok u (by omega) u _ _ _ hcd hcd)
      rw [Tr.same_self] at k4 k5
      cases hs : t.same u with
      | true =>
        rw [hs] at k2 k3
        repeat first | simp -implicitDefEqProofs (disch := first | omega | with_reducible assumption | (simp only [qU, qC]; omega)) only [qT, qA, reduceCtorEq, qB, qC, qD, qE, qF, qG, qH, qI, qJ, qK, qL, reduceIte, F7, cellsOf_node, cutL3, k0, k1, g, g2, kW, k2, k3, k4, k5] | refine OrW.go ?_
      | false =>
        rw [hs] at k2 k3
        repeat first | simp -implicitDefEqProofs (disch := first | omega | with_reducible assumption | (simp only [qU, qC]; omega)) only [qT, qA, reduceCtorEq, qB, qC, qD, qE, qF, qG, qH, qI, qJ, qK, qL, reduceIte, F7, cellsOf_node, cutL3, k0, k1, g, g2, kW, k2, k3, k4, k5] | refine OrW.go ?_
end Go.Proofs.YtfjgpeoblnpelaaDoor
namespace Go.Proofs.YtfjgpeoblnpelaaDoor
open Go Go.AM
set_option linter.unusedVariables false
set_option linter.unusedSimpArgs false
set_option maxRecDepth 100000
set_option maxHeartbeats 2000000

theorem goT_count : ∀ (ns : List (List UInt8)) (t u : Tr), goT t ns = some u → u.count ≤ t.count
  | [], t, u, h => by cases h; exact Nat.le_refl _
  | s :: r, t, u, h => by
    obtain ⟨k, d, es⟩ := t
    by_cases hk : k = 4
    · rcases idxE_cases es s with ⟨hi, _⟩ | ⟨j, hj, hi, _⟩
      · rw [goT, stepT_none (.inr hi)] at h; cases h
      · rw [goT, stepT_some hk hj hi] at h
        have := goT_count r _ _ h
        have := count_get hj
        simp only [Tr.count]; omega
    · rw [goT, stepT_none (.inl hk)] at h; cases h
theorem zT_count : zT.count = 1 := rfl
theorem atR_count (t : Tr) (l : List UInt8) : (atR t l).2.count ≤ t.count := by
  have := t.count_pos
  unfold atR
  split
  · exact this
  · split
    · exact this
    · rename_i h; exact goT_count _ _ _ h
theorem putR_count (t : Tr) (l : List UInt8) (x : Tr) : (putR t l x).2.count ≤ t.count + x.count := by
  have := t.count_pos
  have hz : zT.count ≤ t.count + x.count := by rw [zT_count]; omega
  unfold putR
  split
  · split
    · exact hz
    · rename_i ns hns
      split
      · exact hz
      · rename_i w hw
        split
        · exact (putT_le x l.length ns t w (namesR_mem hns) hw).1
        · exact hz
  · exact hz
theorem e1000 : ((1000 : Nat) : Int) = 1000 := rfl
end Go.Proofs.YtfjgpeoblnpelaaDoor
namespace Go.Proofs.YtfjgpeoblnpelaaDoor
open Go Go.AM
set_option linter.unusedVariables false
set_option linter.unusedSimpArgs false
set_option maxRecDepth 100000
set_option maxHeartbeats 4000000

theorem StrS_takeM {m : AMem} {a : Option Addr} {cap : Nat} {ls : List (List UInt8)} (h : StrS m a cap ls) (hn : ls.length < openCap) {k : Nat} (hk : k ≤ ls.length) :
    ∃ cap', (∀ M, Old m M → slVv 1 (.slice a ls.length cap) none (some (.int .i64 (k : Int))) none M = some (.slice a (ls.take k).length cap', M)) ∧ StrS m a cap' (ls.take k) := by
  obtain ⟨cap', h1, h2⟩ := h.take hn hk
  refine ⟨cap', fun M hO => ?_, h2⟩
  rw [slVv_map _ _ _ _ _ m M, h1]; rfl
  rintro b o l c he
  cases he
  rcases h with ⟨h, _⟩ | ⟨b', o', Y, e, w, sp, h, hb, _⟩
  · cases h
  · cases h; exact hO.2 b hb
theorem e600 : ((600 : Nat) : Int) = 600 := rfl
end Go.Proofs.YtfjgpeoblnpelaaDoor
namespace Go.Proofs.YtfjgpeoblnpelaaDoor.gl
end Go.Proofs.YtfjgpeoblnpelaaDoor.gl
