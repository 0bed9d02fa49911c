/- Derivations: Put. -/
import Derived.Test.YtgkmlbkocgjmmaaDoorB1
set_option linter.unusedVariables false
set_option linter.unusedSimpArgs false
set_option linter.unnecessarySimpa false
open Nat renaming reduceBEq → zA, reduceEqDiff → zB, reduceAdd → zC, reduceMul → zD, reduceSub → zE
open Int renaming reduceToNat → zF, reduceEq → zG, reduceLT → zH, reduceLE → zI, reduceAdd → zJ, reduceSub → zK, reduceMul → zL
namespace Go.Proofs.YtgkmlbkocgjmmaaDoor
open Go Go.AM
set_option linter.unusedVariables false
set_option linter.unusedSimpArgs false
set_option maxHeartbeats 2000000
set_option maxRecDepth 100000

def headB : List UInt8 := [68, 82, 86, 49]
def insB (l : List (List UInt8)) (n : Nat) : List UInt8 := ((l.take n).map textB).flatten
def putB (d : DrvR) : List UInt8 := headB ++ textB d.name ++ numB d.inputs.length 2 ++ insB d.inputs d.inputs.length ++ textB d.recipe
theorem insB_succ {l : List (List UInt8)} {n : Nat} (h : n < l.length) : insB l (n + 1) = insB l n ++ textB l[n] := by
  unfold insB; rw [List.take_succ_eq_append_getElem h, List.map_append, List.flatten_append]; simp only [List.map_cons, List.map_nil, List.flatten_cons, List.flatten_nil, List.append_nil]
theorem textB_len (s : List UInt8) : (textB s).length = s.length + 4 := by simp [textB, numB_len]; omega
theorem insB_len {l : List (List UInt8)} (h : ∀ s ∈ l, s.length ≤ 100000) : ∀ n, n ≤ l.length → (insB l n).length ≤ 100004 * n
  | 0, _ => by simp [insB]
  | n + 1, hn => by
    have := insB_len h n (by omega)
    have h2 := h l[n] (List.getElem_mem (by omega))
    rw [insB_succ (by omega), List.length_append, textB_len]; omega
theorem cutL3 (x y z : Value) : cutL [x, y, z] 0 3 = some [x, y, z] := rfl
theorem cellsOf_fn (f : FuncId) (x y : Array Value) : cellsOf (.func (.func f) x y) = some [.func (.func f) x y] := rfl
theorem right_few {d : DrvR} (h : rightR d = true) : d.name.length ≤ 60 ∧ d.inputs.length ≤ 64 ∧ d.recipe.length ≤ 262144 := by
  simp [rightR] at h; omega
theorem OB.bsl {M : AMem} {a : Option Addr} {n cap : Nat} {c : List UInt8} (h : OB M (.slice a n cap) c) : n = c.length ∧ BSl M a cap c := by
  obtain ⟨hl, b, hb, ⟨h1, h2⟩ | ⟨h1, wr, h2⟩⟩ := h
  · cases h1; exact ⟨rfl, .inr ⟨_, _, _, _, _, _, rfl, hb, h2, cutL_all (by simp), .inl ⟨rfl, rfl⟩⟩⟩
  · cases h1; exact ⟨rfl, .inr ⟨_, _, _, _, _, _, rfl, hb, h2, cutL_all (by simp), .inr ⟨openCap_lt (by omega), Nat.le_refl _⟩⟩⟩
theorem put_ok (m : AMem) (d : DrvR) (a : Option Addr) (c : Nat) (hd : d.ok) (ha : StrR m a d.inputs) :
    RelC Tryd.prog 3 12 [.agg (dRow d a c).toArray] m fun r m' => Old m m' ∧ if rightR d = true then ∃ a' c', r = .tuple #[.slice a' (putB d).length c', .int .i64 0] ∧ BSl m' a' c' (putB d) else r = .tuple #[.slice none 0 0, .int .i64 2] := by
  refine rel_of_W (fn := Tryd.f12) rfl rfl F12_ok (by simp [F12]) ?_
  have k16 := DetC.known (right_ok (mx m [.cells (dRow d a c) 24 true .exact]) d a c hd (ha.old (Old.here _ _)))
  simp only [dRow] at k16
  cases hr : rightR d with
  | false =>
    rw [hr] at k16
    repeat first | simp -implicitDefEqProofs (disch := first | omega | with_reducible assumption | (simp only [zU, zC]; omega)) only [zT, zA, reduceCtorEq, zB, zC, zD, zE, zF, zG, zH, zI, zJ, zK, zL, reduceIte, F12, dRow, cellsOf_dRow, cutL3, k16] | refine OrW.go ?_
    exact ⟨_, rfl, fun _ => rfl⟩
  | true =>
    rw [hr] at k16
    obtain ⟨f1, f2, f3⟩ := right_few hr
    have h4 : ¬ (4 : Nat) = openCap := openCap_ne (by omega)
    have hil := insB_len hd.inputs
    -- the variables
    have hO0 : Out (mx m [.cells [.string ⟨d.name.toArray⟩, .slice a d.inputs.length c, .string ⟨d.recipe.toArray⟩] 24 true .exact, .cells [.int .u8 68, .int .u8 82, .int .u8 86, .int .u8 49] 5 false .exact, .cells [.slice (some ⟨m.size + 1, 0, none⟩) 4 4] 27 true .exact, .cells [.func (.func 31) #[] #[.pointer (some ⟨m.size + 2, 0, none⟩)]] 54 true .exact]) (m.size + 2) (.slice (some ⟨m.size + 1, 0, none⟩) 4 4) headB :=
      ⟨by rw [mx_size]; simp, mx_new _ _ 2, by simp [headB], m.size + 1, by rw [mx_size]; simp, .inr ⟨rfl, false, mx_new _ _ 1⟩⟩
    have hq0 := mx_new m [.cells [.string ⟨d.name.toArray⟩, .slice a d.inputs.length c, .string ⟨d.recipe.toArray⟩] 24 true .exact, .cells [.int .u8 68, .int .u8 82, .int .u8 86, .int .u8 49] 5 false .exact, .cells [.slice (some ⟨m.size + 1, 0, none⟩) 4 4] 27 true .exact, .cells [.func (.func 31) #[] #[.pointer (some ⟨m.size + 2, 0, none⟩)]] 54 true .exact] 3
    have hb0 := mx_new0 m [.cells [.string ⟨d.name.toArray⟩, .slice a d.inputs.length c, .string ⟨d.recipe.toArray⟩] 24 true .exact, .cells [.int .u8 68, .int .u8 82, .int .u8 86, .int .u8 49] 5 false .exact, .cells [.slice (some ⟨m.size + 1, 0, none⟩) 4 4] 27 true .exact, .cells [.func (.func 31) #[] #[.pointer (some ⟨m.size + 2, 0, none⟩)]] 54 true .exact]
    have hOld0 := Old.here m [.cells [.string ⟨d.name.toArray⟩, .slice a d.inputs.length c, .string ⟨d.recipe.toArray⟩] 24 true .exact, .cells [.int .u8 68, .int .u8 82, .int .u8 86, .int .u8 49] 5 false .exact, .cells [.slice (some ⟨m.size + 1, 0, none⟩) 4 4] 27 true .exact, .cells [.func (.func 31) #[] #[.pointer (some ⟨m.size + 2, 0, none⟩)]] 54 true .exact]
    have hs0 := mx_size m [.cells [.string ⟨d.name.toArray⟩, .slice a d.inputs.length c, .string ⟨d.recipe.toArray⟩] 24 true .exact, .cells [.int .u8 68, .int .u8 82, .int .u8 86, .int .u8 49] 5 false .exact, .cells [.slice (some ⟨m.size + 1, 0, none⟩) 4 4] 27 true .exact, .cells [.func (.func 31) #[] #[.pointer (some ⟨m.size + 2, 0, none⟩)]] 54 true .exact]
    simp only [List.getD_cons_zero, List.getD_cons_succ, List.length_cons, List.length_nil, Nat.zero_add, zC] at hq0 hb0 hs0
    have ht := fun s hs => text_ok _ (m.size + 2) (m.size + 3) _ headB s hO0 hs (by rw [hs0]; omega) hq0
    repeat first | simp -implicitDefEqProofs (disch := first | omega | with_reducible assumption | (simp only [zU, zC]; omega)) only [zT, zA, reduceCtorEq, zB, zC, zD, zE, zF, zG, zH, zI, zJ, zK, zL, reduceIte, F12, dRow, cellsOf_dRow, cutL3, k16, h4, cellsOf_fn] | refine OrW.go ?_
    generalize mx m [.cells [.string ⟨d.name.toArray⟩, .slice a d.inputs.length c, .string ⟨d.recipe.toArray⟩] 24 true .exact, .cells [.int .u8 68, .int .u8 82, .int .u8 86, .int .u8 49] 5 false .exact, .cells [.slice (some ⟨m.size + 1, 0, none⟩) 4 4] 27 true .exact, .cells [.func (.func 31) #[] #[.pointer (some ⟨m.size + 2, 0, none⟩)]] 54 true .exact] = M0 at *
    -- what stays
    have keep : ∀ {v : Value} {M : AMem}, OStep (m.size + 2) (.slice (some ⟨m.size + 1, 0, none⟩) 4 4) M0 v M → Old m M ∧ M.get m.size = .cells [.string ⟨d.name.toArray⟩, .slice a d.inputs.length c, .string ⟨d.recipe.toArray⟩] 24 true .exact ∧ M.get (m.size + 3) = .cells [.func (.func 31) #[] #[.pointer (some ⟨m.size + 2, 0, none⟩)]] 54 true .exact ∧ m.size + 4 ≤ M.size := by
      intro v M hS
      have hk : ∀ y, y < M0.size → y ≠ m.size + 1 → y ≠ m.size + 2 → M.get y = M0.get y := fun y hy h1 h2 => hS.1.2 y hy (fun h => h.elim h2 fun ⟨o, l, k, e⟩ => by cases e; exact h1 rfl)
      have hsz := hS.1.1
      exact ⟨⟨by omega, fun y hy => by rw [hk y (by omega) (by omega) (by omega)]; exact hOld0.2 y hy⟩, by rw [hk _ (by omega) (by omega) (by omega)]; exact hb0, by rw [hk _ (by omega) (by omega) (by omega)]; exact hq0, by omega⟩
    refine RelC.call (ht d.name (by simp [headB]; omega)) ?_
    rintro r M1 ⟨rfl, v1, hO1, hS1⟩
    obtain ⟨o1, b1, q1, z1⟩ := keep hS1
    have hn := num_ok (mx M1 []) (m.size + 2) v1 _ d.inputs.length 2 (hO1.old (Old.here _ [])) (by simp [headB, textB_len]; omega) (by omega) (by omega)
    repeat first | simp -implicitDefEqProofs (disch := first | omega | with_reducible assumption | (simp only [zU, zC]; omega)) only [zT, zA, reduceCtorEq, zB, zC, zD, zE, zF, zG, zH, zI, zJ, zK, zL, reduceIte, b1, q1] | refine OrW.go ?_
    refine RelC.call hn ?_
    rintro r M2 ⟨rfl, v2, hO2, hS2⟩
    have hS2' := hS1.trans (hS2.pre (Old.here M1 []))
    obtain ⟨o2, b2, q2, z2⟩ := keep hS2'
    repeat first | simp -implicitDefEqProofs (disch := first | omega | with_reducible assumption | (simp only [zU, zC]; omega)) only [zT, zA, reduceCtorEq, zB, zC, zD, zE, zF, zG, zH, zI, zJ, zK, zL, reduceIte, b2, q2] | refine OrW.go ?_
    refine W_loop (fun N qs => ∃ (i : Nat) (M : AMem) (v : Value), N = d.inputs.length - i ∧ qs.ds = [] ∧ qs.m = mx M [] ∧ qs.t 1 = .pointer (some ⟨m.size, 0, none⟩) ∧ qs.t 4 = .pointer (some ⟨m.size + 2, 0, none⟩) ∧ qs.t 6 = .func (.func 32) #[] #[.pointer (some ⟨m.size + 3, 0, none⟩), .pointer (some ⟨m.size + 2, 0, none⟩)] ∧ qs.t 26 = .slice a d.inputs.length c ∧ qs.t 27 = .int .i64 d.inputs.length ∧ qs.t 28 = .int .i64 i ∧ i ≤ d.inputs.length ∧ Out M (m.size + 2) v (headB ++ textB d.name ++ numB d.inputs.length 2 ++ insB d.inputs i) ∧ OStep (m.size + 2) (.slice (some ⟨m.size + 1, 0, none⟩) 4 4) M0 v M) (d.inputs.length - (0)) ⟨0, M2, v2, rfl, rfl, ?qm, ?q1, ?q4, ?q6, ?q26, ?q27, ?q28, ?_⟩ ?_
    case qm | q1 | q4 | q6 | q26 | q27 | q28 => first | rfl | (simp -implicitDefEqProofs (disch := first | omega | with_reducible assumption | (simp only [zU, zC]; omega)) only [zT, zA, reduceCtorEq, zB, zC, zD, zE, zF, zG, zH, zI, zJ, zK, zL, reduceIte]; first | done | rfl | (congr 1; omega))
    · exact ⟨by omega, by simpa [insB] using hO2, hS2'⟩
    · rintro N t m1 ds ⟨i, M, v, rfl, hds, hm, t1, t4, t6, t26, t27, t28, hp⟩
      simp only at hds hm t1 t4 t6 t26 t27 t28
      subst hds; replace hm := hm.symm; subst hm
      obtain ⟨hi, hO, hS⟩ := hp
      obtain ⟨o3, b3, q3, z3⟩ := keep hS
      have hl1 := hil i hi
      by_cases g : (i : Int) < (d.inputs.length : Int)
      · have hi' : i < d.inputs.length := by omega
        obtain ⟨b, o, rfl, hb, hr1⟩ := ha i hi'
        have hbM : b < M.size := by omega
        have hr2 : rdO (M.get b) (o + i) 1 = some [.string ⟨d.inputs[i].toArray⟩] := by rw [o3.2 b hb]; exact hr1
        have hl2 := hd.inputs _ (List.getElem_mem hi')
        have hk := text_ok (mx M []) (m.size + 2) (m.size + 3) v _ d.inputs[i] (hO.old (Old.here _ [])) (by simp [headB, textB_len, numB_len]; omega) (by rw [mx_nil_size]; omega) (by rw [mx_old (by omega)]; exact q3)
        repeat first | simp -implicitDefEqProofs (disch := first | omega | with_reducible assumption | (simp only [zU, zC]; omega)) only [zT, zA, reduceCtorEq, zB, zC, zD, zE, zF, zG, zH, zI, zJ, zK, zL, reduceIte, F12_l0, t1, t4, t6, t26, t27, t28, g, hr2] | refine OrW.go ?_
        refine RelC.call hk ?_
        rintro r M3 ⟨rfl, v3, hO3, hS3⟩
        repeat first | simp -implicitDefEqProofs (disch := first | omega | with_reducible assumption | (simp only [zU, zC]; omega)) only [zT, zA, reduceCtorEq, zB, zC, zD, zE, zF, zG, zH, zI, zJ, zK, zL, reduceIte, t1, t4, t6, t26, t27, t28] | refine OrW.go ?_
        rw [LoopK_normal]; refine ⟨_, ?_, i + 1, M3, v3, rfl, rfl, ?qm, ?q1, ?q4, ?q6, ?q26, ?q27, ?q28, ?_⟩
        case qm | q1 | q4 | q6 | q26 | q27 | q28 => first | rfl | (simp -implicitDefEqProofs (disch := first | omega | with_reducible assumption | (simp only [zU, zC]; omega)) only [zT, zA, reduceCtorEq, zB, zC, zD, zE, zF, zG, zH, zI, zJ, zK, zL, reduceIte, t1, t4, t6, t26, t27, t28]; first | done | rfl | (congr 1; omega))
        · omega
        · exact ⟨by omega, by rw [insB_succ hi', ← List.append_assoc]; exact hO3, hS.trans (hS3.pre (Old.here _ _))⟩
      · obtain rfl : i = d.inputs.length := by omega
        have hk := text_ok (mx M []) (m.size + 2) (m.size + 3) v _ d.recipe (hO.old (Old.here _ [])) (by simp [headB, textB_len, numB_len]; omega) (by rw [mx_nil_size]; omega) (by rw [mx_old (by omega)]; exact q3)
        repeat first | simp -implicitDefEqProofs (disch := first | omega | with_reducible assumption | (simp only [zU, zC]; omega)) only [zT, zA, reduceCtorEq, zB, zC, zD, zE, zF, zG, zH, zI, zJ, zK, zL, reduceIte, F12_l0, t1, t4, t6, t26, t27, t28, g, b3] | refine OrW.go ?_
        refine RelC.call hk ?_
        rintro r M3 ⟨rfl, v3, hO3, hS3⟩
        obtain ⟨o4, -, -, -⟩ := keep (hS.trans (hS3.pre (Old.here M [])))
        have hg3 := hO3.get
        have hp3 := hO3.lt
        obtain ⟨av, cv, rfl⟩ := hO3.ob.len
        obtain ⟨-, hbs⟩ := hO3.ob.bsl
        repeat first | simp -implicitDefEqProofs (disch := first | omega | with_reducible assumption | (simp only [zU, zC]; omega)) only [zT, zA, reduceCtorEq, zB, zC, zD, zE, zF, zG, zH, zI, zJ, zK, zL, reduceIte, t1, t4, t6, t26, t27, t28, hg3] | refine OrW.go ?_
        exact ⟨_, rfl, fun _ => ⟨o4.mx [], av, cv, by simp [putB]; omega, hbs.old (Old.here _ [])⟩⟩
end Go.Proofs.YtgkmlbkocgjmmaaDoor
namespace Go.AM
set_option linter.unusedVariables false
set_option linter.unusedSimpArgs false
theorem cutL_part {X : List Value} {o : Nat} {c : List UInt8} (h : cutL X o c.length = some (c.map byteV)) {i n : Nat} (hn : i + n ≤ c.length) : cutL X (o + i) ((c.drop i).take n).length = some (((c.drop i).take n).map byteV) := by
  have h1 := cutL_drop h (k := i) (by omega)
  have h2 := cutL_take h1 (k := n) (by omega)
  rw [List.length_take, List.length_drop, Nat.min_eq_left (by omega), h2, List.map_take, List.map_drop]
theorem BSl.sub {m : AMem} {a : Option Addr} {cap : Nat} {c : List UInt8} (h : BSl m a cap c) (hcl : c.length < openCap) {i j : Nat} (hij : i ≤ j) (hj : j ≤ c.length) :
    ∃ a' c', slVv 1 (.slice a c.length cap) (some (.int .i64 (i : Int))) (some (.int .i64 (j : Int))) none m = some (.slice a' (j - i) c', m) ∧ BSl m a' c' ((c.drop i).take (j - i)) ∧ ∀ x o, a' = some ⟨x, o, none⟩ → ∃ o', a = some ⟨x, o', none⟩ := by
  have hc : ∀ len cap : Nat, j ≤ cap → cutV len cap (some (.int .i64 (i : Int))) (some (.int .i64 (j : Int))) none = some (i, j, cap) := fun len cap h2 => by
    simp only [cutV]; rw [if_pos (by omega)]; simp
  rcases h with ⟨rfl, rfl, rfl⟩ | ⟨x, o, X, e, w, sp, rfl, h2, h3, h4, h5⟩
  · obtain rfl : j = 0 := by simpa using hj
    obtain rfl : i = 0 := by omega
    refine ⟨none, 0, ?_, .inl ⟨rfl, rfl, by simp⟩, fun x o h => by cases h⟩
    simp only [slVv]
    rw [if_neg (Nat.ne_of_lt zeroCap_lt), hc _ _ (by simp)]
  · have hle := cutL_le h4
    have hp := cutL_part h4 (i := i) (n := j - i) (by omega)
    rcases h5 with ⟨rfl, hs⟩ | ⟨hlt, hle2⟩
    · refine ⟨some ⟨x, o + i, none⟩, openCap, ?_, .inr ⟨x, o + i, X, e, w, sp, rfl, h2, h3, hp, .inl ⟨rfl, hs⟩⟩, fun x o h => by cases h; exact ⟨_, rfl⟩⟩
      simp only [slVv, if_true, h3]
      rw [if_pos ⟨hs, by simp; omega⟩, hc _ _ (by simp; omega)]
      simp
    · by_cases hci : cap = i
      · refine ⟨some ⟨x, o, none⟩, cap - i, ?_, .inr ⟨x, o, X, e, w, sp, rfl, h2, h3, ?_, .inr ⟨by omega, by rw [List.length_take]; omega⟩⟩, fun x o h => by cases h; exact ⟨_, rfl⟩⟩
        · simp only [slVv]
          rw [if_neg (Nat.ne_of_lt hlt), hc _ _ (by omega)]
          simp [hci]
        · have : j - i = 0 := by omega
          rw [this, List.take_zero]; exact cutL_zero (by omega)
      · refine ⟨some ⟨x, o + i, none⟩, cap - i, ?_, .inr ⟨x, o + i, X, e, w, sp, rfl, h2, h3, hp, .inr ⟨by omega, by rw [List.length_take]; omega⟩⟩, fun x o h => by cases h; exact ⟨_, rfl⟩⟩
        simp only [slVv]
        rw [if_neg (Nat.ne_of_lt hlt), hc _ _ (by omega)]
        simp [hci]
theorem BSl.head {m : AMem} {a : Option Addr} {cap : Nat} {c : List UInt8} (h : BSl m a cap c) (hcl : c.length < openCap) {j : Nat} (hj : j ≤ c.length) :
    ∃ a' c', slVv 1 (.slice a c.length cap) none (some (.int .i64 (j : Int))) none m = some (.slice a' j c', m) ∧ BSl m a' c' (c.take j) ∧ ∀ x o, a' = some ⟨x, o, none⟩ → ∃ o', a = some ⟨x, o', none⟩ := by
  obtain ⟨a', c', h1, h2, h3⟩ := h.sub hcl (Nat.zero_le j) hj
  exact ⟨a', c', h1, h2, h3⟩
theorem BSl.rest {m : AMem} {a : Option Addr} {cap : Nat} {c : List UInt8} (h : BSl m a cap c) (hcl : c.length < openCap) {i : Nat} (hi : i ≤ c.length) :
    ∃ a' c', slVv 1 (.slice a c.length cap) (some (.int .i64 (i : Int))) none none m = some (.slice a' (c.length - i) c', m) ∧ BSl m a' c' (c.drop i) ∧ ∀ x o, a' = some ⟨x, o, none⟩ → ∃ o', a = some ⟨x, o', none⟩ := by
  obtain ⟨h1, h2⟩ := h.tail hcl hi
  rw [List.length_drop] at h1
  refine ⟨_, _, h1, h2, fun x o e => ?_⟩
  unfold tailA at e
  split at e
  · split at e <;> cases e <;> exact ⟨_, rfl⟩
  · cases e
end Go.AM
namespace Go.Proofs.YtgkmlbkocgjmmaaDoor
open Go Go.AM
set_option linter.unusedVariables false
set_option linter.unusedSimpArgs false
set_option maxHeartbeats 2000000
set_option maxRecDepth 100000

theorem equal_ok (m : AMem) (a1 : Option Addr) (k1 : Nat) (c1 : List UInt8) (h1 : BSl m a1 k1 c1) (a2 : Option Addr) (k2 : Nat) (c2 : List UInt8) (h2 : BSl m a2 k2 c2) :
    PureC Tryd.prog 3 86 [.slice a1 c1.length k1, .slice a2 c2.length k2] m (.bool (decide (c1 = c2))) := by
  refine pure_of_W (fn := Tryd.f86) rfl rfl F86_ok (by simp [F86]) (.bool _) ?_
  have s1 := (h1.old (Old.here m [])).str
  have s2 := (h2.old (Old.here m [])).str
  simp -implicitDefEqProofs (disch := first | omega | with_reducible assumption | (simp only [zU, zC]; omega)) only [zT, zA, reduceCtorEq, zB, zC, zD, zE, zF, zG, zH, zI, zJ, zK, zL, reduceIte, F86, stepOp_b2s_v, s1, s2]
  rw [strEq_mk]
theorem prefix_ok (m : AMem) (a1 : Option Addr) (k1 : Nat) (c1 : List UInt8) (h1 : BSl m a1 k1 c1) (a2 : Option Addr) (k2 : Nat) (c2 : List UInt8) (h2 : BSl m a2 k2 c2) (hl1 : c1.length ≤ 9223372036854775807) :
    PureC Tryd.prog 3 71 [.slice a1 c1.length k1, .slice a2 c2.length k2] m (.bool (decide (c1.take c2.length = c2 ∧ c2.length ≤ c1.length))) := by
  refine pure_of_W (fn := Tryd.f71) rfl rfl F71_ok (by simp [F71]) (.bool _) ?_
  by_cases g : (c2.length : Int) ≤ (c1.length : Int)
  · obtain ⟨a', c', q1, q2, -⟩ := (h1.old (Old.here m [])).head (openCap_lt hl1) (j := c2.length) (by omega)
    have k := DetC.known (equal_ok (mx m []) a' c' _ q2 a2 k2 c2 (h2.old (Old.here m [])))
    rw [List.length_take, Nat.min_eq_left (by omega)] at k
    repeat first | simp -implicitDefEqProofs (disch := first | omega | with_reducible assumption | (simp only [zU, zC]; omega)) only [zT, zA, reduceCtorEq, zB, zC, zD, zE, zF, zG, zH, zI, zJ, zK, zL, reduceIte, F71, g, stepOp_slV_v, q1, k] | refine OrW.go ?_
    have : c2.length ≤ c1.length := by omega
    simp [this]
  · repeat first | simp -implicitDefEqProofs (disch := first | omega | with_reducible assumption | (simp only [zU, zC]; omega)) only [zT, zA, reduceCtorEq, zB, zC, zD, zE, zF, zG, zH, zI, zJ, zK, zL, reduceIte, F71, g] | refine OrW.go ?_
    have : ¬ c2.length ≤ c1.length := by omega
    simp [this]
theorem cutPrefix_ok (m : AMem) (a1 : Option Addr) (k1 : Nat) (c1 : List UInt8) (h1 : BSl m a1 k1 c1) (a2 : Option Addr) (k2 : Nat) (c2 : List UInt8) (h2 : BSl m a2 k2 c2) (hl1 : c1.length ≤ 9223372036854775807) :
    RelC Tryd.prog 3 42 [.slice a1 c1.length k1, .slice a2 c2.length k2] m fun r m' => Old m m' ∧ if c1.take c2.length = c2 ∧ c2.length ≤ c1.length then ∃ a' c', r = .tuple #[.slice a' (c1.length - c2.length) c', .bool true] ∧ BSl m' a' c' (c1.drop c2.length) ∧ (∀ x o, a' = some ⟨x, o, none⟩ → ∃ o', a1 = some ⟨x, o', none⟩) else ∃ v, r = .tuple #[v, .bool false] := by
  refine rel_of_W (fn := Tryd.f42) rfl rfl F42_ok (by simp [F42]) ?_
  have k := DetC.known (prefix_ok (mx m []) a1 k1 c1 (h1.old (Old.here m [])) a2 k2 c2 (h2.old (Old.here m [])) hl1)
  by_cases g : c1.take c2.length = c2 ∧ c2.length ≤ c1.length
  · rw [decide_eq_true g] at k
    obtain ⟨a', c', q1, q2, q3⟩ := (h1.old (Old.here m [])).rest (openCap_lt hl1) (i := c2.length) g.2
    repeat first | simp -implicitDefEqProofs (disch := first | omega | with_reducible assumption | (simp only [zU, zC]; omega)) only [zT, zA, reduceCtorEq, zB, zC, zD, zE, zF, zG, zH, zI, zJ, zK, zL, reduceIte, F42, k, stepOp_slV_v, q1] | refine OrW.go ?_
    exact ⟨_, rfl, fun _ => ⟨_, _, rfl, q2, q3⟩⟩
  · rw [decide_eq_false g] at k
    repeat first | simp -implicitDefEqProofs (disch := first | omega | with_reducible assumption | (simp only [zU, zC]; omega)) only [zT, zA, reduceCtorEq, zB, zC, zD, zE, zF, zG, zH, zI, zJ, zK, zL, reduceIte, F42, k] | refine OrW.go ?_
    exact ⟨_, rfl, fun _ => ⟨_, rfl⟩⟩
end Go.Proofs.YtgkmlbkocgjmmaaDoor
namespace Go.Proofs.YtgkmlbkocgjmmaaDoor
open Go Go.AM
set_option linter.unusedVariables false
set_option linter.unusedSimpArgs false
set_option maxHeartbeats 2000000
set_option maxRecDepth 100000

def beN (l : List UInt8) : Nat := l.foldl (fun n c => n * 256 + c.toNat) 0
theorem beN_snoc (l : List UInt8) (c : UInt8) : beN (l ++ [c]) = beN l * 256 + c.toNat := by simp [beN]
theorem beN_go : ∀ (l : List UInt8) (n : Nat), l.foldl (fun n c => n * 256 + c.toNat) n + 1 ≤ (n + 1) * 256 ^ l.length
  | [], n => by simp
  | c :: l, n => by
    have ih := beN_go l (n * 256 + c.toNat)
    have hc := c.toNat_lt
    rw [List.foldl_cons, List.length_cons, Nat.pow_succ]
    refine Nat.le_trans ih ?_
    rw [Nat.mul_comm (256 ^ l.length) 256, ← Nat.mul_assoc]
    exact Nat.mul_le_mul_right _ (by omega)
theorem beN_lt (l : List UInt8) : beN l < 256 ^ l.length := by have := beN_go l 0; rw [Nat.zero_add, Nat.one_mul] at this; exact this
structure Rd where
  c : List UInt8
  bad : Bool
def takeR (s : Rd) (n : Nat) : List UInt8 × Rd := if s.bad || decide (s.c.length < n) then ([], ⟨s.c, true⟩) else (s.c.take n, ⟨s.c.drop n, false⟩)
def numR (s : Rd) (w : Nat) : Nat × Rd := (beN (takeR s w).1, (takeR s w).2)
def textR (s : Rd) : List UInt8 × Rd := takeR (numR s 4).2 (numR s 4).1
theorem takeR_len (s : Rd) (n : Nat) : (takeR s n).1.length ≤ n ∧ (takeR s n).1.length + (takeR s n).2.c.length = s.c.length := by
  unfold takeR
  split
  · simp
  · rename_i h
    simp at h
    simp; omega
structure RdAt (M : AMem) (B r : Nat) (s : Rd) : Prop where
  lt : r < M.size
  le : B ≤ r
  at_ : ∃ a k, M.get r = .cells [.slice a s.c.length k, .bool s.bad] 66 true .exact ∧ BSl M a k s.c ∧ ∀ x o, a = some ⟨x, o, none⟩ → x < B
theorem bsl_keep {M M' : AMem} {a : Option Addr} {k : Nat} {c : List UInt8} (h : BSl M a k c) {B : Nat} (hx : ∀ x o, a = some ⟨x, o, none⟩ → x < B) (hs : M.size ≤ M'.size) (hk : ∀ y, y < B → M'.get y = M.get y) : BSl M' a k c := by
  rcases h with h | ⟨b, o, X, e, w, sp, h1, h2, h3, h4⟩
  · exact .inl h
  · exact .inr ⟨b, o, X, e, w, sp, h1, Nat.lt_of_lt_of_le h2 hs, by rw [hk b (hx b o h1)]; exact h3, h4⟩
theorem RdAt.other {M M' : AMem} {B r : Nat} {s : Rd} (h : RdAt M B r s) (hs : M.size ≤ M'.size) (hk : ∀ y, y < B ∨ y = r → M'.get y = M.get y) : RdAt M' B r s := by
  obtain ⟨a, k, h1, h2, h3⟩ := h.at_
  exact ⟨Nat.lt_of_lt_of_le h.lt hs, h.le, a, k, by rw [hk r (.inr rfl)]; exact h1, bsl_keep h2 h3 hs fun y hy => hk y (.inl hy), h3⟩
theorem RdAt.old {M M' : AMem} {B r : Nat} {s : Rd} (h : RdAt M B r s) (ho : Old M M') : RdAt M' B r s := by
  obtain ⟨a, k, h1, h2, h3⟩ := h.at_
  exact ⟨Nat.lt_of_lt_of_le h.lt ho.1, h.le, a, k, by rw [ho.2 r h.lt]; exact h1, h2.old ho, h3⟩
abbrev RStep (r : Nat) (M M' : AMem) : Prop := Keep (fun x => x = r) M M'
theorem off_lt {a : Option Addr} {r : Nat} (h : ∀ x o, a = some ⟨x, o, none⟩ → x < r) : Off a r := fun x o e => by have := h x o e; omega
theorem rd_set {M : AMem} {B r : Nat} (hr : r < M.size) (hB : B ≤ r) {a : Option Addr} {k : Nat} {c : List UInt8} (b : Bool) (hb : BSl M a k c) (hx : ∀ x o, a = some ⟨x, o, none⟩ → x < B) :
    RdAt (M.set r (.cells [.slice a c.length k, .bool b] 66 true .exact)) B r ⟨c, b⟩ ∧ RStep r M (M.set r (.cells [.slice a c.length k, .bool b] 66 true .exact)) :=
  ⟨⟨by rw [AMem.size_set]; exact hr, hB, a, k, AMem.get_set_self _ _ _, hb.set (off_lt fun x o e => Nat.lt_of_lt_of_le (hx x o e) hB) _, hx⟩, (Keep.refl (fun x => x = r) M).set (fun _ => rfl) _⟩
theorem bsl_eqv {M : AMem} {a : Option Addr} {k : Nat} {c : List UInt8} (h : BSl (mx M []) a k c) : BSl M a k c := by
  rcases h with h | ⟨b, o, X, e, w, sp, h1, h2, h3, h4⟩
  · exact .inl h
  · rw [mx_nil_size] at h2
    rw [mx_old h2] at h3
    exact .inr ⟨b, o, X, e, w, sp, h1, h2, h3, h4⟩
theorem take_ok (M : AMem) (B r : Nat) (s : Rd) (n : Nat) (h : RdAt M B r s) (hl : s.c.length ≤ 1000000000) (hn : n ≤ 9000000000000000000) :
    RelC Tryd.prog 3 72 [.pointer (some ⟨r, 0, none⟩), .int .i64 n] M fun v m' => ∃ a k, v = .slice a (takeR s n).1.length k ∧ BSl m' a k (takeR s n).1 ∧ RdAt m' B r (takeR s n).2 ∧ RStep r M m' := by
  refine rel_of_W (fn := Tryd.f72) rfl rfl F72_ok (by simp [F72]) ?_
  obtain ⟨a, k, h1, h2, h3⟩ := h.at_
  have hr := h.lt
  obtain ⟨c, bad⟩ := s
  simp only at h1 h2 hl
  have hcl : c.length < openCap := openCap_lt (by omega)
  cases bad with
  | true =>
    have e : takeR ⟨c, true⟩ n = ([], ⟨c, true⟩) := by simp [takeR]
    rw [e]
    obtain ⟨f1, f2⟩ := rd_set hr h.le true h2 h3
    repeat first | simp -implicitDefEqProofs (disch := first | omega | with_reducible assumption | (simp only [zU, zC]; omega)) only [zT, zA, reduceCtorEq, zB, zC, zD, zE, zF, zG, zH, zI, zJ, zK, zL, reduceIte, F72, h1] | refine OrW.go ?_
    exact ⟨_, rfl, fun _ => ⟨none, 0, rfl, .inl ⟨rfl, rfl, rfl⟩, f1.old (Old.here _ []), f2.mx []⟩⟩
  | false =>
    by_cases g : (c.length : Int) < (n : Int)
    · have e : takeR ⟨c, false⟩ n = ([], ⟨c, true⟩) := by simp [takeR]; omega
      rw [e]
      obtain ⟨f1, f2⟩ := rd_set hr h.le true h2 h3
      repeat first | simp -implicitDefEqProofs (disch := first | omega | with_reducible assumption | (simp only [zU, zC]; omega)) only [zT, zA, reduceCtorEq, zB, zC, zD, zE, zF, zG, zH, zI, zJ, zK, zL, reduceIte, F72, h1, g] | refine OrW.go ?_
      exact ⟨_, rfl, fun _ => ⟨none, 0, rfl, .inl ⟨rfl, rfl, rfl⟩, f1.old (Old.here _ []), f2.mx []⟩⟩
    · have e : takeR ⟨c, false⟩ n = (c.take n, ⟨c.drop n, false⟩) := by
        unfold takeR; rw [if_neg]; simp; omega
      rw [e]
      obtain ⟨a1, k1, q1, q2, q3⟩ := (h2.old (Old.here M [])).head hcl (j := n) (by omega)
      obtain ⟨a2, k2, q4, q5, q6⟩ := (h2.old (Old.here M [])).rest hcl (i := n) (by omega)
      have q5' : BSl M a2 k2 (c.drop n) := bsl_eqv q5
      obtain ⟨f1, f2⟩ := rd_set hr h.le false q5' (fun x o e => by obtain ⟨o', e'⟩ := q6 x o e; exact h3 x o' e')
      rw [List.length_drop] at f1 f2
      have q2' : BSl M a1 k1 (c.take n) := bsl_eqv q2
      repeat first | simp -implicitDefEqProofs (disch := first | omega | with_reducible assumption | (simp only [zU, zC]; omega)) only [zT, zA, reduceCtorEq, zB, zC, zD, zE, zF, zG, zH, zI, zJ, zK, zL, reduceIte, F72, h1, g, stepOp_slV_v, q1, q4] | refine OrW.go ?_
      refine ⟨_, rfl, fun _ => ⟨a1, k1, by rw [List.length_take, Nat.min_eq_left (by omega)], (q2'.set (off_lt fun x o e => by obtain ⟨o', e'⟩ := q3 x o e; exact Nat.lt_of_lt_of_le (h3 x o' e') h.le) _).old (Old.here _ []), f1.old (Old.here _ []), f2.mx []⟩⟩
theorem num_shl (n : Nat) (h : n < 256 ^ 4) (k : Nat) (hk : k ≤ 24) : shl .i64 (n : Int) (k : Int) = ((n * 2 ^ k : Nat) : Int) := by
  have h2 : (2 : Nat) ^ k ≤ 2 ^ 24 := Nat.pow_le_pow_right (by omega) hk
  have h3 : n * 2 ^ k ≤ 256 ^ 4 * 2 ^ 24 := Nat.mul_le_mul (by omega) h2
  simp only [shl, Int.toNat_natCast, IntKind.bits]
  rw [Nat.min_eq_left (by omega), show (n : Int) * 2 ^ k = ((n * 2 ^ k : Nat) : Int) by norm_cast, wrap_i64 (by omega) (by omega)]
theorem num_or (n : Nat) (c : UInt8) (h : n < 256 ^ 4) : ibits .or .i64 (shl .i64 (n : Int) 8) (c.toNat : Int) = ((n * 256 + c.toNat : Nat) : Int) := by
  have hc := c.toNat_lt
  have := num_shl n h 8 (by omega)
  rw [show ((8 : Nat) : Int) = 8 from rfl] at this
  rw [this, ibits_or_nat (by simp [IntKind.max, IntKind.bits]; omega) (by simp [IntKind.max, IntKind.bits]; omega)]
  congr 1
  rw [show n * 2 ^ 8 = n <<< 8 by rw [Nat.shiftLeft_eq], ← Nat.shiftLeft_add_eq_or_of_lt hc, Nat.shiftLeft_eq]
theorem number_ok (M : AMem) (B r : Nat) (s : Rd) (w : Nat) (h : RdAt M B r s) (hl : s.c.length ≤ 1000000000) (hw : w ≤ 4) :
    RelC Tryd.prog 3 44 [.pointer (some ⟨r, 0, none⟩), .int .i64 w] M fun v m' => v = .int .i64 (numR s w).1 ∧ RdAt m' B r (numR s w).2 ∧ RStep r M m' := by
  refine rel_of_W (fn := Tryd.f44) rfl rfl F44_ok (by simp [F44]) ?_
  have hk := take_ok (mx M []) B r s w (h.old (Old.here _ [])) hl (by omega)
  have hlen := (takeR_len s w).1
  repeat first | simp -implicitDefEqProofs (disch := first | omega | with_reducible assumption | (simp only [zU, zC]; omega)) only [zT, zA, reduceCtorEq, zB, zC, zD, zE, zF, zG, zH, zI, zJ, zK, zL, reduceIte, F44] | refine OrW.go ?_
  refine RelC.call hk ?_
  rintro v M1 ⟨a, k, rfl, hB, hR, hS⟩
  have hS' : RStep r M M1 := ((Old.here M []).keep _).trans hS (fun _ _ h => h)
  have e : numR s w = (beN (takeR s w).1, (takeR s w).2) := rfl
  rw [e]
  generalize takeR s w = T at hB hR hlen
  obtain ⟨l, s'⟩ := T
  simp only at hB hR hlen
  repeat first | simp -implicitDefEqProofs (disch := first | omega | with_reducible assumption | (simp only [zU, zC]; omega)) only [zT, zA, reduceCtorEq, zB, zC, zD, zE, zF, zG, zH, zI, zJ, zK, zL, reduceIte] | refine OrW.go ?_
  refine W_loop (fun N qs => ∃ (i : Nat), N = l.length - i ∧ qs.ds = [] ∧ qs.m = mx M1 [] ∧ qs.t 5 = .int .i64 (beN (l.take i)) ∧ qs.t 10 = .slice a l.length k ∧ qs.t 11 = .int .i64 l.length ∧ qs.t 12 = .int .i64 i ∧ i ≤ l.length) (l.length - (0)) ⟨0, rfl, rfl, ?qm, ?q5, ?q10, ?q11, ?q12, ?_⟩ ?_
  case qm | q5 | q10 | q11 | q12 => first | rfl | (simp -implicitDefEqProofs (disch := first | omega | with_reducible assumption | (simp only [zU, zC]; omega)) only [zT, zA, reduceCtorEq, zB, zC, zD, zE, zF, zG, zH, zI, zJ, zK, zL, reduceIte, List.take_zero, beN, List.foldl_nil]; first | done | rfl | (congr 1; omega))
  · omega
  · rintro N t m1 ds ⟨i, rfl, hds, hm, t5, t10, t11, t12, hp⟩
    simp only at hds hm t5 t10 t11 t12
    subst hds; replace hm := hm.symm; subst hm
    by_cases g : (i : Int) < (l.length : Int)
    · have hi : i < l.length := by omega
      obtain ⟨b, o, rfl, hr⟩ := (hB.old (Old.here M1 [])).get hi
      rw [rd_def] at hr
      have hlt := beN_lt (l.take i)
      rw [List.length_take] at hlt
      have hlt2 : beN (l.take i) < 256 ^ 4 := Nat.lt_of_lt_of_le hlt (Nat.pow_le_pow_right (by omega) (by omega))
      have hsn : beN (l.take (i + 1)) = beN (l.take i) * 256 + l[i].toNat := by rw [List.take_succ_eq_append_getElem hi, beN_snoc]
      have w2 := num_or _ l[i] hlt2
      have hc := l[i].toNat_lt
      simp only [byteV] at hr
      repeat first | simp -implicitDefEqProofs (disch := first | omega | with_reducible assumption | (simp only [zU, zC]; omega)) only [zT, zA, reduceCtorEq, zB, zC, zD, zE, zF, zG, zH, zI, zJ, zK, zL, reduceIte, F44_l0, t5, t10, t11, t12, g, hr, w2, binV_shl] | refine OrW.go ?_
      rw [LoopK_normal]; refine ⟨_, ?_, i + 1, rfl, rfl, ?qm, ?q5, ?q10, ?q11, ?q12, ?_⟩
      case qm | q5 | q10 | q11 | q12 => first | rfl | (simp -implicitDefEqProofs (disch := first | omega | with_reducible assumption | (simp only [zU, zC]; omega)) only [zT, zA, reduceCtorEq, zB, zC, zD, zE, zF, zG, zH, zI, zJ, zK, zL, reduceIte, t5, t10, t11, t12, hsn]; first | done | rfl | (congr 1; omega))
      · omega
      · omega
    · obtain rfl : i = l.length := by omega
      rw [List.take_length] at t5
      repeat first | simp -implicitDefEqProofs (disch := first | omega | with_reducible assumption | (simp only [zU, zC]; omega)) only [zT, zA, reduceCtorEq, zB, zC, zD, zE, zF, zG, zH, zI, zJ, zK, zL, reduceIte, F44_l0, t5, t10, t11, t12, g] | refine OrW.go ?_
      exact ⟨_, rfl, fun _ => ⟨rfl, hR.old (Old.here _ []), hS'.mx []⟩⟩
theorem rtext_ok (M : AMem) (B r : Nat) (s : Rd) (h : RdAt M B r s) (hl : s.c.length ≤ 1000000000) :
    RelC Tryd.prog 3 43 [.pointer (some ⟨r, 0, none⟩)] M fun v m' => v = .string ⟨(textR s).1.toArray⟩ ∧ RdAt m' B r (textR s).2 ∧ RStep r M m' := by
  refine rel_of_W (fn := Tryd.f43) rfl rfl F43_ok (by simp [F43]) ?_
  have hk := number_ok (mx M []) B r s 4 (h.old (Old.here _ [])) hl (by omega)
  have e : textR s = takeR (numR s 4).2 (numR s 4).1 := rfl
  have hlt : (numR s 4).1 < 256 ^ 4 := Nat.lt_of_lt_of_le (beN_lt _) (Nat.pow_le_pow_right (by omega) (takeR_len s 4).1)
  have hln : (numR s 4).2.c.length ≤ 1000000000 := by have := (takeR_len s 4).2; show (takeR s 4).2.c.length ≤ _; omega
  rw [e]
  generalize numR s 4 = T at hk hlt hln
  repeat first | simp -implicitDefEqProofs (disch := first | omega | with_reducible assumption | (simp only [zU, zC]; omega)) only [zT, zA, reduceCtorEq, zB, zC, zD, zE, zF, zG, zH, zI, zJ, zK, zL, reduceIte, F43] | refine OrW.go ?_
  refine RelC.call hk ?_
  rintro v M1 ⟨rfl, hR, hS⟩
  have hk2 := take_ok (mx M1 []) B r T.2 T.1 (hR.old (Old.here _ [])) hln (by omega)
  repeat first | simp -implicitDefEqProofs (disch := first | omega | with_reducible assumption | (simp only [zU, zC]; omega)) only [zT, zA, reduceCtorEq, zB, zC, zD, zE, zF, zG, zH, zI, zJ, zK, zL, reduceIte] | refine OrW.go ?_
  refine RelC.call hk2 ?_
  rintro v M2 ⟨a, k, rfl, hB, hR2, hS2⟩
  have hstr := (hB.old (Old.here M2 [])).str
  have hS' : RStep r M M2 := (((Old.here M []).keep _).trans hS (fun _ _ h => h)).trans (((Old.here M1 []).keep _).trans hS2 (fun _ _ h => h)) (fun _ _ h => h)
  repeat first | simp -implicitDefEqProofs (disch := first | omega | with_reducible assumption | (simp only [zU, zC]; omega)) only [zT, zA, reduceCtorEq, zB, zC, zD, zE, zF, zG, zH, zI, zJ, zK, zL, reduceIte, stepOp_b2s_v, hstr] | refine OrW.go ?_
  exact ⟨_, rfl, fun _ => ⟨rfl, hR2.old (Old.here _ []), hS'.mx []⟩⟩
end Go.Proofs.YtgkmlbkocgjmmaaDoor
namespace Go.Proofs.YtgkmlbkocgjmmaaDoor
open Go Go.AM
set_option linter.unusedVariables false
set_option linter.unusedSimpArgs false
set_option maxHeartbeats 2000000
set_option maxRecDepth 100000

def sV (s : List UInt8) : Value := .string ⟨s.toArray⟩
def StrB (M : AMem) (v : Value) (ls : List (List UInt8)) : Prop := (ls = [] ∧ v = .slice none 0 0) ∨ ∃ b, v = .slice (some ⟨b, 0, none⟩) ls.length openCap ∧ b < M.size ∧ M.get b = .cells (ls.map sV) 9 true (.room [.string ⟨#[]⟩])
theorem StrB.len {M : AMem} {v : Value} {ls : List (List UInt8)} (h : StrB M v ls) : ∃ a cap, v = .slice a ls.length cap := by
  rcases h with ⟨rfl, rfl⟩ | ⟨b, rfl, _⟩
  · exact ⟨_, _, rfl⟩
  · exact ⟨_, _, rfl⟩
theorem StrB.keep {M M' : AMem} {v : Value} {ls : List (List UInt8)} (h : StrB M v ls) {O : Nat → Prop} (hk : Keep O M M') (hv : ∀ x, ownV v x → ¬ O x) : StrB M' v ls := by
  rcases h with h | ⟨b, rfl, h1, h2⟩
  · exact .inl h
  · exact .inr ⟨b, rfl, Nat.lt_of_lt_of_le h1 hk.1, by rw [hk.2 b h1 (hv b ⟨_, _, _, rfl⟩)]; exact h2⟩
theorem StrB.old {M M' : AMem} {v : Value} {ls : List (List UInt8)} (h : StrB M v ls) (ho : Old M M') : StrB M' v ls := h.keep (ho.keep fun _ => False) fun _ _ h => h
theorem StrB.is9 {M : AMem} {v : Value} {ls : List (List UInt8)} (h : StrB M v ls) {x : Nat} {X : List Value} {e : TypeId} {w : Bool} {sp : Spare} (hx : M.get x = .cells X e w sp) (he : e ≠ 9) : ¬ ownV v x := by
  rintro ⟨o, l, k, rfl⟩
  rcases h with ⟨_, h⟩ | ⟨b, h, h1, h2⟩
  · cases h
  · cases h; rw [h2] at hx; cases hx; exact he rfl
theorem StrB.row {M : AMem} {a : Option Addr} {n cap : Nat} {ls : List (List UInt8)} (h : StrB M (.slice a n cap) ls) : StrR M a ls := fun i hi => by
  rcases h with ⟨rfl, _⟩ | ⟨b, h, h1, h2⟩
  · simp at hi
  · cases h
    refine ⟨b, 0, rfl, h1, ?_⟩
    rw [h2, rdO_cells, Nat.zero_add]
    unfold cutL
    rw [if_pos (by rw [List.length_map]; omega), List.drop_eq_getElem_cons (by rw [List.length_map]; exact hi), List.getElem_map]; rfl
theorem one_strs (ls : List (List UInt8)) : (ls.map sV).all oneCell = true := by
  rw [List.all_eq_true]; intro x hx; simp only [List.mem_map] at hx; obtain ⟨y, _, rfl⟩ := hx; rfl
theorem eqPL_str : eqPL [Value.string ⟨#[]⟩] [Value.string ⟨#[]⟩] = true := by decide
theorem StrB.app {M : AMem} {v w : Value} {ls news : List (List UInt8)} (h : StrB M v ls) (hn : ls.length + news.length ≤ 1000000000) (hw : srcLen w = some news.length) (hs : srcCells 1 news.length w (mx M []) = some (news.map sV)) :
    ∃ v' M', appV 9 1 16 [.string ⟨#[]⟩] v w (mx M []) = some (v', mx M' []) ∧ StrB M' v' (ls ++ news) ∧ Keep (ownV v) M M' ∧ ∀ x, ownV v' x → ownV v x ∨ M.size ≤ x := by
  have happ : appV 9 1 16 [.string ⟨#[]⟩] v w (mx M []) = appendTo 9 1 16 [.string ⟨#[]⟩] v news.length (news.map sV) (mx M []) := by
    simp only [appV, hw, hs]
    rw [if_pos ⟨rfl, by omega, one_strs _, by simp⟩]
  rw [happ]
  have hlen : (ls ++ news).length = ls.length + news.length := List.length_append
  by_cases h0 : news = []
  · subst h0
    refine ⟨v, M, ?_, by rw [List.append_nil]; exact h, .refl _ _, fun x h => .inl h⟩
    rcases h with ⟨rfl, rfl⟩ | ⟨b, rfl, hb, h2⟩
    · rfl
    · simp only [appendTo, if_true, mx_old hb, h2, List.length_nil, List.length_map]
      rw [if_pos (show (Spare.room [Value.string ⟨#[]⟩]).size = 1 from rfl), if_pos (by omega)]
  · have hg : 0 < news.length := List.length_pos_iff.2 h0
    rcases h with ⟨rfl, rfl⟩ | ⟨b, rfl, hb, h2⟩
    · refine ⟨.slice (some ⟨M.size, 0, none⟩) news.length openCap, mx M [.cells (news.map sV) 9 true (.room [.string ⟨#[]⟩])], ?_, .inr ⟨M.size, rfl, by rw [mx_size]; simp, mx_new0 _ _⟩, (Keep.refl _ _).mx _, fun x ⟨o, l, c, h⟩ => by cases h; exact .inr (Nat.le_refl _)⟩
      rw [appendTo_nil hg (by simp only [List.length_nil] at hn; omega) (by simp only [List.length_nil] at hn; omega), mx_push, mx_nil_size, mx_mx]; rfl
    · refine ⟨.slice (some ⟨M.size, 0, none⟩) (ls.length + news.length) openCap, mx (M.set b .dead) [.cells ((ls ++ news).map sV) 9 true (.room [.string ⟨#[]⟩])], ?_, .inr ⟨M.size, by rw [hlen], by rw [mx_size, AMem.size_set]; simp, ?_⟩, ((Keep.refl _ M).set (fun _ => ⟨_, _, _, rfl⟩) _).mx _, fun x ⟨o, l, k, hx⟩ => by cases hx; exact .inr (Nat.le_refl _)⟩
      · rw [appendTo_open (sz := 1) (z' := [.string ⟨#[]⟩]) ((mx_old hb).trans h2) eqPL_str rfl (by omega) (by simp) hg (by omega) (by omega), mx_set_old hb, mx_push, mx_nil_size, mx_mx, ← List.map_append]; rfl
      · have := mx_new0 (M.set b .dead) [.cells ((ls ++ news).map sV) 9 true (.room [.string ⟨#[]⟩])]
        rw [AMem.size_set] at this; exact this

def readIns : Nat → Rd → List (List UInt8) × Rd
  | 0, s => ([], s)
  | n + 1, s => if s.bad then ([], s) else ((textR s).1 :: (readIns n (textR s).2).1, (readIns n (textR s).2).2)
def nilD : DrvR := ⟨[], [], []⟩
def partsR (c : List UInt8) : DrvR × Rd :=
  let nm := textR ⟨c, false⟩
  let k := numR nm.2 2
  let ins := readIns k.1 k.2
  let rec_ := textR ins.2
  (⟨nm.1, ins.1, rec_.1⟩, rec_.2)
def getR (b : List UInt8) : DrvR × Int :=
  if b.take 4 = headB ∧ 4 ≤ b.length then
    (if !(partsR (b.drop 4)).2.bad && decide ((partsR (b.drop 4)).2.c.length = 0) && rightR (partsR (b.drop 4)).1 then ((partsR (b.drop 4)).1, 0) else (nilD, 150))
  else (nilD, 150)
theorem splice3 (a b c x y z : Value) : splice [a, b, c] 0 [x, y, z] = [x, y, z] := rfl
theorem bsl_lt {M : AMem} {a : Option Addr} {k : Nat} {c : List UInt8} (h : BSl M a k c) : ∀ x o, a = some ⟨x, o, none⟩ → x < M.size := by
  rintro x o rfl
  rcases h with ⟨h, _⟩ | ⟨b, o', X, e, w, sp, h1, h2, _⟩
  · cases h
  · cases h1; exact h2
theorem textR_len (s : Rd) : (textR s).1.length + (textR s).2.c.length ≤ s.c.length := by
  have h1 := (takeR_len s 4).2
  have h2 := (takeR_len (numR s 4).2 (numR s 4).1).2
  have h3 : (numR s 4).2.c.length = (takeR s 4).2.c.length := rfl
  unfold textR; omega
theorem readIns_len : ∀ (n : Nat) (s : Rd), (readIns n s).1.length ≤ n ∧ (readIns n s).2.c.length ≤ s.c.length ∧ ∀ x ∈ (readIns n s).1, x.length ≤ s.c.length
  | 0, s => ⟨Nat.le_refl _, Nat.le_refl _, fun x hx => by cases hx⟩
  | n + 1, s => by
    unfold readIns
    split
    · exact ⟨Nat.zero_le _, Nat.le_refl _, fun x hx => by cases hx⟩
    · obtain ⟨h1, h2, h3⟩ := readIns_len n (textR s).2
      have := textR_len s
      refine ⟨by simp; omega, by show (readIns n (textR s).2).2.c.length ≤ _; omega, fun x hx => ?_⟩
      rcases List.mem_cons.1 hx with rfl | hx
      · omega
      · have := h3 x hx; omega
theorem get_ok (m : AMem) (a : Option Addr) (k : Nat) (b : List UInt8) (hb : BSl m a k b) (hl : b.length ≤ 100000) :
    RelC Tryd.prog 3 18 [.slice a b.length k] m fun r m' => Old m m' ∧ ∃ a' k', r = .tuple #[.agg (dRow (getR b).1 a' k').toArray, .int .i64 (getR b).2] ∧ StrR m' a' (getR b).1.inputs := by
  refine rel_of_W (fn := Tryd.f18) rfl rfl F18_ok (by simp [F18]) ?_
  simp -implicitDefEqProofs (disch := first | omega | with_reducible assumption | (simp only [zU, zC]; omega)) only [zT, zA, reduceCtorEq, zB, zC, zD, zE, zF, zG, zH, zI, zJ, zK, zL, reduceIte, F18]
  refine W_scope (fun n s => n = 0 ∧ getR b = (nilD, 150) ∧ s.ds = [] ∧ s.t 2 = .pointer (some ⟨m.size, 0, none⟩) ∧ ∃ M, s.m = mx M [] ∧ Old m M ∧ m.size < M.size ∧ M.get m.size = .cells [.string ⟨#[]⟩, .slice none 0 0, .string ⟨#[]⟩] 24 true .exact) ?_ ?_
  · have h4 : ¬ (4 : Nat) = openCap := openCap_ne (by omega)
    have hcp := cutPrefix_ok (mx m [.cells [.string ⟨#[]⟩, .slice none 0 0, .string ⟨#[]⟩] 24 true .exact, .cells [.string ⟨#[]⟩, .slice none 0 0, .string ⟨#[]⟩] 24 true .exact, .cells [.int .u8 68, .int .u8 82, .int .u8 86, .int .u8 49] 5 false .exact]) a k b (hb.old (Old.here _ _)) (some ⟨m.size + 2, 0, none⟩) 4 headB
      (.inr ⟨_, _, _, _, _, _, rfl, by rw [mx_size]; simp, mx_new _ _ 2, rfl, .inr ⟨openCap_lt (by omega), by simp [headB]⟩⟩) (by omega)
    repeat first | simp -implicitDefEqProofs (disch := first | omega | with_reducible assumption | (simp only [zU, zC]; omega)) only [zT, zA, reduceCtorEq, zB, zC, zD, zE, zF, zG, zH, zI, zJ, zK, zL, reduceIte, F18_c0, h4] | refine OrW.go ?_
    refine RelC.call hcp ?_
    rintro r M1 ⟨hO1, hr⟩
    have hOm : Old m M1 := (Old.here m _).trans hO1
    have hz := hO1.1
    rw [mx_size] at hz
    simp only [List.length_cons, List.length_nil, Nat.zero_add, zC] at hz
    have g0 : M1.get m.size = .cells [.string ⟨#[]⟩, .slice none 0 0, .string ⟨#[]⟩] 24 true .exact := by rw [hO1.2 _ (by rw [mx_size]; simp)]; exact mx_new0 _ _
    have g1 : M1.get (m.size + 1) = .cells [.string ⟨#[]⟩, .slice none 0 0, .string ⟨#[]⟩] 24 true .exact := by rw [hO1.2 _ (by rw [mx_size]; simp)]; exact mx_new _ _ 1
    by_cases hp : List.take headB.length b = headB ∧ headB.length ≤ b.length
    case neg =>
      rw [if_neg hp] at hr
      obtain ⟨v, rfl⟩ := hr
      have he : getR b = (nilD, 150) := if_neg hp
      repeat first | simp -implicitDefEqProofs (disch := first | omega | with_reducible assumption | (simp only [zU, zC]; omega)) only [zT, zA, reduceCtorEq, zB, zC, zD, zE, zF, zG, zH, zI, zJ, zK, zL, reduceIte] | refine OrW.go ?_
      exact ⟨0, rfl, he, M1, rfl, hOm, by omega, g0⟩
    rw [if_pos hp] at hr
    obtain ⟨a1, c1, rfl, hB, hBx⟩ := hr
    have he : getR b = if !(partsR (b.drop 4)).2.bad && decide ((partsR (b.drop 4)).2.c.length = 0) && rightR (partsR (b.drop 4)).1 then ((partsR (b.drop 4)).1, 0) else (nilD, 150) := if_pos hp
    have h4b : 4 ≤ b.length := hp.2
    have hBl : (b.drop 4).length = b.length - 4 := List.length_drop
    have hax := bsl_lt hb
    have hR0 : RdAt (mx M1 [.cells [.slice a1 (b.length - 4) c1, .bool false] 66 true .exact]) m.size M1.size ⟨b.drop 4, false⟩ := ⟨by rw [mx_size]; simp, hOm.1, a1, c1, by rw [mx_new0]; simp [hBl], hB.old (Old.here _ _), fun x o e => by obtain ⟨o', e'⟩ := hBx x o e; exact hax x o' e'⟩
    have hpt : partsR (b.drop 4) = (⟨(textR ⟨b.drop 4, false⟩).1, (readIns (numR (textR ⟨b.drop 4, false⟩).2 2).1 (numR (textR ⟨b.drop 4, false⟩).2 2).2).1, (textR (readIns (numR (textR ⟨b.drop 4, false⟩).2 2).1 (numR (textR ⟨b.drop 4, false⟩).2 2).2).2).1⟩, (textR (readIns (numR (textR ⟨b.drop 4, false⟩).2 2).1 (numR (textR ⟨b.drop 4, false⟩).2 2).2).2).2) := rfl
    rw [hpt] at he
    have l0 := textR_len ⟨b.drop 4, false⟩
    simp only [hBl] at l0
    have hk1 := rtext_ok _ m.size M1.size _ hR0 (by show (b.drop 4).length ≤ _; omega)
    generalize textR ⟨b.drop 4, false⟩ = T1 at hk1 he l0
    obtain ⟨nm, s1⟩ := T1
    simp only at hk1 he l0
    repeat first | simp -implicitDefEqProofs (disch := first | omega | with_reducible assumption | (simp only [zU, zC]; omega)) only [zT, zA, reduceCtorEq, zB, zC, zD, zE, zF, zG, zH, zI, zJ, zK, zL, reduceIte, headB] | refine OrW.go ?_
    refine RelC.call hk1 ?_
    rintro v M2 ⟨rfl, hR1, hS1⟩
    have o2 : Old M1 M2 := ⟨by have := hS1.1; rw [mx_size] at this; omega, fun y hy => by rw [hS1.2 y (by rw [mx_size]; omega) (by omega), mx_old hy]⟩
    have g02 : M2.get m.size = .cells [.string ⟨#[]⟩, .slice none 0 0, .string ⟨#[]⟩] 24 true .exact := by rw [o2.2 _ (by omega)]; exact g0
    have g12 : M2.get (m.size + 1) = .cells [.string ⟨#[]⟩, .slice none 0 0, .string ⟨#[]⟩] 24 true .exact := by rw [o2.2 _ (by omega)]; exact g1
    have z2 := o2.1
    have o2m : Old m M2 := hOm.trans o2
    -- the machine's state: the answer's place, the derivation's, the reader
    let St : AMem → List UInt8 → Value → List UInt8 → Rd → Prop := fun M n v rc s => Old m M ∧ M1.size < M.size ∧ M.get m.size = .cells [.string ⟨#[]⟩, .slice none 0 0, .string ⟨#[]⟩] 24 true .exact ∧ M.get (m.size + 1) = .cells [.string ⟨n.toArray⟩, v, .string ⟨rc.toArray⟩] 24 true .exact ∧ RdAt M m.size M1.size s
    have put1 : ∀ {M : AMem} {n : List UInt8} {v : Value} {rc : List UInt8} {s : Rd}, St M n v rc s → ∀ (n' : List UInt8) (v' : Value) (rc' : List UInt8), St (M.set (m.size + 1) (.cells [.string ⟨n'.toArray⟩, v', .string ⟨rc'.toArray⟩] 24 true .exact)) n' v' rc' s := by
      rintro M n v rc s ⟨e1, e2, e3, e4, e5⟩ n' v' rc'
      exact ⟨e1.set (by omega) _, by rw [AMem.size_set]; exact e2, by rw [AMem.get_set_ne _ _ (by omega)]; exact e3, AMem.get_set_self _ _ _, e5.other (by rw [AMem.size_set]; exact Nat.le_refl _) fun y hy => AMem.get_set_ne _ _ (by omega)⟩
    have step : ∀ {M M' : AMem} {n : List UInt8} {v : Value} {rc : List UInt8} {s s' : Rd}, St M n v rc s → RStep M1.size (mx M []) M' → RdAt M' m.size M1.size s' → St M' n v rc s' := by
      rintro M M' n v rc s s' ⟨e1, e2, e3, e4, e5⟩ hS hR
      have hk : ∀ y, y < M.size → y ≠ M1.size → M'.get y = M.get y := fun y hy h => by rw [hS.2 y (by rw [mx_nil_size]; exact hy) h, mx_old hy]
      have hs := hS.1
      rw [mx_nil_size] at hs
      exact ⟨⟨Nat.le_trans e1.1 hs, fun y hy => by rw [hk y (by have := e1.1; omega) (by omega)]; exact e1.2 y hy⟩, by omega, by rw [hk _ (by omega) (by omega)]; exact e3, by rw [hk _ (by omega) (by omega)]; exact e4, hR⟩
    have st2 : St M2 [] (.slice none 0 0) [] s1 := ⟨o2m, by have := hS1.1; rw [mx_size] at this; simp at this; omega, g02, g12, hR1⟩
    have st3 := put1 st2 nm (.slice none 0 0) []
    have hk2 := number_ok (mx (M2.set (m.size + 1) (.cells [.string ⟨nm.toArray⟩, .slice none 0 0, .string ⟨#[]⟩] 24 true .exact)) []) m.size M1.size s1 2 (st3.2.2.2.2.old (Old.here _ [])) (by omega) (by omega)
    have ln : (numR s1 2).1 < 256 ^ 2 := Nat.lt_of_lt_of_le (beN_lt _) (Nat.pow_le_pow_right (by omega) (takeR_len s1 2).1)
    have ls : (numR s1 2).2.c.length ≤ s1.c.length := by have := (takeR_len s1 2).2; show (takeR s1 2).2.c.length ≤ _; omega
    generalize numR s1 2 = T2 at hk2 he ln ls
    obtain ⟨n0, s2⟩ := T2
    simp only at hk2 he ln ls
    repeat first | simp -implicitDefEqProofs (disch := first | omega | with_reducible assumption | (simp only [zU, zC]; omega)) only [zT, zA, reduceCtorEq, zB, zC, zD, zE, zF, zG, zH, zI, zJ, zK, zL, reduceIte, g12] | refine OrW.go ?_
    refine RelC.call hk2 ?_
    rintro v M3 ⟨rfl, hR3, hS3⟩
    have st4 := step st3 hS3 hR3
    repeat first | simp -implicitDefEqProofs (disch := first | omega | with_reducible assumption | (simp only [zU, zC]; omega)) only [zT, zA, reduceCtorEq, zB, zC, zD, zE, zF, zG, zH, zI, zJ, zK, zL, reduceIte] | refine OrW.go ?_
    refine W_loop (fun N qs => ∃ (n : Nat) (M : AMem) (acc : List (List UInt8)) (av : Option Addr) (cv : Nat) (s : Rd), N = n + 1 ∧ qs.ds = [] ∧ qs.m = mx M [] ∧ qs.t 2 = .pointer (some ⟨m.size, 0, none⟩) ∧ qs.t 4 = .pointer (some ⟨m.size + 1, 0, none⟩) ∧ qs.t 5 = .pointer (some ⟨M1.size, 0, none⟩) ∧ qs.t 8 = .int .i64 n ∧ St M nm (.slice av acc.length cv) [] s ∧ StrB M (.slice av acc.length cv) acc ∧ (∀ x, ownV (.slice av acc.length cv) x → M1.size < x) ∧ acc ++ (readIns n s).1 = (readIns n0 s2).1 ∧ (readIns n s).2 = (readIns n0 s2).2 ∧ s.c.length ≤ s2.c.length ∧ n ≤ n0) ((n0) + 1) ⟨n0, M3, [], none, 0, s2, rfl, rfl, ?qm, ?q2, ?q4, ?q5, ?q8, ?_⟩ ?_
    case qm | q2 | q4 | q5 | q8 => first | rfl | (simp -implicitDefEqProofs (disch := first | omega | with_reducible assumption | (simp only [zU, zC]; omega)) only [zT, zA, reduceCtorEq, zB, zC, zD, zE, zF, zG, zH, zI, zJ, zK, zL, reduceIte]; first | done | rfl | (congr 1; omega))
    · exact ⟨st4, .inl ⟨rfl, rfl⟩, fun x ⟨o, l, c, h⟩ => by (cases h), rfl, rfl, Nat.le_refl _, Nat.le_refl _⟩
    · rintro N t m1 ds ⟨n, M, acc, av, cv, s, rfl, hds, hm, t2, t4, t5, t8, hp⟩
      simp only at hds hm t2 t4 t5 t8
      subst hds; replace hm := hm.symm; subst hm
      obtain ⟨hSt, hB5, hown, hacc, hrd, hsl, hnn⟩ := hp
      obtain ⟨e1, e2, e3, e4, e5⟩ := hSt
      obtain ⟨ra, rk, rg, -, -⟩ := e5.at_
      have e0 : m.size + 1 < M.size := by omega
      cases n with
      | zero =>
        have hri : readIns n0 s2 = (acc, s) := Prod.ext (by rw [← hacc]; simp [readIns]) (by rw [← hrd]; rfl)
        rw [hri] at he
        simp only at he
        have hk5 := rtext_ok (mx M []) m.size M1.size s (e5.old (Old.here _ [])) (by omega)
        have l5 := textR_len s
        have hil := readIns_len n0 s2
        rw [hri] at hil
        generalize textR s = T5 at hk5 he l5
        obtain ⟨rc, s5⟩ := T5
        simp only at hk5 he l5 hil
        repeat first | simp -implicitDefEqProofs (disch := first | omega | with_reducible assumption | (simp only [zU, zC]; omega)) only [zT, zA, reduceCtorEq, zB, zC, zD, zE, zF, zG, zH, zI, zJ, zK, zL, reduceIte, F18_l1, t2, t4, t5, t8] | refine OrW.go ?_
        refine RelC.call hk5 ?_
        rintro v M5 ⟨rfl, hR5, hS5⟩
        obtain ⟨q1, q2, q3, q4, q5⟩ := step (n := nm) (v := .slice av acc.length cv) (rc := []) ⟨e1, e2, e3, e4, e5⟩ hS5 hR5
        obtain ⟨ra5, rk5, rg5, -, -⟩ := q5.at_
        have q0 : m.size + 1 < M5.size := by omega
        have hBa : StrB M5 (.slice av acc.length cv) acc := (hB5.old (Old.here M [])).keep hS5 fun x hx e => by have := hown x hx; omega
        obtain ⟨w1, w2, w3, w4, w5⟩ := put1 ⟨q1, q2, q3, q4, q5⟩ nm (.slice av acc.length cv) rc
        have hBb : StrB (M5.set (m.size + 1) (.cells [.string ⟨nm.toArray⟩, .slice av acc.length cv, .string ⟨rc.toArray⟩] 24 true .exact)) (.slice av acc.length cv) acc := hBa.keep ((Keep.refl (fun x => x = m.size + 1) M5).set (fun _ => rfl) _) fun x hx e => by have := hown x hx; omega
        have hdok : (⟨nm, acc, rc⟩ : DrvR).ok := ⟨by show nm.length ≤ _; omega, fun x hx => by have := hil.2.2 x hx; omega, by show acc.length ≤ _; omega, by show rc.length ≤ _; omega⟩
        have k16 := DetC.known (right_ok (mx (M5.set (m.size + 1) (.cells [.string ⟨nm.toArray⟩, .slice av acc.length cv, .string ⟨rc.toArray⟩] 24 true .exact)) []) ⟨nm, acc, rc⟩ av cv hdok (hBb.old (Old.here _ [])).row)
        simp only [dRow] at k16
        have w0 : M1.size < (M5.set (m.size + 1) (.cells [.string ⟨nm.toArray⟩, .slice av acc.length cv, .string ⟨rc.toArray⟩] 24 true .exact)).size := w2
        have fin0 : ∀ M', Old m M' → m.size < M'.size → getR b = (nilD, 150) → ∃ v, AEnd.ret (.tuple #[.agg (dRow nilD none 0).toArray, .int .i64 150]) = .ret v ∧ (m.size ≤ M'.size → Old m M' ∧ ∃ a' k', v = .tuple #[.agg (dRow (getR b).1 a' k').toArray, .int .i64 (getR b).2] ∧ StrR M' a' (getR b).1.inputs) := by
          intro M' h1 h2 h3
          rw [h3]
          exact ⟨_, rfl, fun _ => ⟨h1, none, 0, rfl, fun i hi => by simp [nilD] at hi⟩⟩
        cases hb5 : s5.bad with
        | true =>
          rw [hb5] at rg5
          have he2 : getR b = (nilD, 150) := by rw [he, hb5]; rfl
          repeat first | simp -implicitDefEqProofs (disch := first | omega | with_reducible assumption | (simp only [zU, zC]; omega)) only [zT, zA, reduceCtorEq, zB, zC, zD, zE, zF, zG, zH, zI, zJ, zK, zL, reduceIte, t2, t4, t5, t8, q3, q4, rg5, cellsOf_dRow, splice3, cutL3] | refine OrW.go ?_
          refine ⟨_, rfl, fun _ => ⟨(w1.set (Nat.le_refl _) _).mx [], none, 0, by rw [he2]; rfl, by rw [he2]; exact fun i hi => by simp [nilD] at hi⟩⟩
        | false =>
          rw [hb5] at rg5
          by_cases hc5 : (s5.c.length : Int) = 0
          · cases hrr : rightR ⟨nm, acc, rc⟩ with
            | true =>
              rw [hrr] at k16
              have hc6 : s5.c.length = 0 := by omega
              have he2 : getR b = (⟨nm, acc, rc⟩, 0) := by rw [he, hb5, hrr, hc6]; rfl
              repeat first | simp -implicitDefEqProofs (disch := first | omega | with_reducible assumption | (simp only [zU, zC]; omega)) only [zT, zA, reduceCtorEq, zB, zC, zD, zE, zF, zG, zH, zI, zJ, zK, zL, reduceIte, t2, t4, t5, t8, q3, q4, rg5, hc5, cutL3, k16, cellsOf_dRow, splice3] | refine OrW.go ?_
              refine ⟨_, rfl, fun _ => ⟨(w1.set (Nat.le_refl _) _).mx [], av, cv, by rw [he2]; rfl, by rw [he2]; exact ((hBb.keep ((Keep.refl (fun x => x = m.size) _).set (fun _ => rfl) _) fun x hx e => by have := hown x hx; omega).old (Old.here _ [])).row⟩⟩
            | false =>
              rw [hrr] at k16
              have he2 : getR b = (nilD, 150) := by rw [he, hb5, hrr]; simp
              repeat first | simp -implicitDefEqProofs (disch := first | omega | with_reducible assumption | (simp only [zU, zC]; omega)) only [zT, zA, reduceCtorEq, zB, zC, zD, zE, zF, zG, zH, zI, zJ, zK, zL, reduceIte, t2, t4, t5, t8, q3, q4, rg5, hc5, cutL3, k16, cellsOf_dRow, splice3] | refine OrW.go ?_
              refine ⟨_, rfl, fun _ => ⟨(w1.set (Nat.le_refl _) _).mx [], none, 0, by rw [he2]; rfl, by rw [he2]; exact fun i hi => by simp [nilD] at hi⟩⟩
          · have hc6 : ¬ s5.c.length = 0 := by omega
            have he2 : getR b = (nilD, 150) := by rw [he, hb5]; simp [hc6]
            repeat first | simp -implicitDefEqProofs (disch := first | omega | with_reducible assumption | (simp only [zU, zC]; omega)) only [zT, zA, reduceCtorEq, zB, zC, zD, zE, zF, zG, zH, zI, zJ, zK, zL, reduceIte, t2, t4, t5, t8, q3, q4, rg5, hc5, undef, cellsOf_dRow, splice3, cutL3] | refine OrW.go ?_
            refine ⟨_, rfl, fun _ => ⟨(w1.set (Nat.le_refl _) _).mx [], none, 0, by rw [he2]; rfl, by rw [he2]; exact fun i hi => by simp [nilD] at hi⟩⟩
      | succ n =>
        have g8 : (0 : Int) < ((n + 1 : Nat) : Int) := by omega
        have e18 : ((n + 1 : Nat) : Int) - 1 = (n : Int) := by omega
        cases hbad : s.bad with
        | true =>
          rw [hbad] at rg
          have hri : readIns n0 s2 = (acc, s) := Prod.ext (by rw [← hacc]; simp [readIns, hbad]) (by rw [← hrd]; simp [readIns, hbad])
          rw [hri] at he
          simp only at he
          have hk5 := rtext_ok (mx M []) m.size M1.size s (e5.old (Old.here _ [])) (by omega)
          have l5 := textR_len s
          have hil := readIns_len n0 s2
          rw [hri] at hil
          generalize textR s = T5 at hk5 he l5
          obtain ⟨rc, s5⟩ := T5
          simp only at hk5 he l5 hil
          repeat first | simp -implicitDefEqProofs (disch := first | omega | with_reducible assumption | (simp only [zU, zC]; omega)) only [zT, zA, reduceCtorEq, zB, zC, zD, zE, zF, zG, zH, zI, zJ, zK, zL, reduceIte, F18_l1, t2, t4, t5, t8, g8, rg] | refine OrW.go ?_
          refine RelC.call hk5 ?_
          rintro v M5 ⟨rfl, hR5, hS5⟩
          obtain ⟨q1, q2, q3, q4, q5⟩ := step (n := nm) (v := .slice av acc.length cv) (rc := []) ⟨e1, e2, e3, e4, e5⟩ hS5 hR5
          obtain ⟨ra5, rk5, rg5, -, -⟩ := q5.at_
          have q0 : m.size + 1 < M5.size := by omega
          have hBa : StrB M5 (.slice av acc.length cv) acc := (hB5.old (Old.here M [])).keep hS5 fun x hx e => by have := hown x hx; omega
          obtain ⟨w1, w2, w3, w4, w5⟩ := put1 ⟨q1, q2, q3, q4, q5⟩ nm (.slice av acc.length cv) rc
          have hBb : StrB (M5.set (m.size + 1) (.cells [.string ⟨nm.toArray⟩, .slice av acc.length cv, .string ⟨rc.toArray⟩] 24 true .exact)) (.slice av acc.length cv) acc := hBa.keep ((Keep.refl (fun x => x = m.size + 1) M5).set (fun _ => rfl) _) fun x hx e => by have := hown x hx; omega
          have hdok : (⟨nm, acc, rc⟩ : DrvR).ok := ⟨by show nm.length ≤ _; omega, fun x hx => by have := hil.2.2 x hx; omega, by show acc.length ≤ _; omega, by show rc.length ≤ _; omega⟩
          have k16 := DetC.known (right_ok (mx (M5.set (m.size + 1) (.cells [.string ⟨nm.toArray⟩, .slice av acc.length cv, .string ⟨rc.toArray⟩] 24 true .exact)) []) ⟨nm, acc, rc⟩ av cv hdok (hBb.old (Old.here _ [])).row)
          simp only [dRow] at k16
          have w0 : M1.size < (M5.set (m.size + 1) (.cells [.string ⟨nm.toArray⟩, .slice av acc.length cv, .string ⟨rc.toArray⟩] 24 true .exact)).size := w2
          have fin0 : ∀ M', Old m M' → m.size < M'.size → getR b = (nilD, 150) → ∃ v, AEnd.ret (.tuple #[.agg (dRow nilD none 0).toArray, .int .i64 150]) = .ret v ∧ (m.size ≤ M'.size → Old m M' ∧ ∃ a' k', v = .tuple #[.agg (dRow (getR b).1 a' k').toArray, .int .i64 (getR b).2] ∧ StrR M' a' (getR b).1.inputs) := by
            intro M' h1 h2 h3
            rw [h3]
            exact ⟨_, rfl, fun _ => ⟨h1, none, 0, rfl, fun i hi => by simp [nilD] at hi⟩⟩
          cases hb5 : s5.bad with
          | true =>
            rw [hb5] at rg5
            have he2 : getR b = (nilD, 150) := by rw [he, hb5]; rfl
            repeat first | simp -implicitDefEqProofs (disch := first | omega | with_reducible assumption | (simp only [zU, zC]; omega)) only [zT, zA, reduceCtorEq, zB, zC, zD, zE, zF, zG, zH, zI, zJ, zK, zL, reduceIte, t2, t4, t5, t8, q3, q4, rg5, cellsOf_dRow, splice3, cutL3] | refine OrW.go ?_
            refine ⟨_, rfl, fun _ => ⟨(w1.set (Nat.le_refl _) _).mx [], none, 0, by rw [he2]; rfl, by rw [he2]; exact fun i hi => by simp [nilD] at hi⟩⟩
          | false =>
            rw [hb5] at rg5
            by_cases hc5 : (s5.c.length : Int) = 0
            · cases hrr : rightR ⟨nm, acc, rc⟩ with
              | true =>
                rw [hrr] at k16
                have hc6 : s5.c.length = 0 := by omega
                have he2 : getR b = (⟨nm, acc, rc⟩, 0) := by rw [he, hb5, hrr, hc6]; rfl
                repeat first | simp -implicitDefEqProofs (disch := first | omega | with_reducible assumption | (simp only [zU, zC]; omega)) only [zT, zA, reduceCtorEq, zB, zC, zD, zE, zF, zG, zH, zI, zJ, zK, zL, reduceIte, t2, t4, t5, t8, q3, q4, rg5, hc5, cutL3, k16, cellsOf_dRow, splice3] | refine OrW.go ?_
                refine ⟨_, rfl, fun _ => ⟨(w1.set (Nat.le_refl _) _).mx [], av, cv, by rw [he2]; rfl, by rw [he2]; exact ((hBb.keep ((Keep.refl (fun x => x = m.size) _).set (fun _ => rfl) _) fun x hx e => by have := hown x hx; omega).old (Old.here _ [])).row⟩⟩
              | false =>
                rw [hrr] at k16
                have he2 : getR b = (nilD, 150) := by rw [he, hb5, hrr]; simp
                repeat first | simp -implicitDefEqProofs (disch := first | omega | with_reducible assumption | (simp only [zU, zC]; omega)) only [zT, zA, reduceCtorEq, zB, zC, zD, zE, zF, zG, zH, zI, zJ, zK, zL, reduceIte, t2, t4, t5, t8, q3, q4, rg5, hc5, cutL3, k16, cellsOf_dRow, splice3] | refine OrW.go ?_
                refine ⟨_, rfl, fun _ => ⟨(w1.set (Nat.le_refl _) _).mx [], none, 0, by rw [he2]; rfl, by rw [he2]; exact fun i hi => by simp [nilD] at hi⟩⟩
            · have hc6 : ¬ s5.c.length = 0 := by omega
              have he2 : getR b = (nilD, 150) := by rw [he, hb5]; simp [hc6]
              repeat first | simp -implicitDefEqProofs (disch := first | omega | with_reducible assumption | (simp only [zU, zC]; omega)) only [zT, zA, reduceCtorEq, zB, zC, zD, zE, zF, zG, zH, zI, zJ, zK, zL, reduceIte, t2, t4, t5, t8, q3, q4, rg5, hc5, undef, cellsOf_dRow, splice3, cutL3] | refine OrW.go ?_
              refine ⟨_, rfl, fun _ => ⟨(w1.set (Nat.le_refl _) _).mx [], none, 0, by rw [he2]; rfl, by rw [he2]; exact fun i hi => by simp [nilD] at hi⟩⟩
        | false =>
          rw [hbad] at rg
          have hrn : readIns (n + 1) s = ((textR s).1 :: (readIns n (textR s).2).1, (readIns n (textR s).2).2) := by simp [readIns, hbad]
          rw [hrn] at hacc hrd
          have hk5 := rtext_ok (mx M []) m.size M1.size s (e5.old (Old.here _ [])) (by omega)
          have l5 := textR_len s
          generalize textR s = T5 at hk5 hacc hrd l5
          obtain ⟨x, s5⟩ := T5
          simp only at hk5 hacc hrd l5
          repeat first | simp -implicitDefEqProofs (disch := first | omega | with_reducible assumption | (simp only [zU, zC]; omega)) only [zT, zA, reduceCtorEq, zB, zC, zD, zE, zF, zG, zH, zI, zJ, zK, zL, reduceIte, F18_l1, t2, t4, t5, t8, g8, rg, e4] | refine OrW.go ?_
          refine RelC.call hk5 ?_
          rintro v M5 ⟨rfl, hR5, hS5⟩
          have st5 := step (n := nm) (v := .slice av acc.length cv) (rc := []) ⟨e1, e2, e3, e4, e5⟩ hS5 hR5
          obtain ⟨q1, q2, q3, q4, q5⟩ := st5
          have q0 : m.size + 1 < M5.size := by omega
          have hBa : StrB M5 (.slice av acc.length cv) acc := (hB5.old (Old.here M [])).keep hS5 fun x hx e => by have := hown x hx; omega
          have hBc := hBa.old (Old.here M5 [.cells [.string ⟨x.toArray⟩] 9 true .exact])
          have hil := readIns_len n0 s2
          rw [← hacc] at hil
          simp only [List.length_append, List.length_cons] at hil
          obtain ⟨v6, M6, happ, hB6, hk6, ho6⟩ := hBc.app (w := .slice (some ⟨M5.size, 0, none⟩) 1 1) (news := [x]) (by simp; omega) rfl (by rw [List.length_singleton, srcCells_slice (Nat.le_refl _), rd_def, mx_mx, List.append_nil, mx_new0]; rfl)
          obtain ⟨av6, cv6, rfl⟩ := hB6.len
          rw [mx_mx, List.append_nil] at happ
          have hk6' : ∀ y, y ≤ M1.size → M6.get y = M5.get y := fun y hy => by rw [hk6.2 y (by rw [mx_size]; omega) (fun h => by have := hown y h; omega), mx_old (by omega)]
          have hs6 := hk6.1
          rw [mx_size] at hs6
          have st6 : St M6 nm (.slice av acc.length cv) [] s5 := ⟨⟨by omega, fun y hy => by rw [hk6' y (by omega)]; exact q1.2 y hy⟩, by omega, by rw [hk6' _ (by omega)]; exact q3, by rw [hk6' _ (by omega)]; exact q4, q5.other (by omega) fun y hy => hk6' y (by omega)⟩
          have st7 := put1 st6 nm (.slice av6 (acc ++ [x]).length cv6) []
          have hB7 : StrB (M6.set (m.size + 1) (.cells [.string ⟨nm.toArray⟩, .slice av6 (acc ++ [x]).length cv6, .string ⟨#[]⟩] 24 true .exact)) (.slice av6 (acc ++ [x]).length cv6) (acc ++ [x]) := hB6.keep ((Keep.refl (fun x => x = m.size + 1) M6).set (fun _ => rfl) _) fun y hy e => by
            rcases ho6 y hy with h | h
            · have := hown y h; omega
            · rw [mx_size] at h; omega
          have g6 : M6.get (m.size + 1) = .cells [.string ⟨nm.toArray⟩, .slice av acc.length cv, .string ⟨#[]⟩] 24 true .exact := by rw [hk6' _ (by omega)]; exact q4
          have z6 : m.size + 1 < M6.size := by omega
          repeat first | simp -implicitDefEqProofs (disch := first | omega | with_reducible assumption | (simp only [zU, zC]; omega)) only [zT, zA, reduceCtorEq, zB, zC, zD, zE, zF, zG, zH, zI, zJ, zK, zL, reduceIte, t2, t4, t5, t8, q4, stepOp_app_v, happ, g6, e18] | refine OrW.go ?_
          rw [LoopK_normal]; refine ⟨_, ?_, n, M6.set (m.size + 1) (.cells [.string ⟨nm.toArray⟩, .slice av6 (acc ++ [x]).length cv6, .string ⟨#[]⟩] 24 true .exact), acc ++ [x], av6, cv6, s5, rfl, rfl, ?qm, ?q2, ?q4, ?q5, ?q8, ?_⟩
          case qm | q2 | q4 | q5 | q8 => first | rfl | (simp -implicitDefEqProofs (disch := first | omega | with_reducible assumption | (simp only [zU, zC]; omega)) only [zT, zA, reduceCtorEq, zB, zC, zD, zE, zF, zG, zH, zI, zJ, zK, zL, reduceIte, t2, t4, t5, t8]; first | done | rfl | (congr 1; omega))
          · omega
          · refine ⟨st7, hB7, fun y hy => ?_, by rw [← hacc]; simp, hrd, by omega, by omega⟩
            rcases ho6 y hy with h | h
            · exact hown y h
            · rw [mx_size] at h; omega
  · rintro n t M ds ⟨rfl, he, h1, h2, M', h3, h4, h5, h6⟩
    simp only at h1 h2 h3
    subst h1 h3
    rw [he]
    repeat first | simp -implicitDefEqProofs (disch := first | omega | with_reducible assumption | (simp only [zU, zC]; omega)) only [zT, zA, reduceCtorEq, zB, zC, zD, zE, zF, zG, zH, zI, zJ, zK, zL, reduceIte, F18_r0, h2, h6, cellsOf_dRow, splice3, cutL3] | refine OrW.go ?_
    refine ⟨_, rfl, fun _ => ⟨(h4.set (Nat.le_refl _) _).mx [], none, 0, rfl, fun i hi => by simp [nilD] at hi⟩⟩
end Go.Proofs.YtgkmlbkocgjmmaaDoor
namespace Go.Proofs.YtgkmlbkocgjmmaaDoor
open Go Go.AM
set_option linter.unusedVariables false
set_option linter.unusedSimpArgs false
set_option maxHeartbeats 2000000
set_option maxRecDepth 100000

def plR (names : List (List UInt8)) (s : List UInt8) : Option Nat := names.findIdx? fun x => decide (x = s)
def mapF (names : List (List UInt8)) (s : List UInt8) : Option Value := (plR names s).map fun k => .int .i64 (k : Nat)
theorem plR_lt {names : List (List UInt8)} {s : List UInt8} {k : Nat} (h : plR names s = some k) : k < names.length := by
  unfold plR at h; rw [List.findIdx?_eq_some_iff_getElem] at h; exact h.1
theorem plR_none {names : List (List UInt8)} {s : List UInt8} : plR names s = none ↔ s ∉ names := by
  unfold plR; rw [List.findIdx?_eq_none_iff]
  constructor
  · intro h hs; have := h s hs; simp at this
  · intro h x hx; simp; rintro rfl; exact h hx
theorem mapF_succ {names : List (List UInt8)} {i : Nat} (hi : i < names.length) (hn : plR (names.take i) names[i] = none) : (fun x => if x = names[i] then some (Value.int .i64 (i : Nat)) else mapF (names.take i) x) = mapF (names.take (i + 1)) := by
  funext x
  unfold mapF
  have h : plR (names.take (i + 1)) x = (plR (names.take i) x).or (if names[i] = x then some i else none) := by
    unfold plR
    rw [List.take_succ_eq_append_getElem hi, List.findIdx?_append]
    congr 1
    by_cases h : names[i] = x
    · simp [h, List.findIdx?_cons]; omega
    · simp [h, List.findIdx?_cons]
  rw [h]
  by_cases hx : x = names[i]
  · subst hx; rw [hn]; simp
  · have hx2 : ¬ names[i] = x := fun e => hx e.symm
    rw [if_neg hx, if_neg hx2]; cases plR (names.take i) x <;> rfl
theorem mapAt_eqv {M : AMem} {r : Nat} {f : List UInt8 → Option Value} (h : MapAt (mx M []) r f) : MapAt M r f := by
  have h0 := h.1
  rw [mx_nil_size] at h0
  exact h.keep (by rw [mx_nil_size]; exact Nat.le_refl _) (mx_old h0).symm
theorem places_ok (m : AMem) (a : Option Addr) (c : Nat) (names : List (List UInt8)) (ha : StrR m a names) (hl : names.length ≤ 1000000) :
    RelC Tryd.prog 3 47 [.slice a names.length c] m fun r m' => Old m m' ∧ if names.Nodup then r = .tuple #[.map (some m.size), .bool true] ∧ MapAt m' m.size (mapF names) else r = .tuple #[.map none, .bool false] := by
  refine rel_of_W (fn := Tryd.f47) rfl rfl F47_ok (by simp [F47]) ?_
  have hM0 : MapAt (mx m [.map #[] 0]) m.size (fun _ => none) := MapAt.new (by rw [mx_size]; simp) (mx_new0 _ _)
  have e0 : (fun _ => none) = mapF (names.take 0) := rfl
  rw [e0] at hM0
  simp -implicitDefEqProofs (disch := first | omega | with_reducible assumption | (simp only [zU, zC]; omega)) only [zT, zA, reduceCtorEq, zB, zC, zD, zE, zF, zG, zH, zI, zJ, zK, zL, reduceIte, F47]
  refine W_loop (fun N qs => ∃ (i : Nat) (M : AMem), N = names.length - i ∧ qs.ds = [] ∧ qs.m = mx M [] ∧ qs.t 4 = .map (some m.size) ∧ qs.t 10 = .slice a names.length c ∧ qs.t 11 = .int .i64 names.length ∧ qs.t 12 = .int .i64 i ∧ i ≤ names.length ∧ Old m M ∧ MapAt M m.size (mapF (names.take i)) ∧ (names.take i).Nodup) (names.length - (0)) ⟨0, mx m [.map #[] 0], rfl, rfl, ?qm, ?q4, ?q10, ?q11, ?q12, ?_⟩ ?_
  case qm | q4 | q10 | q11 | q12 => first | rfl | (simp -implicitDefEqProofs (disch := first | omega | with_reducible assumption | (simp only [zU, zC]; omega)) only [zT, zA, reduceCtorEq, zB, zC, zD, zE, zF, zG, zH, zI, zJ, zK, zL, reduceIte, mx_mx, List.append_nil]; first | done | rfl | (congr 1; omega))
  · exact ⟨by omega, Old.here _ _, hM0, by simp⟩
  · rintro N t m1 ds ⟨i, M, rfl, hds, hm, t4, t10, t11, t12, hp⟩
    simp only at hds hm t4 t10 t11 t12
    subst hds; replace hm := hm.symm; subst hm
    obtain ⟨hi, hO, hMp, hnd⟩ := hp
    by_cases g : (i : Int) < (names.length : Int)
    · have hi' : i < names.length := by omega
      obtain ⟨b, o, rfl, hb, hr⟩ := ha i hi'
      have hr1 : rdO (M.get b) (o + i) 1 = some [.string ⟨names[i].toArray⟩] := by rw [hO.2 b hb]; exact hr
      have hbM : b < M.size := Nat.lt_of_lt_of_le hb hO.1
      have hk := (hMp.old (Old.here M [])).look (.int .i64 0) true names[i]
      rw [lkRes_ok] at hk
      obtain ⟨ob, hu', hM2⟩ := (hMp.old (Old.here M [])).put names[i] (v := .int .i64 (i : Nat)) rfl
      rw [mx_set_old hMp.1] at hu' hM2
      have hM3 := mapAt_eqv hM2
      cases hpl : plR (names.take i) names[i] with
      | some q =>
        have hdup : ¬ names.Nodup := fun hh => by
          have h2 : names[i] ∈ names.take i := Classical.byContradiction fun h => by rw [plR_none.2 h] at hpl; cases hpl
          have h3 : (names.take (i + 1)).Nodup := List.Nodup.sublist (List.take_sublist _ _) hh
          rw [List.take_succ_eq_append_getElem hi', List.nodup_append] at h3
          exact h3.2.2 _ h2 _ (by simp) rfl
        simp only [mapF, hpl, Option.map_some, Option.getD_some, Option.isSome_some] at hk
        repeat first | simp -implicitDefEqProofs (disch := first | omega | with_reducible assumption | (simp only [zU, zC]; omega)) only [zT, zA, reduceCtorEq, zB, zC, zD, zE, zF, zG, zH, zI, zJ, zK, zL, reduceIte, F47_l0, t4, t10, t11, t12, g, hr1, stepOp_lkp_v, hk] | refine OrW.go ?_
        exact ⟨_, rfl, fun _ => ⟨hO.mx [], rfl⟩⟩
      | none =>
        have hsucc := mapF_succ hi' hpl
        have hnd2 : (names.take (i + 1)).Nodup := by
          rw [List.take_succ_eq_append_getElem hi', List.nodup_append]
          refine ⟨hnd, by simp, fun x hx y hy => ?_⟩
          rw [List.mem_singleton] at hy
          rintro rfl
          subst hy
          exact plR_none.1 hpl hx
        simp only [mapF, hpl, Option.map_none, Option.getD_none, Option.isSome_none] at hk
        repeat first | simp -implicitDefEqProofs (disch := first | omega | with_reducible assumption | (simp only [zU, zC]; omega)) only [zT, zA, reduceCtorEq, zB, zC, zD, zE, zF, zG, zH, zI, zJ, zK, zL, reduceIte, F47_l0, t4, t10, t11, t12, g, hr1, stepOp_lkp_v, hk, stepOp_mup_v, hu'] | refine OrW.go ?_
        rw [hsucc] at hM3
        rw [LoopK_normal]; refine ⟨_, ?_, i + 1, M.set m.size ob, rfl, rfl, ?qm, ?q4, ?q10, ?q11, ?q12, ?_⟩
        case qm | q4 | q10 | q11 | q12 => first | rfl | (simp -implicitDefEqProofs (disch := first | omega | with_reducible assumption | (simp only [zU, zC]; omega)) only [zT, zA, reduceCtorEq, zB, zC, zD, zE, zF, zG, zH, zI, zJ, zK, zL, reduceIte, t4, t10, t11, t12]; first | done | rfl | (congr 1; omega))
        · omega
        · exact ⟨by omega, hO.set (Nat.le_refl _) _, hM3, hnd2⟩
    · obtain rfl : i = names.length := by omega
      rw [List.take_length] at hMp hnd
      repeat first | simp -implicitDefEqProofs (disch := first | omega | with_reducible assumption | (simp only [zU, zC]; omega)) only [zT, zA, reduceCtorEq, zB, zC, zD, zE, zF, zG, zH, zI, zJ, zK, zL, reduceIte, F47_l0, t4, t10, t11, t12, g] | refine OrW.go ?_
      exact ⟨_, rfl, fun _ => ⟨hO.mx [], rfl, hMp.old (Old.here _ [])⟩⟩
end Go.Proofs.YtgkmlbkocgjmmaaDoor
namespace Go.Proofs.YtgkmlbkocgjmmaaDoor
open Go Go.AM
set_option linter.unusedVariables false
set_option linter.unusedSimpArgs false
set_option maxHeartbeats 2000000
set_option maxRecDepth 100000

def Src (m : AMem) (a : Option Addr) (ls : List (List UInt8)) : Prop := (a = none ∧ ls = []) ∨ ∃ b o, a = some ⟨b, o, none⟩ ∧ b < m.size ∧ rdO (m.get b) o ls.length = some (ls.map sV)
theorem Src.old {m m' : AMem} {a : Option Addr} {ls : List (List UInt8)} (h : Src m a ls) (ho : Old m m') : Src m' a ls := by
  rcases h with h | ⟨b, o, h1, h2, h3⟩
  · exact .inl h
  · exact .inr ⟨b, o, h1, Nat.lt_of_lt_of_le h2 ho.1, by rw [ho.2 b h2]; exact h3⟩
theorem rdO_part {x : AObj} {o : Nat} {ls : List (List UInt8)} (h : rdO x o ls.length = some (ls.map sV)) {i : Nat} (hi : i < ls.length) : rdO x (o + i) 1 = some [.string ⟨ls[i].toArray⟩] := by
  cases x with
  | cells X e w sp =>
    rw [rdO_cells] at h ⊢
    have hl := cutL_le h
    unfold cutL at h ⊢
    rw [if_pos hl] at h
    cases h2 : X.drop o with
    | nil => have := congrArg List.length h2; rw [List.length_drop, List.length_nil] at this; omega
    | cons y Y =>
      rw [if_pos (by omega), ← List.drop_drop, h2]
      have h3 : ((y :: Y).take ls.length) = ls.map sV := by rw [← h2]; exact Option.some.inj h
      have h4 : ((y :: Y).drop i).take 1 = [(ls.map sV)[i]'(by rw [List.length_map]; exact hi)] := by
        have hlen : i < (y :: Y).length := by have := congrArg List.length h3; rw [List.length_take, List.length_map] at this; omega
        rw [List.drop_eq_getElem_cons hlen, List.take_succ_cons, List.take_zero]
        congr 1
        have : (ls.map sV)[i]'(by rw [List.length_map]; exact hi) = ((y :: Y).take ls.length)[i]'(by rw [List.length_take]; omega) := by simp only [h3]
        rw [this, List.getElem_take]
      rw [h4, List.getElem_map]; rfl
  | _ => cases h
theorem Src.str {m : AMem} {a : Option Addr} {ls : List (List UInt8)} (h : Src m a ls) : StrR m a ls := fun i hi => by
  rcases h with ⟨_, rfl⟩ | ⟨b, o, h1, h2, h3⟩
  · simp at hi
  · exact ⟨b, o, h1, h2, rdO_part h3 hi⟩
theorem Src.src {m : AMem} {a : Option Addr} {ls : List (List UInt8)} (h : Src m a ls) (c : Nat) : srcCells 1 ls.length (.slice a ls.length c) m = some (ls.map sV) := by
  rcases h with ⟨rfl, rfl⟩ | ⟨b, o, rfl, h2, h3⟩
  · rfl
  · rw [srcCells_slice (Nat.le_refl _), rd_def, Nat.mul_one]; exact h3
def NeedsR (m : AMem) (a : Option Addr) (needs : List (List (List UInt8))) : Prop := ∀ i (h : i < needs.length), ∃ b o ra rc, a = some ⟨b, o, none⟩ ∧ b < m.size ∧ rdO (m.get b) (o + i) 1 = some [.slice ra needs[i].length rc] ∧ Src m ra needs[i] ∧ needs[i].length ≤ 1000000
theorem NeedsR.old {m m' : AMem} {a : Option Addr} {ls : List (List (List UInt8))} (h : NeedsR m a ls) (ho : Old m m') : NeedsR m' a ls := fun i hi => by
  obtain ⟨b, o, ra, rc, h1, h2, h3, h4, h5⟩ := h i hi
  exact ⟨b, o, ra, rc, h1, Nat.lt_of_lt_of_le h2 ho.1, by rw [ho.2 b h2]; exact h3, h4.old ho, h5⟩
def rowOf (needs : List (List (List UInt8))) (i : Nat) : List (List UInt8) := needs.getD i []
theorem of_ok (m : AMem) (a : Option Addr) (c : Nat) (needs : List (List (List UInt8))) (i : Nat) (ha : NeedsR m a needs) (hi : i ≤ 1000000) (hn : needs.length ≤ 1000000) :
    RelC Tryd.prog 3 50 [.slice a needs.length c, .int .i64 i] m fun r m' => Old m m' ∧ ∃ ra rc, r = .slice ra (rowOf needs i).length rc ∧ Src m' ra (rowOf needs i) := by
  refine rel_of_W (fn := Tryd.f50) rfl rfl F50_ok (by simp [F50]) ?_
  by_cases g : (i : Int) < (needs.length : Int)
  · have hi' : i < needs.length := by omega
    obtain ⟨b, o, ra, rc, rfl, hb, hr, hR, _⟩ := ha i hi'
    have e : rowOf needs i = needs[i] := by simp [rowOf, List.getD, hi']
    rw [e]
    repeat first | simp -implicitDefEqProofs (disch := first | omega | with_reducible assumption | (simp only [zU, zC]; omega)) only [zT, zA, reduceCtorEq, zB, zC, zD, zE, zF, zG, zH, zI, zJ, zK, zL, reduceIte, F50, g, hr] | refine OrW.go ?_
    exact ⟨_, rfl, fun _ => ⟨_, _, rfl, hR.old (Old.here _ [])⟩⟩
  · have e : rowOf needs i = [] := by simp [rowOf, List.getD, show ¬ i < needs.length by omega]
    rw [e]
    repeat first | simp -implicitDefEqProofs (disch := first | omega | with_reducible assumption | (simp only [zU, zC]; omega)) only [zT, zA, reduceCtorEq, zB, zC, zD, zE, zF, zG, zH, zI, zJ, zK, zL, reduceIte, F50, g] | refine OrW.go ?_
    exact ⟨_, rfl, fun _ => ⟨none, 0, rfl, .inl ⟨rfl, rfl⟩⟩⟩
structure DoneAt (M : AMem) (p db : Nat) (done : List Bool) : Prop where
  lt : p < M.size
  get : M.get p = .cells [.slice (some ⟨db, 0, none⟩) done.length done.length] 75 true .exact
  dlt : db < M.size
  dget : M.get db = .cells (done.map .bool) 4 true .exact
  ne : p ≠ db
theorem DoneAt.old {M M' : AMem} {p db : Nat} {done : List Bool} (h : DoneAt M p db done) (ho : Old M M') : DoneAt M' p db done :=
  ⟨Nat.lt_of_lt_of_le h.lt ho.1, by rw [ho.2 p h.lt]; exact h.get, Nat.lt_of_lt_of_le h.dlt ho.1, by rw [ho.2 db h.dlt]; exact h.dget, h.ne⟩
def badDep (names : List (List UInt8)) (done : List Bool) (s : List UInt8) : Bool := match plR names s with | some k => !done.getD k false | none => false
theorem cutL_bool {done : List Bool} {k : Nat} (hk : k < done.length) : cutL (done.map Value.bool) k 1 = some [.bool done[k]] := by
  unfold cutL
  rw [if_pos (by rw [List.length_map]; omega), List.drop_eq_getElem_cons (by rw [List.length_map]; exact hk), List.getElem_map]; rfl
theorem dep_ok (M : AMem) (bp r p db : Nat) (names : List (List UInt8)) (done : List Bool) (s : List UInt8) (hbp : bp < M.size) (hbg : M.get bp = .cells [.map (some r)] 72 true .exact) (hm : MapAt M r (mapF names)) (hd : DoneAt M p db done) (hl : done.length = names.length) (hnl : names.length ≤ 1000000) :
    PureC Tryd.prog 3 51 [.string ⟨s.toArray⟩, .pointer (some ⟨bp, 0, none⟩), .pointer (some ⟨p, 0, none⟩)] M (.bool (badDep names done s)) := by
  refine pure_of_W (fn := Tryd.f51) rfl rfl F51_ok (by simp [F51]) (.bool _) ?_
  have hk := (hm.old (Old.here M [])).look (.int .i64 0) true s
  rw [lkRes_ok] at hk
  have h1 := hd.lt; have h2 := hd.get; have h3 := hd.dlt; have h4 := hd.dget
  cases hpl : plR names s with
  | none =>
    have e : badDep names done s = false := by simp [badDep, hpl]
    simp only [mapF, hpl, Option.map_none, Option.getD_none, Option.isSome_none] at hk
    rw [e]
    repeat first | simp -implicitDefEqProofs (disch := first | omega | with_reducible assumption | (simp only [zU, zC]; omega)) only [zT, zA, reduceCtorEq, zB, zC, zD, zE, zF, zG, zH, zI, zJ, zK, zL, reduceIte, F51, hbg, stepOp_lkp_v, hk, undef] | refine OrW.go ?_
  | some k =>
    have hkl := plR_lt hpl
    have hkd : k < done.length := by omega
    have e : badDep names done s = !done[k] := by simp [badDep, hpl, List.getD, hkd]
    have hc := cutL_bool hkd
    have g : (k : Int) < (done.length : Int) := by omega
    simp only [mapF, hpl, Option.map_some, Option.getD_some, Option.isSome_some] at hk
    rw [e]
    repeat first | simp -implicitDefEqProofs (disch := first | omega | with_reducible assumption | (simp only [zU, zC]; omega)) only [zT, zA, reduceCtorEq, zB, zC, zD, zE, zF, zG, zH, zI, zJ, zK, zL, reduceIte, F51, hbg, stepOp_lkp_v, hk, h2, h4, hc, g] | refine OrW.go ?_
theorem index_ok (M : AMem) (bp r p db : Nat) (names : List (List UInt8)) (done : List Bool) (a : Option Addr) (c : Nat) (ls : List (List UInt8)) (ha : StrR M a ls) (hls : ls.length ≤ 1000000) (hbp : bp < M.size) (hbg : M.get bp = .cells [.map (some r)] 72 true .exact) (hm : MapAt M r (mapF names)) (hd : DoneAt M p db done) (hl : done.length = names.length) (hnl : names.length ≤ 1000000) :
    PureC Tryd.prog 3 74 [.slice a ls.length c, .func (.func 51) #[] #[.pointer (some ⟨bp, 0, none⟩), .pointer (some ⟨p, 0, none⟩)]] M (.int .i64 (match ls.findIdx? (badDep names done) with | some i => (i : Int) | none => -1)) := by
  refine pure_of_W (fn := Tryd.f74) rfl rfl F74_ok (by simp [F74]) (.int _ _) ?_
  have kd := fun s => DetC.known (dep_ok (mx M []) bp r p db names done s (by rw [mx_nil_size]; exact hbp) (by rw [mx_old hbp]; exact hbg) (hm.old (Old.here _ [])) (hd.old (Old.here _ [])) hl hnl)
  simp -implicitDefEqProofs (disch := first | omega | with_reducible assumption | (simp only [zU, zC]; omega)) only [zT, zA, reduceCtorEq, zB, zC, zD, zE, zF, zG, zH, zI, zJ, zK, zL, reduceIte, F74]
  refine W_loop (fun N qs => ∃ (i : Nat), N = ls.length - i ∧ qs.ds = [] ∧ qs.m = mx M [] ∧ qs.t 0 = .slice a ls.length c ∧ qs.t 1 = .func (.func 51) #[] #[.pointer (some ⟨bp, 0, none⟩), .pointer (some ⟨p, 0, none⟩)] ∧ qs.t 7 = .int .i64 ls.length ∧ qs.t 8 = .int .i64 i ∧ i ≤ ls.length ∧ ∀ j (h : j < ls.length), j < i → badDep names done ls[j] = false) (ls.length - (0)) ⟨0, rfl, rfl, ?qm, ?q0, ?q1, ?q7, ?q8, ?_⟩ ?_
  case qm | q0 | q1 | q7 | q8 => first | rfl | (simp -implicitDefEqProofs (disch := first | omega | with_reducible assumption | (simp only [zU, zC]; omega)) only [zT, zA, reduceCtorEq, zB, zC, zD, zE, zF, zG, zH, zI, zJ, zK, zL, reduceIte]; first | done | rfl | (congr 1; omega))
  · exact ⟨by omega, fun j h1 h2 => by omega⟩
  · rintro N t m1 ds ⟨i, rfl, hds, hm, t0, t1, t7, t8, hp⟩
    simp only at hds hm t0 t1 t7 t8
    subst hds; replace hm := hm.symm; subst hm
    obtain ⟨hi, hall⟩ := hp
    by_cases g : (i : Int) < (ls.length : Int)
    · have hi' : i < ls.length := by omega
      obtain ⟨b, o, rfl, hb, hr⟩ := ha i hi'
      have k1 := kd ls[i]
      cases hbd : badDep names done ls[i] with
      | true =>
        have e : ls.findIdx? (badDep names done) = some i := by rw [List.findIdx?_eq_some_iff_getElem]; exact ⟨hi', hbd, fun j hj => by rw [hall j (by omega) hj]; simp⟩
        rw [hbd] at k1
        rw [e]
        repeat first | simp -implicitDefEqProofs (disch := first | omega | with_reducible assumption | (simp only [zU, zC]; omega)) only [zT, zA, reduceCtorEq, zB, zC, zD, zE, zF, zG, zH, zI, zJ, zK, zL, reduceIte, F74_l0, t0, t1, t7, t8, g, hr, k1] | refine OrW.go ?_
      | false =>
        rw [hbd] at k1
        repeat first | simp -implicitDefEqProofs (disch := first | omega | with_reducible assumption | (simp only [zU, zC]; omega)) only [zT, zA, reduceCtorEq, zB, zC, zD, zE, zF, zG, zH, zI, zJ, zK, zL, reduceIte, F74_l0, t0, t1, t7, t8, g, hr, k1] | refine OrW.go ?_
        rw [LoopK_normal]; refine ⟨_, ?_, i + 1, rfl, rfl, ?qm, ?q0, ?q1, ?q7, ?q8, ?_⟩
        case qm | q0 | q1 | q7 | q8 => first | rfl | (simp -implicitDefEqProofs (disch := first | omega | with_reducible assumption | (simp only [zU, zC]; omega)) only [zT, zA, reduceCtorEq, zB, zC, zD, zE, zF, zG, zH, zI, zJ, zK, zL, reduceIte, t0, t1, t7, t8]; first | done | rfl | (congr 1; omega))
        · omega
        · refine ⟨by omega, fun j h1 h2 => ?_⟩
          rcases Nat.lt_or_ge j i with h | h
          · exact hall j h1 h
          · obtain rfl : j = i := by omega
            exact hbd
    · obtain rfl : i = ls.length := by omega
      have e : ls.findIdx? (badDep names done) = none := by rw [List.findIdx?_eq_none_iff]; intro x hx; obtain ⟨j, hj, rfl⟩ := List.mem_iff_getElem.1 hx; exact hall j hj hj
      rw [e]
      repeat first | simp -implicitDefEqProofs (disch := first | omega | with_reducible assumption | (simp only [zU, zC]; omega)) only [zT, zA, reduceCtorEq, zB, zC, zD, zE, zF, zG, zH, zI, zJ, zK, zL, reduceIte, F74_l0, t0, t1, t7, t8, g] | refine OrW.go ?_
theorem contains_ok (M : AMem) (bp r p db : Nat) (names : List (List UInt8)) (done : List Bool) (a : Option Addr) (c : Nat) (ls : List (List UInt8)) (ha : StrR M a ls) (hls : ls.length ≤ 1000000) (hbp : bp < M.size) (hbg : M.get bp = .cells [.map (some r)] 72 true .exact) (hm : MapAt M r (mapF names)) (hd : DoneAt M p db done) (hl : done.length = names.length) (hnl : names.length ≤ 1000000) :
    PureC Tryd.prog 3 49 [.slice a ls.length c, .func (.func 51) #[] #[.pointer (some ⟨bp, 0, none⟩), .pointer (some ⟨p, 0, none⟩)]] M (.bool (ls.any (badDep names done))) := by
  refine pure_of_W (fn := Tryd.f49) rfl rfl F49_ok (by simp [F49]) (.bool _) ?_
  have ki := DetC.known (index_ok (mx M []) bp r p db names done a c ls (ha.old (Old.here _ [])) hls (by rw [mx_nil_size]; exact hbp) (by rw [mx_old hbp]; exact hbg) (hm.old (Old.here _ [])) (hd.old (Old.here _ [])) hl hnl)
  cases e : ls.findIdx? (badDep names done) with
  | none =>
    have h : ls.any (badDep names done) = false := by rw [List.any_eq_false]; intro x hx; rw [List.findIdx?_eq_none_iff] at e; simp [e x hx]
    rw [e] at ki
    rw [h]
    repeat first | simp -implicitDefEqProofs (disch := first | omega | with_reducible assumption | (simp only [zU, zC]; omega)) only [zT, zA, reduceCtorEq, zB, zC, zD, zE, zF, zG, zH, zI, zJ, zK, zL, reduceIte, F49, ki] | refine OrW.go ?_
  | some i =>
    have h : ls.any (badDep names done) = true := by rw [List.findIdx?_eq_some_iff_getElem] at e; obtain ⟨h1, h2, _⟩ := e; exact List.any_eq_true.2 ⟨_, List.getElem_mem h1, h2⟩
    rw [e] at ki
    rw [h]
    have g : (0 : Int) ≤ (i : Int) := by omega
    repeat first | simp -implicitDefEqProofs (disch := first | omega | with_reducible assumption | (simp only [zU, zC]; omega)) only [zT, zA, reduceCtorEq, zB, zC, zD, zE, zF, zG, zH, zI, zJ, zK, zL, reduceIte, F49, ki, g] | refine OrW.go ?_
def readyR (names : List (List UInt8)) (needs : List (List (List UInt8))) (done : List Bool) (i : Nat) : Bool := !done.getD i false && !(rowOf needs i).any (badDep names done)
theorem ready_ok (M : AMem) (bp np r p db : Nat) (names : List (List UInt8)) (needs : List (List (List UInt8))) (na : Option Addr) (nc : Nat) (done : List Bool) (i : Nat) (hi : i < done.length) (hbp : bp < M.size) (hbg : M.get bp = .cells [.map (some r)] 72 true .exact) (hnp : np < M.size) (hng : M.get np = .cells [.slice na needs.length nc] 38 true .exact) (hN : NeedsR M na needs) (hm : MapAt M r (mapF names)) (hd : DoneAt M p db done) (hl : done.length = names.length) (hnl : names.length ≤ 1000000) (hne : needs.length ≤ 1000000) :
    RelC Tryd.prog 3 48 [.int .i64 i, .pointer (some ⟨p, 0, none⟩), .pointer (some ⟨np, 0, none⟩), .pointer (some ⟨bp, 0, none⟩)] M fun v m' => v = .bool (readyR names needs done i) ∧ Old M m' := by
  refine rel_of_W (fn := Tryd.f48) rfl rfl F48_ok (by simp [F48]) ?_
  have h1 := hd.lt; have h2 := hd.get; have h3 := hd.dlt; have h4 := hd.dget
  have hc := cutL_bool hi
  have g : (i : Int) < (done.length : Int) := by omega
  have e : readyR names needs done i = (!done[i] && !(rowOf needs i).any (badDep names done)) := by simp [readyR, List.getD, hi]
  rw [e]
  cases hdi : done[i] with
  | true =>
    rw [hdi] at hc
    repeat first | simp -implicitDefEqProofs (disch := first | omega | with_reducible assumption | (simp only [zU, zC]; omega)) only [zT, zA, reduceCtorEq, zB, zC, zD, zE, zF, zG, zH, zI, zJ, zK, zL, reduceIte, F48, h2, h4, hc, g, undef] | refine OrW.go ?_
    exact ⟨_, rfl, fun _ => rfl⟩
  | false =>
    rw [hdi] at hc
    have ho := of_ok (mx M []) na nc needs i (hN.old (Old.here _ [])) (by omega) hne
    repeat first | simp -implicitDefEqProofs (disch := first | omega | with_reducible assumption | (simp only [zU, zC]; omega)) only [zT, zA, reduceCtorEq, zB, zC, zD, zE, zF, zG, zH, zI, zJ, zK, zL, reduceIte, F48, h2, h4, hc, g, hng] | refine OrW.go ?_
    refine RelC.call ho ?_
    rintro v M1 ⟨hO, ra, rc, rfl, hR⟩
    have hO1 : Old M M1 := (Old.here M []).trans hO
    have hrl : (rowOf needs i).length ≤ 1000000 := by
      by_cases hin : i < needs.length
      · obtain ⟨_, _, _, _, _, _, _, _, h⟩ := hN i hin
        simpa [rowOf, List.getD, hin] using h
      · simp [rowOf, List.getD, hin]
    have kc := DetC.known (contains_ok (mx M1 []) bp r p db names done ra rc (rowOf needs i) (hR.old (Old.here _ [])).str hrl (by rw [mx_nil_size]; exact Nat.lt_of_lt_of_le hbp hO1.1) (by rw [mx_old (Nat.lt_of_lt_of_le hbp hO1.1), hO1.2 _ hbp]; exact hbg) (hm.old (hO1.mx [])) (hd.old (hO1.mx [])) hl hnl)
    repeat first | simp -implicitDefEqProofs (disch := first | omega | with_reducible assumption | (simp only [zU, zC]; omega)) only [zT, zA, reduceCtorEq, zB, zC, zD, zE, zF, zG, zH, zI, zJ, zK, zL, reduceIte, kc] | refine OrW.go ?_
    exact ⟨_, rfl, fun _ => ⟨by simp, hO1.mx []⟩⟩
end Go.Proofs.YtgkmlbkocgjmmaaDoor
namespace Go.Proofs.YtgkmlbkocgjmmaaDoor
open Go Go.AM
set_option linter.unusedVariables false
set_option linter.unusedSimpArgs false
set_option maxHeartbeats 2000000
set_option maxRecDepth 100000

def iV (k : Nat) : Value := .int .i64 (k : Nat)
def IntB (M : AMem) (v : Value) (ls : List Nat) : Prop := (ls = [] ∧ v = .slice none 0 0) ∨ ∃ b, v = .slice (some ⟨b, 0, none⟩) ls.length openCap ∧ b < M.size ∧ M.get b = .cells (ls.map iV) 3 true (.room [.int .i64 0])
theorem IntB.len {M : AMem} {v : Value} {ls : List Nat} (h : IntB M v ls) : ∃ a cap, v = .slice a ls.length cap := by
  rcases h with ⟨rfl, rfl⟩ | ⟨b, rfl, _⟩
  · exact ⟨_, _, rfl⟩
  · exact ⟨_, _, rfl⟩
theorem IntB.keep {M M' : AMem} {v : Value} {ls : List Nat} (h : IntB M v ls) {O : Nat → Prop} (hk : Keep O M M') (hv : ∀ x, ownV v x → ¬ O x) : IntB M' v ls := by
  rcases h with h | ⟨b, rfl, h1, h2⟩
  · exact .inl h
  · exact .inr ⟨b, rfl, Nat.lt_of_lt_of_le h1 hk.1, by rw [hk.2 b h1 (hv b ⟨_, _, _, rfl⟩)]; exact h2⟩
theorem IntB.old {M M' : AMem} {v : Value} {ls : List Nat} (h : IntB M v ls) (ho : Old M M') : IntB M' v ls := h.keep (ho.keep fun _ => False) fun _ _ h => h
theorem eqPL_i0 : eqPL [Value.int .i64 0] [Value.int .i64 0] = true := by decide
theorem IntB.app {M : AMem} {v : Value} {ls : List Nat} {nb : Nat} {k : Nat} (h : IntB M v ls) (hn : ls.length ≤ 1000000) (hb : nb < M.size) {e : TypeId} {w : Bool} {sp : Spare} (hr : M.get nb = .cells [iV k] e w sp) :
    ∃ v' M', appV 3 1 8 [.int .i64 0] v (.slice (some ⟨nb, 0, none⟩) 1 1) (mx M []) = some (v', mx M' []) ∧ IntB M' v' (ls ++ [k]) ∧ Keep (ownV v) M M' ∧ ∀ x, ownV v' x → M.size ≤ x := by
  have hs : srcCells 1 1 (.slice (some ⟨nb, 0, none⟩) 1 1) (mx M []) = some [iV k] := by rw [srcCells_slice (Nat.le_refl _), rd_def, mx_old hb, hr]; rfl
  have happ : appV 3 1 8 [.int .i64 0] v (.slice (some ⟨nb, 0, none⟩) 1 1) (mx M []) = appendTo 3 1 8 [.int .i64 0] v 1 [iV k] (mx M []) := by
    simp only [appV, srcLen_slice, hs]
    rw [if_pos ⟨rfl, by omega, rfl, rfl⟩]
  rw [happ]
  rcases h with ⟨rfl, rfl⟩ | ⟨b, rfl, hb2, h2⟩
  · refine ⟨.slice (some ⟨M.size, 0, none⟩) 1 openCap, mx M [.cells [iV k] 3 true (.room [.int .i64 0])], ?_, .inr ⟨M.size, rfl, by rw [mx_size]; simp, mx_new0 _ _⟩, (Keep.refl _ _).mx _, fun x ⟨o, l, c, h⟩ => by cases h; exact Nat.le_refl _⟩
    rw [appendTo_nil (by omega) (by omega) (by omega), mx_push, mx_nil_size, mx_mx]; rfl
  · refine ⟨.slice (some ⟨M.size, 0, none⟩) (ls.length + 1) openCap, mx (M.set b .dead) [.cells ((ls ++ [k]).map iV) 3 true (.room [.int .i64 0])], ?_, .inr ⟨M.size, by simp, by rw [mx_size, AMem.size_set]; simp, ?_⟩, ((Keep.refl _ M).set (fun _ => ⟨_, _, _, rfl⟩) _).mx _, fun x ⟨o, l, c, hx⟩ => by cases hx; exact Nat.le_refl _⟩
    · rw [appendTo_open (sz := 1) (z' := [.int .i64 0]) ((mx_old hb2).trans h2) eqPL_i0 rfl (by omega) (by simp) (by omega) (by omega) (by omega), mx_set_old hb2, mx_push, mx_nil_size, mx_mx, List.map_append]; rfl
    · have := mx_new0 (M.set b .dead) [.cells ((ls ++ [k]).map iV) 3 true (.room [.int .i64 0])]
      rw [AMem.size_set] at this; exact this

def nextR (names : List (List UInt8)) (needs : List (List (List UInt8))) (done : List Bool) : Option Nat := (List.range names.length).find? (readyR names needs done)
def sortF (names : List (List UInt8)) (needs : List (List (List UInt8))) : Nat → List Bool → List Nat → List Nat
  | 0, _, out => out
  | n + 1, done, out => match nextR names needs done with | some i => sortF names needs n (done.set i true) (out ++ [i]) | none => out
def sortO (names : List (List UInt8)) (needs : List (List (List UInt8))) : List Nat := sortF names needs names.length (List.replicate names.length false) []
def sortR (names : List (List UInt8)) (needs : List (List (List UInt8))) : List Nat × Int :=
  if names.Nodup then (if (sortO names needs).length < names.length then ([], 240) else (sortO names needs, 0)) else ([], 151)
theorem next_some {names : List (List UInt8)} {needs : List (List (List UInt8))} {done : List Bool} {i : Nat} (h : nextR names needs done = some i) : i < names.length ∧ readyR names needs done i = true := by
  unfold nextR at h
  have h1 := List.mem_of_find?_eq_some h
  have h2 := List.find?_some h
  exact ⟨List.mem_range.1 h1, h2⟩
theorem next_of {names : List (List UInt8)} {needs : List (List (List UInt8))} {done : List Bool} {i : Nat} (hi : i < names.length) (hr : readyR names needs done i = true) (hb : ∀ j, j < i → readyR names needs done j = false) : nextR names needs done = some i := by
  unfold nextR
  rw [List.find?_eq_some_iff_getElem]
  refine ⟨hr, i, by simpa using hi, by simp, fun j hj => by simp [hb j hj]⟩
theorem next_none {names : List (List UInt8)} {needs : List (List (List UInt8))} {done : List Bool} (hb : ∀ j, j < names.length → readyR names needs done j = false) : nextR names needs done = none := by
  unfold nextR
  rw [List.find?_eq_none]
  intro x hx
  rw [List.mem_range] at hx
  simp [hb x hx]
theorem ready_not {names : List (List UInt8)} {needs : List (List (List UInt8))} {done : List Bool} {i : Nat} (hi : i < done.length) (h : readyR names needs done i = true) : done[i] = false := by
  unfold readyR at h
  simp [List.getD, hi] at h
  exact h.1
theorem count_set : ∀ {done : List Bool} {i : Nat} (hi : i < done.length), done[i] = false → (done.set i true).count false + 1 = done.count false
  | b :: l, 0, _, h => by simp at h; subst h; simp
  | b :: l, i + 1, hi, h => by
    have := count_set (done := l) (i := i) (by simpa using hi) (by simpa using h)
    simp only [List.set_cons_succ, List.count_cons]; omega
inductive Runs (names : List (List UInt8)) (needs : List (List (List UInt8))) : List Bool → List Nat → List Nat → Prop
  | stop {done : List Bool} {out : List Nat} : nextR names needs done = none → Runs names needs done out out
  | go {done : List Bool} {out res : List Nat} {i : Nat} : nextR names needs done = some i → Runs names needs (done.set i true) (out ++ [i]) res → Runs names needs done out res
theorem Runs.eq {names : List (List UInt8)} {needs : List (List (List UInt8))} {done : List Bool} {out res : List Nat} (h : Runs names needs done out res) : done.length = names.length → ∀ k, done.count false ≤ k → res = sortF names needs k done out := by
  induction h with
  | stop hn => intro _ k hk; cases k with
    | zero => rfl
    | succ k => simp only [sortF, hn]
  | go hn _ ih =>
    intro hl k hk
    obtain ⟨h1, h2⟩ := next_some hn
    have h3 := ready_not (by omega) h2
    have h4 := count_set (by omega) h3
    cases k with
    | zero => omega
    | succ k =>
      simp only [sortF, hn]
      exact ih (by rw [List.length_set]; exact hl) k (by omega)
end Go.Proofs.YtgkmlbkocgjmmaaDoor
namespace Go.Proofs.YtgkmlbkocgjmmaaDoor
open Go Go.AM
set_option linter.unusedVariables false
set_option linter.unusedSimpArgs false
set_option maxHeartbeats 2000000
set_option maxRecDepth 100000

structure SortS (m0 M : AMem) (np bp r dp db : Nat) (names : List (List UInt8)) (na : Option Addr) (nc : Nat) (needs : List (List (List UInt8))) (done : List Bool) (ov : Value) (out : List Nat) : Prop where
  old : Old m0 M
  npl : np < M.size
  npg : M.get np = .cells [.slice na needs.length nc] 38 true .exact
  bpl : bp < M.size
  bpg : M.get bp = .cells [.map (some r)] 72 true .exact
  map : MapAt M r (mapF names)
  dn : DoneAt M dp db done
  len : done.length = names.length
  ints : IntB M ov out
  own : ∀ x, ownV ov x → np < x ∧ bp < x ∧ r < x ∧ dp < x ∧ db < x
  lo : m0.size ≤ np ∧ m0.size ≤ bp ∧ m0.size ≤ r ∧ m0.size ≤ dp ∧ m0.size ≤ db
  dist : db ≠ np ∧ db ≠ bp ∧ db ≠ r
theorem SortS.more {m0 M M' : AMem} {np bp r dp db : Nat} {names : List (List UInt8)} {na : Option Addr} {nc : Nat} {needs : List (List (List UInt8))} {done : List Bool} {ov : Value} {out : List Nat} (h : SortS m0 M np bp r dp db names na nc needs done ov out) (ho : Old M M') : SortS m0 M' np bp r dp db names na nc needs done ov out :=
  ⟨h.old.trans ho, Nat.lt_of_lt_of_le h.npl ho.1, by rw [ho.2 _ h.npl]; exact h.npg, Nat.lt_of_lt_of_le h.bpl ho.1, by rw [ho.2 _ h.bpl]; exact h.bpg, h.map.old ho, h.dn.old ho, h.len, h.ints.old ho, h.own, h.lo, h.dist⟩
theorem SortS.next {m0 M : AMem} {np bp r dp db : Nat} {names : List (List UInt8)} {na : Option Addr} {nc : Nat} {needs : List (List (List UInt8))} {done : List Bool} {ov : Value} {out : List Nat} (h : SortS m0 M np bp r dp db names na nc needs done ov out) (ho : out.length ≤ 1000000) {i : Nat} (hi : i < done.length) :
    ∃ v' M', appV 3 1 8 [.int .i64 0] ov (.slice (some ⟨M.size, 0, none⟩) 1 1) (mx (M.set db (.cells ((done.set i true).map .bool) 4 true .exact)) [.cells [iV i] 3 true .exact]) = some (v', mx M' []) ∧ SortS m0 M' np bp r dp db names na nc needs (done.set i true) v' (out ++ [i]) := by
  have hd := h.dn
  have hodb : ¬ ownV ov db := fun e => by have := (h.own db e).2.2.2.2; omega
  have hI : IntB (M.set db (.cells ((done.set i true).map .bool) 4 true .exact)) ov out := h.ints.keep ((Keep.refl (fun x => x = db) M).set (fun _ => rfl) _) fun x hx e => by subst e; exact hodb hx
  have hz : (M.set db (.cells ((done.set i true).map .bool) 4 true .exact)).size = M.size := rfl
  generalize hM1 : M.set db (.cells ((done.set i true).map .bool) 4 true .exact) = M1 at hI hz
  obtain ⟨v', M', h1, h2, h3, h4⟩ := (hI.old (Old.here M1 [.cells [iV i] 3 true .exact])).app (nb := M1.size) (k := i) ho (by rw [mx_size]; simp) (mx_new0 _ _)
  rw [mx_mx, List.append_nil, hz] at h1
  have hs := h3.1
  rw [mx_size] at hs
  simp only [List.length_cons, List.length_nil] at hs
  -- what is elsewhere
  have hk : ∀ y, y < M.size → y ≠ db → ¬ ownV ov y → M'.get y = M.get y := fun y hy hne hno => by
    rw [h3.2 y (by rw [mx_size]; omega) hno, mx_old (by omega), ← hM1, AMem.get_set_ne _ _ hne]
  have hkd : M'.get db = .cells ((done.set i true).map .bool) 4 true .exact := by
    rw [h3.2 db (by rw [mx_size]; have := hd.dlt; omega) hodb, mx_old (by have := hd.dlt; omega), ← hM1, AMem.get_set_self]
  obtain ⟨l1, l2, l3, l4, l5⟩ := h.lo
  obtain ⟨d1, d2, d3⟩ := h.dist
  have nn : ¬ ownV ov np := fun e => by have := (h.own np e).1; omega
  have nb : ¬ ownV ov bp := fun e => by have := (h.own bp e).2.1; omega
  have nr : ¬ ownV ov r := fun e => by have := (h.own r e).2.2.1; omega
  have nd : ¬ ownV ov dp := fun e => by have := (h.own dp e).2.2.2.1; omega
  have hsz : M.size ≤ M'.size := by omega
  refine ⟨v', M', h1, ⟨⟨Nat.le_trans h.old.1 hsz, fun y hy => ?_⟩, Nat.lt_of_lt_of_le h.npl hsz, by rw [hk _ h.npl (Ne.symm d1) nn]; exact h.npg, Nat.lt_of_lt_of_le h.bpl hsz, by rw [hk _ h.bpl (Ne.symm d2) nb]; exact h.bpg,
    h.map.keep hsz (hk _ h.map.1 (Ne.symm d3) nr), ⟨Nat.lt_of_lt_of_le hd.lt hsz, ?_, Nat.lt_of_lt_of_le hd.dlt hsz, hkd, hd.ne⟩, by rw [List.length_set]; exact h.len, h2, fun x hx => ?_, h.lo, h.dist⟩⟩
  · rw [hk y (by have := h.old.1; omega) (by omega) (fun e => by have := (h.own y e).1; omega)]; exact h.old.2 y hy
  · rw [hk _ hd.lt hd.ne nd, List.length_set]; exact hd.get
  · have := h4 x hx
    rw [mx_size] at this
    have e1 := h.npl; have e2 := h.bpl; have e3 := h.map.1; have e4 := hd.lt; have e5 := hd.dlt
    omega
theorem cellsOf_map (x : Option Nat) : cellsOf (.map x) = some [.map x] := rfl
def F22_X : ACode := F22_c0.tl.tl.tl.tl.tl.tl
theorem F22_c_cut : F22_c0 = .seq F22_c0.hd (.seq F22_c0.tl.hd (.seq F22_c0.tl.tl.hd (.seq F22_c0.tl.tl.tl.hd (.seq F22_c0.tl.tl.tl.tl.hd (.seq (.label 0) F22_X))))) := rfl
theorem F22_r_cut : F22_r0 = .seq .skip F22_X := rfl
theorem sort_pass (m M : AMem) (a : Option Addr) (c : Nat) (names : List (List UInt8)) (na : Option Addr) (nc : Nat) (needs : List (List (List UInt8))) (bp : Nat) (done : List Bool) (ov : Value) (out : List Nat) (t : Tmps) (hl : names.length ≤ 100000) (hnl : needs.length ≤ 1000000) (hN : NeedsR m na needs)
    (hS : SortS m M m.size bp (m.size + 1) (bp + 2) (bp + 1) names na nc needs done ov out) (u0 : t 0 = .slice a names.length c) (u8 : t 8 = .pointer (some ⟨bp + 2, 0, none⟩)) (u9 : t 9 = ov) (u10 : t 10 = .func (.func 48) #[] #[.pointer (some ⟨bp + 2, 0, none⟩), .pointer (some ⟨m.size, 0, none⟩), .pointer (some ⟨bp, 0, none⟩)])
    (hnd : names.Nodup) (hruns : ∀ res, Runs names needs done out res → Runs names needs (List.replicate names.length false) [] res) (hcnt : out.length + done.count false = names.length) (Jk : ASt → Prop)
    (hJ : ∀ (i : Nat) (t' : Tmps) (M' : AMem) (ov' : Value), nextR names needs done = some i → t' 0 = .slice a names.length c → t' 8 = .pointer (some ⟨bp + 2, 0, none⟩) → t' 9 = ov' → t' 10 = .func (.func 48) #[] #[.pointer (some ⟨bp + 2, 0, none⟩), .pointer (some ⟨m.size, 0, none⟩), .pointer (some ⟨bp, 0, none⟩)] →
      SortS m M' m.size bp (m.size + 1) (bp + 2) (bp + 1) names na nc needs (done.set i true) ov' (out ++ [i]) → Jk ⟨t', mx M' [], []⟩) :
    W Tryd.prog 3 F22_X (JumpK 0 Jk (RetK F22.res fun r m' => ∃ v, r = .ret v ∧ (m.size ≤ m'.size → Old m m' ∧ ∃ v', v = .tuple #[v', .int .i64 (sortR names needs).2] ∧ IntB m' v' (sortR names needs).1))) ⟨t, mx M [], []⟩ := by
  obtain ⟨oa, oc, rfl⟩ := hS.ints.len
  have hol : out.length ≤ names.length := by omega
  simp -implicitDefEqProofs (disch := first | omega | with_reducible assumption | (simp only [zU, zC]; omega)) only [zT, zA, reduceCtorEq, zB, zC, zD, zE, zF, zG, zH, zI, zJ, zK, zL, reduceIte, F22_X, F22_c0, hd_seq, tl_seq, u0]
  refine W_loop (fun N qs => ∃ (i : Nat) (M1 : AMem), N = names.length - i ∧ qs.ds = [] ∧ qs.m = mx M1 [] ∧ qs.t 0 = .slice a names.length c ∧ qs.t 8 = .pointer (some ⟨bp + 2, 0, none⟩) ∧ qs.t 9 = .slice oa out.length oc ∧ qs.t 10 = .func (.func 48) #[] #[.pointer (some ⟨bp + 2, 0, none⟩), .pointer (some ⟨m.size, 0, none⟩), .pointer (some ⟨bp, 0, none⟩)] ∧ qs.t 24 = .int .i64 names.length ∧ qs.t 25 = .int .i64 i ∧ i ≤ names.length ∧ SortS m M1 m.size bp (m.size + 1) (bp + 2) (bp + 1) names na nc needs done (.slice oa out.length oc) out ∧ ∀ j, j < i → readyR names needs done j = false) (names.length - (0)) ⟨0, M, rfl, rfl, ?qm, ?q0, ?q8, ?q9, ?q10, ?q24, ?q25, ?_⟩ ?_
  case qm | q0 | q8 | q9 | q10 | q24 | q25 => first | rfl | (simp -implicitDefEqProofs (disch := first | omega | with_reducible assumption | (simp only [zU, zC]; omega)) only [zT, zA, reduceCtorEq, zB, zC, zD, zE, zF, zG, zH, zI, zJ, zK, zL, reduceIte, u0, u8, u9, u10]; first | done | rfl | (congr 1; omega))
  · exact ⟨by omega, hS, fun j h => by omega⟩
  · rintro N t m1 ds ⟨i, M1, rfl, hds, hm, t0, t8, t9, t10, t24, t25, hp⟩
    simp only at hds hm t0 t8 t9 t10 t24 t25
    subst hds; replace hm := hm.symm; subst hm
    obtain ⟨hi, hS1, hall⟩ := hp
    by_cases g : (i : Int) < (names.length : Int)
    · have hi' : i < names.length := by omega
      have hid : i < done.length := by rw [hS1.len]; exact hi'
      have hS1' := hS1.more (Old.here M1 [])
      have hk := ready_ok (mx M1 []) bp m.size (m.size + 1) (bp + 2) (bp + 1) names needs na nc done i hid hS1'.bpl hS1'.bpg hS1'.npl hS1'.npg (hN.old hS1'.old) hS1'.map hS1'.dn hS1'.len (by omega) hnl
      repeat first | simp -implicitDefEqProofs (disch := first | omega | with_reducible assumption | (simp only [zU, zC]; omega)) only [zT, zA, reduceCtorEq, zB, zC, zD, zE, zF, zG, zH, zI, zJ, zK, zL, reduceIte, F22_l1, t0, t8, t9, t10, t24, t25, g] | refine OrW.go ?_
      refine RelC.call hk ?_
      rintro v M2 ⟨rfl, hO2⟩
      have hS2 := hS1'.more hO2
      cases hr : readyR names needs done i with
      | false =>
        repeat first | simp -implicitDefEqProofs (disch := first | omega | with_reducible assumption | (simp only [zU, zC]; omega)) only [zT, zA, reduceCtorEq, zB, zC, zD, zE, zF, zG, zH, zI, zJ, zK, zL, reduceIte, t0, t8, t9, t10, t24, t25] | refine OrW.go ?_
        rw [LoopK_normal]; refine ⟨_, ?_, i + 1, M2, rfl, rfl, ?qm, ?q0, ?q8, ?q9, ?q10, ?q24, ?q25, ?_⟩
        case qm | q0 | q8 | q9 | q10 | q24 | q25 => first | rfl | (simp -implicitDefEqProofs (disch := first | omega | with_reducible assumption | (simp only [zU, zC]; omega)) only [zT, zA, reduceCtorEq, zB, zC, zD, zE, zF, zG, zH, zI, zJ, zK, zL, reduceIte, t0, t8, t9, t10, t24, t25]; first | done | rfl | (congr 1; omega))
        · omega
        · refine ⟨by omega, hS2, fun j hj => ?_⟩
          rcases Nat.lt_or_ge j i with h | h
          · exact hall j h
          · obtain rfl : j = i := by omega
            exact hr
      | true =>
        have hnx := next_of hi' hr hall
        obtain ⟨v', M3, happ, hS3⟩ := hS2.next (by omega) hid
        have hd1 := hS2.dn.lt; have hd2 := hS2.dn.get; have hd3 := hS2.dn.dlt; have hd4 := hS2.dn.dget
        have gd : (i : Int) < (done.length : Int) := by omega
        have hset : (done.map Value.bool).set i (.bool true) = (done.set i true).map .bool := by rw [List.map_set]
        obtain ⟨av, cv, rfl⟩ := hS3.ints.len
        simp only [iV] at happ
        simp only [List.length_append, List.length_cons, List.length_nil, Nat.zero_add] at hS3
        repeat first | simp -implicitDefEqProofs (disch := first | omega | with_reducible assumption | (simp only [zU, zC]; omega)) only [zT, zA, reduceCtorEq, zB, zC, zD, zE, zF, zG, zH, zI, zJ, zK, zL, reduceIte, t0, t8, t9, t10, t24, t25, hd2, hd4, gd, hset, stepOp_app_v, happ] | refine OrW.go ?_
        exact hJ i _ _ _ hnx (by simp -implicitDefEqProofs (disch := first | omega | with_reducible assumption | (simp only [zU, zC]; omega)) only [zT, zA, reduceCtorEq, zB, zC, zD, zE, zF, zG, zH, zI, zJ, zK, zL, reduceIte, t0]) (by simp -implicitDefEqProofs (disch := first | omega | with_reducible assumption | (simp only [zU, zC]; omega)) only [zT, zA, reduceCtorEq, zB, zC, zD, zE, zF, zG, zH, zI, zJ, zK, zL, reduceIte, t8]) (by simp -implicitDefEqProofs (disch := first | omega | with_reducible assumption | (simp only [zU, zC]; omega)) only [zT, zA, reduceCtorEq, zB, zC, zD, zE, zF, zG, zH, zI, zJ, zK, zL, reduceIte]) (by simp -implicitDefEqProofs (disch := first | omega | with_reducible assumption | (simp only [zU, zC]; omega)) only [zT, zA, reduceCtorEq, zB, zC, zD, zE, zF, zG, zH, zI, zJ, zK, zL, reduceIte, t10]) hS3
    · obtain rfl : i = names.length := by omega
      have hnone := next_none hall
      have hres := (hruns out (.stop hnone)).eq (by simp) names.length (by simp)
      have hso : sortO names needs = out := hres.symm
      by_cases gl : (out.length : Int) < (names.length : Int)
      · have e : sortR names needs = ([], 240) := by
          unfold sortR; rw [if_pos hnd, hso, if_pos (by omega)]
        rw [e]
        repeat first | simp -implicitDefEqProofs (disch := first | omega | with_reducible assumption | (simp only [zU, zC]; omega)) only [zT, zA, reduceCtorEq, zB, zC, zD, zE, zF, zG, zH, zI, zJ, zK, zL, reduceIte, F22_l1, F22, t0, t8, t9, t10, t24, t25, g, gl] | refine OrW.go ?_
        exact ⟨_, rfl, fun _ => ⟨hS1.old.mx [], .slice none 0 0, rfl, .inl ⟨rfl, rfl⟩⟩⟩
      · have e : sortR names needs = (out, 0) := by
          unfold sortR; rw [if_pos hnd, hso, if_neg (by omega)]
        rw [e]
        repeat first | simp -implicitDefEqProofs (disch := first | omega | with_reducible assumption | (simp only [zU, zC]; omega)) only [zT, zA, reduceCtorEq, zB, zC, zD, zE, zF, zG, zH, zI, zJ, zK, zL, reduceIte, F22_l1, F22, t0, t8, t9, t10, t24, t25, g, gl] | refine OrW.go ?_
        exact ⟨_, rfl, fun _ => ⟨hS1.old.mx [], _, rfl, hS1.ints.old (Old.here _ [])⟩⟩
theorem sort_ok (m : AMem) (a : Option Addr) (c : Nat) (names : List (List UInt8)) (ha : StrR m a names) (hl : names.length ≤ 100000) (na : Option Addr) (nc : Nat) (needs : List (List (List UInt8))) (hN : NeedsR m na needs) (hnl : needs.length ≤ 1000000) :
    RelC Tryd.prog 3 22 [.slice a names.length c, .slice na needs.length nc] m fun r m' => Old m m' ∧ ∃ v, r = .tuple #[v, .int .i64 (sortR names needs).2] ∧ IntB m' v (sortR names needs).1 := by
  refine rel_of_W (fn := Tryd.f22) rfl rfl F22_ok (by simp [F22]) ?_
  simp -implicitDefEqProofs (disch := first | omega | with_reducible assumption | (simp only [zU, zC]; omega)) only [zT, zA, reduceCtorEq, zB, zC, zD, zE, zF, zG, zH, zI, zJ, zK, zL, reduceIte, F22]
  let ds : List Bool → List Nat → Prop := fun done out => ∀ res, Runs names needs done out res → Runs names needs (List.replicate names.length false) [] res
  refine W_scope (fun n s => ∃ (bp : Nat) (done : List Bool) (out : List Nat) (ov : Value) (M : AMem), names.Nodup ∧ n = done.count false ∧ ds done out ∧ out.length + done.count false = names.length ∧ s.ds = [] ∧ s.m = mx M [] ∧ s.t 0 = .slice a names.length c ∧ s.t 8 = .pointer (some ⟨bp + 2, 0, none⟩) ∧ s.t 9 = ov ∧ s.t 10 = .func (.func 48) #[] #[.pointer (some ⟨bp + 2, 0, none⟩), .pointer (some ⟨m.size, 0, none⟩), .pointer (some ⟨bp, 0, none⟩)] ∧
    SortS m M m.size bp (m.size + 1) (bp + 2) (bp + 1) names na nc needs done ov out) ?_ ?_
  · have hp := places_ok (mx m [.cells [.slice na needs.length nc] 38 true .exact]) a c names (ha.old (Old.here _ _)) (by omega)
    rw [F22_c_cut]
    repeat first | simp -implicitDefEqProofs (disch := first | omega | with_reducible assumption | (simp only [zU, zC]; omega)) only [zT, zA, reduceCtorEq, zB, zC, zD, zE, zF, zG, zH, zI, zJ, zK, zL, reduceIte, F22_c0, hd_seq, tl_seq] | refine OrW.go ?_
    refine RelC.call hp ?_
    rintro r M1 ⟨hO, hr⟩
    have hz := hO.1
    rw [mx_size] at hz
    simp only [List.length_cons, List.length_nil, Nat.zero_add] at hz
    have hOm : Old m M1 := (Old.here m _).trans hO
    by_cases hnd : names.Nodup
    · rw [if_pos hnd] at hr
      obtain ⟨rfl, hM⟩ := hr
      rw [mx_size] at hM
      simp only [List.length_cons, List.length_nil, Nat.zero_add] at hM
      have hml := hM.1
      have hrep : rep [.bool false] names.length = (List.replicate names.length false).map Value.bool := by
        unfold rep; generalize names.length = n
        induction n with
        | zero => rfl
        | succ n ih => rw [List.replicate_succ, List.flatten_cons, ih]; rfl
      have hS : SortS m (mx M1 [.cells [.map (some (m.size + 1))] 72 true .exact, .cells ((List.replicate names.length false).map .bool) 4 true .exact, .cells [.slice (some ⟨M1.size + 1, 0, none⟩) names.length names.length] 75 true .exact]) m.size M1.size (m.size + 1) (M1.size + 2) (M1.size + 1) names na nc needs (List.replicate names.length false) (.slice none 0 0) [] :=
        ⟨hOm.mx _, by rw [mx_size]; omega, by rw [mx_old (by omega), hO.2 _ (by rw [mx_size]; simp)]; exact mx_new0 _ _, by rw [mx_size]; simp, mx_new0 _ _, hM.old (Old.here _ _), ⟨by rw [mx_size]; simp, by rw [mx_new _ _ 2]; simp, by rw [mx_size]; simp, mx_new _ _ 1, by omega⟩, List.length_replicate, .inl ⟨rfl, rfl⟩, fun x ⟨o, l, c, h⟩ => by (cases h), by omega, by omega⟩
      have hM2 : True := trivial
      repeat first | simp -implicitDefEqProofs (disch := first | omega | with_reducible assumption | (simp only [zU, zC]; omega)) only [zT, zA, reduceCtorEq, zB, zC, zD, zE, zF, zG, zH, zI, zJ, zK, zL, reduceIte, cellsOf_map, hrep] | refine OrW.go ?_
      generalize hMX : mx M1 [.cells [.map (some (m.size + 1))] 72 true .exact, .cells ((List.replicate names.length false).map .bool) 4 true .exact, .cells [.slice (some ⟨M1.size + 1, 0, none⟩) names.length names.length] 75 true .exact] = X at hS
      rw [show (X : AMem) = mx X [] from by rw [← hMX, mx_mx, List.append_nil]]
      refine sort_pass m X a c names na nc needs M1.size _ _ _ _ hl hnl hN hS (by simp -implicitDefEqProofs (disch := first | omega | with_reducible assumption | (simp only [zU, zC]; omega)) only [zT, zA, reduceCtorEq, zB, zC, zD, zE, zF, zG, zH, zI, zJ, zK, zL, reduceIte]) (by simp -implicitDefEqProofs (disch := first | omega | with_reducible assumption | (simp only [zU, zC]; omega)) only [zT, zA, reduceCtorEq, zB, zC, zD, zE, zF, zG, zH, zI, zJ, zK, zL, reduceIte]) (by simp -implicitDefEqProofs (disch := first | omega | with_reducible assumption | (simp only [zU, zC]; omega)) only [zT, zA, reduceCtorEq, zB, zC, zD, zE, zF, zG, zH, zI, zJ, zK, zL, reduceIte]) (by simp -implicitDefEqProofs (disch := first | omega | with_reducible assumption | (simp only [zU, zC]; omega)) only [zT, zA, reduceCtorEq, zB, zC, zD, zE, zF, zG, zH, zI, zJ, zK, zL, reduceIte]) hnd (fun res h => h) (by simp) _ fun i t' M' ov' hn h0 h8 h9 h10 hS' => ?_
      obtain ⟨n1, n2⟩ := next_some hn
      have n3 := ready_not (by simpa using n1) n2
      have n4 := count_set (done := List.replicate names.length false) (i := i) (by simpa using n1) n3
      exact ⟨_, M1.size, _, _, ov', M', hnd, rfl, fun res h => .go hn h, by simp only [List.length_append, List.length_cons, List.length_nil]; rw [List.count_replicate_self] at n4; omega, rfl, rfl, h0, h8, h9, h10, hS'⟩
    · rw [if_neg hnd] at hr
      subst hr
      have e : sortR names needs = ([], 151) := if_neg hnd
      rw [e]
      repeat first | simp -implicitDefEqProofs (disch := first | omega | with_reducible assumption | (simp only [zU, zC]; omega)) only [zT, zA, reduceCtorEq, zB, zC, zD, zE, zF, zG, zH, zI, zJ, zK, zL, reduceIte, cellsOf_map] | refine OrW.go ?_
      exact ⟨_, rfl, fun _ => ⟨hOm.mx _, .slice none 0 0, rfl, .inl ⟨rfl, rfl⟩⟩⟩
  · rintro n t M dl ⟨bp, done, out, ov, M', hnd, rfl, hds, hcnt, h1, h2, h0, h8, h9, h10, hS⟩
    simp only at h1 h2 h0 h8 h9 h10
    subst h1 h2
    rw [F22_r_cut]
    simp -implicitDefEqProofs (disch := first | omega | with_reducible assumption | (simp only [zU, zC]; omega)) only [zT, zA, reduceCtorEq, zB, zC, zD, zE, zF, zG, zH, zI, zJ, zK, zL, reduceIte]
    refine sort_pass m M' a c names na nc needs bp done ov out t hl hnl hN hS h0 h8 h9 h10 hnd hds hcnt _ fun i t' M2 ov' hn h0 h8 h9 h10 hS' => ?_
    obtain ⟨n1, n2⟩ := next_some hn
    have hdl := hS.len
    have n3 := ready_not (by omega) n2
    have n4 := count_set (by omega) n3
    exact ⟨_, by omega, bp, _, _, ov', M2, hnd, rfl, fun res h => hds res (.go hn h), by simp only [List.length_append, List.length_cons, List.length_nil]; omega, rfl, rfl, h0, h8, h9, h10, hS'⟩
end Go.Proofs.YtgkmlbkocgjmmaaDoor
namespace Go.Proofs.YtgkmlbkocgjmmaaDoor
open Go Go.AM
set_option linter.unusedVariables false
set_option linter.unusedSimpArgs false
set_option maxHeartbeats 2000000
set_option maxRecDepth 100000

def Todo (M : AMem) (v : Value) (ls : List (List UInt8)) : Prop := (ls = [] ∧ ∃ a c, v = .slice a 0 c ∧ (a = none ∧ c = 0 ∨ ∃ b o e w sp X, a = some ⟨b, o, none⟩ ∧ c = 0 ∧ b < M.size ∧ M.get b = .cells X e w sp ∧ o ≤ X.length)) ∨
  ∃ b o X, v = .slice (some ⟨b, o, none⟩) ls.length openCap ∧ b < M.size ∧ M.get b = .cells X 9 true (.room [.string ⟨#[]⟩]) ∧ o + ls.length = X.length ∧ X.drop o = ls.map sV
theorem Todo.len {M : AMem} {v : Value} {ls : List (List UInt8)} (h : Todo M v ls) : ∃ a cap, v = .slice a ls.length cap := by
  rcases h with ⟨rfl, a, c, rfl, _⟩ | ⟨b, o, X, rfl, _⟩
  · exact ⟨_, _, rfl⟩
  · exact ⟨_, _, rfl⟩
theorem Todo.keep {M M' : AMem} {v : Value} {ls : List (List UInt8)} (h : Todo M v ls) {O : Nat → Prop} (hk : Keep O M M') (hv : ∀ x, ownV v x → ¬ O x) : Todo M' v ls := by
  rcases h with ⟨h0, a, c, rfl, h | ⟨b, o, e, w, sp, X, rfl, h1, h2, h3, h4⟩⟩ | ⟨b, o, X, rfl, h1, h2, h3⟩
  · exact .inl ⟨h0, _, _, rfl, .inl h⟩
  · exact .inl ⟨h0, _, _, rfl, .inr ⟨b, o, e, w, sp, X, rfl, h1, Nat.lt_of_lt_of_le h2 hk.1, by rw [hk.2 b h2 (hv b ⟨_, _, _, rfl⟩)]; exact h3, h4⟩⟩
  · exact .inr ⟨b, o, X, rfl, Nat.lt_of_lt_of_le h1 hk.1, by rw [hk.2 b h1 (hv b ⟨_, _, _, rfl⟩)]; exact h2, h3⟩
theorem Todo.old {M M' : AMem} {v : Value} {ls : List (List UInt8)} (h : Todo M v ls) (ho : Old M M') : Todo M' v ls := h.keep (ho.keep fun _ => False) fun _ _ h => h
theorem clone_ok (m : AMem) (a : Option Addr) (c : Nat) (ls : List (List UInt8)) (ha : Src m a ls) (hl : ls.length ≤ 1000000) :
    RelC Tryd.prog 3 56 [.slice a ls.length c] m fun r m' => Old m m' ∧ Todo m' r ls ∧ ∀ x, ownV r x → m.size ≤ x := by
  refine rel_of_W (fn := Tryd.f56) rfl rfl F56_ok (by simp [F56]) ?_
  rcases ha with ⟨rfl, rfl⟩ | ⟨b, o, rfl, hb, hr⟩
  · repeat first | simp -implicitDefEqProofs (disch := first | omega | with_reducible assumption | (simp only [zU, zC]; omega)) only [zT, zA, reduceCtorEq, zB, zC, zD, zE, zF, zG, zH, zI, zJ, zK, zL, reduceIte, F56, eqV, Option.isNone] | refine OrW.go ?_
    exact ⟨_, rfl, fun _ => ⟨.inl ⟨rfl, none, 0, rfl, .inl ⟨rfl, rfl⟩⟩, fun x ⟨o, l, c, h⟩ => by cases h⟩⟩
  · have hsrc : srcCells 1 ls.length (.slice (some ⟨b, o, none⟩) ls.length c) (mx m [.cells [] 9 true .exact]) = some (ls.map sV) := by rw [srcCells_slice (Nat.le_refl _), rd_def, mx_old hb, Nat.mul_one]; exact hr
    have happ : appV 9 1 16 [.string ⟨#[]⟩] (.slice (some ⟨m.size, 0, none⟩) 0 0) (.slice (some ⟨b, o, none⟩) ls.length c) (mx m [.cells [] 9 true .exact]) = appendTo 9 1 16 [.string ⟨#[]⟩] (.slice (some ⟨m.size, 0, none⟩) 0 0) ls.length (ls.map sV) (mx m [.cells [] 9 true .exact]) := by
      simp only [appV, srcLen_slice, hsrc]
      rw [if_pos ⟨rfl, by omega, one_strs _, by simp⟩]
    by_cases h0 : ls = []
    · subst h0
      have h2 : appendTo 9 1 16 [.string ⟨#[]⟩] (.slice (some ⟨m.size, 0, none⟩) 0 0) 0 [] (mx m [.cells [] 9 true .exact]) = some (.slice (some ⟨m.size, 0, none⟩) 0 0, mx m [.cells [] 9 true .exact]) := by
        simp only [appendTo]
        rw [if_neg (Nat.ne_of_lt zeroCap_lt), if_pos (by omega)]; simp only [if_true]
      simp only [List.length_nil, List.map_nil] at happ
      rw [h2] at happ
      repeat first | simp -implicitDefEqProofs (disch := first | omega | with_reducible assumption | (simp only [zU, zC]; omega)) only [zT, zA, reduceCtorEq, zB, zC, zD, zE, zF, zG, zH, zI, zJ, zK, zL, reduceIte, F56, eqV, Option.isNone, stepOp_app_v, happ] | refine OrW.go ?_
      exact ⟨_, rfl, fun _ => ⟨.inl ⟨rfl, _, _, rfl, .inr ⟨m.size, 0, _, _, _, _, rfl, rfl, by rw [mx_size]; simp, mx_new0 _ _, Nat.zero_le _⟩⟩, fun x ⟨o, l, c, h⟩ => by cases h; exact Nat.le_refl _⟩⟩
    · have hp : 0 < ls.length := List.length_pos_iff.2 h0
      have h2 : appendTo 9 1 16 [.string ⟨#[]⟩] (.slice (some ⟨m.size, 0, none⟩) 0 0) ls.length (ls.map sV) (mx m [.cells [] 9 true .exact]) = some (.slice (some ⟨m.size + 1, 0, none⟩) ls.length openCap, mx m [.cells [] 9 true .exact, .cells (ls.map sV) 9 true (.room [.string ⟨#[]⟩])]) := by
        simp only [appendTo]
        rw [if_neg (Nat.ne_of_lt zeroCap_lt), if_neg (by omega), rd_def, mx_new0]
        simp only [List.getD_cons_zero, rdO_cells]
        rw [show cutL ([] : List Value) 0 (0 * 1) = some [] from rfl]
        simp only
        rw [if_pos (by omega), mx_push, mx_size]; simp
      rw [h2] at happ
      repeat first | simp -implicitDefEqProofs (disch := first | omega | with_reducible assumption | (simp only [zU, zC]; omega)) only [zT, zA, reduceCtorEq, zB, zC, zD, zE, zF, zG, zH, zI, zJ, zK, zL, reduceIte, F56, eqV, Option.isNone, stepOp_app_v, happ] | refine OrW.go ?_
      exact ⟨_, rfl, fun _ => ⟨.inr ⟨m.size + 1, 0, _, rfl, by rw [mx_size]; simp, mx_new _ _ 1, by simp, rfl⟩, fun x ⟨o, l, c, h⟩ => by cases h; omega⟩⟩
theorem todo_eqv {M : AMem} {v : Value} {ls : List (List UInt8)} (h : Todo (mx M []) v ls) : Todo M v ls :=
  h.keep (O := fun _ => False) ⟨by rw [mx_nil_size]; exact Nat.le_refl _, fun y hy _ => by rw [mx_nil_size] at hy; exact (mx_old hy).symm⟩ fun _ _ h => h
theorem Todo.hd {M : AMem} {a : Option Addr} {n cap : Nat} {s : List UInt8} {ls : List (List UInt8)} (h : Todo M (.slice a n cap) (s :: ls)) :
    ∃ b o, a = some ⟨b, o, none⟩ ∧ cap = openCap ∧ b < M.size ∧ rdO (M.get b) o 1 = some [.string ⟨s.toArray⟩] ∧
      slVv 1 (.slice a (ls.length + 1) openCap) (some (.int .i64 1)) none none M = some (.slice (some ⟨b, o + 1, none⟩) ls.length openCap, M) ∧ Todo M (.slice (some ⟨b, o + 1, none⟩) ls.length openCap) ls := by
  rcases h with ⟨h, _⟩ | ⟨b, o, X, h, h1, h2, h3, h4⟩
  · cases h
  · cases h
    rw [List.length_cons] at h3
    have hd : X.drop (o + 1) = ls.map sV := by rw [← List.drop_drop, h4]; rfl
    refine ⟨b, o, rfl, rfl, h1, ?_, ?_, .inr ⟨b, o + 1, X, rfl, h1, h2, by omega, hd⟩⟩
    · rw [h2, rdO_cells]
      unfold cutL
      rw [if_pos (by omega), h4]; rfl
    · simp only [slVv, if_true, h2]
      rw [if_pos ⟨rfl, by simp; omega⟩, show cutV (ls.length + 1) ((X.length - o) / 1) (some (.int .i64 1)) none none = some (1, ls.length + 1, (X.length - o) / 1) from by simp only [cutV]; rw [if_pos (by simp; omega)]; simp]
      simp
theorem Todo.app {M : AMem} {b o : Nat} {ls news : List (List UInt8)} {w : Value} (h : Todo M (.slice (some ⟨b, o, none⟩) ls.length openCap) ls) (hn : ls.length + news.length ≤ 1000000000) (hw : srcLen w = some news.length) (hs : srcCells 1 news.length w (mx M []) = some (news.map sV)) :
    ∃ v' M', appV 9 1 16 [.string ⟨#[]⟩] (.slice (some ⟨b, o, none⟩) ls.length openCap) w (mx M []) = some (v', mx M' []) ∧ Todo M' v' (ls ++ news) ∧ Keep (fun x => x = b) M M' ∧ ∀ x, ownV v' x → x = b ∨ M.size ≤ x := by
  obtain ⟨X, hbl, h2, h3, h4⟩ : ∃ X, b < M.size ∧ M.get b = .cells X 9 true (.room [.string ⟨#[]⟩]) ∧ o + ls.length = X.length ∧ X.drop o = ls.map sV := by
    rcases h with ⟨_, a, c, hv, h⟩ | ⟨b', o', X, hv, h1, h2, h3, h4⟩
    · have hz := zeroCap_lt
      simp only [Value.slice.injEq] at hv
      obtain ⟨_, _, hc⟩ := hv
      rcases h with ⟨_, h⟩ | ⟨_, _, _, _, _, _, _, h, _⟩ <;> omega
    · cases hv; exact ⟨X, h1, h2, h3, h4⟩
  have happ : appV 9 1 16 [.string ⟨#[]⟩] (.slice (some ⟨b, o, none⟩) ls.length openCap) w (mx M []) = appendTo 9 1 16 [.string ⟨#[]⟩] (.slice (some ⟨b, o, none⟩) ls.length openCap) news.length (news.map sV) (mx M []) := by
    simp only [appV, hw, hs]
    rw [if_pos ⟨rfl, by omega, one_strs _, by simp⟩]
  rw [happ]
  have hlen : (ls ++ news).length = ls.length + news.length := List.length_append
  by_cases h0 : news = []
  · subst h0
    refine ⟨.slice (some ⟨b, o, none⟩) ls.length openCap, M, ?_, by rw [List.append_nil]; exact h, .refl _ _, fun x ⟨o, l, c, h⟩ => by cases h; exact .inl rfl⟩
    simp only [appendTo, if_true, mx_old hbl, h2, List.length_nil]
    rw [if_pos (show (Spare.room [Value.string ⟨#[]⟩]).size = 1 from rfl), if_pos (by omega)]
  · have hg : 0 < news.length := List.length_pos_iff.2 h0
    refine ⟨.slice (some ⟨M.size, 0, none⟩) (ls.length + news.length) openCap, mx (M.set b .dead) [.cells ((ls ++ news).map sV) 9 true (.room [.string ⟨#[]⟩])], ?_, .inr ⟨M.size, 0, _, by rw [hlen], by rw [mx_size, AMem.size_set]; simp, ?_, by simp, rfl⟩, ((Keep.refl (fun x => x = b) M).set (fun _ => rfl) _).mx _, fun x ⟨o, l, k, hx⟩ => by cases hx; exact .inr (Nat.le_refl _)⟩
    · simp only [appendTo, if_true, mx_old hbl, h2]
      rw [if_pos (show (Spare.room [Value.string ⟨#[]⟩]).size = 1 from rfl), if_neg (by omega), if_pos ⟨by omega, by omega, by omega⟩]
      rw [if_pos ⟨trivial, by omega, trivial, eqPL_str⟩, mx_set_old hbl, mx_push, mx_nil_size, mx_mx, h4, Nat.mul_one, List.take_of_length_le (by simp), ← List.map_append]; rfl
    · have := mx_new0 (M.set b .dead) [.cells ((ls ++ news).map sV) 9 true (.room [.string ⟨#[]⟩])]
      rw [AMem.size_set] at this; exact this
end Go.Proofs.YtgkmlbkocgjmmaaDoor
namespace Go.Proofs.YtgkmlbkocgjmmaaDoor
open Go Go.AM
set_option linter.unusedVariables false
set_option linter.unusedSimpArgs false
set_option maxHeartbeats 2000000
set_option maxRecDepth 100000

inductive Reach (names : List (List UInt8)) (needs : List (List (List UInt8))) (roots : List (List UInt8)) : Nat → Prop
  | root {s : List UInt8} {k : Nat} : s ∈ roots → plR names s = some k → Reach names needs roots k
  | step {i : Nat} {s : List UInt8} {k : Nat} : Reach names needs roots i → s ∈ rowOf needs i → plR names s = some k → Reach names needs roots k
structure CInv (names : List (List UInt8)) (needs : List (List (List UInt8))) (roots todo : List (List UInt8)) (got : List Bool) : Prop where
  sound : ∀ i, got.getD i false = true → Reach names needs roots i
  todoR : ∀ s ∈ todo, ∀ k, plR names s = some k → Reach names needs roots k
  roots : ∀ s ∈ roots, ∀ k, plR names s = some k → got.getD k false = true ∨ s ∈ todo
  closed : ∀ i, got.getD i false = true → ∀ s ∈ rowOf needs i, ∀ k, plR names s = some k → got.getD k false = true ∨ s ∈ todo
  len : got.length = names.length
theorem getD_set {got : List Bool} {k : Nat} (hk : k < got.length) (i : Nat) : (got.set k true).getD i false = if i = k then true else got.getD i false := by
  simp only [List.getD, List.getElem?_set]
  by_cases h : i = k
  · subst h; simp [hk]
  · have h2 : ¬ k = i := fun e => h e.symm
    simp [h, h2]
theorem CInv.init (names : List (List UInt8)) (needs : List (List (List UInt8))) (roots : List (List UInt8)) : CInv names needs roots roots (List.replicate names.length false) := by
  have h : ∀ i, (List.replicate names.length false).getD i false = false := fun i => by
    simp only [List.getD, List.getElem?_replicate]; split <;> rfl
  exact ⟨fun i hi => by rw [h] at hi; (cases hi), fun s hs k hk => .root hs hk, fun s hs k hk => .inr hs, fun i hi => by rw [h] at hi; (cases hi), List.length_replicate⟩
theorem CInv.skip {names : List (List UInt8)} {needs : List (List (List UInt8))} {roots todo : List (List UInt8)} {got : List Bool} {s : List UInt8} (h : CInv names needs roots (s :: todo) got) (hs : ∀ k, plR names s = some k → got.getD k false = true) : CInv names needs roots todo got :=
  ⟨h.sound, fun x hx => h.todoR x (by simp [hx]), fun x hx k hk => (h.roots x hx k hk).elim .inl fun hm => (List.mem_cons.1 hm).elim (fun e => by subst e; exact .inl (hs k hk)) .inr,
   fun i hi x hx k hk => (h.closed i hi x hx k hk).elim .inl fun hm => (List.mem_cons.1 hm).elim (fun e => by subst e; exact .inl (hs k hk)) .inr, h.len⟩
theorem CInv.take {names : List (List UInt8)} {needs : List (List (List UInt8))} {roots todo : List (List UInt8)} {got : List Bool} {s : List UInt8} {k : Nat} (h : CInv names needs roots (s :: todo) got) (hk : plR names s = some k) : CInv names needs roots (todo ++ rowOf needs k) (got.set k true) := by
  have hkl : k < got.length := by rw [h.len]; exact plR_lt hk
  have hR := h.todoR s (by simp) k hk
  have hg := getD_set hkl
  refine ⟨fun i hi => ?_, fun x hx j hj => ?_, fun x hx j hj => ?_, fun i hi x hx j hj => ?_, by rw [List.length_set]; exact h.len⟩
  · rw [hg] at hi
    by_cases e : i = k
    · subst e; exact hR
    · rw [if_neg e] at hi; exact h.sound i hi
  · rcases List.mem_append.1 hx with h1 | h1
    · exact h.todoR x (by simp [h1]) j hj
    · exact .step hR h1 hj
  · rw [hg]
    by_cases e : j = k
    · exact .inl (if_pos e)
    · rw [if_neg e]
      rcases h.roots x hx j hj with h1 | h1
      · exact .inl h1
      · rcases List.mem_cons.1 h1 with h1 | h1
        · subst h1; rw [hk] at hj; cases hj; exact absurd rfl e
        · exact .inr (List.mem_append_left _ h1)
  · rw [hg] at hi ⊢
    by_cases e : j = k
    · exact .inl (if_pos e)
    · rw [if_neg e]
      by_cases e2 : i = k
      · subst e2; exact .inr (List.mem_append_right _ hx)
      · rw [if_neg e2] at hi
        rcases h.closed i hi x hx j hj with h1 | h1
        · exact .inl h1
        · rcases List.mem_cons.1 h1 with h1 | h1
          · subst h1; rw [hk] at hj; cases hj; exact absurd rfl e
          · exact .inr (List.mem_append_left _ h1)
theorem CInv.done {names : List (List UInt8)} {needs : List (List (List UInt8))} {roots : List (List UInt8)} {got : List Bool} (h : CInv names needs roots [] got) (i : Nat) : got.getD i false = true ↔ Reach names needs roots i := by
  refine ⟨h.sound i, fun hr => ?_⟩
  induction hr with
  | root hs hk => exact (h.roots _ hs _ hk).elim id fun h => by cases h
  | step _ hs hk ih => exact (h.closed _ ih _ hs _ hk).elim id fun h => by cases h
open Classical in
noncomputable def closO (names : List (List UInt8)) (needs : List (List (List UInt8))) (roots : List (List UInt8)) : List Nat := (List.range names.length).filter fun i => decide (Reach names needs roots i)
noncomputable def closR (names : List (List UInt8)) (needs : List (List (List UInt8))) (roots : List (List UInt8)) : List Nat × Int := if names.Nodup then (closO names needs roots, 0) else ([], 151)
open Classical in
theorem closO_of {names : List (List UInt8)} {needs : List (List (List UInt8))} {roots : List (List UInt8)} {got : List Bool} (h : CInv names needs roots [] got) : closO names needs roots = (List.range names.length).filter fun i => got.getD i false := by
  unfold closO
  refine List.filter_congr fun i hi => ?_
  rw [Bool.eq_iff_iff, decide_eq_true_iff, ← h.done i]
theorem closure_ok (m : AMem) (a : Option Addr) (c : Nat) (names : List (List UInt8)) (ha : StrR m a names) (hl : names.length ≤ 100000) (na : Option Addr) (nc : Nat) (needs : List (List (List UInt8))) (hN : NeedsR m na needs) (hnl : needs.length ≤ 1000000)
    (ra : Option Addr) (rc : Nat) (roots : List (List UInt8)) (hr : Src m ra roots) (hrl : roots.length ≤ 1000000) (hrow : ∀ i, (rowOf needs i).length ≤ 1000) :
    RelC Tryd.prog 3 26 [.slice a names.length c, .slice na needs.length nc, .slice ra roots.length rc] m fun r m' => Old m m' ∧ ∃ v, r = .tuple #[v, .int .i64 (closR names needs roots).2] ∧ IntB m' v (closR names needs roots).1 := by
  refine rel_of_W (fn := Tryd.f26) rfl rfl F26_ok (by simp [F26]) ?_
  have hp := places_ok (mx m []) a c names (ha.old (Old.here _ _)) (by omega)
  repeat first | simp -implicitDefEqProofs (disch := first | omega | with_reducible assumption | (simp only [zU, zC]; omega)) only [zT, zA, reduceCtorEq, zB, zC, zD, zE, zF, zG, zH, zI, zJ, zK, zL, reduceIte, F26] | refine OrW.go ?_
  refine RelC.call hp ?_
  rintro r M1 ⟨hO, hr1⟩
  have hOm : Old m M1 := (Old.here m []).trans hO
  by_cases hnd : names.Nodup
  case neg =>
    rw [if_neg hnd] at hr1
    subst hr1
    have e : closR names needs roots = ([], 151) := if_neg hnd
    rw [e]
    repeat first | simp -implicitDefEqProofs (disch := first | omega | with_reducible assumption | (simp only [zU, zC]; omega)) only [zT, zA, reduceCtorEq, zB, zC, zD, zE, zF, zG, zH, zI, zJ, zK, zL, reduceIte] | refine OrW.go ?_
    exact ⟨_, rfl, fun _ => ⟨hOm.mx _, .slice none 0 0, rfl, .inl ⟨rfl, rfl⟩⟩⟩
  rw [if_pos hnd] at hr1
  obtain ⟨rfl, hM⟩ := hr1
  rw [mx_nil_size] at hM
  have e : closR names needs roots = (closO names needs roots, 0) := if_pos hnd
  have hrep : rep [.bool false] names.length = (List.replicate names.length false).map Value.bool := by
    unfold rep; generalize names.length = n
    induction n with
    | zero => rfl
    | succ n ih => rw [List.replicate_succ, List.flatten_cons, ih]; rfl
  have hcl := clone_ok (mx M1 [.cells ((List.replicate names.length false).map .bool) 4 true .exact]) ra rc roots (hr.old (hOm.mx _)) hrl
  repeat first | simp -implicitDefEqProofs (disch := first | omega | with_reducible assumption | (simp only [zU, zC]; omega)) only [zT, zA, reduceCtorEq, zB, zC, zD, zE, zF, zG, zH, zI, zJ, zK, zL, reduceIte, hrep] | refine OrW.go ?_
  refine RelC.call hcl ?_
  rintro tv M2 ⟨hO2, hT, hTo⟩
  have hz2 := hO2.1
  rw [mx_size] at hz2
  simp only [List.length_cons, List.length_nil, Nat.zero_add] at hz2
  have hd2 : M2.get M1.size = .cells ((List.replicate names.length false).map .bool) 4 true .exact := by rw [hO2.2 _ (by rw [mx_size]; simp)]; exact mx_new0 _ _
  have hM2 := hM.old ((Old.here M1 _).trans hO2)
  have hOm2 := hOm.trans ((Old.here M1 _).trans hO2)
  have hml := hM.1
  rw [e]
  repeat first | simp -implicitDefEqProofs (disch := first | omega | with_reducible assumption | (simp only [zU, zC]; omega)) only [zT, zA, reduceCtorEq, zB, zC, zD, zE, zF, zG, zH, zI, zJ, zK, zL, reduceIte] | refine OrW.go ?_
  refine W_loop (fun N qs => ∃ (M : AMem) (tv' : Value) (todo : List (List UInt8)) (got : List Bool), N = got.count false * 10000 + todo.length ∧ qs.ds = [] ∧ qs.m = mx M [] ∧ qs.t 1 = .slice na needs.length nc ∧ qs.t 8 = .map (some m.size) ∧ qs.t 10 = .slice (some ⟨M1.size, 0, none⟩) names.length names.length ∧ qs.t 11 = tv' ∧ Old m M ∧ MapAt M m.size (mapF names) ∧ M1.size < M.size ∧ M.get M1.size = .cells (got.map .bool) 4 true .exact ∧ Todo M tv' todo ∧ (∀ x, ownV tv' x → M1.size < x) ∧ CInv names needs roots todo got ∧ todo.length + got.count false * 1000 ≤ 1000000 + names.length * 1000) ((List.replicate names.length false).count false * 10000 + (roots).length) ⟨M2, tv, roots, List.replicate names.length false, rfl, rfl, ?qm, ?q1, ?q8, ?q10, ?q11, ?_⟩ ?_
  case qm | q1 | q8 | q10 | q11 => first | rfl | (simp -implicitDefEqProofs (disch := first | omega | with_reducible assumption | (simp only [zU, zC]; omega)) only [zT, zA, reduceCtorEq, zB, zC, zD, zE, zF, zG, zH, zI, zJ, zK, zL, reduceIte]; first | done | rfl | (congr 1; omega))
  · exact ⟨hOm2, hM2, by omega, hd2, hT, fun x hx => by have := hTo x hx; rw [mx_size] at this; simp at this; omega, CInv.init names needs roots, by simp; omega⟩
  · rintro N t m1 ds ⟨M, tv', todo, got, rfl, hds, hm, t1, t8, t10, t11, hp⟩
    simp only at hds hm t1 t8 t10 t11
    subst hds; replace hm := hm.symm; subst hm
    obtain ⟨p1, p2, p3, p4, p5, p6, p7, p8⟩ := hp
    cases todo with
    | nil =>
      obtain ⟨ta, tc, rfl⟩ := p5.len
      have hg7 := p7.len
      rw [closO_of p7]
      repeat first | simp -implicitDefEqProofs (disch := first | omega | with_reducible assumption | (simp only [zU, zC]; omega)) only [zT, zA, reduceCtorEq, zB, zC, zD, zE, zF, zG, zH, zI, zJ, zK, zL, reduceIte, F26_l0, t1, t8, t10, t11] | refine OrW.go ?_
      refine W_loop (fun N qs => ∃ (i : Nat) (M3 : AMem) (oa : Option Addr) (oc : Nat), N = names.length - i ∧ qs.ds = [] ∧ qs.m = mx M3 [] ∧ qs.t 14 = .slice oa ((List.range i).filter fun j => got.getD j false).length oc ∧ qs.t 58 = .slice (some ⟨M1.size, 0, none⟩) names.length names.length ∧ qs.t 59 = .int .i64 names.length ∧ qs.t 60 = .int .i64 i ∧ i ≤ names.length ∧ Old m M3 ∧ M1.size < M3.size ∧ M3.get M1.size = .cells (got.map .bool) 4 true .exact ∧ IntB M3 (.slice oa ((List.range i).filter fun j => got.getD j false).length oc) ((List.range i).filter fun j => got.getD j false) ∧ ∀ x, ownV (.slice oa ((List.range i).filter fun j => got.getD j false).length oc) x → M1.size < x) (names.length - (0)) ⟨0, M, none, 0, rfl, rfl, ?qm, ?q14, ?q58, ?q59, ?q60, ?_⟩ ?_
      case qm | q14 | q58 | q59 | q60 => first | rfl | (simp -implicitDefEqProofs (disch := first | omega | with_reducible assumption | (simp only [zU, zC]; omega)) only [zT, zA, reduceCtorEq, zB, zC, zD, zE, zF, zG, zH, zI, zJ, zK, zL, reduceIte, List.range_zero, List.filter_nil]; first | done | rfl | (congr 1; omega))
      · exact ⟨by omega, p1, p3, p4, .inl ⟨rfl, rfl⟩, fun x ⟨o, l, c, h⟩ => by cases h⟩
      · rintro N t m1 ds ⟨i, M3, oa, oc, rfl, hds, hm, t14, t58, t59, t60, hp⟩
        simp only at hds hm t14 t58 t59 t60
        subst hds; replace hm := hm.symm; subst hm
        obtain ⟨hi, w1, w2, w3, w4, w5⟩ := hp
        by_cases g : (i : Int) < (names.length : Int)
        · have hi' : i < names.length := by omega
          have hig : i < got.length := by omega
          have hcb := cutL_bool hig
          have hsucc : (List.range (i + 1)).filter (fun j => got.getD j false) = ((List.range i).filter fun j => got.getD j false) ++ (if got[i] = true then [i] else []) := by
            rw [List.range_succ, List.filter_append]; congr 1
            have : got.getD i false = got[i] := by simp [List.getD, hig]
            simp only [List.filter_cons, List.filter_nil, this]
          cases hgi : got[i] with
          | false =>
            rw [hgi] at hcb hsucc
            simp only [Bool.false_eq_true, if_false, List.append_nil] at hsucc
            repeat first | simp -implicitDefEqProofs (disch := first | omega | with_reducible assumption | (simp only [zU, zC]; omega)) only [zT, zA, reduceCtorEq, zB, zC, zD, zE, zF, zG, zH, zI, zJ, zK, zL, reduceIte, F26_l1, t14, t58, t59, t60, g, w3, hcb] | refine OrW.go ?_
            rw [LoopK_normal]; refine ⟨_, ?_, i + 1, M3, oa, oc, rfl, rfl, ?qm, ?q14, ?q58, ?q59, ?q60, ?_⟩
            case qm | q14 | q58 | q59 | q60 => first | rfl | (simp -implicitDefEqProofs (disch := first | omega | with_reducible assumption | (simp only [zU, zC]; omega)) only [zT, zA, reduceCtorEq, zB, zC, zD, zE, zF, zG, zH, zI, zJ, zK, zL, reduceIte, t14, t58, t59, t60, hsucc]; first | done | rfl | (congr 1; omega))
            · omega
            · rw [hsucc]; exact ⟨by omega, w1, w2, w3, w4, w5⟩
          | true =>
            rw [hgi] at hcb hsucc
            simp only [if_true] at hsucc
            have hll : ((List.range i).filter fun j => got.getD j false).length ≤ i := by have := List.length_filter_le (fun j => got.getD j false) (List.range i); rwa [List.length_range] at this
            obtain ⟨v', M4, happ, hI, hk, ho⟩ := (w4.old (Old.here M3 [.cells [iV i] 3 true .exact])).app (nb := M3.size) (k := i) (by omega) (by rw [mx_size]; simp) (mx_new0 _ _)
            rw [mx_mx, List.append_nil] at happ
            rw [← hsucc] at hI
            obtain ⟨av, cv, rfl⟩ := hI.len
            simp only [iV] at happ
            have hs4 := hk.1
            rw [mx_size] at hs4
            have hk4 : ∀ y, y ≤ M1.size → M4.get y = M3.get y := fun y hy => by rw [hk.2 y (by rw [mx_size]; omega) (fun h => by have := w5 y h; omega), mx_old (by omega)]
            repeat first | simp -implicitDefEqProofs (disch := first | omega | with_reducible assumption | (simp only [zU, zC]; omega)) only [zT, zA, reduceCtorEq, zB, zC, zD, zE, zF, zG, zH, zI, zJ, zK, zL, reduceIte, F26_l1, t14, t58, t59, t60, g, w3, hcb, stepOp_app_v, happ] | refine OrW.go ?_
            rw [LoopK_normal]; refine ⟨_, ?_, i + 1, M4, av, cv, rfl, rfl, ?qm, ?q14, ?q58, ?q59, ?q60, ?_⟩
            case qm | q14 | q58 | q59 | q60 => first | rfl | (simp -implicitDefEqProofs (disch := first | omega | with_reducible assumption | (simp only [zU, zC]; omega)) only [zT, zA, reduceCtorEq, zB, zC, zD, zE, zF, zG, zH, zI, zJ, zK, zL, reduceIte, t14, t58, t59, t60]; first | done | rfl | (congr 1; omega))
            · omega
            · exact ⟨by omega, ⟨by have := w1.1; omega, fun y hy => by rw [hk4 y (by have := hOm.1; omega)]; exact w1.2 y hy⟩, by omega, by rw [hk4 _ (Nat.le_refl _)]; exact w3, hI, fun x hx => by have := ho x hx; rw [mx_size] at this; omega⟩
        · obtain rfl : i = names.length := by omega
          repeat first | simp -implicitDefEqProofs (disch := first | omega | with_reducible assumption | (simp only [zU, zC]; omega)) only [zT, zA, reduceCtorEq, zB, zC, zD, zE, zF, zG, zH, zI, zJ, zK, zL, reduceIte, F26_l1, t14, t58, t59, t60, g] | refine OrW.go ?_
          exact ⟨_, rfl, fun _ => ⟨w1.mx [], _, rfl, w4.old (Old.here _ [])⟩⟩
    | cons s todo =>
      obtain ⟨ta, tc, rfl⟩ := p5.len
      obtain ⟨b, o, rfl, rfl, hb, hrd, hsl, hT2⟩ := (p5.old (Old.here M [])).hd
      rw [mx_nil_size] at hb
      rw [mx_old hb] at hrd
      have hbo := p6 b ⟨_, _, _, rfl⟩
      have hk := (p2.old (Old.here M [])).look (.int .i64 0) true s
      rw [lkRes_ok] at hk
      have g0 : (0 : Int) < ((todo.length + 1 : Nat) : Int) := by omega
      have hT3 := todo_eqv hT2
      have own2 : ∀ x, ownV (.slice (some ⟨b, o + 1, none⟩) todo.length openCap) x → M1.size < x := fun x ⟨o', l, c, h⟩ => by cases h; exact hbo
      have hg7 := p7.len
      simp only [List.length_cons] at hsl p8
      cases hpl : plR names s with
      | none =>
        simp only [mapF, hpl, Option.map_none, Option.getD_none, Option.isSome_none] at hk
        repeat first | simp -implicitDefEqProofs (disch := first | omega | with_reducible assumption | (simp only [zU, zC]; omega)) only [zT, zA, reduceCtorEq, zB, zC, zD, zE, zF, zG, zH, zI, zJ, zK, zL, reduceIte, F26_l0, t1, t8, t10, t11, g0, hrd, stepOp_lkp_v, hk, stepOp_slV_v, hsl, undef] | refine OrW.go ?_
        rw [LoopK_normal]; refine ⟨_, ?_, M, .slice (some ⟨b, o + 1, none⟩) todo.length openCap, todo, got, rfl, rfl, ?qm, ?q1, ?q8, ?q10, ?q11, ?_⟩
        case qm | q1 | q8 | q10 | q11 => first | rfl | (simp -implicitDefEqProofs (disch := first | omega | with_reducible assumption | (simp only [zU, zC]; omega)) only [zT, zA, reduceCtorEq, zB, zC, zD, zE, zF, zG, zH, zI, zJ, zK, zL, reduceIte, t1, t8, t10, t11]; first | done | rfl | (congr 1; omega))
        · omega
        · exact ⟨p1, p2, p3, p4, hT3, own2, p7.skip (fun k hk => by rw [hpl] at hk; cases hk), by omega⟩
      | some k =>
        have hkl := plR_lt hpl
        have hkg : k < got.length := by omega
        have hcb := cutL_bool hkg
        have gk : (k : Int) < (names.length : Int) := by omega
        simp only [mapF, hpl, Option.map_some, Option.getD_some, Option.isSome_some] at hk
        cases hgk : got[k] with
        | true =>
          rw [hgk] at hcb
          repeat first | simp -implicitDefEqProofs (disch := first | omega | with_reducible assumption | (simp only [zU, zC]; omega)) only [zT, zA, reduceCtorEq, zB, zC, zD, zE, zF, zG, zH, zI, zJ, zK, zL, reduceIte, F26_l0, t1, t8, t10, t11, g0, hrd, stepOp_lkp_v, hk, stepOp_slV_v, hsl, p4, hcb, gk] | refine OrW.go ?_
          rw [LoopK_normal]; refine ⟨_, ?_, M, .slice (some ⟨b, o + 1, none⟩) todo.length openCap, todo, got, rfl, rfl, ?qm, ?q1, ?q8, ?q10, ?q11, ?_⟩
          case qm | q1 | q8 | q10 | q11 => first | rfl | (simp -implicitDefEqProofs (disch := first | omega | with_reducible assumption | (simp only [zU, zC]; omega)) only [zT, zA, reduceCtorEq, zB, zC, zD, zE, zF, zG, zH, zI, zJ, zK, zL, reduceIte, t1, t8, t10, t11]; first | done | rfl | (congr 1; omega))
          · omega
          · refine ⟨p1, p2, p3, p4, hT3, own2, p7.skip (fun k' hk' => ?_), by omega⟩
            rw [hpl] at hk'; cases hk'
            simp [List.getD, hkg, hgk]
        | false =>
          rw [hgk] at hcb
          have hset : (got.map Value.bool).set k (.bool true) = (got.set k true).map .bool := by rw [List.map_set]
          have hz := hOm.1
          have hcnt := count_set hkg hgk
          have hbne : b ≠ M1.size := by omega
          have hM4 : MapAt (M.set M1.size (.cells ((got.set k true).map .bool) 4 true .exact)) m.size (mapF names) := p2.keep (by rw [AMem.size_set]; exact Nat.le_refl _) (AMem.get_set_ne _ _ (by omega))
          have hO4 : Old m (M.set M1.size (.cells ((got.set k true).map .bool) 4 true .exact)) := p1.set hz _
          have hT4 : Todo (M.set M1.size (.cells ((got.set k true).map .bool) 4 true .exact)) (.slice (some ⟨b, o + 1, none⟩) todo.length openCap) todo := hT3.keep ((Keep.refl (fun x => x = M1.size) M).set (fun _ => rfl) _) fun x hx e => by have := own2 x hx; omega
          have hg4 : (M.set M1.size (.cells ((got.set k true).map .bool) 4 true .exact)).get M1.size = .cells ((got.set k true).map .bool) 4 true .exact := AMem.get_set_self _ _ _
          have hs4 : (M.set M1.size (.cells ((got.set k true).map .bool) 4 true .exact)).size = M.size := rfl
          repeat first | simp -implicitDefEqProofs (disch := first | omega | with_reducible assumption | (simp only [zU, zC]; omega)) only [zT, zA, reduceCtorEq, zB, zC, zD, zE, zF, zG, zH, zI, zJ, zK, zL, reduceIte, F26_l0, t1, t8, t10, t11, g0, hrd, stepOp_lkp_v, hk, stepOp_slV_v, hsl, p4, hcb, gk, hset] | refine OrW.go ?_
          generalize M.set M1.size (.cells ((got.set k true).map .bool) 4 true .exact) = M4 at hM4 hO4 hT4 hg4 hs4
          refine RelC.call (of_ok (mx M4 []) na nc needs k (hN.old (hO4.mx [])) (by omega) hnl) ?_
          rintro w M5 ⟨hO5, ra5, rc5, rfl, hS5⟩
          have hO45 : Old M4 M5 := (Old.here M4 []).trans hO5
          have hz5 := hO45.1
          have hrw := hrow k
          obtain ⟨v6, M6, happ, hT6, hk6, ho6⟩ := (hT4.old hO45).app (w := .slice ra5 (rowOf needs k).length rc5) (news := rowOf needs k) (by omega) rfl ((hS5.old (Old.here M5 [])).src rc5)
          obtain ⟨a6, c6, rfl⟩ := hT6.len
          have hk6' : ∀ y, y < M5.size → y ≠ b → M6.get y = M5.get y := fun y hy h => hk6.2 y hy h
          have hs6 := hk6.1
          repeat first | simp -implicitDefEqProofs (disch := first | omega | with_reducible assumption | (simp only [zU, zC]; omega)) only [zT, zA, reduceCtorEq, zB, zC, zD, zE, zF, zG, zH, zI, zJ, zK, zL, reduceIte, t1, t8, t10, t11, stepOp_app_v, happ] | refine OrW.go ?_
          rw [LoopK_normal]; refine ⟨_, ?_, M6, .slice a6 (todo ++ rowOf needs k).length c6, todo ++ rowOf needs k, got.set k true, rfl, rfl, ?qm, ?q1, ?q8, ?q10, ?q11, ?_⟩
          case qm | q1 | q8 | q10 | q11 => first | rfl | (simp -implicitDefEqProofs (disch := first | omega | with_reducible assumption | (simp only [zU, zC]; omega)) only [zT, zA, reduceCtorEq, zB, zC, zD, zE, zF, zG, zH, zI, zJ, zK, zL, reduceIte, t1, t8, t10, t11]; first | done | rfl | (congr 1; omega))
          · simp only [List.length_cons, List.length_append]; omega
          · refine ⟨⟨by have := hO4.1; omega, fun y hy => ?_⟩, (hM4.old hO45).keep hs6 (hk6' _ (by omega) (by omega)), by omega, ?_, hT6, fun x hx => ?_, p7.take hpl, by rw [List.length_append]; omega⟩
            · rw [hk6' y (by omega) (by omega), hO45.2 y (by have := hO4.1; omega)]; exact hO4.2 y hy
            · rw [hk6' _ (by omega) (by omega), hO45.2 _ (by omega)]; exact hg4
            · rcases ho6 x hx with h | h <;> omega
end Go.Proofs.YtgkmlbkocgjmmaaDoor
namespace Go.Proofs.YtgkmlbkocgjmmaaDoor
open Go Go.AM
set_option linter.unusedVariables false
set_option linter.unusedSimpArgs false
set_option maxHeartbeats 2000000
set_option maxRecDepth 100000

def IntR (m : AMem) (a : Option Addr) (l : List Nat) : Prop := ∀ i (h : i < l.length), ∃ b o, a = some ⟨b, o, none⟩ ∧ b < m.size ∧ rdO (m.get b) (o + i) 1 = some [iV l[i]]
theorem IntR.old {m m' : AMem} {a : Option Addr} {l : List Nat} (h : IntR m a l) (ho : Old m m') : IntR m' a l := fun i hi => by
  obtain ⟨b, o, h1, h2, h3⟩ := h i hi
  exact ⟨b, o, h1, Nat.lt_of_lt_of_le h2 ho.1, by rw [ho.2 b h2]; exact h3⟩
theorem intR_cells {m : AMem} {b : Nat} {l : List Nat} (hb : b < m.size) {e : TypeId} {w : Bool} {sp : Spare} (hg : m.get b = .cells (l.map iV) e w sp) : IntR m (some ⟨b, 0, none⟩) l := fun i hi =>
  ⟨b, 0, rfl, hb, by
    rw [hg, rdO_cells, Nat.zero_add]
    unfold cutL
    rw [if_pos (by rw [List.length_map]; omega), List.drop_eq_getElem_cons (by rw [List.length_map]; exact hi), List.getElem_map]; rfl⟩
theorem IntB.row {M : AMem} {a : Option Addr} {n cap : Nat} {l : List Nat} (h : IntB M (.slice a n cap) l) : IntR M a l := by
  rcases h with ⟨rfl, _⟩ | ⟨b, h, h1, h2⟩
  · intro i hi; simp at hi
  · cases h; exact intR_cells h1 h2
theorem sameInts_ok (m : AMem) (a1 : Option Addr) (c1 : Nat) (l1 : List Nat) (h1 : IntR m a1 l1) (a2 : Option Addr) (c2 : Nat) (l2 : List Nat) (h2 : IntR m a2 l2) (hl : l1.length ≤ 9223372036854775807) (hl2 : l2.length ≤ 9223372036854775807) :
    PureC Tryd.prog 3 24 [.slice a1 l1.length c1, .slice a2 l2.length c2] m (.bool (decide (l1 = l2))) := by
  refine pure_of_W (fn := Tryd.f24) rfl rfl F24_ok (by simp [F24]) (.bool _) ?_
  by_cases g0 : (l1.length : Int) = (l2.length : Int)
  · have g1 : l1.length = l2.length := by omega
    repeat first | simp -implicitDefEqProofs (disch := first | omega | with_reducible assumption | (simp only [zU, zC]; omega)) only [zT, zA, reduceCtorEq, zB, zC, zD, zE, zF, zG, zH, zI, zJ, zK, zL, reduceIte, F24, g0] | refine OrW.go ?_
    refine W_loop (fun N qs => ∃ (i : Nat), N = l1.length - i ∧ qs.ds = [] ∧ qs.m = mx m [] ∧ qs.t 0 = .slice a1 l1.length c1 ∧ qs.t 1 = .slice a2 l2.length c2 ∧ qs.t 5 = .int .i64 i ∧ i ≤ l1.length ∧ ∀ j (hj : j < l1.length), j < i → l1[j] = l2[j]'(by omega)) (l1.length - (0)) ⟨0, rfl, rfl, ?qm, ?q0, ?q1, ?q5, ?_⟩ ?_
    case qm | q0 | q1 | q5 => first | rfl | (simp -implicitDefEqProofs (disch := first | omega | with_reducible assumption | (simp only [zU, zC]; omega)) only [zT, zA, reduceCtorEq, zB, zC, zD, zE, zF, zG, zH, zI, zJ, zK, zL, reduceIte]; first | done | rfl | (congr 1; omega))
    · exact ⟨by omega, fun j h1 h2 => by omega⟩
    · rintro N t m1 ds ⟨i, rfl, hds, hm, t0, t1, t5, hp⟩
      simp only at hds hm t0 t1 t5
      subst hds; replace hm := hm.symm; subst hm
      obtain ⟨hi, hall⟩ := hp
      by_cases g : (i : Int) < (l1.length : Int)
      · have hi' : i < l1.length := by omega
        have gg : (i : Int) < (l2.length : Int) := by omega
        obtain ⟨b1, o1, rfl, hb1, r1⟩ := h1 i hi'
        obtain ⟨b2, o2, rfl, hb2, r2⟩ := h2 i (by omega)
        simp only [iV] at r1 r2
        by_cases e : (l1[i] : Int) = (l2[i]'(by omega) : Int)
        · repeat first | simp -implicitDefEqProofs (disch := first | omega | with_reducible assumption | (simp only [zU, zC]; omega)) only [zT, zA, reduceCtorEq, zB, zC, zD, zE, zF, zG, zH, zI, zJ, zK, zL, reduceIte, F24_l0, t0, t1, t5, g, gg, r1, r2, e] | refine OrW.go ?_
          rw [LoopK_normal]; refine ⟨_, ?_, i + 1, rfl, rfl, ?qm, ?q0, ?q1, ?q5, ?_⟩
          case qm | q0 | q1 | q5 => first | rfl | (simp -implicitDefEqProofs (disch := first | omega | with_reducible assumption | (simp only [zU, zC]; omega)) only [zT, zA, reduceCtorEq, zB, zC, zD, zE, zF, zG, zH, zI, zJ, zK, zL, reduceIte, t0, t1, t5]; first | done | rfl | (congr 1; omega))
          · omega
          · refine ⟨by omega, fun j h1 h2 => ?_⟩
            rcases Nat.lt_or_ge j i with h | h
            · exact hall j h1 h
            · obtain rfl : j = i := by omega
              omega
        · have hne : ¬ l1 = l2 := fun h => e (by subst h; rfl)
          repeat first | simp -implicitDefEqProofs (disch := first | omega | with_reducible assumption | (simp only [zU, zC]; omega)) only [zT, zA, reduceCtorEq, zB, zC, zD, zE, zF, zG, zH, zI, zJ, zK, zL, reduceIte, F24_l0, t0, t1, t5, g, gg, r1, r2, e] | refine OrW.go ?_
          simp [hne]
      · obtain rfl : i = l1.length := by omega
        have heq : l1 = l2 := List.ext_getElem g1 fun j h1 h2 => hall j h1 h1
        repeat first | simp -implicitDefEqProofs (disch := first | omega | with_reducible assumption | (simp only [zU, zC]; omega)) only [zT, zA, reduceCtorEq, zB, zC, zD, zE, zF, zG, zH, zI, zJ, zK, zL, reduceIte, F24_l0, t0, t1, t5, g] | refine OrW.go ?_
        simp [heq]
  · have hne : ¬ l1 = l2 := fun h => g0 (by rw [h])
    repeat first | simp -implicitDefEqProofs (disch := first | omega | with_reducible assumption | (simp only [zU, zC]; omega)) only [zT, zA, reduceCtorEq, zB, zC, zD, zE, zF, zG, zH, zI, zJ, zK, zL, reduceIte, F24, g0] | refine OrW.go ?_
    simp [hne]
def shortB (ls : List (List UInt8)) (top : Nat) : Bool := decide (ls.length ≤ top) && ls.all fun s => decide (s.length ≤ 200)
theorem short_ok (m : AMem) (a : Option Addr) (c : Nat) (ls : List (List UInt8)) (ha : StrR m a ls) (hl : ls.length ≤ 9223372036854775807) (hs : ∀ s ∈ ls, s.length ≤ 9223372036854775807) (top : Nat) (ht : top ≤ 100) :
    PureC Tryd.prog 3 25 [.slice a ls.length c, .int .i64 top] m (.bool (shortB ls top)) := by
  refine pure_of_W (fn := Tryd.f25) rfl rfl F25_ok (by simp [F25]) (.bool _) ?_
  by_cases g0 : (top : Int) < (ls.length : Int)
  · have e : shortB ls top = false := by simp [shortB]; omega
    rw [e]
    repeat first | simp -implicitDefEqProofs (disch := first | omega | with_reducible assumption | (simp only [zU, zC]; omega)) only [zT, zA, reduceCtorEq, zB, zC, zD, zE, zF, zG, zH, zI, zJ, zK, zL, reduceIte, F25, g0] | refine OrW.go ?_
  · have hlt : ls.length ≤ top := by omega
    repeat first | simp -implicitDefEqProofs (disch := first | omega | with_reducible assumption | (simp only [zU, zC]; omega)) only [zT, zA, reduceCtorEq, zB, zC, zD, zE, zF, zG, zH, zI, zJ, zK, zL, reduceIte, F25, g0] | refine OrW.go ?_
    refine W_loop (fun N qs => ∃ (i : Nat), N = ls.length - i ∧ qs.ds = [] ∧ qs.m = mx m [] ∧ qs.t 0 = .slice a ls.length c ∧ qs.t 5 = .int .i64 i ∧ i ≤ ls.length ∧ ∀ j (hj : j < ls.length), j < i → ls[j].length ≤ 200) (ls.length - (0)) ⟨0, rfl, rfl, ?qm, ?q0, ?q5, ?_⟩ ?_
    case qm | q0 | q5 => first | rfl | (simp -implicitDefEqProofs (disch := first | omega | with_reducible assumption | (simp only [zU, zC]; omega)) only [zT, zA, reduceCtorEq, zB, zC, zD, zE, zF, zG, zH, zI, zJ, zK, zL, reduceIte]; first | done | rfl | (congr 1; omega))
    · exact ⟨by omega, fun j h1 h2 => by omega⟩
    · rintro N t m1 ds ⟨i, rfl, hds, hm, t0, t5, hp⟩
      simp only at hds hm t0 t5
      subst hds; replace hm := hm.symm; subst hm
      obtain ⟨hi, hall⟩ := hp
      by_cases g : (i : Int) < (ls.length : Int)
      · have hi' : i < ls.length := by omega
        obtain ⟨b, o, rfl, hb, hr⟩ := ha i hi'
        have hsl := hs _ (List.getElem_mem hi')
        by_cases e : (200 : Int) < (ls[i].length : Int)
        · have ee : shortB ls top = false := by
            have : ls.all (fun s => decide (s.length ≤ 200)) = false := by rw [List.all_eq_false]; exact ⟨_, List.getElem_mem hi', by simp; omega⟩
            simp [shortB, this]
          rw [ee]
          repeat first | simp -implicitDefEqProofs (disch := first | omega | with_reducible assumption | (simp only [zU, zC]; omega)) only [zT, zA, reduceCtorEq, zB, zC, zD, zE, zF, zG, zH, zI, zJ, zK, zL, reduceIte, F25_l0, t0, t5, g, hr, e] | refine OrW.go ?_
        · repeat first | simp -implicitDefEqProofs (disch := first | omega | with_reducible assumption | (simp only [zU, zC]; omega)) only [zT, zA, reduceCtorEq, zB, zC, zD, zE, zF, zG, zH, zI, zJ, zK, zL, reduceIte, F25_l0, t0, t5, g, hr, e] | refine OrW.go ?_
          rw [LoopK_normal]; refine ⟨_, ?_, i + 1, rfl, rfl, ?qm, ?q0, ?q5, ?_⟩
          case qm | q0 | q5 => first | rfl | (simp -implicitDefEqProofs (disch := first | omega | with_reducible assumption | (simp only [zU, zC]; omega)) only [zT, zA, reduceCtorEq, zB, zC, zD, zE, zF, zG, zH, zI, zJ, zK, zL, reduceIte, t0, t5]; first | done | rfl | (congr 1; omega))
          · omega
          · refine ⟨by omega, fun j h1 h2 => ?_⟩
            rcases Nat.lt_or_ge j i with h | h
            · exact hall j h1 h
            · obtain rfl : j = i := by omega
              omega
      · obtain rfl : i = ls.length := by omega
        have ee : shortB ls top = true := by
          have : ls.all (fun s => decide (s.length ≤ 200)) = true := by rw [List.all_eq_true]; intro x hx; obtain ⟨j, hj, rfl⟩ := List.mem_iff_getElem.1 hx; simpa using hall j hj hj
          simp [shortB, this, hlt]
        rw [ee]
        repeat first | simp -implicitDefEqProofs (disch := first | omega | with_reducible assumption | (simp only [zU, zC]; omega)) only [zT, zA, reduceCtorEq, zB, zC, zD, zE, zF, zG, zH, zI, zJ, zK, zL, reduceIte, F25_l0, t0, t5, g] | refine OrW.go ?_
def NeedsA (m : AMem) (a : Option Addr) (needs : List (List (List UInt8))) : Prop := ∀ i (h : i < needs.length), ∃ b o ra rc, a = some ⟨b, o, none⟩ ∧ b < m.size ∧ rdO (m.get b) (o + i) 1 = some [.slice ra needs[i].length rc] ∧ Src m ra needs[i] ∧ needs[i].length ≤ 9223372036854775807 ∧ ∀ s ∈ needs[i], s.length ≤ 9223372036854775807
theorem NeedsA.old {m m' : AMem} {a : Option Addr} {ls : List (List (List UInt8))} (h : NeedsA m a ls) (ho : Old m m') : NeedsA m' a ls := fun i hi => by
  obtain ⟨b, o, ra, rc, h1, h2, h3, h4, h5⟩ := h i hi
  exact ⟨b, o, ra, rc, h1, Nat.lt_of_lt_of_le h2 ho.1, by rw [ho.2 b h2]; exact h3, h4.old ho, h5⟩
def graphB (names : List (List UInt8)) (needs : List (List (List UInt8))) : Bool := shortB names 30 && decide (needs.length ≤ 40) && needs.all fun r => shortB r 30
theorem NeedsA.needs {m : AMem} {a : Option Addr} {needs : List (List (List UInt8))} (h : NeedsA m a needs) (hg : needs.all (fun r => shortB r 30) = true) : NeedsR m a needs := fun i hi => by
  obtain ⟨b, o, ra, rc, h1, h2, h3, h4, h5⟩ := h i hi
  have := List.all_eq_true.1 hg _ (List.getElem_mem hi)
  simp [shortB] at this
  exact ⟨b, o, ra, rc, h1, h2, h3, h4, by omega⟩
theorem graph_ok (m : AMem) (a : Option Addr) (c : Nat) (names : List (List UInt8)) (ha : StrR m a names) (hl : names.length ≤ 9223372036854775807) (hs : ∀ s ∈ names, s.length ≤ 9223372036854775807) (na : Option Addr) (nc : Nat) (needs : List (List (List UInt8))) (hN : NeedsA m na needs) (hnl : needs.length ≤ 9223372036854775807) :
    PureC Tryd.prog 3 21 [.slice a names.length c, .slice na needs.length nc] m (.bool (graphB names needs)) := by
  refine pure_of_W (fn := Tryd.f21) rfl rfl F21_ok (by simp [F21]) (.bool _) ?_
  have k1 := DetC.known (short_ok (mx m []) a c names (ha.old (Old.here _ [])) hl hs 30 (by omega))
  rw [show ((30 : Nat) : Int) = 30 from rfl] at k1
  cases hsn : shortB names 30 with
  | false =>
    rw [hsn] at k1
    have e : graphB names needs = false := by simp [graphB, hsn]
    rw [e]
    repeat first | simp -implicitDefEqProofs (disch := first | omega | with_reducible assumption | (simp only [zU, zC]; omega)) only [zT, zA, reduceCtorEq, zB, zC, zD, zE, zF, zG, zH, zI, zJ, zK, zL, reduceIte, F21, k1] | refine OrW.go ?_
  | true =>
    rw [hsn] at k1
    by_cases g0 : (40 : Int) < (needs.length : Int)
    · have e : graphB names needs = false := by simp [graphB]; intros; omega
      rw [e]
      repeat first | simp -implicitDefEqProofs (disch := first | omega | with_reducible assumption | (simp only [zU, zC]; omega)) only [zT, zA, reduceCtorEq, zB, zC, zD, zE, zF, zG, zH, zI, zJ, zK, zL, reduceIte, F21, k1, g0] | refine OrW.go ?_
    · have hn40 : needs.length ≤ 40 := by omega
      repeat first | simp -implicitDefEqProofs (disch := first | omega | with_reducible assumption | (simp only [zU, zC]; omega)) only [zT, zA, reduceCtorEq, zB, zC, zD, zE, zF, zG, zH, zI, zJ, zK, zL, reduceIte, F21, k1, g0] | refine OrW.go ?_
      refine W_loop (fun N qs => ∃ (i : Nat), N = needs.length - i ∧ qs.ds = [] ∧ qs.m = mx m [] ∧ qs.t 1 = .slice na needs.length nc ∧ qs.t 5 = .int .i64 i ∧ i ≤ needs.length ∧ ∀ j (hj : j < needs.length), j < i → shortB needs[j] 30 = true) (needs.length - (0)) ⟨0, rfl, rfl, ?qm, ?q1, ?q5, ?_⟩ ?_
      case qm | q1 | q5 => first | rfl | (simp -implicitDefEqProofs (disch := first | omega | with_reducible assumption | (simp only [zU, zC]; omega)) only [zT, zA, reduceCtorEq, zB, zC, zD, zE, zF, zG, zH, zI, zJ, zK, zL, reduceIte]; first | done | rfl | (congr 1; omega))
      · exact ⟨by omega, fun j h1 h2 => by omega⟩
      · rintro N t m1 ds ⟨i, rfl, hds, hm, t1, t5, hp⟩
        simp only at hds hm t1 t5
        subst hds; replace hm := hm.symm; subst hm
        obtain ⟨hi, hall⟩ := hp
        by_cases g : (i : Int) < (needs.length : Int)
        · have hi' : i < needs.length := by omega
          obtain ⟨b, o, ra, rc, rfl, hb, hr, hR, hrl, hrs⟩ := hN i hi'
          have k2 := DetC.known (short_ok (mx m []) ra rc needs[i] (hR.str.old (Old.here _ [])) hrl hrs 30 (by omega))
          rw [show ((30 : Nat) : Int) = 30 from rfl] at k2
          cases hsr : shortB needs[i] 30 with
          | false =>
            rw [hsr] at k2
            have ee : graphB names needs = false := by
              have : needs.all (fun r => shortB r 30) = false := by rw [List.all_eq_false]; exact ⟨_, List.getElem_mem hi', by simp [hsr]⟩
              simp [graphB, this]
            rw [ee]
            repeat first | simp -implicitDefEqProofs (disch := first | omega | with_reducible assumption | (simp only [zU, zC]; omega)) only [zT, zA, reduceCtorEq, zB, zC, zD, zE, zF, zG, zH, zI, zJ, zK, zL, reduceIte, F21_l0, t1, t5, g, hr, k2] | refine OrW.go ?_
          | true =>
            rw [hsr] at k2
            repeat first | simp -implicitDefEqProofs (disch := first | omega | with_reducible assumption | (simp only [zU, zC]; omega)) only [zT, zA, reduceCtorEq, zB, zC, zD, zE, zF, zG, zH, zI, zJ, zK, zL, reduceIte, F21_l0, t1, t5, g, hr, k2] | refine OrW.go ?_
            rw [LoopK_normal]; refine ⟨_, ?_, i + 1, rfl, rfl, ?qm, ?q1, ?q5, ?_⟩
            case qm | q1 | q5 => first | rfl | (simp -implicitDefEqProofs (disch := first | omega | with_reducible assumption | (simp only [zU, zC]; omega)) only [zT, zA, reduceCtorEq, zB, zC, zD, zE, zF, zG, zH, zI, zJ, zK, zL, reduceIte, t1, t5]; first | done | rfl | (congr 1; omega))
            · omega
            · refine ⟨by omega, fun j h1 h2 => ?_⟩
              rcases Nat.lt_or_ge j i with h | h
              · exact hall j h1 h
              · obtain rfl : j = i := by omega
                exact hsr
        · obtain rfl : i = needs.length := by omega
          have ee : graphB names needs = true := by
            have : needs.all (fun r => shortB r 30) = true := by rw [List.all_eq_true]; intro x hx; obtain ⟨j, hj, rfl⟩ := List.mem_iff_getElem.1 hx; exact hall j hj hj
            simp [graphB, this, hsn, hn40]
          rw [ee]
          repeat first | simp -implicitDefEqProofs (disch := first | omega | with_reducible assumption | (simp only [zU, zC]; omega)) only [zT, zA, reduceCtorEq, zB, zC, zD, zE, zF, zG, zH, zI, zJ, zK, zL, reduceIte, F21_l0, t1, t5, g] | refine OrW.go ?_
end Go.Proofs.YtgkmlbkocgjmmaaDoor
