/- Graphs: the law of Sort. -/
import Derived.Test.YtgkmlbkocgjmmaaDoorB3
import Derived.Test.YtgkmlbkocgjmmaaDoorDrvF6
import Derived.Test.YtgkmlbkocgjmmaaDoorDrvF7
import Derived.Test.YtgkmlbkocgjmmaaDoorDrvF8
import Derived.Test.YtgkmlbkocgjmmaaDoorDrvF9
import Derived.Test.YtgkmlbkocgjmmaaDoorB1
import Derived.Test.YtgkmlbkocgjmmaaDoorB2
import Derived.Test.YtgkmlbkocgjmmaaDoorDrvF4
set_option linter.unusedVariables false
set_option linter.unusedSimpArgs false
set_option linter.unnecessarySimpa false
open Nat renaming reduceBEq → zA, reduceEqDiff → zB, reduceAdd → zC, reduceMul → zD, reduceSub → zE
open Int renaming reduceToNat → zF, reduceEq → zG, reduceLT → zH, reduceLE → zI, reduceAdd → zJ, reduceSub → zK, reduceMul → zL
namespace Go.Proofs.YtgkmlbkocgjmmaaDoor
open Go Go.AM
set_option linter.unusedVariables false
set_option linter.unusedSimpArgs false
set_option maxHeartbeats 2000000
set_option maxRecDepth 100000

theorem same_l {M : AMem} {v w : Value} {l : List Nat} (h : IntB M v l) (h2 : IntB M w l) (hl : l.length ≤ 1000000) (objs : List AObj) : Known Tryd.prog 3 24 [v, w] (mx M objs) (.bool true) (mx M objs) := by
  obtain ⟨a, c, rfl⟩ := h.len
  obtain ⟨a2, c2, rfl⟩ := h2.len
  have := DetC.known (sameInts_ok (mx M objs) a c l (h.row.old (Old.here _ _)) a2 c2 l (h2.row.old (Old.here _ _)) (by omega) (by omega))
  simpa using this
structure GraphOK (names : List (List UInt8)) (needs : List (List (List UInt8))) : Prop where
  nlen : names.length ≤ 30
  dlen : needs.length ≤ 40
  rows : needs.all (fun r => shortB r 30) = true
  row : ∀ i, (rowOf needs i).length ≤ 30
  nameL : ∀ s ∈ names, s.length ≤ 200
theorem graph_few {names : List (List UInt8)} {needs : List (List (List UInt8))} (h : graphB names needs = true) : GraphOK names needs := by
  unfold graphB at h
  simp only [Bool.and_eq_true, decide_eq_true_eq] at h
  obtain ⟨⟨h1, h2⟩, h3⟩ := h
  have h4 := h1
  unfold shortB at h4
  simp only [Bool.and_eq_true, decide_eq_true_eq, List.all_eq_true] at h4
  refine ⟨h4.1, h2, h3, fun i => ?_, h4.2⟩
  by_cases hi : i < needs.length
  · have := List.all_eq_true.1 h3 _ (List.getElem_mem hi)
    simp [shortB] at this
    simp [rowOf, List.getD, hi]; omega
  · simp [rowOf, List.getD, hi]
theorem sortR_len {names : List (List UInt8)} {needs : List (List (List UInt8))} : (sortR names needs).1.length ≤ names.length := by
  unfold sortR
  split
  · split
    · simp
    · have h : ∀ (n : Nat) (done : List Bool) (out : List Nat), (sortF names needs n done out).length ≤ out.length + n := by
        intro n
        induction n with
        | zero => intro done out; exact Nat.le_refl _
        | succ n ih =>
          intro done out
          unfold sortF
          split
          · have := ih (done.set ‹_› true) (out ++ [‹_›]); rw [List.length_append] at this; simp at this; omega
          · omega
      have := h names.length (List.replicate names.length false) []
      simpa [sortO] using this
  · simp
theorem closR_len {names : List (List UInt8)} {needs : List (List (List UInt8))} {roots : List (List UInt8)} : (closR names needs roots).1.length ≤ names.length := by
  unfold closR
  split
  · unfold closO
    refine Nat.le_trans (List.length_filter_le _ _) (by simp)
  · simp
theorem lawSort (m : AMem) (hg : S.Glob m) (a : Option Addr) (c : Nat) (names : List (List UInt8)) (ha : StrR m a names) (hl : names.length ≤ 9223372036854775807) (hs : ∀ s ∈ names, s.length ≤ 9223372036854775807) (na : Option Addr) (nc : Nat) (needs : List (List (List UInt8))) (hN : NeedsA m na needs) (hnl : needs.length ≤ 9223372036854775807) :
    PureC Tryd.prog 3 6 [.slice a names.length c, .slice na needs.length nc] m (.bool true) := by
  refine pure_of_W (fn := Tryd.f6) rfl rfl F6_ok (by simp [F6]) (.bool _) ?_
  have kg := DetC.known (graph_ok (mx m []) a c names (ha.old (Old.here _ [])) hl hs na nc needs (hN.old (Old.here _ [])) hnl)
  have kw := kWorks hg []
  cases hgr : graphB names needs with
  | false =>
    rw [hgr] at kg
    repeat first | simp -implicitDefEqProofs (disch := first | omega | with_reducible assumption | (simp only [zU, zC]; omega)) only [zT, zA, reduceCtorEq, zB, zC, zD, zE, zF, zG, zH, zI, zJ, zK, zL, reduceIte, F6, kg, kw] | refine OrW.go ?_
  | true =>
    rw [hgr] at kg
    have hG := graph_few hgr
    have g1 := hG.nlen; have g2 := hG.dlen
    have hNR := hN.needs hG.rows
    repeat first | simp -implicitDefEqProofs (disch := first | omega | with_reducible assumption | (simp only [zU, zC]; omega)) only [zT, zA, reduceCtorEq, zB, zC, zD, zE, zF, zG, zH, zI, zJ, zK, zL, reduceIte, F6, kg] | refine OrW.go ?_
    refine RelC.call (sort_ok (mx m []) a c names (ha.old (Old.here _ [])) (by omega) na nc needs (hNR.old (Old.here _ [])) (by omega)) ?_
    rintro r M1 ⟨hO1, v1, rfl, hI1⟩
    have hz1 : Old m M1 := (Old.here m []).trans hO1
    repeat first | simp -implicitDefEqProofs (disch := first | omega | with_reducible assumption | (simp only [zU, zC]; omega)) only [zT, zA, reduceCtorEq, zB, zC, zD, zE, zF, zG, zH, zI, zJ, zK, zL, reduceIte] | refine OrW.go ?_
    refine RelC.call (refSort_ok (mx M1 []) a c names (ha.old (hz1.mx [])) (by omega) na nc needs (hNR.old (hz1.mx [])) (by omega) (fun i => by have := hG.row i; omega)) ?_
    rintro r M2 ⟨hO2, v2, rfl, hI2⟩
    have hy2 : Old M1 M2 := (Old.here M1 []).trans hO2
    have hz2 := hz1.trans hy2
    have hsl := sortR_len (names := names) (needs := needs)
    have ks := same_l (hI1.old hy2) hI2 (by omega) []
    have kw2 := kWorks (hg.old hz2) []
    repeat first | simp -implicitDefEqProofs (disch := first | omega | with_reducible assumption | (simp only [zU, zC]; omega)) only [zT, zA, reduceCtorEq, zB, zC, zD, zE, zF, zG, zH, zI, zJ, zK, zL, reduceIte, ks, kw2] | refine OrW.go ?_
    exact hz2.mx []
end Go.Proofs.YtgkmlbkocgjmmaaDoor
namespace Go.Proofs.YtgkmlbkocgjmmaaDoor
open Go Go.AM
set_option linter.unusedVariables false
set_option linter.unusedSimpArgs false
set_option maxHeartbeats 2000000
set_option maxRecDepth 100000

theorem lawClosure (m : AMem) (hg : S.Glob m) (a : Option Addr) (c : Nat) (names : List (List UInt8)) (ha : StrR m a names) (hl : names.length ≤ 9223372036854775807) (hs : ∀ s ∈ names, s.length ≤ 9223372036854775807) (na : Option Addr) (nc : Nat) (needs : List (List (List UInt8))) (hN : NeedsA m na needs) (hnl : needs.length ≤ 9223372036854775807)
    (ra : Option Addr) (rc : Nat) (roots : List (List UInt8)) (hR : Src m ra roots) (hrl : roots.length ≤ 9223372036854775807) (hrs : ∀ s ∈ roots, s.length ≤ 9223372036854775807) :
    PureC Tryd.prog 3 7 [.slice a names.length c, .slice na needs.length nc, .slice ra roots.length rc] m (.bool true) := by
  refine pure_of_W (fn := Tryd.f7) rfl rfl F7_ok (by simp [F7]) (.bool _) ?_
  have kg := DetC.known (graph_ok (mx m []) a c names (ha.old (Old.here _ [])) hl hs na nc needs (hN.old (Old.here _ [])) hnl)
  have kw := kWorks hg []
  have k25 := DetC.known (short_ok (mx m []) ra rc roots (hR.str.old (Old.here _ [])) hrl hrs 30 (by omega))
  rw [show ((30 : Nat) : Int) = 30 from rfl] at k25
  cases hgr : graphB names needs with
  | false =>
    rw [hgr] at kg
    repeat first | simp -implicitDefEqProofs (disch := first | omega | with_reducible assumption | (simp only [zU, zC]; omega)) only [zT, zA, reduceCtorEq, zB, zC, zD, zE, zF, zG, zH, zI, zJ, zK, zL, reduceIte, F7, kg, kw] | refine OrW.go ?_
  | true =>
    rw [hgr] at kg
    cases hsr : shortB roots 30 with
    | false =>
      rw [hsr] at k25
      repeat first | simp -implicitDefEqProofs (disch := first | omega | with_reducible assumption | (simp only [zU, zC]; omega)) only [zT, zA, reduceCtorEq, zB, zC, zD, zE, zF, zG, zH, zI, zJ, zK, zL, reduceIte, F7, kg, k25, kw] | refine OrW.go ?_
    | true =>
      rw [hsr] at k25
      have hG := graph_few hgr
      have g1 := hG.nlen; have g2 := hG.dlen
      have hNR := hN.needs hG.rows
      have hr30 : roots.length ≤ 30 := by simp [shortB] at hsr; omega
      have hrow := fun i => Nat.le_trans (hG.row i) (show 30 ≤ 1000 by omega)
      repeat first | simp -implicitDefEqProofs (disch := first | omega | with_reducible assumption | (simp only [zU, zC]; omega)) only [zT, zA, reduceCtorEq, zB, zC, zD, zE, zF, zG, zH, zI, zJ, zK, zL, reduceIte, F7, kg, k25] | refine OrW.go ?_
      refine RelC.call (closure_ok (mx m []) a c names (ha.old (Old.here _ [])) (by omega) na nc needs (hNR.old (Old.here _ [])) (by omega) ra rc roots (hR.old (Old.here _ [])) (by omega) hrow) ?_
      rintro r M1 ⟨hO1, v1, rfl, hI1⟩
      have hz1 : Old m M1 := (Old.here m []).trans hO1
      repeat first | simp -implicitDefEqProofs (disch := first | omega | with_reducible assumption | (simp only [zU, zC]; omega)) only [zT, zA, reduceCtorEq, zB, zC, zD, zE, zF, zG, zH, zI, zJ, zK, zL, reduceIte] | refine OrW.go ?_
      refine RelC.call (refClosure_ok (mx M1 []) a c names (ha.old (hz1.mx [])) (by omega) na nc needs (hNR.old (hz1.mx [])) (by omega) ra rc roots (hR.str.old (hz1.mx [])) (by omega) hrow) ?_
      rintro r M2 ⟨hO2, v2, rfl, hI2⟩
      have hy2 : Old M1 M2 := (Old.here M1 []).trans hO2
      have hz2 := hz1.trans hy2
      have hsl := closR_len (names := names) (needs := needs) (roots := roots)
      have ks := same_l (hI1.old hy2) hI2 (by omega) []
      have kw2 := kWorks (hg.old hz2) []
      repeat first | simp -implicitDefEqProofs (disch := first | omega | with_reducible assumption | (simp only [zU, zC]; omega)) only [zT, zA, reduceCtorEq, zB, zC, zD, zE, zF, zG, zH, zI, zJ, zK, zL, reduceIte, ks, kw2] | refine OrW.go ?_
      exact hz2.mx []
end Go.Proofs.YtgkmlbkocgjmmaaDoor
namespace Go.Proofs.YtgkmlbkocgjmmaaDoor
open Go Go.AM
set_option linter.unusedVariables false
set_option linter.unusedSimpArgs false
set_option maxHeartbeats 2000000
set_option maxRecDepth 100000

def pz (l : List Nat) (n : Nat) : Int := match l.findIdx? fun x => decide (x = n) with | some k => (k : Nat) | none => -1
theorem pz_none {l : List Nat} {n : Nat} (h : n ∉ l) : pz l n = -1 := by
  have : l.findIdx? (fun x => decide (x = n)) = none := by
    rw [List.findIdx?_eq_none_iff]; intro x hx; simp; rintro rfl; exact h hx
  simp [pz, this]
theorem pz_some {l : List Nat} {n k : Nat} (hk : k < l.length) (h : l[k] = n) (hn : ∀ j (hj : j < l.length), j < k → l[j] ≠ n) : pz l n = (k : Nat) := by
  have : l.findIdx? (fun x => decide (x = n)) = some k := by
    rw [List.findIdx?_eq_some_iff_getElem]; exact ⟨hk, by simpa using h, fun j hj => by simpa using hn j (by omega) hj⟩
  simp [pz, this]
theorem pz_take {l : List Nat} {n j : Nat} (h : n ∈ l.take j) : 0 ≤ pz l n ∧ pz l n < (j : Nat) := by
  obtain ⟨k, hk, e⟩ := List.mem_iff_getElem.1 h
  rw [List.length_take] at hk
  have hkl : k < l.length := by omega
  have e2 : l[k] = n := by rw [← e, List.getElem_take]
  cases hf : l.findIdx? (fun x => decide (x = n)) with
  | none =>
    rw [List.findIdx?_eq_none_iff] at hf
    have := hf _ (List.getElem_mem hkl)
    simp [e2] at this
  | some q =>
    rw [List.findIdx?_eq_some_iff_getElem] at hf
    obtain ⟨q1, q2, q3⟩ := hf
    have hqk : q ≤ k := by
      rcases Nat.lt_or_ge k q with h | h
      · have := q3 k h; simp [e2] at this
      · exact h
    have : pz l n = (q : Nat) := pz_some q1 (by simpa using q2) fun j hj hjq => by simpa using q3 j hjq
    rw [this]; omega
theorem pz_nonneg {l : List Nat} {n : Nat} : 0 ≤ pz l n ↔ n ∈ l := by
  constructor
  · intro h
    apply Classical.byContradiction
    intro hn
    rw [pz_none hn] at h; omega
  · intro h
    have : n ∈ l.take l.length := by rw [List.take_length]; exact h
    exact (pz_take this).1
theorem pz_at {l : List Nat} (h : l.Nodup) {j : Nat} (hj : j < l.length) : pz l l[j] = (j : Nat) := by
  refine pz_some hj rfl fun i hi hij => ?_
  have := List.nodup_iff_pairwise_ne.1 h
  rw [List.pairwise_iff_getElem] at this
  exact this i j hi hj hij
theorem placeInt_ok (m : AMem) (a : Option Addr) (c : Nat) (l : List Nat) (n : Nat) (ha : IntR m a l) (hl : l.length ≤ 1000000) :
    PureC Tryd.prog 3 29 [.slice a l.length c, .int .i64 n] m (.int .i64 (pz l n)) := by
  refine pure_of_W (fn := Tryd.f29) rfl rfl F29_ok (by simp [F29]) (.int _ _) ?_
  simp -implicitDefEqProofs (disch := first | omega | with_reducible assumption | (simp only [zU, zC]; omega)) only [zT, zA, reduceCtorEq, zB, zC, zD, zE, zF, zG, zH, zI, zJ, zK, zL, reduceIte, F29]
  refine W_loop (fun N qs => ∃ (i : Nat), N = l.length - i ∧ qs.ds = [] ∧ qs.m = mx m [] ∧ qs.t 0 = .slice a l.length c ∧ qs.t 1 = .int .i64 n ∧ qs.t 5 = .int .i64 i ∧ i ≤ l.length ∧ ∀ j (h : j < l.length), j < i → l[j] ≠ n) (l.length - (0)) ⟨0, rfl, rfl, ?qm, ?q0, ?q1, ?q5, ?_⟩ ?_
  case qm | q0 | q1 | q5 => first | rfl | (simp -implicitDefEqProofs (disch := first | omega | with_reducible assumption | (simp only [zU, zC]; omega)) only [zT, zA, reduceCtorEq, zB, zC, zD, zE, zF, zG, zH, zI, zJ, zK, zL, reduceIte]; first | done | rfl | (congr 1; omega))
  · exact ⟨by omega, fun j h1 h2 => by omega⟩
  · rintro N t m1 ds ⟨i, rfl, hds, hm, t0, t1, t5, hp⟩
    simp only at hds hm t0 t1 t5
    subst hds; replace hm := hm.symm; subst hm
    obtain ⟨hi, hall⟩ := hp
    by_cases g : (i : Int) < (l.length : Int)
    · have hi' : i < l.length := by omega
      obtain ⟨b, o, rfl, hb, hr⟩ := ha i hi'
      simp only [iV] at hr
      by_cases e : l[i] = n
      · have ee : pz l n = (i : Nat) := pz_some hi' e hall
        rw [ee]
        rw [e] at hr
        repeat first | simp -implicitDefEqProofs (disch := first | omega | with_reducible assumption | (simp only [zU, zC]; omega)) only [zT, zA, reduceCtorEq, zB, zC, zD, zE, zF, zG, zH, zI, zJ, zK, zL, reduceIte, F29_l0, t0, t1, t5, g, hr] | refine OrW.go ?_
      · have e' : ¬ (l[i] : Int) = (n : Int) := by omega
        repeat first | simp -implicitDefEqProofs (disch := first | omega | with_reducible assumption | (simp only [zU, zC]; omega)) only [zT, zA, reduceCtorEq, zB, zC, zD, zE, zF, zG, zH, zI, zJ, zK, zL, reduceIte, F29_l0, t0, t1, t5, g, hr, e'] | refine OrW.go ?_
        rw [LoopK_normal]; refine ⟨_, ?_, i + 1, rfl, rfl, ?qm, ?q0, ?q1, ?q5, ?_⟩
        case qm | q0 | q1 | q5 => first | rfl | (simp -implicitDefEqProofs (disch := first | omega | with_reducible assumption | (simp only [zU, zC]; omega)) only [zT, zA, reduceCtorEq, zB, zC, zD, zE, zF, zG, zH, zI, zJ, zK, zL, reduceIte, t0, t1, t5]; first | done | rfl | (congr 1; omega))
        · omega
        · refine ⟨by omega, fun j h1 h2 => ?_⟩
          rcases Nat.lt_or_ge j i with h | h
          · exact hall j h1 h
          · obtain rfl : j = i := by omega
            exact e
    · obtain rfl : i = l.length := by omega
      have ee : pz l n = -1 := pz_none fun hm => by obtain ⟨j, hj, h⟩ := List.mem_iff_getElem.1 hm; exact hall j hj hj h
      rw [ee]
      repeat first | simp -implicitDefEqProofs (disch := first | omega | with_reducible assumption | (simp only [zU, zC]; omega)) only [zT, zA, reduceCtorEq, zB, zC, zD, zE, zF, zG, zH, zI, zJ, zK, zL, reduceIte, F29_l0, t0, t1, t5, g] | refine OrW.go ?_
structure Good (names : List (List UInt8)) (needs : List (List (List UInt8))) (out : List Nat) : Prop where
  nd : out.Nodup
  lt : ∀ x ∈ out, x < names.length
  dep : ∀ j (h : j < out.length), ∀ s ∈ rowOf needs out[j], ∀ p, plR names s = some p → p ∈ out.take j
theorem good_next {names : List (List UInt8)} {needs : List (List (List UInt8))} {done : List Bool} {out : List Nat} (hG : Good names needs out) (hD : ∀ k, k < names.length → done.getD k false = out.contains k) {i : Nat} (hi : i < names.length) (hr : readyR names needs done i = true) : Good names needs (out ++ [i]) := by
  have hr2 := hr
  rw [ref_ready hD hi] at hr2
  simp only [Bool.and_eq_true, Bool.not_eq_true', List.all_eq_true] at hr2
  obtain ⟨h1, h2⟩ := hr2
  have hni : i ∉ out := fun h => by rw [← List.contains_iff_mem] at h; rw [h1] at h; cases h
  refine ⟨?_, fun x hx => ?_, fun j hj s hs p hp => ?_⟩
  · rw [List.nodup_append]
    refine ⟨hG.nd, by simp, fun x hx y hy e => ?_⟩
    rw [List.mem_singleton] at hy; subst hy; subst e; exact hni hx
  · rcases List.mem_append.1 hx with h | h
    · exact hG.lt x h
    · rw [List.mem_singleton] at h; subst h; exact hi
  · rcases Nat.lt_or_ge j out.length with h | h
    · rw [List.getElem_append_left h] at hs
      rw [List.take_append_of_le_length (by omega)]
      exact hG.dep j h s hs p hp
    · have hjl : j = out.length := by rw [List.length_append] at hj; simp at hj; omega
      subst hjl
      rw [List.getElem_append_right (Nat.le_refl _)] at hs
      simp only [Nat.sub_self, List.getElem_cons_zero] at hs
      rw [List.take_append_of_le_length (Nat.le_refl _), List.take_length]
      exact List.contains_iff_mem.1 (h2 p (List.mem_filterMap.2 ⟨s, hs, hp⟩))
theorem good_sortF {names : List (List UInt8)} {needs : List (List (List UInt8))} : ∀ (n : Nat) (done : List Bool) (out : List Nat), Good names needs out → (∀ k, k < names.length → done.getD k false = out.contains k) → done.length = names.length → Good names needs (sortF names needs n done out)
  | 0, _, _, h, _, _ => h
  | n + 1, done, out, h, hD, hl => by
    unfold sortF
    split
    · rename_i i hi
      obtain ⟨h1, h2⟩ := next_some hi
      exact good_sortF n _ _ (good_next h hD h1 h2) (done_next hD hl h1) (by rw [List.length_set]; exact hl)
    · exact h
theorem good_sort (names : List (List UInt8)) (needs : List (List (List UInt8))) : Good names needs (sortO names needs) :=
  good_sortF _ _ _ ⟨List.nodup_nil, fun x h => (by cases h), fun j h => absurd h (Nat.not_lt_zero j)⟩ (fun k hk => by simp [List.getD, List.getElem?_replicate, hk]) (by simp)
theorem all_in {n : Nat} {l : List Nat} (hn : l.Nodup) (hl : ∀ x ∈ l, x < n) (he : l.length = n) {i : Nat} (hi : i < n) : i ∈ l := by
  apply Classical.byContradiction
  intro h
  have := nodup_le n (i :: l) (List.nodup_cons.2 ⟨h, hn⟩) fun x hx => by
    rcases List.mem_cons.1 hx with rfl | hx
    · exact hi
    · exact hl x hx
  rw [List.length_cons] at this; omega
theorem sort_facts {names : List (List UInt8)} {needs : List (List (List UInt8))} (hnd : names.Nodup) (h : (sortR names needs).2 = 0) :
    (sortR names needs).1.length = names.length ∧ (∀ i, i < names.length → 0 ≤ pz (sortR names needs).1 i) ∧ ∀ i, i < names.length → ∀ s ∈ rowOf needs i, ∀ p, plR names s = some p → pz (sortR names needs).1 p < pz (sortR names needs).1 i := by
  have hG := good_sort names needs
  have hle := nodup_le _ _ hG.nd hG.lt
  have e : sortR names needs = (sortO names needs, 0) := by
    unfold sortR at h ⊢
    rw [if_pos hnd] at h ⊢
    split at h
    · simp at h
    · rename_i hc; rw [if_neg hc]
  have hlen : (sortO names needs).length = names.length := by
    unfold sortR at h
    rw [if_pos hnd] at h
    split at h
    · simp at h
    · omega
  rw [e]
  have hin := fun i (hi : i < names.length) => all_in hG.nd hG.lt hlen hi
  refine ⟨hlen, fun i hi => pz_nonneg.2 (hin i hi), fun i hi s hs p hp => ?_⟩
  obtain ⟨j, hj, e⟩ := List.mem_iff_getElem.1 (hin i hi)
  have hd := hG.dep j hj s (by rw [e]; exact hs) p hp
  have h1 := pz_at hG.nd hj
  rw [e] at h1
  have h2 := (pz_take hd).2
  show pz (sortO names needs) p < pz (sortO names needs) i
  rw [h1]; exact h2
theorem sort_err {names : List (List UInt8)} {needs : List (List (List UInt8))} (hnd : ¬ names.Nodup) : (sortR names needs).2 = 151 := by unfold sortR; rw [if_neg hnd]
theorem sort_two {names : List (List UInt8)} {needs : List (List (List UInt8))} (hnd : names.Nodup) : (sortR names needs).2 = 0 ∨ (sortR names needs).2 = 240 := by
  unfold sortR; rw [if_pos hnd]; split
  · exact .inr rfl
  · exact .inl rfl
theorem mem_clos {names : List (List UInt8)} {needs : List (List (List UInt8))} {roots : List (List UInt8)} {i : Nat} : i ∈ closO names needs roots ↔ Reach names needs roots i := by
  unfold closO
  simp only [List.mem_filter, List.mem_range, decide_eq_true_eq]
  exact ⟨fun h => h.2, fun h => ⟨h.lt, h⟩⟩
theorem Reach.mono {names : List (List UInt8)} {needs : List (List (List UInt8))} {roots more : List (List UInt8)} {i : Nat} (h : Reach names needs roots i) (hs : ∀ s ∈ roots, s ∈ more) : Reach names needs more i := by
  induction h with
  | root h1 h2 => exact .root (hs _ h1) h2
  | step _ h1 h2 ih => exact .step ih h1 h2
def ownR (names : List (List UInt8)) (c : List Nat) : List (List UInt8) := c.map fun k => names.getD k []
open Classical in
theorem clos_own {names : List (List UInt8)} {needs : List (List (List UInt8))} {roots : List (List UInt8)} (hnd : names.Nodup) : closO names needs (ownR names (closO names needs roots)) = closO names needs roots := by
  have key : ∀ i, Reach names needs (ownR names (closO names needs roots)) i ↔ Reach names needs roots i := fun i => by
    constructor
    · intro h
      induction h with
      | root h1 h2 =>
        obtain ⟨k, hk, rfl⟩ := List.mem_map.1 h1
        have hr := mem_clos.1 hk
        have e : names.getD k [] = names[k]'hr.lt := by simp [List.getD, hr.lt]
        rw [e, plR_self hnd hr.lt] at h2
        cases h2; exact hr
      | step _ h1 h2 ih => exact .step ih h1 h2
    · intro h
      have e : names.getD i [] = names[i]'h.lt := by simp [List.getD, h.lt]
      refine .root (s := names.getD i []) (List.mem_map.2 ⟨i, mem_clos.2 h, rfl⟩) ?_
      rw [e]; exact plR_self hnd h.lt
  unfold closO
  refine List.filter_congr fun i _ => ?_
  rw [Bool.eq_iff_iff, decide_eq_true_iff, decide_eq_true_iff]
  exact key i
theorem StrB.src {M : AMem} {a : Option Addr} {n cap : Nat} {ls : List (List UInt8)} (h : StrB M (.slice a n cap) ls) : Src M a ls := by
  rcases h with ⟨rfl, h⟩ | ⟨b, h, h1, h2⟩
  · cases h; exact .inl ⟨rfl, rfl⟩
  · cases h
    refine .inr ⟨b, 0, rfl, h1, ?_⟩
    rw [h2, rdO_cells]; exact cutL_all (by simp)
end Go.Proofs.YtgkmlbkocgjmmaaDoor
namespace Go.Proofs.YtgkmlbkocgjmmaaDoor
open Go Go.AM
set_option linter.unusedVariables false
set_option linter.unusedSimpArgs false
set_option maxHeartbeats 4000000
set_option maxRecDepth 100000

structure SRow (m M : AMem) (a : Option Addr) (c : Nat) (l : List (List UInt8)) : Prop where
  old : Old m M
  strs : StrB M (.slice a l.length c) l
  own : ∀ x, ownV (.slice a l.length c) x → m.size ≤ x
theorem SRow.nil (m : AMem) : SRow m m none 0 [] := ⟨Old.refl _, .inl ⟨rfl, rfl⟩, fun x ⟨o, l, c, h⟩ => by cases h⟩
theorem SRow.more {m M M' : AMem} {a : Option Addr} {c : Nat} {l : List (List UInt8)} (h : SRow m M a c l) (ho : Old M M') : SRow m M' a c l := ⟨h.old.trans ho, h.strs.old ho, h.own⟩
theorem SRow.app {m M : AMem} {a : Option Addr} {c : Nat} {l news : List (List UInt8)} {w : Value} (h : SRow m M a c l) (hl : l.length + news.length ≤ 1000000) (hw : srcLen w = some news.length) (hs : srcCells 1 news.length w (mx M []) = some (news.map sV)) :
    ∃ a' c' M', appV 9 1 16 [.string ⟨#[]⟩] (.slice a l.length c) w (mx M []) = some (.slice a' (l ++ news).length c', mx M' []) ∧ SRow m M' a' c' (l ++ news) := by
  obtain ⟨v', M', happ, hB, hk, ho⟩ := h.strs.app (w := w) (news := news) (by omega) hw hs
  obtain ⟨a', c', rfl⟩ := hB.len
  have hO := h.old
  refine ⟨a', c', M', happ, ⟨⟨Nat.le_trans hO.1 hk.1, fun y hy => ?_⟩, hB, fun x hx => ?_⟩⟩
  · rw [hk.2 y (Nat.lt_of_lt_of_le hy hO.1) (fun e => by have := h.own y e; omega)]; exact hO.2 y hy
  · rcases ho x hx with e | e
    · exact h.own x e
    · have := hO.1; omega
theorem SRow.one {m M : AMem} {a : Option Addr} {c : Nat} {l : List (List UInt8)} (h : SRow m M a c l) (hl : l.length ≤ 999999) (s : List UInt8) :
    ∃ a' c' M', appV 9 1 16 [.string ⟨#[]⟩] (.slice a l.length c) (.slice (some ⟨M.size, 0, none⟩) 1 1) (mx M [.cells [.string ⟨s.toArray⟩] 9 true .exact]) = some (.slice a' (l ++ [s]).length c', mx M' []) ∧ SRow m M' a' c' (l ++ [s]) := by
  obtain ⟨a', c', M', happ, hS⟩ := (h.more (Old.here M [.cells [.string ⟨s.toArray⟩] 9 true .exact])).app (w := .slice (some ⟨M.size, 0, none⟩) 1 1) (news := [s]) (by simp; omega) rfl (by rw [List.length_singleton, srcCells_slice (Nat.le_refl _), rd_def, mx_mx, List.append_nil, mx_new0]; rfl)
  rw [mx_mx, List.append_nil] at happ
  exact ⟨a', c', M', happ, hS⟩
def F8_X : ACode := F8.code.tl.tl.tl.tl.tl.tl.tl
theorem F8_cut : F8.code = .seq F8.code.hd (.seq F8.code.tl.hd (.seq F8.code.tl.tl.hd (.seq F8.code.tl.tl.tl.hd (.seq F8.code.tl.tl.tl.tl.hd (.seq F8.code.tl.tl.tl.tl.tl.hd (.seq F8.code.tl.tl.tl.tl.tl.tl.hd F8_X)))))) := rfl
theorem holds_b (m M0 : AMem) (hg : S.Glob m) (hO0 : Old m M0) (a : Option Addr) (c : Nat) (names : List (List UInt8)) (ha : StrR m a names) (hl : names.length ≤ 30) (na : Option Addr) (nc : Nat) (needs : List (List (List UInt8))) (hN : NeedsR m na needs) (hnl : needs.length ≤ 40) (hrow : ∀ i, (rowOf needs i).length ≤ 1000)
    (ra : Option Addr) (rc : Nat) (roots : List (List UInt8)) (hR : Src m ra roots) (hrl : roots.length ≤ 30) (more : List UInt8) (hnd : names.Nodup) (ca : Option Addr) (cc : Nat) (hC : IntB M0 (.slice ca (closO names needs roots).length cc) (closO names needs roots)) (t : Tmps)
    (u0 : t 0 = .slice a names.length c) (u1 : t 1 = .slice na needs.length nc) (u2 : t 2 = .slice ra roots.length rc) (u3 : t 3 = .string ⟨more.toArray⟩) (u11 : t 11 = .slice ca (closO names needs roots).length cc) :
    W Tryd.prog 3 F8_X (RetK F8.res fun r m' => r = .ret (.bool true) ∧ Old m m') ⟨t, mx M0 [], []⟩ := by
  have hcl : (closO names needs roots).length ≤ 30 := by
    have := closR_len (names := names) (needs := needs) (roots := roots)
    unfold closR at this; rw [if_pos hnd] at this; simp only at this; omega
  generalize hcg : closO names needs roots = C at *
  have hCl : ∀ k ∈ C, k < names.length := fun k hk => by rw [← hcg] at hk; exact (mem_clos.1 hk).lt
  simp -implicitDefEqProofs (disch := first | omega | with_reducible assumption | (simp only [zU, zC]; omega)) only [zT, zA, reduceCtorEq, zB, zC, zD, zE, zF, zG, zH, zI, zJ, zK, zL, reduceIte, F8_X, F8, tl_seq]
  refine W_loop (fun N qs => ∃ (q : Nat) (M : AMem) (oa : Option Addr) (oc : Nat), N = C.length - q ∧ qs.ds = [] ∧ qs.m = mx M [] ∧ qs.t 0 = .slice a names.length c ∧ qs.t 1 = .slice na needs.length nc ∧ qs.t 2 = .slice ra roots.length rc ∧ qs.t 3 = .string ⟨more.toArray⟩ ∧ qs.t 11 = .slice ca C.length cc ∧ qs.t 16 = .slice oa (ownR names (C.take q)).length oc ∧ qs.t 17 = .int .i64 q ∧ q ≤ C.length ∧ SRow M0 M oa oc (ownR names (C.take q))) (C.length - (0)) ⟨0, M0, none, 0, rfl, rfl, ?qm, ?q0, ?q1, ?q2, ?q3, ?q11, ?q16, ?q17, ?_⟩ ?_
  case qm | q0 | q1 | q2 | q3 | q11 | q16 | q17 => first | rfl | (simp -implicitDefEqProofs (disch := first | omega | with_reducible assumption | (simp only [zU, zC]; omega)) only [zT, zA, reduceCtorEq, zB, zC, zD, zE, zF, zG, zH, zI, zJ, zK, zL, reduceIte, u0, u1, u2, u3, u11, List.take_zero, ownR]; first | done | rfl | (congr 1; omega))
  · exact ⟨by omega, SRow.nil M0⟩
  · rintro N t m1 ds ⟨q, M, oa, oc, rfl, hds, hm, t0, t1, t2, t3, t11, t16, t17, hp⟩
    simp only at hds hm t0 t1 t2 t3 t11 t16 t17
    subst hds; replace hm := hm.symm; subst hm
    obtain ⟨hq, hS⟩ := hp
    have hor : (ownR names (C.take q)).length ≤ q := by unfold ownR; rw [List.length_map, List.length_take]; omega
    by_cases g : (q : Int) < (C.length : Int)
    · have hq' : q < C.length := by omega
      have hkl := hCl _ (List.getElem_mem hq')
      obtain ⟨cb, co, rfl, hcb, hcr⟩ := hC.row q hq'
      obtain ⟨nb, no, rfl, hnb, hnr⟩ := ha C[q] hkl
      simp only [iV] at hcr
      have hcbM : cb < M.size := Nat.lt_of_lt_of_le hcb hS.old.1
      have hnbM : nb < M.size := Nat.lt_of_lt_of_le hnb (Nat.le_trans hO0.1 hS.old.1)
      have hcrM : rdO (M.get cb) (co + q) 1 = some [.int .i64 (C[q] : Nat)] := by rw [hS.old.2 cb hcb]; exact hcr
      have hnrM : rdO (M.get nb) (no + C[q]) 1 = some [.string ⟨names[C[q]].toArray⟩] := by rw [(hO0.trans hS.old).2 nb hnb]; exact hnr
      have hsn : ownR names (C.take (q + 1)) = ownR names (C.take q) ++ [names[C[q]]] := by
        unfold ownR; rw [List.take_succ_eq_append_getElem hq', List.map_append]; simp [List.getD, hkl]
      obtain ⟨a', c', M', happ, hS'⟩ := hS.one (by omega) names[C[q]]
      have g2 : (C[q] : Int) < (names.length : Int) := by omega
      rw [← hsn] at hS' happ
      repeat first | simp -implicitDefEqProofs (disch := first | omega | with_reducible assumption | (simp only [zU, zC]; omega)) only [zT, zA, reduceCtorEq, zB, zC, zD, zE, zF, zG, zH, zI, zJ, zK, zL, reduceIte, F8_l2, t0, t1, t2, t3, t11, t16, t17, g, hcrM, g2, hnrM, stepOp_app_v, happ] | refine OrW.go ?_
      rw [LoopK_normal]; refine ⟨_, ?_, q + 1, M', a', c', rfl, rfl, ?qm, ?q0, ?q1, ?q2, ?q3, ?q11, ?q16, ?q17, ?_⟩
      case qm | q0 | q1 | q2 | q3 | q11 | q16 | q17 => first | rfl | (simp -implicitDefEqProofs (disch := first | omega | with_reducible assumption | (simp only [zU, zC]; omega)) only [zT, zA, reduceCtorEq, zB, zC, zD, zE, zF, zG, zH, zI, zJ, zK, zL, reduceIte, t0, t1, t2, t3, t11, t16, t17]; first | done | rfl | (congr 1; omega))
      · omega
      · exact ⟨by omega, hS'⟩
    · obtain rfl : q = C.length := by omega
      rw [List.take_length] at hS t16 hor
      have hOM : Old m M := hO0.trans hS.old
      have hcl1 := closure_ok (mx M []) a c names (ha.old (hOM.mx [])) (by omega) na nc needs (hN.old (hOM.mx [])) (by omega) oa oc (ownR names C) (hS.strs.src.old (Old.here _ [])) (by omega) hrow
      have e1 : closR names needs (ownR names C) = (C, 0) := by unfold closR; rw [if_pos hnd, ← hcg, clos_own hnd]
      rw [e1] at hcl1
      repeat first | simp -implicitDefEqProofs (disch := first | omega | with_reducible assumption | (simp only [zU, zC]; omega)) only [zT, zA, reduceCtorEq, zB, zC, zD, zE, zF, zG, zH, zI, zJ, zK, zL, reduceIte, F8_l2, t0, t1, t2, t3, t11, t16, t17, g] | refine OrW.go ?_
      refine RelC.call hcl1 ?_
      rintro r M2 ⟨hO2, v2, rfl, hI2⟩
      have hy2 : Old M M2 := (Old.here M []).trans hO2
      have hOM2 : Old m M2 := hOM.trans hy2
      obtain ⟨wa1, wc1, W1, happ1, hW1⟩ := (SRow.nil M2).app (w := .slice ra roots.length rc) (news := roots) (by simp; omega) rfl ((hR.old (hOM2.mx [])).src rc)
      obtain ⟨wa2, wc2, W2, happ2, hW2⟩ := hW1.one (by simp; omega) more
      simp only [List.nil_append, List.length_nil] at happ1 happ2 hW1 hW2
      have hOW2 : Old m W2 := hOM2.trans hW2.old
      have hcl2 := closure_ok (mx W2 []) a c names (ha.old (hOW2.mx [])) (by omega) na nc needs (hN.old (hOW2.mx [])) (by omega) wa2 wc2 (roots ++ [more]) (hW2.strs.src.old (Old.here _ [])) (by simp; omega) hrow
      have e2 : closR names needs (roots ++ [more]) = (closO names needs (roots ++ [more]), 0) := by unfold closR; rw [if_pos hnd]
      rw [e2, show (roots ++ [more]).length = roots.length + 1 by simp] at hcl2
      repeat first | simp -implicitDefEqProofs (disch := first | omega | with_reducible assumption | (simp only [zU, zC]; omega)) only [zT, zA, reduceCtorEq, zB, zC, zD, zE, zF, zG, zH, zI, zJ, zK, zL, reduceIte, t0, t1, t2, t3, t11, t16, t17, stepOp_app_v, happ1, happ2] | refine OrW.go ?_
      refine RelC.call hcl2 ?_
      rintro r M3 ⟨hO3, v3, rfl, hI3⟩
      have hy3 : Old W2 M3 := (Old.here W2 []).trans hO3
      have hOM3 : Old m M3 := hOW2.trans hy3
      have hC3 : IntB M3 (.slice ca C.length cc) C := hC.old (hS.old.trans (hy2.trans (hW2.old.trans hy3)))
      have hD3 : IntB M3 v2 C := hI2.old (hW2.old.trans hy3)
      have hwl : (closO names needs (roots ++ [more])).length ≤ 30 := by
        have := closR_len (names := names) (needs := needs) (roots := roots ++ [more])
        rw [e2] at this; simp only at this; omega
      have hCW : ∀ k ∈ C, 0 ≤ pz (closO names needs (roots ++ [more])) k := fun k hk => by
        rw [← hcg] at hk
        exact pz_nonneg.2 (mem_clos.2 ((mem_clos.1 hk).mono fun s hs => List.mem_append_left _ hs))
      have hCR : ∀ s ∈ roots, ∀ p, plR names s = some p → 0 ≤ pz C p := fun s hs p hp => by
        rw [← hcg]; exact pz_nonneg.2 (mem_clos.2 (.root hs hp))
      generalize closO names needs (roots ++ [more]) = Wc at hI3 hwl hCW
      obtain ⟨wa, wc, rfl⟩ := hI3.len
      have kp := fun s => DetC.known (place_ok (mx M3 []) a c names s (ha.old (hOM3.mx [])) (by omega))
      have kw := fun n => DetC.known (placeInt_ok (mx M3 []) wa wc Wc n (hI3.row.old (Old.here _ [])) (by omega))
      have kc := fun n => DetC.known (placeInt_ok (mx M3 []) ca cc C n (hC3.row.old (Old.here _ [])) (by omega))
      repeat first | simp -implicitDefEqProofs (disch := first | omega | with_reducible assumption | (simp only [zU, zC]; omega)) only [zT, zA, reduceCtorEq, zB, zC, zD, zE, zF, zG, zH, zI, zJ, zK, zL, reduceIte, t0, t1, t2, t3, t11, t16, t17] | refine OrW.go ?_
      refine W_loop (fun N qs => ∃ (q : Nat), N = C.length - q ∧ qs.ds = [] ∧ qs.m = mx M3 [] ∧ qs.t 0 = .slice a names.length c ∧ qs.t 2 = .slice ra roots.length rc ∧ qs.t 11 = .slice ca C.length cc ∧ qs.t 18 = v2 ∧ qs.t 19 = .int .i64 0 ∧ qs.t 21 = .slice wa Wc.length wc ∧ qs.t 22 = .int .i64 0 ∧ qs.t 23 = .int .i64 q ∧ q ≤ C.length) (C.length - (0)) ⟨0, rfl, rfl, ?qm, ?q0, ?q2, ?q11, ?q18, ?q19, ?q21, ?q22, ?q23, ?_⟩ ?_
      case qm | q0 | q2 | q11 | q18 | q19 | q21 | q22 | q23 => first | rfl | (simp -implicitDefEqProofs (disch := first | omega | with_reducible assumption | (simp only [zU, zC]; omega)) only [zT, zA, reduceCtorEq, zB, zC, zD, zE, zF, zG, zH, zI, zJ, zK, zL, reduceIte, t0, t1, t2, t3, t11, t16, t17]; first | done | rfl | (congr 1; omega))
      · omega
      · rintro N t m1 ds ⟨q, rfl, hds, hm, t0, t2, t11, t18, t19, t21, t22, t23, hp⟩
        simp only at hds hm t0 t2 t11 t18 t19 t21 t22 t23
        subst hds; replace hm := hm.symm; subst hm
        by_cases g : (q : Int) < (C.length : Int)
        · have hq' : q < C.length := by omega
          obtain ⟨cb, co, e0, hcb, hcr⟩ := hC3.row q hq'
          simp only [iV] at hcr
          have k1 := kw C[q]
          have g2 : ¬ pz Wc C[q] < 0 := by have := hCW _ (List.getElem_mem hq'); omega
          repeat first | simp -implicitDefEqProofs (disch := first | omega | with_reducible assumption | (simp only [zU, zC]; omega)) only [zT, zA, reduceCtorEq, zB, zC, zD, zE, zF, zG, zH, zI, zJ, zK, zL, reduceIte, F8_l3, t0, t2, t11, t18, t19, t21, t22, t23, g, e0, hcr, k1, g2] | refine OrW.go ?_
          rw [LoopK_normal]; refine ⟨_, ?_, q + 1, rfl, rfl, ?qm, ?q0, ?q2, ?q11, ?q18, ?q19, ?q21, ?q22, ?q23, ?_⟩
          case qm | q0 | q2 | q11 | q18 | q19 | q21 | q22 | q23 => first | rfl | (simp -implicitDefEqProofs (disch := first | omega | with_reducible assumption | (simp only [zU, zC]; omega)) only [zT, zA, reduceCtorEq, zB, zC, zD, zE, zF, zG, zH, zI, zJ, zK, zL, reduceIte, t0, t2, t11, t18, t19, t21, t22, t23, e0]; first | done | rfl | (congr 1; omega))
          · omega
          · omega
        · obtain rfl : q = C.length := by omega
          repeat first | simp -implicitDefEqProofs (disch := first | omega | with_reducible assumption | (simp only [zU, zC]; omega)) only [zT, zA, reduceCtorEq, zB, zC, zD, zE, zF, zG, zH, zI, zJ, zK, zL, reduceIte, F8_l3, t0, t2, t11, t18, t19, t21, t22, t23, g] | refine OrW.go ?_
          refine W_loop (fun N qs => ∃ (q : Nat), N = roots.length - q ∧ qs.ds = [] ∧ qs.m = mx M3 [] ∧ qs.t 0 = .slice a names.length c ∧ qs.t 2 = .slice ra roots.length rc ∧ qs.t 11 = .slice ca C.length cc ∧ qs.t 18 = v2 ∧ qs.t 19 = .int .i64 0 ∧ qs.t 22 = .int .i64 0 ∧ qs.t 24 = .int .i64 q ∧ q ≤ roots.length) (roots.length - (0)) ⟨0, rfl, rfl, ?qm, ?q0, ?q2, ?q11, ?q18, ?q19, ?q22, ?q24, ?_⟩ ?_
          case qm | q0 | q2 | q11 | q18 | q19 | q22 | q24 => first | rfl | (simp -implicitDefEqProofs (disch := first | omega | with_reducible assumption | (simp only [zU, zC]; omega)) only [zT, zA, reduceCtorEq, zB, zC, zD, zE, zF, zG, zH, zI, zJ, zK, zL, reduceIte, t0, t2, t11, t18, t19, t21, t22, t23]; first | done | rfl | (congr 1; omega))
          · omega
          · rintro N t m1 ds ⟨q, rfl, hds, hm, t0, t2, t11, t18, t19, t22, t24, hp⟩
            simp only at hds hm t0 t2 t11 t18 t19 t22 t24
            subst hds; replace hm := hm.symm; subst hm
            by_cases g : (q : Int) < (roots.length : Int)
            · have hq' : q < roots.length := by omega
              obtain ⟨rb, ro, e0, hrb, hrr⟩ := hR.str q hq'
              have hrbM : rb < M3.size := Nat.lt_of_lt_of_le hrb hOM3.1
              have hrrM : rdO (M3.get rb) (ro + q) 1 = some [.string ⟨roots[q].toArray⟩] := by rw [hOM3.2 rb hrb]; exact hrr
              have k1 := kp roots[q]
              cases hpl : plR names roots[q] with
              | none =>
                have ez : plZ names roots[q] = -1 := by simp [plZ, hpl]
                have gz : ¬ (0 : Int) ≤ -1 := by omega
                rw [ez] at k1
                repeat first | simp -implicitDefEqProofs (disch := first | omega | with_reducible assumption | (simp only [zU, zC]; omega)) only [zT, zA, reduceCtorEq, zB, zC, zD, zE, zF, zG, zH, zI, zJ, zK, zL, reduceIte, F8_l4, t0, t2, t11, t18, t19, t22, t24, g, e0, hrrM, k1, gz] | refine OrW.go ?_
                rw [LoopK_normal]; refine ⟨_, ?_, q + 1, rfl, rfl, ?qm, ?q0, ?q2, ?q11, ?q18, ?q19, ?q22, ?q24, ?_⟩
                case qm | q0 | q2 | q11 | q18 | q19 | q22 | q24 => first | rfl | (simp -implicitDefEqProofs (disch := first | omega | with_reducible assumption | (simp only [zU, zC]; omega)) only [zT, zA, reduceCtorEq, zB, zC, zD, zE, zF, zG, zH, zI, zJ, zK, zL, reduceIte, t0, t2, t11, t18, t19, t22, t24, e0]; first | done | rfl | (congr 1; omega))
                · omega
                · omega
              | some p =>
                have ez : plZ names roots[q] = (p : Nat) := by simp [plZ, hpl]
                have gz : (0 : Int) ≤ (p : Int) := by omega
                rw [ez] at k1
                have k2 := kc p
                have g2 : ¬ pz C p < 0 := by have := hCR _ (List.getElem_mem hq') p hpl; omega
                repeat first | simp -implicitDefEqProofs (disch := first | omega | with_reducible assumption | (simp only [zU, zC]; omega)) only [zT, zA, reduceCtorEq, zB, zC, zD, zE, zF, zG, zH, zI, zJ, zK, zL, reduceIte, F8_l4, t0, t2, t11, t18, t19, t22, t24, g, e0, hrrM, k1, gz, k2, g2] | refine OrW.go ?_
                rw [LoopK_normal]; refine ⟨_, ?_, q + 1, rfl, rfl, ?qm, ?q0, ?q2, ?q11, ?q18, ?q19, ?q22, ?q24, ?_⟩
                case qm | q0 | q2 | q11 | q18 | q19 | q22 | q24 => first | rfl | (simp -implicitDefEqProofs (disch := first | omega | with_reducible assumption | (simp only [zU, zC]; omega)) only [zT, zA, reduceCtorEq, zB, zC, zD, zE, zF, zG, zH, zI, zJ, zK, zL, reduceIte, t0, t2, t11, t18, t19, t22, t24, e0]; first | done | rfl | (congr 1; omega))
                · omega
                · omega
            · obtain rfl : q = roots.length := by omega
              have ks := same_l hC3 hD3 (by omega) []
              have kw2 := kWorks (hg.old hOM3) []
              repeat first | simp -implicitDefEqProofs (disch := first | omega | with_reducible assumption | (simp only [zU, zC]; omega)) only [zT, zA, reduceCtorEq, zB, zC, zD, zE, zF, zG, zH, zI, zJ, zK, zL, reduceIte, F8_l4, t0, t2, t11, t18, t19, t22, t24, g, ks, kw2] | refine OrW.go ?_
              exact hOM3.mx []
theorem lawHolds (m : AMem) (hg : S.Glob m) (a : Option Addr) (c : Nat) (names : List (List UInt8)) (ha : StrR m a names) (hl : names.length ≤ 9223372036854775807) (hs : ∀ s ∈ names, s.length ≤ 9223372036854775807) (na : Option Addr) (nc : Nat) (needs : List (List (List UInt8))) (hN : NeedsA m na needs) (hnl : needs.length ≤ 9223372036854775807)
    (ra : Option Addr) (rc : Nat) (roots : List (List UInt8)) (hR : Src m ra roots) (hrl : roots.length ≤ 9223372036854775807) (hrs : ∀ s ∈ roots, s.length ≤ 9223372036854775807) (more : List UInt8) (hml : more.length ≤ 9223372036854775807) :
    PureC Tryd.prog 3 8 [.slice a names.length c, .slice na needs.length nc, .slice ra roots.length rc, .string ⟨more.toArray⟩] m (.bool true) := by
  refine pure_of_W (fn := Tryd.f8) rfl rfl F8_ok (by simp [F8]) (.bool _) ?_
  have kg := DetC.known (graph_ok (mx m []) a c names (ha.old (Old.here _ [])) hl hs na nc needs (hN.old (Old.here _ [])) hnl)
  have kw := kWorks hg []
  have k25 := DetC.known (short_ok (mx m []) ra rc roots (hR.str.old (Old.here _ [])) hrl hrs 30 (by omega))
  rw [show ((30 : Nat) : Int) = 30 from rfl] at k25
  cases hgr : graphB names needs with
  | false =>
    rw [hgr] at kg
    repeat first | simp -implicitDefEqProofs (disch := first | omega | with_reducible assumption | (simp only [zU, zC]; omega)) only [zT, zA, reduceCtorEq, zB, zC, zD, zE, zF, zG, zH, zI, zJ, zK, zL, reduceIte, F8, kg, kw] | refine OrW.go ?_
  | true =>
    rw [hgr] at kg
    cases hsr : shortB roots 30 with
    | false =>
      rw [hsr] at k25
      repeat first | simp -implicitDefEqProofs (disch := first | omega | with_reducible assumption | (simp only [zU, zC]; omega)) only [zT, zA, reduceCtorEq, zB, zC, zD, zE, zF, zG, zH, zI, zJ, zK, zL, reduceIte, F8, kg, k25, kw] | refine OrW.go ?_
    | true =>
      rw [hsr] at k25
      by_cases hm : (200 : Int) < (more.length : Int)
      · repeat first | simp -implicitDefEqProofs (disch := first | omega | with_reducible assumption | (simp only [zU, zC]; omega)) only [zT, zA, reduceCtorEq, zB, zC, zD, zE, zF, zG, zH, zI, zJ, zK, zL, reduceIte, F8, kg, k25, kw, hm] | refine OrW.go ?_
      have hG := graph_few hgr
      have g1 := hG.nlen; have g2 := hG.dlen
      have hNR := hN.needs hG.rows
      have hr30 : roots.length ≤ 30 := by simp [shortB] at hsr; omega
      have hrow := fun i => Nat.le_trans (hG.row i) (show 30 ≤ 1000 by omega)
      rw [F8_cut]
      repeat first | simp -implicitDefEqProofs (disch := first | omega | with_reducible assumption | (simp only [zU, zC]; omega)) only [zT, zA, reduceCtorEq, zB, zC, zD, zE, zF, zG, zH, zI, zJ, zK, zL, reduceIte, F8, hd_seq, tl_seq, kg, k25, hm] | refine OrW.go ?_
      refine RelC.call (sort_ok (mx m []) a c names (ha.old (Old.here _ [])) (by omega) na nc needs (hNR.old (Old.here _ [])) (by omega)) ?_
      rintro r M1 ⟨hO1, v1, rfl, hI1⟩
      have hz1 : Old m M1 := (Old.here m []).trans hO1
      repeat first | simp -implicitDefEqProofs (disch := first | omega | with_reducible assumption | (simp only [zU, zC]; omega)) only [zT, zA, reduceCtorEq, zB, zC, zD, zE, zF, zG, zH, zI, zJ, zK, zL, reduceIte] | refine OrW.go ?_
      refine RelC.call (closure_ok (mx M1 []) a c names (ha.old (hz1.mx [])) (by omega) na nc needs (hNR.old (hz1.mx [])) (by omega) ra rc roots (hR.old (hz1.mx [])) (by omega) hrow) ?_
      rintro r M2 ⟨hO2, v2, rfl, hI2⟩
      have hy2 : Old M1 M2 := (Old.here M1 []).trans hO2
      have hz2 := hz1.trans hy2
      have hL := hI1.old hy2
      have kw2 := kWorks (hg.old hz2) []
      by_cases hnd : names.Nodup
      case neg =>
        have e1 := sort_err (needs := needs) hnd
        have e2 : (closR names needs roots).2 = 151 := by unfold closR; rw [if_neg hnd]
        rw [e1, e2]
        repeat first | simp -implicitDefEqProofs (disch := first | omega | with_reducible assumption | (simp only [zU, zC]; omega)) only [zT, zA, reduceCtorEq, zB, zC, zD, zE, zF, zG, zH, zI, zJ, zK, zL, reduceIte, kw2] | refine OrW.go ?_
        exact hz2.mx []
      have e2 : closR names needs roots = (closO names needs roots, 0) := by unfold closR; rw [if_pos hnd]
      have hcl : (closO names needs roots).length ≤ 30 := by
        have := closR_len (names := names) (needs := needs) (roots := roots)
        rw [e2] at this; simp only at this; omega
      rw [e2] at hI2 ⊢
      simp only at hI2
      have hsl := sortR_len (names := names) (needs := needs)
      have htwo := sort_two (needs := needs) hnd
      have hfa := sort_facts (needs := needs) hnd
      generalize (sortR names needs).1 = l at *
      generalize (sortR names needs).2 = e at *
      obtain ⟨la, lc, rfl⟩ := hL.len
      obtain ⟨ca, cc, rfl⟩ := hI2.len
      have hb := fun t => holds_b m M2 hg hz2 a c names ha (by omega) na nc needs hNR (by omega) hrow ra rc roots hR hr30 more hnd ca cc hI2 t
      have hCC : ∀ i, i ∈ closO names needs roots → ∀ s ∈ rowOf needs i, ∀ p, plR names s = some p → 0 ≤ pz (closO names needs roots) p := fun i hi s hs p hp => pz_nonneg.2 (mem_clos.2 (.step (mem_clos.1 hi) hs hp))
      generalize closO names needs roots = C at *
      have kp := fun s => DetC.known (place_ok (mx M2 []) a c names s (ha.old (hz2.mx [])) (by omega))
      have kl := fun n => DetC.known (placeInt_ok (mx M2 []) la lc l n (hL.row.old (Old.here _ [])) (by omega))
      have kc := fun n => DetC.known (placeInt_ok (mx M2 []) ca cc C n (hI2.row.old (Old.here _ [])) (by omega))
      have step : ∀ (e : Int) (t : Tmps), (e = 0 → (∀ i, i < names.length → 0 ≤ pz l i) ∧ ∀ i, i < names.length → ∀ s ∈ rowOf needs i, ∀ p, plR names s = some p → pz l p < pz l i) → t 0 = .slice a names.length c → t 1 = .slice na needs.length nc → t 2 = .slice ra roots.length rc → t 3 = .string ⟨more.toArray⟩ → t 9 = .slice la l.length lc → t 10 = .int .i64 e → t 11 = .slice ca C.length cc → t 13 = .int .i64 0 →
          W Tryd.prog 3 F8_l0.loop (BlockK 0 (SeqK (W Tryd.prog 3 F8_X (RetK [.t 8] fun r m' => r = .ret (.bool true) ∧ Old m m')) (RetK [.t 8] fun r m' => r = .ret (.bool true) ∧ Old m m'))) ⟨t, mx M2 [], []⟩ := by
        intro e t he u0 u1 u2 u3 u9 u10 u11 u13
        refine W_loop (fun N qs => ∃ (i : Nat), N = names.length - i ∧ qs.ds = [] ∧ qs.m = mx M2 [] ∧ qs.t 0 = .slice a names.length c ∧ qs.t 1 = .slice na needs.length nc ∧ qs.t 2 = .slice ra roots.length rc ∧ qs.t 3 = .string ⟨more.toArray⟩ ∧ qs.t 9 = .slice la l.length lc ∧ qs.t 10 = .int .i64 e ∧ qs.t 11 = .slice ca C.length cc ∧ qs.t 13 = .int .i64 i ∧ i ≤ names.length) (names.length - (0)) ⟨0, rfl, rfl, ?qm, ?q0, ?q1, ?q2, ?q3, ?q9, ?q10, ?q11, ?q13, ?_⟩ ?_
        case qm | q0 | q1 | q2 | q3 | q9 | q10 | q11 | q13 => first | rfl | (simp -implicitDefEqProofs (disch := first | omega | with_reducible assumption | (simp only [zU, zC]; omega)) only [zT, zA, reduceCtorEq, zB, zC, zD, zE, zF, zG, zH, zI, zJ, zK, zL, reduceIte, u0, u1, u2, u3, u9, u10, u11, u13]; first | done | rfl | (congr 1; omega))
        · omega
        · rintro N t m1 ds ⟨i, rfl, hds, hm, t0, t1, t2, t3, t9, t10, t11, t13, hp⟩
          simp only at hds hm t0 t1 t2 t3 t9 t10 t11 t13
          subst hds; replace hm := hm.symm; subst hm
          by_cases g : (i : Int) < (names.length : Int)
          · have hi' : i < names.length := by omega
            repeat first | simp -implicitDefEqProofs (disch := first | omega | with_reducible assumption | (simp only [zU, zC]; omega)) only [zT, zA, reduceCtorEq, zB, zC, zD, zE, zF, zG, zH, zI, zJ, zK, zL, reduceIte, F8_l0, t0, t1, t2, t3, t9, t10, t11, t13, g] | refine OrW.go ?_
            refine W_loop (fun N qs => ∃ (k : Nat), N = (rowOf needs i).length - k ∧ qs.ds = [] ∧ qs.m = mx M2 [] ∧ qs.t 0 = .slice a names.length c ∧ qs.t 1 = .slice na needs.length nc ∧ qs.t 2 = .slice ra roots.length rc ∧ qs.t 3 = .string ⟨more.toArray⟩ ∧ qs.t 9 = .slice la l.length lc ∧ qs.t 10 = .int .i64 e ∧ qs.t 11 = .slice ca C.length cc ∧ qs.t 13 = .int .i64 i ∧ qs.t 14 = .int .i64 k ∧ k ≤ (rowOf needs i).length) ((rowOf needs i).length - (0)) ⟨0, rfl, rfl, ?qm, ?q0, ?q1, ?q2, ?q3, ?q9, ?q10, ?q11, ?q13, ?q14, ?_⟩ ?_
            case qm | q0 | q1 | q2 | q3 | q9 | q10 | q11 | q13 | q14 => first | rfl | (simp -implicitDefEqProofs (disch := first | omega | with_reducible assumption | (simp only [zU, zC]; omega)) only [zT, zA, reduceCtorEq, zB, zC, zD, zE, zF, zG, zH, zI, zJ, zK, zL, reduceIte, t0, t1, t2, t3, t9, t10, t11, t13]; first | done | rfl | (congr 1; omega))
            · omega
            · rintro N t m1 ds ⟨k, rfl, hds, hm, t0, t1, t2, t3, t9, t10, t11, t13, t14, hp⟩
              simp only at hds hm t0 t1 t2 t3 t9 t10 t11 t13 t14
              subst hds; replace hm := hm.symm; subst hm
              have fin : (∃ h : i < needs.length, k < needs[i].length) ∨ ((k = (rowOf needs i).length) ∧ (¬ (i : Int) < (needs.length : Int) ∨ ∃ h : i < needs.length, k = needs[i].length)) := by
                by_cases h : i < needs.length
                · have e1 : rowOf needs i = needs[i] := by simp [rowOf, List.getD, h]
                  rw [e1] at hp ⊢
                  rcases Nat.lt_or_ge k needs[i].length with h2 | h2
                  · exact .inl ⟨h, h2⟩
                  · exact .inr ⟨by omega, .inr ⟨h, by omega⟩⟩
                · have e1 : rowOf needs i = [] := by simp [rowOf, List.getD, h]
                  rw [e1] at hp ⊢
                  exact .inr ⟨by simpa using hp, .inl (by omega)⟩
              rcases fin with ⟨hin, hk⟩ | ⟨hk, hend⟩
              · have gi : (i : Int) < (needs.length : Int) := by omega
                have gk : (k : Int) < (needs[i].length : Int) := by omega
                have e1 : rowOf needs i = needs[i] := by simp [rowOf, List.getD, hin]
                obtain ⟨b, o, rra, rrc, e0, hb1, hr1, hS, _⟩ := hNR i hin
                obtain ⟨b2, o2, e02, hb2, hr2⟩ := hS.str k hk
                have hbM : b < M2.size := Nat.lt_of_lt_of_le hb1 hz2.1
                have hb2M : b2 < M2.size := Nat.lt_of_lt_of_le hb2 hz2.1
                have hr1M : rdO (M2.get b) (o + i) 1 = some [.slice rra needs[i].length rrc] := by rw [hz2.2 b hb1]; exact hr1
                have hr2M : rdO (M2.get b2) (o2 + k) 1 = some [.string ⟨needs[i][k].toArray⟩] := by rw [hz2.2 b2 hb2]; exact hr2
                have hsm : needs[i][k] ∈ rowOf needs i := by rw [e1]; exact List.getElem_mem hk
                have k1 := kp needs[i][k]
                have hkr : k < (rowOf needs i).length := by rw [e1]; exact hk
                cases hpl : plR names needs[i][k] with
                | none =>
                  have ez : plZ names needs[i][k] = -1 := by simp [plZ, hpl]
                  have gz : ¬ (0 : Int) ≤ -1 := by omega
                  rw [ez] at k1
                  repeat first | simp -implicitDefEqProofs (disch := first | omega | with_reducible assumption | (simp only [zU, zC]; omega)) only [zT, zA, reduceCtorEq, zB, zC, zD, zE, zF, zG, zH, zI, zJ, zK, zL, reduceIte, F8_l1, t0, t1, t2, t3, t9, t10, t11, t13, t14, gi, gk, e0, hr1M, e02, hr2M, k1, gz, undef] | refine OrW.go ?_
                  rw [LoopK_normal]; refine ⟨_, ?_, k + 1, rfl, rfl, ?qm, ?q0, ?q1, ?q2, ?q3, ?q9, ?q10, ?q11, ?q13, ?q14, ?_⟩
                  case qm | q0 | q1 | q2 | q3 | q9 | q10 | q11 | q13 | q14 => first | rfl | (simp -implicitDefEqProofs (disch := first | omega | with_reducible assumption | (simp only [zU, zC]; omega)) only [zT, zA, reduceCtorEq, zB, zC, zD, zE, zF, zG, zH, zI, zJ, zK, zL, reduceIte, t0, t1, t2, t3, t9, t10, t11, t13, t14, e0]; first | done | rfl | (congr 1; omega))
                  · omega
                  · omega
                | some p =>
                  have ez : plZ names needs[i][k] = (p : Nat) := by simp [plZ, hpl]
                  have gz : (0 : Int) ≤ (p : Int) := by omega
                  rw [ez] at k1
                  have q1 := kl p
                  have q2 := kl i
                  have q3 := kc p
                  have q4 := kc i
                  have hci : ¬ pz C i < 0 → ¬ pz C p < 0 := fun h => by
                    have := hCC i (pz_nonneg.1 (by omega)) _ hsm p hpl
                    omega
                  by_cases h0 : e = 0
                  · have hlt : ¬ pz l i ≤ pz l p := by have := (he h0).2 i hi' _ hsm p hpl; omega
                    by_cases hc : pz C i < 0
                    · have hc' : ¬ 0 ≤ pz C i := by omega
                      repeat first | simp -implicitDefEqProofs (disch := first | omega | with_reducible assumption | (simp only [zU, zC]; omega)) only [zT, zA, reduceCtorEq, zB, zC, zD, zE, zF, zG, zH, zI, zJ, zK, zL, reduceIte, F8_l1, t0, t1, t2, t3, t9, t10, t11, t13, t14, gi, gk, e0, hr1M, e02, hr2M, k1, gz, h0, q1, q2, q3, q4, hlt, hc'] | refine OrW.go ?_
                      rw [LoopK_normal]; refine ⟨_, ?_, k + 1, rfl, rfl, ?qm, ?q0, ?q1, ?q2, ?q3, ?q9, ?q10, ?q11, ?q13, ?q14, ?_⟩
                      case qm | q0 | q1 | q2 | q3 | q9 | q10 | q11 | q13 | q14 => first | rfl | (simp -implicitDefEqProofs (disch := first | omega | with_reducible assumption | (simp only [zU, zC]; omega)) only [zT, zA, reduceCtorEq, zB, zC, zD, zE, zF, zG, zH, zI, zJ, zK, zL, reduceIte, t0, t1, t2, t3, t9, t10, t11, t13, t14, e0, h0]; first | done | rfl | (congr 1; omega))
                      · omega
                      · omega
                    · have hc' : 0 ≤ pz C i := by omega
                      have hp' := hci hc
                      repeat first | simp -implicitDefEqProofs (disch := first | omega | with_reducible assumption | (simp only [zU, zC]; omega)) only [zT, zA, reduceCtorEq, zB, zC, zD, zE, zF, zG, zH, zI, zJ, zK, zL, reduceIte, F8_l1, t0, t1, t2, t3, t9, t10, t11, t13, t14, gi, gk, e0, hr1M, e02, hr2M, k1, gz, h0, q1, q2, q3, q4, hlt, hc', hp'] | refine OrW.go ?_
                      rw [LoopK_normal]; refine ⟨_, ?_, k + 1, rfl, rfl, ?qm, ?q0, ?q1, ?q2, ?q3, ?q9, ?q10, ?q11, ?q13, ?q14, ?_⟩
                      case qm | q0 | q1 | q2 | q3 | q9 | q10 | q11 | q13 | q14 => first | rfl | (simp -implicitDefEqProofs (disch := first | omega | with_reducible assumption | (simp only [zU, zC]; omega)) only [zT, zA, reduceCtorEq, zB, zC, zD, zE, zF, zG, zH, zI, zJ, zK, zL, reduceIte, t0, t1, t2, t3, t9, t10, t11, t13, t14, e0, h0]; first | done | rfl | (congr 1; omega))
                      · omega
                      · omega
                  · by_cases hc : pz C i < 0
                    · have hc' : ¬ 0 ≤ pz C i := by omega
                      repeat first | simp -implicitDefEqProofs (disch := first | omega | with_reducible assumption | (simp only [zU, zC]; omega)) only [zT, zA, reduceCtorEq, zB, zC, zD, zE, zF, zG, zH, zI, zJ, zK, zL, reduceIte, F8_l1, t0, t1, t2, t3, t9, t10, t11, t13, t14, gi, gk, e0, hr1M, e02, hr2M, k1, gz, h0, q1, q2, q3, q4, hc', undef] | refine OrW.go ?_
                      rw [LoopK_normal]; refine ⟨_, ?_, k + 1, rfl, rfl, ?qm, ?q0, ?q1, ?q2, ?q3, ?q9, ?q10, ?q11, ?q13, ?q14, ?_⟩
                      case qm | q0 | q1 | q2 | q3 | q9 | q10 | q11 | q13 | q14 => first | rfl | (simp -implicitDefEqProofs (disch := first | omega | with_reducible assumption | (simp only [zU, zC]; omega)) only [zT, zA, reduceCtorEq, zB, zC, zD, zE, zF, zG, zH, zI, zJ, zK, zL, reduceIte, t0, t1, t2, t3, t9, t10, t11, t13, t14, e0]; first | done | rfl | (congr 1; omega))
                      · omega
                      · omega
                    · have hc' : 0 ≤ pz C i := by omega
                      have hp' := hci hc
                      repeat first | simp -implicitDefEqProofs (disch := first | omega | with_reducible assumption | (simp only [zU, zC]; omega)) only [zT, zA, reduceCtorEq, zB, zC, zD, zE, zF, zG, zH, zI, zJ, zK, zL, reduceIte, F8_l1, t0, t1, t2, t3, t9, t10, t11, t13, t14, gi, gk, e0, hr1M, e02, hr2M, k1, gz, h0, q1, q2, q3, q4, hc', hp', undef] | refine OrW.go ?_
                      rw [LoopK_normal]; refine ⟨_, ?_, k + 1, rfl, rfl, ?qm, ?q0, ?q1, ?q2, ?q3, ?q9, ?q10, ?q11, ?q13, ?q14, ?_⟩
                      case qm | q0 | q1 | q2 | q3 | q9 | q10 | q11 | q13 | q14 => first | rfl | (simp -implicitDefEqProofs (disch := first | omega | with_reducible assumption | (simp only [zU, zC]; omega)) only [zT, zA, reduceCtorEq, zB, zC, zD, zE, zF, zG, zH, zI, zJ, zK, zL, reduceIte, t0, t1, t2, t3, t9, t10, t11, t13, t14, e0]; first | done | rfl | (congr 1; omega))
                      · omega
                      · omega
              · have q2 := kl i
                by_cases h0 : e = 0
                · have hlt : ¬ pz l i < 0 := by have := (he h0).1 i hi'; omega
                  rcases hend with gi | ⟨hin, hke⟩
                  · repeat first | simp -implicitDefEqProofs (disch := first | omega | with_reducible assumption | (simp only [zU, zC]; omega)) only [zT, zA, reduceCtorEq, zB, zC, zD, zE, zF, zG, zH, zI, zJ, zK, zL, reduceIte, F8_l1, t0, t1, t2, t3, t9, t10, t11, t13, t14, gi, h0, q2, hlt, undef] | refine OrW.go ?_
                    rw [LoopK_normal]; refine ⟨_, ?_, i + 1, rfl, rfl, ?qm, ?q0, ?q1, ?q2, ?q3, ?q9, ?q10, ?q11, ?q13, ?_⟩
                    case qm | q0 | q1 | q2 | q3 | q9 | q10 | q11 | q13 => first | rfl | (simp -implicitDefEqProofs (disch := first | omega | with_reducible assumption | (simp only [zU, zC]; omega)) only [zT, zA, reduceCtorEq, zB, zC, zD, zE, zF, zG, zH, zI, zJ, zK, zL, reduceIte, t0, t1, t2, t3, t9, t10, t11, t13, t14, h0]; first | done | rfl | (congr 1; omega))
                    · omega
                    · omega
                  · have gi : (i : Int) < (needs.length : Int) := by omega
                    have gk : ¬ (k : Int) < (needs[i].length : Int) := by omega
                    obtain ⟨b, o, rra, rrc, e0, hb1, hr1, hS, _⟩ := hNR i hin
                    have hbM : b < M2.size := Nat.lt_of_lt_of_le hb1 hz2.1
                    have hr1M : rdO (M2.get b) (o + i) 1 = some [.slice rra needs[i].length rrc] := by rw [hz2.2 b hb1]; exact hr1
                    repeat first | simp -implicitDefEqProofs (disch := first | omega | with_reducible assumption | (simp only [zU, zC]; omega)) only [zT, zA, reduceCtorEq, zB, zC, zD, zE, zF, zG, zH, zI, zJ, zK, zL, reduceIte, F8_l1, t0, t1, t2, t3, t9, t10, t11, t13, t14, gi, gk, e0, hr1M, h0, q2, hlt, undef] | refine OrW.go ?_
                    rw [LoopK_normal]; refine ⟨_, ?_, i + 1, rfl, rfl, ?qm, ?q0, ?q1, ?q2, ?q3, ?q9, ?q10, ?q11, ?q13, ?_⟩
                    case qm | q0 | q1 | q2 | q3 | q9 | q10 | q11 | q13 => first | rfl | (simp -implicitDefEqProofs (disch := first | omega | with_reducible assumption | (simp only [zU, zC]; omega)) only [zT, zA, reduceCtorEq, zB, zC, zD, zE, zF, zG, zH, zI, zJ, zK, zL, reduceIte, t0, t1, t2, t3, t9, t10, t11, t13, t14, e0, h0]; first | done | rfl | (congr 1; omega))
                    · omega
                    · omega
                · rcases hend with gi | ⟨hin, hke⟩
                  · repeat first | simp -implicitDefEqProofs (disch := first | omega | with_reducible assumption | (simp only [zU, zC]; omega)) only [zT, zA, reduceCtorEq, zB, zC, zD, zE, zF, zG, zH, zI, zJ, zK, zL, reduceIte, F8_l1, t0, t1, t2, t3, t9, t10, t11, t13, t14, gi, h0, q2, undef] | refine OrW.go ?_
                    rw [LoopK_normal]; refine ⟨_, ?_, i + 1, rfl, rfl, ?qm, ?q0, ?q1, ?q2, ?q3, ?q9, ?q10, ?q11, ?q13, ?_⟩
                    case qm | q0 | q1 | q2 | q3 | q9 | q10 | q11 | q13 => first | rfl | (simp -implicitDefEqProofs (disch := first | omega | with_reducible assumption | (simp only [zU, zC]; omega)) only [zT, zA, reduceCtorEq, zB, zC, zD, zE, zF, zG, zH, zI, zJ, zK, zL, reduceIte, t0, t1, t2, t3, t9, t10, t11, t13, t14]; first | done | rfl | (congr 1; omega))
                    · omega
                    · omega
                  · have gi : (i : Int) < (needs.length : Int) := by omega
                    have gk : ¬ (k : Int) < (needs[i].length : Int) := by omega
                    obtain ⟨b, o, rra, rrc, e0, hb1, hr1, hS, _⟩ := hNR i hin
                    have hbM : b < M2.size := Nat.lt_of_lt_of_le hb1 hz2.1
                    have hr1M : rdO (M2.get b) (o + i) 1 = some [.slice rra needs[i].length rrc] := by rw [hz2.2 b hb1]; exact hr1
                    repeat first | simp -implicitDefEqProofs (disch := first | omega | with_reducible assumption | (simp only [zU, zC]; omega)) only [zT, zA, reduceCtorEq, zB, zC, zD, zE, zF, zG, zH, zI, zJ, zK, zL, reduceIte, F8_l1, t0, t1, t2, t3, t9, t10, t11, t13, t14, gi, gk, e0, hr1M, h0, q2, undef] | refine OrW.go ?_
                    rw [LoopK_normal]; refine ⟨_, ?_, i + 1, rfl, rfl, ?qm, ?q0, ?q1, ?q2, ?q3, ?q9, ?q10, ?q11, ?q13, ?_⟩
                    case qm | q0 | q1 | q2 | q3 | q9 | q10 | q11 | q13 => first | rfl | (simp -implicitDefEqProofs (disch := first | omega | with_reducible assumption | (simp only [zU, zC]; omega)) only [zT, zA, reduceCtorEq, zB, zC, zD, zE, zF, zG, zH, zI, zJ, zK, zL, reduceIte, t0, t1, t2, t3, t9, t10, t11, t13, t14, e0]; first | done | rfl | (congr 1; omega))
                    · omega
                    · omega
          · obtain rfl : i = names.length := by omega
            repeat first | simp -implicitDefEqProofs (disch := first | omega | with_reducible assumption | (simp only [zU, zC]; omega)) only [zT, zA, reduceCtorEq, zB, zC, zD, zE, zF, zG, zH, zI, zJ, zK, zL, reduceIte, F8_l0, t0, t1, t2, t3, t9, t10, t11, t13, g] | refine OrW.go ?_
            exact hb _ (by simp -implicitDefEqProofs (disch := first | omega | with_reducible assumption | (simp only [zU, zC]; omega)) only [zT, zA, reduceCtorEq, zB, zC, zD, zE, zF, zG, zH, zI, zJ, zK, zL, reduceIte, t0, t1, t2, t3, t9, t10, t11, t13]) (by simp -implicitDefEqProofs (disch := first | omega | with_reducible assumption | (simp only [zU, zC]; omega)) only [zT, zA, reduceCtorEq, zB, zC, zD, zE, zF, zG, zH, zI, zJ, zK, zL, reduceIte, t0, t1, t2, t3, t9, t10, t11, t13]) (by simp -implicitDefEqProofs (disch := first | omega | with_reducible assumption | (simp only [zU, zC]; omega)) only [zT, zA, reduceCtorEq, zB, zC, zD, zE, zF, zG, zH, zI, zJ, zK, zL, reduceIte, t0, t1, t2, t3, t9, t10, t11, t13]) (by simp -implicitDefEqProofs (disch := first | omega | with_reducible assumption | (simp only [zU, zC]; omega)) only [zT, zA, reduceCtorEq, zB, zC, zD, zE, zF, zG, zH, zI, zJ, zK, zL, reduceIte, t0, t1, t2, t3, t9, t10, t11, t13]) (by simp -implicitDefEqProofs (disch := first | omega | with_reducible assumption | (simp only [zU, zC]; omega)) only [zT, zA, reduceCtorEq, zB, zC, zD, zE, zF, zG, zH, zI, zJ, zK, zL, reduceIte, t0, t1, t2, t3, t9, t10, t11, t13])
      rcases htwo with rfl | rfl
      · obtain ⟨f1, f2, f3⟩ := hfa rfl
        have gl : (l.length : Int) = (names.length : Int) := by omega
        repeat first | simp -implicitDefEqProofs (disch := first | omega | with_reducible assumption | (simp only [zU, zC]; omega)) only [zT, zA, reduceCtorEq, zB, zC, zD, zE, zF, zG, zH, zI, zJ, zK, zL, reduceIte, gl] | refine OrW.go ?_
        exact step 0 _ (fun _ => ⟨f2, f3⟩) (by simp -implicitDefEqProofs (disch := first | omega | with_reducible assumption | (simp only [zU, zC]; omega)) only [zT, zA, reduceCtorEq, zB, zC, zD, zE, zF, zG, zH, zI, zJ, zK, zL, reduceIte]) (by simp -implicitDefEqProofs (disch := first | omega | with_reducible assumption | (simp only [zU, zC]; omega)) only [zT, zA, reduceCtorEq, zB, zC, zD, zE, zF, zG, zH, zI, zJ, zK, zL, reduceIte]) (by simp -implicitDefEqProofs (disch := first | omega | with_reducible assumption | (simp only [zU, zC]; omega)) only [zT, zA, reduceCtorEq, zB, zC, zD, zE, zF, zG, zH, zI, zJ, zK, zL, reduceIte]) (by simp -implicitDefEqProofs (disch := first | omega | with_reducible assumption | (simp only [zU, zC]; omega)) only [zT, zA, reduceCtorEq, zB, zC, zD, zE, zF, zG, zH, zI, zJ, zK, zL, reduceIte]) (by simp -implicitDefEqProofs (disch := first | omega | with_reducible assumption | (simp only [zU, zC]; omega)) only [zT, zA, reduceCtorEq, zB, zC, zD, zE, zF, zG, zH, zI, zJ, zK, zL, reduceIte]) (by simp -implicitDefEqProofs (disch := first | omega | with_reducible assumption | (simp only [zU, zC]; omega)) only [zT, zA, reduceCtorEq, zB, zC, zD, zE, zF, zG, zH, zI, zJ, zK, zL, reduceIte]) (by simp -implicitDefEqProofs (disch := first | omega | with_reducible assumption | (simp only [zU, zC]; omega)) only [zT, zA, reduceCtorEq, zB, zC, zD, zE, zF, zG, zH, zI, zJ, zK, zL, reduceIte]) (by simp -implicitDefEqProofs (disch := first | omega | with_reducible assumption | (simp only [zU, zC]; omega)) only [zT, zA, reduceCtorEq, zB, zC, zD, zE, zF, zG, zH, zI, zJ, zK, zL, reduceIte])
      · repeat first | simp -implicitDefEqProofs (disch := first | omega | with_reducible assumption | (simp only [zU, zC]; omega)) only [zT, zA, reduceCtorEq, zB, zC, zD, zE, zF, zG, zH, zI, zJ, zK, zL, reduceIte] | refine OrW.go ?_
        exact step 240 _ (fun h => by simp at h) (by simp -implicitDefEqProofs (disch := first | omega | with_reducible assumption | (simp only [zU, zC]; omega)) only [zT, zA, reduceCtorEq, zB, zC, zD, zE, zF, zG, zH, zI, zJ, zK, zL, reduceIte]) (by simp -implicitDefEqProofs (disch := first | omega | with_reducible assumption | (simp only [zU, zC]; omega)) only [zT, zA, reduceCtorEq, zB, zC, zD, zE, zF, zG, zH, zI, zJ, zK, zL, reduceIte]) (by simp -implicitDefEqProofs (disch := first | omega | with_reducible assumption | (simp only [zU, zC]; omega)) only [zT, zA, reduceCtorEq, zB, zC, zD, zE, zF, zG, zH, zI, zJ, zK, zL, reduceIte]) (by simp -implicitDefEqProofs (disch := first | omega | with_reducible assumption | (simp only [zU, zC]; omega)) only [zT, zA, reduceCtorEq, zB, zC, zD, zE, zF, zG, zH, zI, zJ, zK, zL, reduceIte]) (by simp -implicitDefEqProofs (disch := first | omega | with_reducible assumption | (simp only [zU, zC]; omega)) only [zT, zA, reduceCtorEq, zB, zC, zD, zE, zF, zG, zH, zI, zJ, zK, zL, reduceIte]) (by simp -implicitDefEqProofs (disch := first | omega | with_reducible assumption | (simp only [zU, zC]; omega)) only [zT, zA, reduceCtorEq, zB, zC, zD, zE, zF, zG, zH, zI, zJ, zK, zL, reduceIte]) (by simp -implicitDefEqProofs (disch := first | omega | with_reducible assumption | (simp only [zU, zC]; omega)) only [zT, zA, reduceCtorEq, zB, zC, zD, zE, zF, zG, zH, zI, zJ, zK, zL, reduceIte]) (by simp -implicitDefEqProofs (disch := first | omega | with_reducible assumption | (simp only [zU, zC]; omega)) only [zT, zA, reduceCtorEq, zB, zC, zD, zE, zF, zG, zH, zI, zJ, zK, zL, reduceIte])
end Go.Proofs.YtgkmlbkocgjmmaaDoor
namespace Go.Proofs.YtgkmlbkocgjmmaaDoor
open Go Go.AM
set_option linter.unusedVariables false
set_option linter.unusedSimpArgs false
set_option maxHeartbeats 4000000
set_option maxRecDepth 100000

def RowsB (M : AMem) (v : Value) (needs : List (List (List UInt8))) : Prop := (needs = [] ∧ v = .slice none 0 0) ∨ ∃ b X, v = .slice (some ⟨b, 0, none⟩) needs.length openCap ∧ b < M.size ∧ M.get b = .cells X 22 true (.room [.slice none 0 0]) ∧ X.length = needs.length ∧
  ∀ i (h : i < needs.length), ∃ ra rc, X[i]? = some (.slice ra needs[i].length rc) ∧ StrB M (.slice ra needs[i].length rc) needs[i]
theorem RowsB.len {M : AMem} {v : Value} {needs : List (List (List UInt8))} (h : RowsB M v needs) : ∃ a cap, v = .slice a needs.length cap := by
  rcases h with ⟨rfl, rfl⟩ | ⟨b, X, rfl, _⟩
  · exact ⟨_, _, rfl⟩
  · exact ⟨_, _, rfl⟩
theorem RowsB.old {M M' : AMem} {v : Value} {needs : List (List (List UInt8))} (h : RowsB M v needs) (ho : Old M M') : RowsB M' v needs := by
  rcases h with h | ⟨b, X, rfl, h1, h2, h3, h4⟩
  · exact .inl h
  · refine .inr ⟨b, X, rfl, Nat.lt_of_lt_of_le h1 ho.1, by rw [ho.2 b h1]; exact h2, h3, fun i hi => ?_⟩
    obtain ⟨ra, rc, e1, e2⟩ := h4 i hi
    exact ⟨ra, rc, e1, e2.old ho⟩
theorem eqPL_sl : eqPL [Value.slice none 0 0] [Value.slice none 0 0] = true := by decide
theorem RowsB.app {M : AMem} {v : Value} {needs : List (List (List UInt8))} (h : RowsB M v needs) (hn : needs.length ≤ 1000) {ra : Option Addr} {rc : Nat} {row : List (List UInt8)} (hr : StrB M (.slice ra row.length rc) row) :
    ∃ v' M', appV 22 1 24 [.slice none 0 0] v (.slice (some ⟨M.size, 0, none⟩) 1 1) (mx M [.cells [.slice ra row.length rc] 22 true .exact]) = some (v', mx M' []) ∧ RowsB M' v' (needs ++ [row]) ∧ Keep (ownV v) M M' ∧ ∀ x, ownV v' x → M.size ≤ x := by
  have hs : srcCells 1 1 (.slice (some ⟨M.size, 0, none⟩) 1 1) (mx M [.cells [.slice ra row.length rc] 22 true .exact]) = some [.slice ra row.length rc] := by rw [srcCells_slice (Nat.le_refl _), rd_def, mx_new0]; rfl
  have happ : appV 22 1 24 [.slice none 0 0] v (.slice (some ⟨M.size, 0, none⟩) 1 1) (mx M [.cells [.slice ra row.length rc] 22 true .exact]) = appendTo 22 1 24 [.slice none 0 0] v 1 [.slice ra row.length rc] (mx M [.cells [.slice ra row.length rc] 22 true .exact]) := by
    simp only [appV, srcLen_slice, hs]
    rw [if_pos ⟨rfl, by omega, rfl, rfl⟩]
  rw [happ]
  have hz : (mx M [.cells [.slice ra row.length rc] 22 true .exact]).size = M.size + 1 := by rw [mx_size]; rfl
  rcases h with ⟨rfl, rfl⟩ | ⟨b, X, rfl, h1, h2, h3, h4⟩
  · refine ⟨.slice (some ⟨M.size + 1, 0, none⟩) 1 openCap, mx M [.cells [.slice ra row.length rc] 22 true .exact, .cells [.slice ra row.length rc] 22 true (.room [.slice none 0 0])], ?_, .inr ⟨M.size + 1, [.slice ra row.length rc], rfl, by rw [mx_size]; simp, mx_new _ _ 1, rfl, fun i hi => ?_⟩, (Keep.refl _ _).mx _, fun x ⟨o, l, c, h⟩ => by cases h; exact Nat.le_succ _⟩
    · rw [appendTo_nil (by omega) (by omega) (by omega), mx_push, hz, mx_mx]; rfl
    · obtain rfl : i = 0 := by simpa using hi
      exact ⟨ra, rc, rfl, hr.old (Old.here _ _)⟩
  · have hdead : ∀ {ra' : Option Addr} {rc' : Nat} {row' : List (List UInt8)}, StrB M (.slice ra' row'.length rc') row' → StrB (mx (M.set b .dead) [.cells [.slice ra row.length rc] 22 true .exact, .cells (X ++ [.slice ra row.length rc]) 22 true (.room [.slice none 0 0])]) (.slice ra' row'.length rc') row' := fun hq =>
      hq.keep (((Keep.refl (fun x => x = b) M).set (fun _ => rfl) _).mx _) fun x hx e => by subst e; exact hq.is9 h2 (by decide) hx
    refine ⟨.slice (some ⟨M.size + 1, 0, none⟩) (needs.length + 1) openCap, mx (M.set b .dead) [.cells [.slice ra row.length rc] 22 true .exact, .cells (X ++ [.slice ra row.length rc]) 22 true (.room [.slice none 0 0])], ?_, .inr ⟨M.size + 1, X ++ [.slice ra row.length rc], by simp, by rw [mx_size, AMem.size_set]; simp, ?_, by simp [h3], fun i hi => ?_⟩, ((Keep.refl _ M).set (fun _ => ⟨_, _, _, rfl⟩) _).mx _, fun x ⟨o, l, c, hx⟩ => by cases hx; exact Nat.le_succ _⟩
    · rw [appendTo_open (sz := 1) (z' := [.slice none 0 0]) ((mx_old h1).trans h2) eqPL_sl rfl (by omega) (by rw [h3]; omega) (by omega) (by omega) (by omega), mx_set_old h1, mx_push, hz, mx_mx]; rfl
    · have := mx_new (M.set b .dead) [.cells [.slice ra row.length rc] 22 true .exact, .cells (X ++ [.slice ra row.length rc]) 22 true (.room [.slice none 0 0])] 1
      rw [AMem.size_set] at this; exact this
    · rcases Nat.lt_or_ge i needs.length with hlt | hge
      · obtain ⟨ra', rc', e1, e2⟩ := h4 i hlt
        refine ⟨ra', rc', ?_, ?_⟩
        · rw [List.getElem?_append_left (by omega), e1, List.getElem_append_left hlt]
        · rw [List.getElem_append_left hlt]; exact hdead e2
      · have hil : i = needs.length := by rw [List.length_append] at hi; simp at hi; omega
        subst hil
        refine ⟨ra, rc, ?_, ?_⟩
        · rw [List.getElem?_append_right (by omega), h3]; simp
        · rw [List.getElem_append_right (Nat.le_refl _)]
          simp only [Nat.sub_self, List.getElem_cons_zero]
          exact hdead hr
theorem RowsB.needsA {M : AMem} {a : Option Addr} {cap : Nat} {needs : List (List (List UInt8))} (h : RowsB M (.slice a needs.length cap) needs) (hs : ∀ r ∈ needs, r.length ≤ 100 ∧ ∀ s ∈ r, s.length ≤ 100) (n : Nat) : NeedsA M a (needs.take n) := fun i hi => by
  rw [List.length_take] at hi
  rcases h with ⟨rfl, _⟩ | ⟨b, X, e, h1, h2, h3, h4⟩
  · simp at hi
  · cases e
    obtain ⟨ra, rc, e1, e2⟩ := h4 i (by omega)
    have hm := hs _ (List.getElem_mem (show i < needs.length by omega))
    refine ⟨b, 0, ra, rc, rfl, h1, ?_, ?_, ?_, fun s hs' => ?_⟩
    · rw [h2, rdO_cells, Nat.zero_add, List.getElem_take]; exact cut_one e1
    · rw [List.getElem_take]; exact e2.src
    · rw [List.getElem_take]; omega
    · rw [List.getElem_take] at hs'; have := hm.2 s hs'; omega
theorem RowsB.cut {M : AMem} {a : Option Addr} {cap : Nat} {needs : List (List (List UInt8))} (h : RowsB M (.slice a needs.length cap) needs) (hl : needs.length = 3) (k : Nat) (hk : k ≤ 3) : slVv 1 (.slice a 3 cap) none (some (.int .i64 (k : Nat))) none M = some (.slice a k cap, M) := by
  rcases h with ⟨rfl, _⟩ | ⟨b, X, e, h1, h2, h3, h4⟩
  · simp at hl
  · cases e
    have hc : cutV 3 ((X.length - 0) / 1) none (some (.int .i64 (k : Nat))) none = some (0, k, (X.length - 0) / 1) := by
      simp only [cutV]; rw [if_pos (by omega)]; simp
    simp only [slVv, if_true, h2]
    rw [if_pos ⟨rfl, by omega⟩, hc]
    simp
def abc : List (List UInt8) := [[97], [98], [99]]
theorem abc_cut (b : Nat) (M : AMem) (k : Nat) (hk : k ≤ 2) : slVv 1 (.slice (some ⟨b, 0, none⟩) 3 3) (some (.int .i64 (k : Nat))) (some (.int .i64 ((k + 1 : Nat) : Int))) none M = some (.slice (some ⟨b, k, none⟩) 1 (3 - k), M) := by
  have h : ¬ (3 : Nat) = openCap := openCap_ne (by omega)
  have hc : cutV 3 3 (some (.int .i64 (k : Nat))) (some (.int .i64 ((k + 1 : Nat) : Int))) none = some (k, k + 1, 3) := by
    simp only [cutV]; rw [if_pos (by omega)]; simp
  simp only [slVv, if_neg h, hc]
  rw [if_neg (by omega)]; simp
def F9_Z : ACode := F9.code.tl.tl.tl.tl.tl.tl.tl.tl.tl.tl.tl.tl.tl.tl.tl
end Go.Proofs.YtgkmlbkocgjmmaaDoor
namespace Go.Proofs.YtgkmlbkocgjmmaaDoor
open Go Go.AM
set_option linter.unusedVariables false
set_option linter.unusedSimpArgs false
set_option maxHeartbeats 4000000
set_option maxRecDepth 100000

theorem abc_len : ∀ s ∈ abc, s.length ≤ 9223372036854775807 := by decide
theorem abc_one (k : Nat) (h : k < 3) : (abc[k]'h).length = 1 := by
  match k, h with
  | 0, _ => rfl
  | 1, _ => rfl
  | 2, _ => rfl
theorem known_z (m M0 : AMem) (hg : S.Glob m) (hO0 : Old m M0) (nb : Nat) (hnb : nb < M0.size) (hng : M0.get nb = .cells (abc.map sV) 9 true .exact) (p : Nat) (hp0 : p < M0.size) (d : DrvR) (hd : d.ok) (hdi : d.inputs = []) (hdr : rightR d = true)
    (hpg : M0.get p = .cells [.string ⟨d.name.toArray⟩, .slice none 0 0, .string ⟨d.recipe.toArray⟩] 24 true .exact) (t : Tmps) (u15 : t 15 = .pointer (some ⟨p, 0, none⟩)) (u16 : t 16 = .bool true) (u17 : t 17 = .slice (some ⟨nb, 0, none⟩) 3 3) :
    W Tryd.prog 3 F9_Z (RetK F9.res fun r m' => r = .ret (.bool true) ∧ Old m m') ⟨t, mx M0 [], []⟩ := by
  have hN0 : StrR M0 (some ⟨nb, 0, none⟩) abc := fun i hi => ⟨nb, 0, rfl, hnb, by rw [hng, rdO_cells, Nat.zero_add]; exact cut_one (by simp [hi, sV])⟩
  have h3 : abc.length = 3 := rfl
  simp -implicitDefEqProofs (disch := first | omega | with_reducible assumption | (simp only [zU, zC]; omega)) only [zT, zA, reduceCtorEq, zB, zC, zD, zE, zF, zG, zH, zI, zJ, zK, zL, reduceIte, F9_Z, F9, tl_seq]
  refine W_loop (fun N qs => ∃ (q : Nat) (M : AMem), N = 512 - q ∧ qs.ds = [] ∧ qs.m = mx M [] ∧ qs.t 15 = .pointer (some ⟨p, 0, none⟩) ∧ qs.t 16 = .bool true ∧ qs.t 17 = .slice (some ⟨nb, 0, none⟩) 3 3 ∧ qs.t 18 = .int .i64 q ∧ q ≤ 512 ∧ Old M0 M) (512 - (0)) ⟨0, M0, rfl, rfl, ?qm, ?q15, ?q16, ?q17, ?q18, ?_⟩ ?_
  case qm | q15 | q16 | q17 | q18 => first | rfl | (simp -implicitDefEqProofs (disch := first | omega | with_reducible assumption | (simp only [zU, zC]; omega)) only [zT, zA, reduceCtorEq, zB, zC, zD, zE, zF, zG, zH, zI, zJ, zK, zL, reduceIte, u15, u16, u17]; first | done | rfl | (congr 1; omega))
  · exact ⟨by omega, Old.refl _⟩
  · rintro N t m1 ds ⟨q, M, rfl, hds, hm, t15, t16, t17, t18, hp⟩
    simp only at hds hm t15 t16 t17 t18
    subst hds; replace hm := hm.symm; subst hm
    obtain ⟨hq, hO⟩ := hp
    by_cases g : (q : Int) < 512
    · repeat first | simp -implicitDefEqProofs (disch := first | omega | with_reducible assumption | (simp only [zU, zC]; omega)) only [zT, zA, reduceCtorEq, zB, zC, zD, zE, zF, zG, zH, zI, zJ, zK, zL, reduceIte, F9_l5, t15, t16, t17, t18, g] | refine OrW.go ?_
      refine W_loop (fun N qs => ∃ (i : Nat) (M1 : AMem) (va : Option Addr) (vc : Nat) (needs : List (List (List UInt8))), N = 3 - i ∧ qs.ds = [] ∧ qs.m = mx M1 [] ∧ qs.t 15 = .pointer (some ⟨p, 0, none⟩) ∧ qs.t 16 = .bool true ∧ qs.t 17 = .slice (some ⟨nb, 0, none⟩) 3 3 ∧ qs.t 18 = .int .i64 q ∧ qs.t 19 = .slice va needs.length vc ∧ qs.t 20 = .int .i64 i ∧ i ≤ 3 ∧ Old M M1 ∧ RowsB M1 (.slice va needs.length vc) needs ∧ needs.length = i ∧ (∀ r ∈ needs, r.length ≤ 100 ∧ ∀ s ∈ r, s.length ≤ 100) ∧ ∀ x, ownV (.slice va needs.length vc) x → M.size ≤ x) (3 - (0)) ⟨0, M, none, 0, [], rfl, rfl, ?qm, ?q15, ?q16, ?q17, ?q18, ?q19, ?q20, ?_⟩ ?_
      case qm | q15 | q16 | q17 | q18 | q19 | q20 => first | rfl | (simp -implicitDefEqProofs (disch := first | omega | with_reducible assumption | (simp only [zU, zC]; omega)) only [zT, zA, reduceCtorEq, zB, zC, zD, zE, zF, zG, zH, zI, zJ, zK, zL, reduceIte, t15, t16, t17, t18]; first | done | rfl | (congr 1; omega))
      · exact ⟨by omega, Old.refl _, .inl ⟨rfl, rfl⟩, rfl, fun r h => (by cases h), fun x ⟨o, l, c, h⟩ => by cases h⟩
      · rintro N t m1 ds ⟨i, M1, va, vc, needs, rfl, hds, hm, t15, t16, t17, t18, t19, t20, hp⟩
        simp only at hds hm t15 t16 t17 t18 t19 t20
        subst hds; replace hm := hm.symm; subst hm
        obtain ⟨hi, hO1, hRo, hlen, hsm, hown⟩ := hp
        by_cases gi : (i : Int) < 3
        · repeat first | simp -implicitDefEqProofs (disch := first | omega | with_reducible assumption | (simp only [zU, zC]; omega)) only [zT, zA, reduceCtorEq, zB, zC, zD, zE, zF, zG, zH, zI, zJ, zK, zL, reduceIte, F9_l6, t15, t16, t17, t18, t19, t20, gi] | refine OrW.go ?_
          refine W_loop (fun N qs => ∃ (k : Nat) (M2 : AMem) (ra : Option Addr) (rc : Nat) (row : List (List UInt8)), N = 3 - k ∧ qs.ds = [] ∧ qs.m = mx M2 [] ∧ qs.t 15 = .pointer (some ⟨p, 0, none⟩) ∧ qs.t 16 = .bool true ∧ qs.t 17 = .slice (some ⟨nb, 0, none⟩) 3 3 ∧ qs.t 18 = .int .i64 q ∧ qs.t 19 = .slice va needs.length vc ∧ qs.t 20 = .int .i64 i ∧ qs.t 21 = .slice ra row.length rc ∧ qs.t 22 = .int .i64 k ∧ k ≤ 3 ∧ SRow M1 M2 ra rc row ∧ row.length ≤ k ∧ ∀ s ∈ row, s.length ≤ 100) (3 - (0)) ⟨0, M1, none, 0, [], rfl, rfl, ?qm, ?q15, ?q16, ?q17, ?q18, ?q19, ?q20, ?q21, ?q22, ?_⟩ ?_
          case qm | q15 | q16 | q17 | q18 | q19 | q20 | q21 | q22 => first | rfl | (simp -implicitDefEqProofs (disch := first | omega | with_reducible assumption | (simp only [zU, zC]; omega)) only [zT, zA, reduceCtorEq, zB, zC, zD, zE, zF, zG, zH, zI, zJ, zK, zL, reduceIte, t15, t16, t17, t18, t19, t20]; first | done | rfl | (congr 1; omega))
          · exact ⟨by omega, SRow.nil _, Nat.le_refl _, fun s h => by cases h⟩
          · rintro N t m1 ds ⟨k, M2, ra, rc, row, rfl, hds, hm, t15, t16, t17, t18, t19, t20, t21, t22, hp⟩
            simp only at hds hm t15 t16 t17 t18 t19 t20 t21 t22
            subst hds; replace hm := hm.symm; subst hm
            obtain ⟨hk, hS, hrl, hrs⟩ := hp
            by_cases gk : (k : Int) < 3
            · have hk3 : k < 3 := by omega
              have hx := abc_one k hk3
              obtain ⟨b0, o0, e0, hb0, hr0⟩ := hN0 k hk3
              cases e0
              have hOM2 : Old M0 M2 := hO.trans (hO1.trans hS.old)
              have hnbM : nb < M2.size := Nat.lt_of_lt_of_le hnb hOM2.1
              have hrM : rdO (M2.get nb) (0 + k) 1 = some [.string ⟨abc[k].toArray⟩] := by rw [hOM2.2 nb hnb]; exact hr0
              rw [Nat.zero_add] at hrM
              obtain ⟨a', c', M', happ, hS'⟩ := hS.one (by omega) abc[k]
              by_cases gb : ibits .and .i64 (shr .i64 (q : Int) (3 * (i : Int) + (k : Int))) 1 = 1
              · repeat first | simp -implicitDefEqProofs (disch := first | omega | with_reducible assumption | (simp only [zU, zC]; omega)) only [zT, zA, reduceCtorEq, zB, zC, zD, zE, zF, zG, zH, zI, zJ, zK, zL, reduceIte, F9_l7, t15, t16, t17, t18, t19, t20, t21, t22, gk, binV_shr, gb, hrM, stepOp_app_v, happ] | refine OrW.go ?_
                rw [LoopK_normal]; refine ⟨_, ?_, k + 1, M', a', c', row ++ [abc[k]], rfl, rfl, ?qm, ?q15, ?q16, ?q17, ?q18, ?q19, ?q20, ?q21, ?q22, ?_⟩
                case qm | q15 | q16 | q17 | q18 | q19 | q20 | q21 | q22 => first | rfl | (simp -implicitDefEqProofs (disch := first | omega | with_reducible assumption | (simp only [zU, zC]; omega)) only [zT, zA, reduceCtorEq, zB, zC, zD, zE, zF, zG, zH, zI, zJ, zK, zL, reduceIte, t15, t16, t17, t18, t19, t20, t21, t22]; first | done | rfl | (congr 1; omega))
                · omega
                · refine ⟨by omega, hS', by simp; omega, fun s hs => ?_⟩
                  rcases List.mem_append.1 hs with h | h
                  · exact hrs s h
                  · rw [List.mem_singleton] at h; subst h; omega
              · repeat first | simp -implicitDefEqProofs (disch := first | omega | with_reducible assumption | (simp only [zU, zC]; omega)) only [zT, zA, reduceCtorEq, zB, zC, zD, zE, zF, zG, zH, zI, zJ, zK, zL, reduceIte, F9_l7, t15, t16, t17, t18, t19, t20, t21, t22, gk, binV_shr, gb] | refine OrW.go ?_
                rw [LoopK_normal]; refine ⟨_, ?_, k + 1, M2, ra, rc, row, rfl, rfl, ?qm, ?q15, ?q16, ?q17, ?q18, ?q19, ?q20, ?q21, ?q22, ?_⟩
                case qm | q15 | q16 | q17 | q18 | q19 | q20 | q21 | q22 => first | rfl | (simp -implicitDefEqProofs (disch := first | omega | with_reducible assumption | (simp only [zU, zC]; omega)) only [zT, zA, reduceCtorEq, zB, zC, zD, zE, zF, zG, zH, zI, zJ, zK, zL, reduceIte, t15, t16, t17, t18, t19, t20, t21, t22]; first | done | rfl | (congr 1; omega))
                · omega
                · exact ⟨by omega, hS, by omega, hrs⟩
            · obtain rfl : k = 3 := by omega
              obtain ⟨v', M', happ, hR', hkp, ho'⟩ := (hRo.old hS.old).app (by omega) hS.strs
              obtain ⟨va', vc', rfl⟩ := hR'.len
              have hs' := hkp.1
              have hOM' : Old M M' := ⟨by have := (hO1.trans hS.old).1; omega, fun y hy => by rw [hkp.2 y (by have := (hO1.trans hS.old).1; omega) (fun e => by have := hown y e; omega)]; exact (hO1.trans hS.old).2 y hy⟩
              repeat first | simp -implicitDefEqProofs (disch := first | omega | with_reducible assumption | (simp only [zU, zC]; omega)) only [zT, zA, reduceCtorEq, zB, zC, zD, zE, zF, zG, zH, zI, zJ, zK, zL, reduceIte, F9_l7, t15, t16, t17, t18, t19, t20, t21, t22, gk, stepOp_app_v, happ] | refine OrW.go ?_
              rw [LoopK_normal]; refine ⟨_, ?_, i + 1, M', va', vc', needs ++ [row], rfl, rfl, ?qm, ?q15, ?q16, ?q17, ?q18, ?q19, ?q20, ?_⟩
              case qm | q15 | q16 | q17 | q18 | q19 | q20 => first | rfl | (simp -implicitDefEqProofs (disch := first | omega | with_reducible assumption | (simp only [zU, zC]; omega)) only [zT, zA, reduceCtorEq, zB, zC, zD, zE, zF, zG, zH, zI, zJ, zK, zL, reduceIte, t15, t16, t17, t18, t19, t20, t21, t22]; first | done | rfl | (congr 1; omega))
              · omega
              · refine ⟨by omega, hOM', hR', by simp; omega, fun r hr => ?_, fun x hx => by have := ho' x hx; have := (hO1.trans hS.old).1; omega⟩
                rcases List.mem_append.1 hr with h | h
                · exact hsm r h
                · rw [List.mem_singleton] at h; subst h; exact ⟨by omega, hrs⟩
        · obtain rfl : i = 3 := by omega
          have hOm : Old m M1 := hO0.trans (hO.trans hO1)
          have hO01 : Old M0 M1 := hO.trans hO1
          have hnbM : nb < M1.size := Nat.lt_of_lt_of_le hnb hO01.1
          have hgM : S.Glob M1 := hg.old hOm
          have hN1 : StrR M1 (some ⟨nb, 0, none⟩) abc := hN0.old hO01
          have hNA := fun n => hRo.needsA hsm n
          have hNA3 := hNA 3
          rw [List.take_of_length_le (by omega)] at hNA3
          have hq3 : q % 3 < 3 := Nat.mod_lt _ (by omega)
          have hq4 : q % 4 < 4 := Nat.mod_lt _ (by omega)
          have r3 : (q : Int).tmod 3 = ((q % 3 : Nat) : Int) := by rw [Int.tmod_eq_emod_of_nonneg (by omega)]; omega
          have r4 : (q : Int).tmod 4 = ((q % 4 : Nat) : Int) := by rw [Int.tmod_eq_emod_of_nonneg (by omega)]; omega
          generalize q % 3 = x at hq3 r3
          generalize q % 4 = y at hq4 r4
          have hx1 := abc_one x hq3
          have hrx : rdO (M1.get nb) x 1 = some [.string ⟨abc[x].toArray⟩] := by
            obtain ⟨b0, o0, e0, hb0, hr0⟩ := hN1 x hq3
            cases e0; rw [Nat.zero_add] at hr0; exact hr0
          have k6 := DetC.known (lawSort (mx M1 []) (hgM.old (Old.here _ _)) (some ⟨nb, 0, none⟩) 3 abc (hN1.old (Old.here _ _)) (by decide) abc_len va vc needs (hNA3.old (Old.here _ _)) (by omega))
          have k7 := DetC.known (lawClosure (mx M1 []) (hgM.old (Old.here _ _)) (some ⟨nb, 0, none⟩) 3 abc (hN1.old (Old.here _ _)) (by decide) abc_len va vc needs (hNA3.old (Old.here _ _)) (by omega) (some ⟨nb, x, none⟩) (3 - x) [abc[x]]
            (.inr ⟨nb, x, rfl, by rw [mx_nil_size]; exact hnbM, by rw [mx_old hnbM]; exact hrx⟩) (by simp) (fun s hs => by rw [List.mem_singleton] at hs; subst hs; omega))
          have hsrc : Src (mx M1 [.cells ([[120], abc[x]].map sV) 9 true .exact]) (some ⟨M1.size + 0, 0, none⟩) [[120], abc[x]] := src_at M1 _ 0 rfl
          have hNAy := hNA y
          have k8 := DetC.known (lawHolds (mx M1 [.cells ([[120], abc[x]].map sV) 9 true .exact]) (hgM.old (Old.here _ _)) (some ⟨nb, 0, none⟩) 3 abc (hN1.old (Old.here _ _)) (by decide) abc_len va vc (needs.take y) (hNAy.old (Old.here _ _)) (by rw [List.length_take]; omega)
            (some ⟨M1.size, 0, none⟩) 2 [[120], abc[x]] hsrc (by simp) (fun s hs => by
              rcases List.mem_cons.1 hs with rfl | hs
              · simp
              · rw [List.mem_singleton] at hs; subst hs; omega) [98] (by simp))
          rw [List.length_take, show min y needs.length = y by omega] at k8
          rw [hlen] at k6 k7 t19
          have hc1 := (hRo.old (Old.here M1 []))
          have hc2 := (hRo.old (Old.here M1 [.cells [.string ⟨#[120]⟩, .string ⟨abc[x].toArray⟩] 9 true .exact]))
          have s1 := hc1.cut hlen y (by omega)
          have s2 := hc2.cut hlen y (by omega)
          have s3 := abc_cut nb (mx M1 []) x (by omega)
          have ex : (x : Int) + 1 = ((x + 1 : Nat) : Int) := by omega
          simp only [h3, List.length_cons, List.length_nil, Nat.zero_add, zC, List.map_cons, List.map_nil, sV] at k6 k7 k8
          repeat first | simp -implicitDefEqProofs (disch := first | omega | with_reducible assumption | (simp only [zU, zC]; omega)) only [zT, zA, reduceCtorEq, zB, zC, zD, zE, zF, zG, zH, zI, zJ, zK, zL, reduceIte, F9_l6, t15, t16, t17, t18, t19, t20, gi, k6, k7, k8, binV_rem, r3, r4, ex, stepOp_slV_v, s1, s2, s3, hrx] | refine OrW.go ?_
          rw [LoopK_normal]; refine ⟨_, ?_, q + 1, mx M1 [.cells [.string ⟨#[120]⟩, .string ⟨abc[x].toArray⟩] 9 true .exact], rfl, rfl, ?qm, ?q15, ?q16, ?q17, ?q18, ?_⟩
          case qm | q15 | q16 | q17 | q18 => first | rfl | (simp -implicitDefEqProofs (disch := first | omega | with_reducible assumption | (simp only [zU, zC]; omega)) only [zT, zA, reduceCtorEq, zB, zC, zD, zE, zF, zG, zH, zI, zJ, zK, zL, reduceIte, t15, t16, t17, t18, mx_mx, List.append_nil]; first | done | rfl | (congr 1; omega))
          · omega
          · exact ⟨by omega, hO01.mx _⟩
    · have hOm : Old m M := hO0.trans hO
      have hgM : S.Glob M := hg.old hOm
      have hpM : p < M.size := Nat.lt_of_lt_of_le hp0 hO.1
      have hpg2 : M.get p = .cells [.string ⟨d.name.toArray⟩, .slice none 0 0, .string ⟨d.recipe.toArray⟩] 24 true .exact := by rw [hO.2 p hp0]; exact hpg
      have hnil : ∀ m' : AMem, NeedsA m' none [] := fun _ i hi => by cases hi
      obtain ⟨dn, di, dr⟩ := d
      simp only at hdi; subst hdi
      simp only at hpg2
      have k16 := DetC.known (right_ok (mx M []) ⟨dn, [], dr⟩ none 0 hd (fun i hi => by cases hi))
      rw [hdr] at k16
      have n1 : Src (mx M [.cells ([[97], [98], [97]].map sV) 9 true .exact]) (some ⟨M.size + 0, 0, none⟩) [[97], [98], [97]] := src_at M _ 0 rfl
      have k6 := DetC.known (lawSort (mx M [.cells ([[97], [98], [97]].map sV) 9 true .exact]) (hgM.old (Old.here _ _)) (some ⟨M.size, 0, none⟩) 3 [[97], [98], [97]] n1.str (by decide) (by decide) none 0 [] (hnil _) (by decide))
      have n2 : Src (mx M [.cells ([[97], [98], [97]].map sV) 9 true .exact, .cells ([[97], [97]].map sV) 9 true .exact]) (some ⟨M.size + 1, 0, none⟩) [[97], [97]] := src_at M _ 1 rfl
      have k7 := DetC.known (lawClosure (mx M [.cells ([[97], [98], [97]].map sV) 9 true .exact, .cells ([[97], [97]].map sV) 9 true .exact]) (hgM.old (Old.here _ _)) (some ⟨M.size + 1, 0, none⟩) 2 [[97], [97]] n2.str (by decide) (by decide) none 0 [] (hnil _) (by decide) none 0 [] (.inl ⟨rfl, rfl⟩) (by decide) (by decide))
      have n3 : Src (mx M [.cells ([[97], [98], [97]].map sV) 9 true .exact, .cells ([[97], [97]].map sV) 9 true .exact, .cells ([[97], [97]].map sV) 9 true .exact]) (some ⟨M.size + 2, 0, none⟩) [[97], [97]] := src_at M _ 2 rfl
      have k8 := DetC.known (lawHolds (mx M [.cells ([[97], [98], [97]].map sV) 9 true .exact, .cells ([[97], [97]].map sV) 9 true .exact, .cells ([[97], [97]].map sV) 9 true .exact]) (hgM.old (Old.here _ _)) (some ⟨M.size + 2, 0, none⟩) 2 [[97], [97]] n3.str (by decide) (by decide) none 0 [] (hnil _) (by decide) none 0 [] (.inl ⟨rfl, rfl⟩) (by decide) (by decide) [] (by decide))
      let o5 : List AObj := [.cells ([[97], [98], [97]].map sV) 9 true .exact, .cells ([[97], [97]].map sV) 9 true .exact, .cells ([[97], [97]].map sV) 9 true .exact, .cells ([[97]].map sV) 9 true .exact, .cells [.slice (some ⟨M.size + 3, 0, none⟩) 1 1] 22 true .exact]
      have n4 : Src (mx M o5) (some ⟨M.size + 3, 0, none⟩) [[97]] := src_at M _ 3 rfl
      have nn : NeedsA (mx M o5) (some ⟨M.size + 4, 0, none⟩) [[[97]]] := fun i hi => by
        obtain rfl : i = 0 := by simpa using hi
        exact ⟨M.size + 4, 0, some ⟨M.size + 3, 0, none⟩, 1, rfl, by rw [mx_size]; simp [o5], by rw [mx_new _ _ 4]; rfl, n4, by simp, by simp⟩
      have k9 := DetC.known (lawSort (mx M o5) (hgM.old (Old.here _ _)) none 0 [] (fun i hi => by cases hi) (by decide) (by decide) (some ⟨M.size + 4, 0, none⟩) 1 [[[97]]] nn (by decide))
      have kw := kWorks hgM o5
      simp only [o5, List.length_cons, List.length_nil, Nat.zero_add, zC, List.map_cons, List.map_nil, sV, dRow] at k6 k7 k8 k9 kw k16
      repeat first | simp -implicitDefEqProofs (disch := first | omega | with_reducible assumption | (simp only [zU, zC]; omega)) only [zT, zA, reduceCtorEq, zB, zC, zD, zE, zF, zG, zH, zI, zJ, zK, zL, reduceIte, F9_l5, t15, t16, t17, t18, g, hpg2, cutL3, k16, k6, k7, k8, k9, kw] | refine OrW.go ?_
      exact hOm.mx _
end Go.Proofs.YtgkmlbkocgjmmaaDoor
namespace Go.Proofs.YtgkmlbkocgjmmaaDoor
open Go Go.AM
set_option linter.unusedVariables false
set_option linter.unusedSimpArgs false
set_option maxHeartbeats 4000000
set_option maxRecDepth 100000

theorem rep_bytes (n : Nat) : rep [.int .u8 0] n = (List.replicate n (0 : UInt8)).map byteV := by
  induction n with
  | zero => rfl
  | succ n ih => simp only [rep, List.replicate_succ, List.flatten_cons, List.map_cons] at ih ⊢; rw [ih]; rfl
def F9_Y : ACode := F9.code.tl.tl.tl.tl.tl.tl.tl.tl.tl.tl.tl
theorem F9_Ycut : F9_Y = .seq F9_Y.hd (.seq F9_Y.tl.hd (.seq F9_Y.tl.tl.hd (.seq F9_Y.tl.tl.tl.hd F9_Z))) := rfl
theorem long_bad (c : List UInt8) (hl : c.length = 262145) : rightR ⟨[120], [], c⟩ = false := by
  unfold rightR
  rw [decide_eq_true (p := 262144 < c.length) (by omega)]
  simp
theorem long_good (c : List UInt8) (hl : c.length = 262144) : rightR ⟨[120], [], c⟩ = true := by
  unfold rightR
  rw [decide_eq_false (p := 262144 < c.length) (by omega)]
  rfl
theorem known_y (m M0 : AMem) (hg : S.Glob m) (hO0 : Old m M0) (t : Tmps) : W Tryd.prog 3 F9_Y (RetK F9.res fun r m' => r = .ret (.bool true) ∧ Old m m') ⟨t, mx M0 [], []⟩ := by
  obtain ⟨c, hc, hl⟩ : ∃ c : List UInt8, rep [.int .u8 0] 262145 = c.map byteV ∧ c.length = 262145 := ⟨_, rep_bytes _, List.length_replicate⟩
  obtain ⟨x, c', rfl⟩ : ∃ x c', c = x :: c' := by
    match c, hl with
    | [], h => cases h
    | x :: c', _ => exact ⟨x, c', rfl⟩
  have hl' : c'.length = 262144 := by simpa using hl
  have hb0 : BSl (mx M0 [.cells ((x :: c').map byteV) 5 true .exact]) (some ⟨M0.size, 0, none⟩) 262145 (x :: c') := .inr ⟨_, _, _, _, _, _, rfl, by rw [mx_size]; simp, mx_new0 _ _, cutL_all (by simp), .inr ⟨openCap_lt (by omega), by omega⟩⟩
  have s0 := hb0.str
  have hd1 : DrvR.ok ⟨[120], [], x :: c'⟩ := ⟨by simp, (fun s h => by cases h), by simp, by simp only; omega⟩
  have hd2 : DrvR.ok ⟨[120], [], c'⟩ := ⟨by simp, (fun s h => by cases h), by simp, by simp only; omega⟩
  have k16 := DetC.known (right_ok (mx M0 [.cells ((x :: c').map byteV) 5 true .exact, .cells (dRow ⟨[120], [], x :: c'⟩ none 0) 24 true .exact]) ⟨[120], [], x :: c'⟩ none 0 hd1 (fun i hi => by cases hi))
  rw [long_bad _ hl] at k16
  have hz := fun t15 t16 t17 => known_z m (mx M0 [.cells ((x :: c').map byteV) 5 true .exact, .cells (dRow ⟨[120], [], c'⟩ none 0) 24 true .exact, .cells (abc.map sV) 9 true .exact]) hg (hO0.mx _) (M0.size + 2) (by rw [mx_size]; simp) (mx_new _ _ 2) (M0.size + 1) (by rw [mx_size]; simp) ⟨[120], [], c'⟩ hd2 rfl (long_good _ hl') (mx_new _ _ 1) t15 t16 t17
  rw [F9_Ycut]
  simp only [dRow, abc, List.map_cons, List.map_nil, sV, hl, List.length_cons, List.length_nil] at k16 hz s0 hc
  generalize List.map byteV c' = C at *
  repeat first | simp -implicitDefEqProofs (disch := first | omega | with_reducible assumption | (simp only [zU, zC]; omega)) only [zT, zA, reduceCtorEq, zB, zC, zD, zE, zF, zG, zH, zI, zJ, zK, zL, reduceIte, F9_Y, F9, hd_seq, tl_seq, hc, stepOp_b2s_v, s0, k16, cellsOf_dRow, splice3, cutL3] | refine OrW.go ?_
  simp only [mx_mx, List.append_nil] at hz
  simp only [List.drop_succ_cons, List.drop_zero]
  exact hz _ (by simp -implicitDefEqProofs (disch := first | omega | with_reducible assumption | (simp only [zU, zC]; omega)) only [zT, zA, reduceCtorEq, zB, zC, zD, zE, zF, zG, zH, zI, zJ, zK, zL, reduceIte]) (by simp -implicitDefEqProofs (disch := first | omega | with_reducible assumption | (simp only [zU, zC]; omega)) only [zT, zA, reduceCtorEq, zB, zC, zD, zE, zF, zG, zH, zI, zJ, zK, zL, reduceIte]) (by simp -implicitDefEqProofs (disch := first | omega | with_reducible assumption | (simp only [zU, zC]; omega)) only [zT, zA, reduceCtorEq, zB, zC, zD, zE, zF, zG, zH, zI, zJ, zK, zL, reduceIte])
end Go.Proofs.YtgkmlbkocgjmmaaDoor
namespace Go.Proofs.YtgkmlbkocgjmmaaDoor
open Go Go.AM
set_option linter.unusedVariables false
set_option linter.unusedSimpArgs false
set_option maxHeartbeats 2000000
set_option maxRecDepth 100000

theorem refRight_ok (m : AMem) (d : DrvR) (a : Option Addr) (c : Nat) (hd : d.ok) (ha : StrR m a d.inputs) : PureC Tryd.prog 3 17 [.agg (dRow d a c).toArray] m (.bool (rightR d)) := by
  refine pure_of_W (fn := Tryd.f17) rfl rfl F17_ok (by simp [F17]) (.bool _) ?_
  have hn := hd.name; have hf := hd.few; have hr := hd.recipe
  have kR : N.rightB d.name = N.rightB d.name := rfl
  have kRight := @N.kRefRight (mx m [.cells (dRow d a c) 24 true .exact]) d.name hn
  simp only [dRow] at kRight
  by_cases h1 : N.rightB d.name = true
  case neg =>
    have h1' : N.rightB d.name = false := by simpa using h1
    have e : rightR d = false := by simp [rightR, h1']
    repeat first | simp -implicitDefEqProofs (disch := first | omega | with_reducible assumption | (simp only [zU, zC]; omega)) only [zT, zA, reduceCtorEq, zB, zC, zD, zE, zF, zG, zH, zI, zJ, zK, zL, reduceIte, F17, dRow, cellsOf_dRow, kRight, h1'] | refine OrW.go ?_
    rw [e]
  by_cases h2 : (60 : Int) < (d.name.length : Int)
  · have e : rightR d = false := by simp [rightR]; intros; omega
    repeat first | simp -implicitDefEqProofs (disch := first | omega | with_reducible assumption | (simp only [zU, zC]; omega)) only [zT, zA, reduceCtorEq, zB, zC, zD, zE, zF, zG, zH, zI, zJ, zK, zL, reduceIte, F17, dRow, cellsOf_dRow, kRight, h1, h2] | refine OrW.go ?_
    rw [e]
  by_cases h3 : (64 : Int) < (d.inputs.length : Int)
  · have e : rightR d = false := by simp [rightR]; intros; omega
    repeat first | simp -implicitDefEqProofs (disch := first | omega | with_reducible assumption | (simp only [zU, zC]; omega)) only [zT, zA, reduceCtorEq, zB, zC, zD, zE, zF, zG, zH, zI, zJ, zK, zL, reduceIte, F17, dRow, cellsOf_dRow, kRight, h1, h2, h3] | refine OrW.go ?_
    rw [e]
  by_cases h4 : (262144 : Int) < (d.recipe.length : Int)
  · have e : rightR d = false := by simp [rightR]; intros; omega
    repeat first | simp -implicitDefEqProofs (disch := first | omega | with_reducible assumption | (simp only [zU, zC]; omega)) only [zT, zA, reduceCtorEq, zB, zC, zD, zE, zF, zG, zH, zI, zJ, zK, zL, reduceIte, F17, dRow, cellsOf_dRow, kRight, h1, h2, h3, h4] | refine OrW.go ?_
    rw [e]
  have e : rightR d = okIns d.inputs d.inputs.length := by
    have g1 : ¬ 60 < d.name.length := by omega
    have g2 : ¬ 64 < d.inputs.length := by omega
    have g3 : ¬ 262144 < d.recipe.length := by omega
    simp [rightR, h1, g1, g2, g3]
  repeat first | simp -implicitDefEqProofs (disch := first | omega | with_reducible assumption | (simp only [zU, zC]; omega)) only [zT, zA, reduceCtorEq, zB, zC, zD, zE, zF, zG, zH, zI, zJ, zK, zL, reduceIte, F17, dRow, cellsOf_dRow, kRight, h1, h2, h3, h4] | refine OrW.go ?_
  rw [e]
  refine W_loop (fun N qs => ∃ (i : Nat), N = d.inputs.length - i ∧ qs.ds = [] ∧ qs.m = mx m [.cells [.string ⟨d.name.toArray⟩, .slice a d.inputs.length c, .string ⟨d.recipe.toArray⟩] 24 true .exact] ∧ qs.t 1 = .pointer (some ⟨m.size, 0, none⟩) ∧ qs.t 3 = .int .i64 i ∧ i ≤ d.inputs.length ∧ okIns d.inputs i = true) (d.inputs.length - (0)) ⟨0, rfl, rfl, ?qm, ?q1, ?q3, ?_⟩ ?_
  case qm | q1 | q3 => first | rfl | (simp -implicitDefEqProofs (disch := first | omega | with_reducible assumption | (simp only [zU, zC]; omega)) only [zT, zA, reduceCtorEq, zB, zC, zD, zE, zF, zG, zH, zI, zJ, zK, zL, reduceIte]; first | done | rfl | (congr 1; omega))
  · exact ⟨by omega, rfl⟩
  · rintro N t m1 ds ⟨i, rfl, hds, hm, t1, t3, hp⟩
    simp only at hds hm t1 t3
    subst hds; replace hm := hm.symm; subst hm
    obtain ⟨hi, hp⟩ := hp
    by_cases g : (i : Int) < (d.inputs.length : Int)
    · have hi' : i < d.inputs.length := by omega
      obtain ⟨b, o, rfl, hb, hr1⟩ := ha i hi'
      have hl := hd.inputs _ (List.getElem_mem hi')
      have kP := @N.kRefParse (mx m [.cells [.string ⟨d.name.toArray⟩, .slice (some ⟨b, o, none⟩) d.inputs.length c, .string ⟨d.recipe.toArray⟩] 24 true .exact]) d.inputs[i] hl
      rw [← N.parse_eq] at kP
      have hsucc := okIns_succ d.inputs i
      rw [hp, Bool.true_and] at hsucc
      have hok : okIn d.inputs i = (decide ((N.parseR d.inputs[i]).2.2 = 0) && (decide (i = 0) || !(ltB d.inputs[i] (d.inputs.getD (i - 1) []) || strEq ⟨d.inputs[i].toArray⟩ ⟨(d.inputs.getD (i - 1) []).toArray⟩))) := by
        unfold okIn; rw [show d.inputs.getD i [] = d.inputs[i] from by simp [List.getD, hi']]
      by_cases q1 : (N.parseR d.inputs[i]).2.2 = 0
      · cases i with
        | zero =>
          have hok0 : okIn d.inputs 0 = true := by rw [hok]; simp [q1]
          rw [Nat.add_zero] at hr1
          have g0 : (0 : Int) < (d.inputs.length : Int) := by omega
          repeat first | simp -implicitDefEqProofs (disch := first | omega | with_reducible assumption | (simp only [zU, zC]; omega)) only [zT, zA, reduceCtorEq, zB, zC, zD, zE, zF, zG, zH, zI, zJ, zK, zL, reduceIte, F17_l0, t1, t3, g0, hr1, kP, q1, undef] | refine OrW.go ?_
          rw [LoopK_normal]; refine ⟨_, ?_, 1, rfl, rfl, ?qm, ?q1, ?q3, ?_⟩
          case qm | q1 | q3 => first | rfl | (simp -implicitDefEqProofs (disch := first | omega | with_reducible assumption | (simp only [zU, zC]; omega)) only [zT, zA, reduceCtorEq, zB, zC, zD, zE, zF, zG, zH, zI, zJ, zK, zL, reduceIte, t1, t3]; first | done | rfl | (congr 1; omega))
          · omega
          · exact ⟨by omega, by rw [hsucc, hok0]⟩
        | succ k =>
          obtain ⟨b', o', hbe, hb', hr0⟩ := ha k (by omega)
          cases hbe
          have hik : ((k + 1 : Nat) : Int) - 1 = (k : Int) := by omega
          have hk0 : (0 : Int) < ((k + 1 : Nat) : Int) := by omega
          have hkk : d.inputs.getD (k + 1 - 1) [] = d.inputs[k] := by simp [List.getD, show k < d.inputs.length by omega]
          rw [hkk] at hok
          rw [← strLt_mk] at hok
          generalize hlt : (strLt ⟨d.inputs[k + 1].toArray⟩ ⟨d.inputs[k].toArray⟩ || strEq ⟨d.inputs[k + 1].toArray⟩ ⟨d.inputs[k].toArray⟩) = le at hok
          cases le with
          | true =>
            have hbad : okIns d.inputs d.inputs.length = false := okIns_bad hi' (by rw [hok]; simp)
            rw [hbad]
            repeat first | simp -implicitDefEqProofs (disch := first | omega | with_reducible assumption | (simp only [zU, zC]; omega)) only [zT, zA, reduceCtorEq, zB, zC, zD, zE, zF, zG, zH, zI, zJ, zK, zL, reduceIte, F17_l0, t1, t3, g, hr1, kP, q1, hik, hk0, hr0, binV_sleq, hlt] | refine OrW.go ?_
          | false =>
            repeat first | simp -implicitDefEqProofs (disch := first | omega | with_reducible assumption | (simp only [zU, zC]; omega)) only [zT, zA, reduceCtorEq, zB, zC, zD, zE, zF, zG, zH, zI, zJ, zK, zL, reduceIte, F17_l0, t1, t3, g, hr1, kP, q1, hik, hk0, hr0, binV_sleq, hlt] | refine OrW.go ?_
            rw [LoopK_normal]; refine ⟨_, ?_, k + 1 + 1, rfl, rfl, ?qm, ?q1, ?q3, ?_⟩
            case qm | q1 | q3 => first | rfl | (simp -implicitDefEqProofs (disch := first | omega | with_reducible assumption | (simp only [zU, zC]; omega)) only [zT, zA, reduceCtorEq, zB, zC, zD, zE, zF, zG, zH, zI, zJ, zK, zL, reduceIte, t1, t3]; first | done | rfl | (congr 1; omega))
            · omega
            · exact ⟨by omega, by rw [hsucc, hok]; simp [q1]⟩
      · have hbad : okIns d.inputs d.inputs.length = false := okIns_bad hi' (by rw [hok]; simp [q1])
        rw [hbad]
        repeat first | simp -implicitDefEqProofs (disch := first | omega | with_reducible assumption | (simp only [zU, zC]; omega)) only [zT, zA, reduceCtorEq, zB, zC, zD, zE, zF, zG, zH, zI, zJ, zK, zL, reduceIte, F17_l0, t1, t3, g, hr1, kP, q1, undef] | refine OrW.go ?_
    · obtain rfl : i = d.inputs.length := by omega
      rw [hp]
      repeat first | simp -implicitDefEqProofs (disch := first | omega | with_reducible assumption | (simp only [zU, zC]; omega)) only [zT, zA, reduceCtorEq, zB, zC, zD, zE, zF, zG, zH, zI, zJ, zK, zL, reduceIte, F17_l0, t1, t3, g] | refine OrW.go ?_
end Go.Proofs.YtgkmlbkocgjmmaaDoor
namespace Go.Proofs.YtgkmlbkocgjmmaaDoor
open Go Go.AM
set_option linter.unusedVariables false
set_option linter.unusedSimpArgs false
set_option maxHeartbeats 2000000
set_option maxRecDepth 100000

def nAt (b : List UInt8) (i : Nat) : Nat := beN ((b.drop i).take 4)
theorem textR_at (b : List UInt8) (i : Nat) : textR ⟨b.drop i, false⟩ =
    if (b.drop i).length < 4 then ([], ⟨b.drop i, true⟩) else if b.length - i - 4 < nAt b i then ([], ⟨b.drop (i + 4), true⟩) else ((b.drop (i + 4)).take (nAt b i), ⟨b.drop (i + 4 + nAt b i), false⟩) := by
  unfold textR
  by_cases h : (b.drop i).length < 4
  · have e : numR ⟨b.drop i, false⟩ 4 = (0, ⟨b.drop i, true⟩) := by
      have e2 : takeR ⟨b.drop i, false⟩ 4 = ([], ⟨b.drop i, true⟩) := by unfold takeR; rw [if_pos (by simpa using h)]
      simp [numR, e2, beN]
    rw [e, if_pos h]; rfl
  · have e : numR ⟨b.drop i, false⟩ 4 = (nAt b i, ⟨b.drop (i + 4), false⟩) := by
      have e2 : takeR ⟨b.drop i, false⟩ 4 = ((b.drop i).take 4, ⟨b.drop (i + 4), false⟩) := by unfold takeR; rw [if_neg (by simpa using h), List.drop_drop]
      simp [numR, e2, nAt]
    rw [e, if_neg h]
    simp only [takeR, Bool.false_or, List.length_drop]
    by_cases h2 : b.length - i - 4 < nAt b i
    · rw [if_pos h2, if_pos (by simp; omega)]
    · rw [if_neg h2, if_neg (by simp; omega), List.drop_drop]
theorem nAt_eq {b : List UInt8} {i : Nat} (h : i + 4 ≤ b.length) : nAt b i = b[i].toNat * 16777216 + b[i + 1].toNat * 65536 + b[i + 2].toNat * 256 + b[i + 3].toNat := by
  unfold nAt
  rw [List.drop_eq_getElem_cons (by omega), List.take_succ_cons, List.drop_eq_getElem_cons (by omega), List.take_succ_cons, List.drop_eq_getElem_cons (by omega), List.take_succ_cons, List.drop_eq_getElem_cons (by omega), List.take_succ_cons, List.take_zero]
  simp only [beN, List.foldl_cons, List.foldl_nil, Nat.add_assoc, zC]; omega
def getV (b : List UInt8) (i : Nat) : Value :=
  if (textR ⟨b.drop i, false⟩).2.bad = true then .tuple #[.string ⟨#[]⟩, .int .i64 0, .bool false] else .tuple #[.string ⟨(textR ⟨b.drop i, false⟩).1.toArray⟩, .int .i64 ((i + 4 + (textR ⟨b.drop i, false⟩).1.length : Nat) : Int), .bool true]
theorem refGet_ok (m : AMem) (a : Option Addr) (k : Nat) (b : List UInt8) (hb : BSl m a k b) (hl : b.length ≤ 100000) (i : Nat) (hi : i ≤ b.length) :
    PureC Tryd.prog 3 73 [.slice a b.length k, .int .i64 i] m (getV b i) := by
  have hP : Plain (getV b i) := by
    unfold getV
    split <;> exact .tuple fun v hv => by simp at hv; rcases hv with rfl | rfl | rfl <;> first | exact .string _ | exact .int _ _ | exact .bool _
  refine pure_of_W (fn := Tryd.f73) rfl rfl F73_ok (by simp [F73]) hP ?_
  unfold getV
  rw [textR_at]
  have e4 : (i : Int) + 4 = ((i + 4 : Nat) : Int) := by omega
  by_cases h4 : i + 4 ≤ b.length
  case neg =>
    have g : (b.length : Int) < ((i + 4 : Nat) : Int) := by omega
    have hd : (b.drop i).length < 4 := by rw [List.length_drop]; omega
    rw [if_pos hd]
    repeat first | simp -implicitDefEqProofs (disch := first | omega | with_reducible assumption | (simp only [zU, zC]; omega)) only [zT, zA, reduceCtorEq, zB, zC, zD, zE, zF, zG, zH, zI, zJ, zK, zL, reduceIte, F73, e4, g] | refine OrW.go ?_
  have g : ¬ (b.length : Int) < ((i + 4 : Nat) : Int) := by omega
  have hd : ¬ (b.drop i).length < 4 := by rw [List.length_drop]; omega
  have hbm := hb.old (Old.here m [])
  obtain ⟨x, o, rfl, r0⟩ := hbm.get (i := i) (by omega)
  obtain ⟨x1, o1, e, r1⟩ := hbm.get (i := i + 1) (by omega)
  cases e
  obtain ⟨x1, o1, e, r2⟩ := hbm.get (i := i + 2) (by omega)
  cases e
  obtain ⟨x1, o1, e, r3⟩ := hbm.get (i := i + 3) (by omega)
  cases e
  rw [rd_def] at r0 r1 r2 r3
  simp only [byteV] at r0 r1 r2 r3
  have hn := nAt_eq h4
  have c0 := b[i].toNat_lt; have c1 := b[i + 1].toNat_lt; have c2 := b[i + 2].toNat_lt; have c3 := b[i + 3].toNat_lt
  generalize b[i].toNat = n0 at r0 hn c0
  generalize b[i + 1].toNat = n1 at r1 hn c1
  generalize b[i + 2].toNat = n2 at r2 hn c2
  generalize b[i + 3].toNat = n3 at r3 hn c3
  have e1 : (i : Int) + 1 = ((i + 1 : Nat) : Int) := by omega
  have e2 : (i : Int) + 2 = ((i + 2 : Nat) : Int) := by omega
  have e3 : (i : Int) + 3 = ((i + 3 : Nat) : Int) := by omega
  have w0 : shl .i64 (n0 : Int) 24 = ((n0 * 16777216 : Nat) : Int) := num_shl n0 (by omega) 24 (by omega)
  have w1 : shl .i64 (n1 : Int) 16 = ((n1 * 65536 : Nat) : Int) := num_shl n1 (by omega) 16 (by omega)
  have w2 : shl .i64 (n2 : Int) 8 = ((n2 * 256 : Nat) : Int) := num_shl n2 (by omega) 8 (by omega)
  have ws : ((n0 * 16777216 : Nat) : Int) + ((n1 * 65536 : Nat) : Int) + ((n2 * 256 : Nat) : Int) + (n3 : Int) = (nAt b i : Int) := by omega
  rw [if_neg hd]
  have e5 : (b.length : Int) - (i : Int) - 4 = ((b.length - i - 4 : Nat) : Int) := by omega
  by_cases h5 : b.length - i - 4 < nAt b i
  · have g5 : ((b.length - i - 4 : Nat) : Int) < (nAt b i : Int) := by omega
    rw [if_pos h5]
    repeat first | simp -implicitDefEqProofs (disch := first | omega | with_reducible assumption | (simp only [zU, zC]; omega)) only [zT, zA, reduceCtorEq, zB, zC, zD, zE, zF, zG, zH, zI, zJ, zK, zL, reduceIte, F73, e4, g, e1, e2, e3, r0, r1, r2, r3, binV_shl, w0, w1, w2, ws, e5, g5] | refine OrW.go ?_
  · have g5 : ¬ ((b.length - i - 4 : Nat) : Int) < (nAt b i : Int) := by omega
    rw [if_neg h5]
    have e6 : ((i + 4 : Nat) : Int) + (nAt b i : Int) = ((i + 4 + nAt b i : Nat) : Int) := by omega
    obtain ⟨a', c', q1, q2, -⟩ := hbm.sub (openCap_lt (by omega)) (i := i + 4) (j := i + 4 + nAt b i) (by omega) (by omega)
    rw [Nat.add_sub_cancel_left] at q1 q2
    have hln : ((b.drop (i + 4)).take (nAt b i)).length = nAt b i := by rw [List.length_take, List.length_drop]; omega
    have hst := q2.str
    rw [hln] at hst
    simp only [hln]
    repeat first | simp -implicitDefEqProofs (disch := first | omega | with_reducible assumption | (simp only [zU, zC]; omega)) only [zT, zA, reduceCtorEq, zB, zC, zD, zE, zF, zG, zH, zI, zJ, zK, zL, reduceIte, F73, e4, g, e1, e2, e3, r0, r1, r2, r3, binV_shl, w0, w1, w2, ws, e5, g5, e6, stepOp_slV_v, q1, stepOp_b2s_v, hst] | refine OrW.go ?_
end Go.Proofs.YtgkmlbkocgjmmaaDoor
namespace Go.Proofs.YtgkmlbkocgjmmaaDoor
open Go Go.AM
set_option linter.unusedVariables false
set_option linter.unusedSimpArgs false
set_option maxHeartbeats 2000000
set_option maxRecDepth 100000

theorem textR_not {b : List UInt8} {i : Nat} (hi : i ≤ b.length) (h : (textR ⟨b.drop i, false⟩).2.bad = false) : i + 4 + (textR ⟨b.drop i, false⟩).1.length ≤ b.length ∧ (textR ⟨b.drop i, false⟩).2 = ⟨b.drop (i + 4 + (textR ⟨b.drop i, false⟩).1.length), false⟩ := by
  rw [textR_at] at h ⊢
  split at h
  · cases h
  · split at h
    · cases h
    · rename_i h1 h2
      rw [List.length_drop] at h1
      rw [if_neg (by rw [List.length_drop]; exact h1), if_neg h2]
      have hln : ((b.drop (i + 4)).take (nAt b i)).length = nAt b i := by rw [List.length_take, List.length_drop]; omega
      simp only [hln]
      exact ⟨by omega, trivial⟩
theorem bad_stay (s : Rd) (h : s.bad = true) (n : Nat) : readIns n s = ([], s) := by
  cases n with
  | zero => rfl
  | succ n => simp [readIns, h]
theorem textR_stay (s : Rd) (h : s.bad = true) : (textR s).2.bad = true := by
  obtain ⟨c, b⟩ := s
  simp only at h; subst h; rfl
theorem numR_at (b : List UInt8) (i : Nat) : numR ⟨b.drop i, false⟩ 2 = if b.length < i + 2 ∧ i ≤ b.length ∨ b.length < i then (0, ⟨b.drop i, true⟩) else (beN ((b.drop i).take 2), ⟨b.drop (i + 2), false⟩) := by
  unfold numR takeR
  simp only [Bool.false_or, List.length_drop]
  by_cases h : b.length - i < 2
  · rw [if_pos (by simpa using h), if_pos (by omega)]; rfl
  · rw [if_neg (by simpa using h), if_neg (by omega), List.drop_drop]
theorem beN2 {b : List UInt8} {i : Nat} (h : i + 2 ≤ b.length) : beN ((b.drop i).take 2) = b[i].toNat * 256 + b[i + 1].toNat := by
  rw [List.drop_eq_getElem_cons (by omega), List.take_succ_cons, List.drop_eq_getElem_cons (by omega), List.take_succ_cons, List.take_zero]
  simp only [beN, List.foldl_cons, List.foldl_nil]; omega
theorem numR_stay (s : Rd) (h : s.bad = true) (w : Nat) : (numR s w).2.bad = true := by simp [numR, takeR, h]
theorem readIns_stay (s : Rd) (h : s.bad = true) (n : Nat) : (readIns n s).2.bad = true := by rw [bad_stay s h]; exact h
theorem getR_bad {b : List UInt8} (h : (partsR (b.drop 4)).2.bad = true) : getR b = (nilD, 150) := by
  unfold getR; rw [h]; simp
structure StP (m M : AMem) (d : DrvR) (v : Value) : Prop where
  old : Old m M
  lt : m.size + 1 < M.size
  box : M.get m.size = .cells [.string ⟨#[]⟩, .slice none 0 0, .string ⟨#[]⟩] 24 true .exact
  at_ : M.get (m.size + 1) = .cells [.string ⟨d.name.toArray⟩, v, .string ⟨d.recipe.toArray⟩] 24 true .exact
  own : ∀ x, ownV v x → m.size + 1 < x
  strs : StrB M v d.inputs
theorem StP.set {m M : AMem} {d : DrvR} {v : Value} (h : StP m M d v) (d' : DrvR) (hd : d'.inputs = d.inputs) : StP m (M.set (m.size + 1) (.cells [.string ⟨d'.name.toArray⟩, v, .string ⟨d'.recipe.toArray⟩] 24 true .exact)) d' v :=
  ⟨h.old.set (by omega) _, h.lt, by rw [AMem.get_set_ne _ _ (by omega)]; exact h.box, AMem.get_set_self _ _ _, h.own, by
    rw [hd]; exact h.strs.keep ((Keep.refl (fun x => x = m.size + 1) M).set (fun _ => rfl) _) fun x hx e => by have := h.own x hx; omega⟩
theorem StP.more {m M M' : AMem} {d : DrvR} {v : Value} (h : StP m M d v) (ho : Old M M') : StP m M' d v :=
  ⟨h.old.trans ho, Nat.lt_of_lt_of_le h.lt ho.1, by rw [ho.2 _ (by have := h.lt; omega)]; exact h.box, by rw [ho.2 _ h.lt]; exact h.at_, h.own, h.strs.old ho⟩
theorem StP.app {m M : AMem} {d : DrvR} {a : Option Addr} {k : Nat} (h : StP m M d (.slice a d.inputs.length k)) (hl : d.inputs.length ≤ 100000) (s : List UInt8) :
    ∃ a' k' M', appV 9 1 16 [.string ⟨#[]⟩] (.slice a d.inputs.length k) (.slice (some ⟨M.size, 0, none⟩) 1 1) (mx M [.cells [.string ⟨s.toArray⟩] 9 true .exact]) = some (.slice a' (d.inputs ++ [s]).length k', mx M' []) ∧ m.size + 1 < M'.size ∧ M'.get (m.size + 1) = M.get (m.size + 1) ∧
      StP m (M'.set (m.size + 1) (.cells [.string ⟨d.name.toArray⟩, .slice a' (d.inputs ++ [s]).length k', .string ⟨d.recipe.toArray⟩] 24 true .exact)) ⟨d.name, d.inputs ++ [s], d.recipe⟩ (.slice a' (d.inputs ++ [s]).length k') := by
  have hlt := h.lt
  obtain ⟨v6, M6, happ, hB6, hk6, ho6⟩ := (h.strs.old (Old.here M [.cells [.string ⟨s.toArray⟩] 9 true .exact])).app (w := .slice (some ⟨M.size, 0, none⟩) 1 1) (news := [s]) (by simp; omega) rfl (by rw [List.length_singleton, srcCells_slice (Nat.le_refl _), rd_def, mx_mx, List.append_nil, mx_new0]; rfl)
  obtain ⟨av6, cv6, rfl⟩ := hB6.len
  rw [mx_mx, List.append_nil] at happ
  have hk6' : ∀ y, y ≤ m.size + 1 → M6.get y = M.get y := fun y hy => by rw [hk6.2 y (by rw [mx_size]; omega) (fun e => by have := h.own y e; omega), mx_old (by omega)]
  have hs6 := hk6.1
  rw [mx_size] at hs6
  have hown : ∀ x, ownV (.slice av6 (d.inputs ++ [s]).length cv6) x → m.size + 1 < x := fun x hx => by
    rcases ho6 x hx with e | e
    · exact h.own x e
    · rw [mx_size] at e; omega
  refine ⟨av6, cv6, M6, happ, by omega, hk6' _ (Nat.le_refl _), ⟨?_, by rw [AMem.size_set]; omega, by rw [AMem.get_set_ne _ _ (by omega), hk6' _ (by omega)]; exact h.box, AMem.get_set_self _ _ _, hown, hB6.keep ((Keep.refl (fun x => x = m.size + 1) M6).set (fun _ => rfl) _) fun x hx e => by have := hown x hx; omega⟩⟩
  exact (show Old m M6 from ⟨by have := h.old.1; omega, fun y hy => by rw [hk6' y (by omega)]; exact h.old.2 y hy⟩).set (by omega) _
def PartsA (b : List UInt8) (m : AMem) (r : Value) (m' : AMem) : Prop := Old m m' ∧ ∃ (d : DrvR) (a : Option Addr) (c : Nat) (ok : Bool), r = .tuple #[.agg (dRow d a c).toArray, .bool ok] ∧ StrR m' a d.inputs ∧ (∀ x o s, a = some ⟨x, o, s⟩ → m.size ≤ x) ∧ getR b = if ok then (d, 0) else (nilD, 150)
theorem parts_ok (m : AMem) (a : Option Addr) (k : Nat) (b : List UInt8) (hb : BSl m a k b) (hl : b.length ≤ 100000) :
    RelC Tryd.prog 3 45 [.slice a b.length k] m fun r m' => PartsA b m r m' := by
  refine rel_of_W (fn := Tryd.f45) rfl rfl F45_ok (by simp [F45]) ?_
  have hfalse : ∀ {M : AMem} {d : DrvR} {v : Value}, StP m M d v → ∀ (c : Nat) (a' : Option Addr), v = .slice a' d.inputs.length c → getR b = (nilD, 150) →
      ∃ w, AEnd.ret (.tuple #[.agg (dRow d a' c).toArray, .bool false]) = .ret w ∧ (m.size ≤ (mx (M.set m.size (.cells (dRow d a' c) 24 true .exact)) []).size → PartsA b m w (mx (M.set m.size (.cells (dRow d a' c) 24 true .exact)) [])) := by
    intro M d v h c a' e hg
    subst e
    refine ⟨_, rfl, fun _ => ⟨(h.old.set (Nat.le_refl _) _).mx [], d, a', c, false, rfl, ?_, (fun x o s e => ?_), hg⟩⟩
    rotate_left
    · subst e
      rcases h.strs with ⟨_, e⟩ | ⟨b', e, _⟩
      · cases e
      · cases e; have := h.own x ⟨_, _, _, rfl⟩; omega
    exact ((h.strs.keep ((Keep.refl (fun x => x = m.size) M).set (fun _ => rfl) _) fun x hx e => by have := h.own x hx; omega).old (Old.here _ [])).row
  have hbm := hb.old (Old.here m [.cells [.string ⟨#[]⟩, .slice none 0 0, .string ⟨#[]⟩] 24 true .exact, .cells [.string ⟨#[]⟩, .slice none 0 0, .string ⟨#[]⟩] 24 true .exact])
  by_cases h4 : (b.length : Int) < 4
  · have hg : getR b = (nilD, 150) := if_neg fun h => by omega
    repeat first | simp -implicitDefEqProofs (disch := first | omega | with_reducible assumption | (simp only [zU, zC]; omega)) only [zT, zA, reduceCtorEq, zB, zC, zD, zE, zF, zG, zH, zI, zJ, zK, zL, reduceIte, F45, h4, cellsOf_dRow, splice3, cutL3] | refine OrW.go ?_
    exact ⟨_, rfl, fun _ => ⟨Old.here _ _, nilD, none, 0, false, rfl, fun i hi => (by cases hi), (fun x o s h => by cases h), hg⟩⟩
  obtain ⟨a1, c1, q1, q2, -⟩ := hbm.head (openCap_lt (by omega)) (j := 4) (by omega)
  have hst := q2.str
  rw [show (b.take 4).length = 4 by rw [List.length_take]; omega] at hst
  have es := strEq_mk (b.take 4) headB
  simp only [headB] at es
  by_cases hh : b.take 4 = headB
  case neg =>
    have hg : getR b = (nilD, 150) := if_neg fun h => hh h.1
    have es' : strEq ⟨(b.take 4).toArray⟩ ⟨[68, 82, 86, 49].toArray⟩ = false := by rw [es]; exact decide_eq_false hh
    rw [show ((4 : Nat) : Int) = 4 from rfl] at q1
    repeat first | simp -implicitDefEqProofs (disch := first | omega | with_reducible assumption | (simp only [zU, zC]; omega)) only [zT, zA, reduceCtorEq, zB, zC, zD, zE, zF, zG, zH, zI, zJ, zK, zL, reduceIte, F45, h4, cellsOf_dRow, splice3, cutL3, stepOp_slV_v, q1, stepOp_b2s_v, hst, es'] | refine OrW.go ?_
    exact ⟨_, rfl, fun _ => ⟨Old.here _ _, nilD, none, 0, false, rfl, fun i hi => (by cases hi), (fun x o s h => by cases h), hg⟩⟩
  have es' : strEq ⟨(b.take 4).toArray⟩ ⟨[68, 82, 86, 49].toArray⟩ = true := by rw [es]; exact decide_eq_true hh
  rw [show ((4 : Nat) : Int) = 4 from rfl] at q1
  have hg0 : getR b = if !(partsR (b.drop 4)).2.bad && decide ((partsR (b.drop 4)).2.c.length = 0) && rightR (partsR (b.drop 4)).1 then ((partsR (b.drop 4)).1, 0) else (nilD, 150) := if_pos ⟨hh, by omega⟩
  have kg := DetC.known (refGet_ok (mx m [.cells [.string ⟨#[]⟩, .slice none 0 0, .string ⟨#[]⟩] 24 true .exact, .cells [.string ⟨#[]⟩, .slice none 0 0, .string ⟨#[]⟩] 24 true .exact]) a k b hbm hl 4 (by omega))
  rw [show ((4 : Nat) : Int) = 4 from rfl] at kg
  have hpR : partsR (b.drop 4) = (⟨(textR ⟨b.drop 4, false⟩).1, (readIns (numR (textR ⟨b.drop 4, false⟩).2 2).1 (numR (textR ⟨b.drop 4, false⟩).2 2).2).1, (textR (readIns (numR (textR ⟨b.drop 4, false⟩).2 2).1 (numR (textR ⟨b.drop 4, false⟩).2 2).2).2).1⟩, (textR (readIns (numR (textR ⟨b.drop 4, false⟩).2 2).1 (numR (textR ⟨b.drop 4, false⟩).2 2).2).2).2) := rfl
  cases hb1 : (textR ⟨b.drop 4, false⟩).2.bad with
  | true =>
    have ev : getV b 4 = .tuple #[.string ⟨#[]⟩, .int .i64 0, .bool false] := if_pos hb1
    rw [ev] at kg
    have hg : getR b = (nilD, 150) := getR_bad (by rw [hpR]; exact textR_stay _ (readIns_stay _ (numR_stay _ hb1 2) _))
    repeat first | simp -implicitDefEqProofs (disch := first | omega | with_reducible assumption | (simp only [zU, zC]; omega)) only [zT, zA, reduceCtorEq, zB, zC, zD, zE, zF, zG, zH, zI, zJ, zK, zL, reduceIte, F45, h4, cellsOf_dRow, splice3, cutL3, stepOp_slV_v, q1, stepOp_b2s_v, hst, es', kg] | refine OrW.go ?_
    exact ⟨_, rfl, fun _ => ⟨Old.here _ _, nilD, none, 0, false, rfl, fun i hi => (by cases hi), (fun x o s h => by cases h), hg⟩⟩
  | false =>
    obtain ⟨t1, t2⟩ := textR_not (by omega) hb1
    have ev : getV b 4 = .tuple #[.string ⟨(textR ⟨b.drop 4, false⟩).1.toArray⟩, .int .i64 ((4 + 4 + (textR ⟨b.drop 4, false⟩).1.length : Nat) : Int), .bool true] := if_neg (by rw [hb1]; simp)
    rw [ev] at kg
    rw [t2] at hpR
    generalize (textR ⟨b.drop 4, false⟩).1 = nm at t1 hpR kg
    generalize hat : 4 + 4 + nm.length = at1 at t1 hpR kg
    rw [numR_at] at hpR
    have e2 : (at1 : Int) + 2 = ((at1 + 2 : Nat) : Int) := by omega
    by_cases h2 : at1 + 2 ≤ b.length
    case neg =>
      have g2 : (b.length : Int) < ((at1 + 2 : Nat) : Int) := by omega
      rw [if_pos (by omega)] at hpR
      have hg : getR b = (nilD, 150) := getR_bad (by rw [hpR]; exact textR_stay _ (readIns_stay _ rfl _))
      repeat first | simp -implicitDefEqProofs (disch := first | omega | with_reducible assumption | (simp only [zU, zC]; omega)) only [zT, zA, reduceCtorEq, zB, zC, zD, zE, zF, zG, zH, zI, zJ, zK, zL, reduceIte, F45, h4, cellsOf_dRow, splice3, cutL3, stepOp_slV_v, q1, stepOp_b2s_v, hst, es', kg, e2, g2] | refine OrW.go ?_
      exact ⟨_, rfl, fun _ => ⟨Old.here _ _, nilD, none, 0, false, rfl, fun i hi => (by cases hi), (fun x o s h => by cases h), hg⟩⟩
    have g2 : ¬ (b.length : Int) < ((at1 + 2 : Nat) : Int) := by omega
    rw [if_neg (by omega)] at hpR
    have hbm2 := hb.old (Old.here m [.cells [.string ⟨#[]⟩, .slice none 0 0, .string ⟨#[]⟩] 24 true .exact, .cells [.string ⟨nm.toArray⟩, .slice none 0 0, .string ⟨#[]⟩] 24 true .exact])
    obtain ⟨x, o, rfl, r0⟩ := hbm2.get (i := at1) (by omega)
    obtain ⟨x1, o1, e, r1⟩ := hbm2.get (i := at1 + 1) (by omega)
    cases e
    rw [rd_def] at r0 r1
    simp only [byteV] at r0 r1
    have hn := beN2 h2
    have c0 := b[at1].toNat_lt; have c1 := b[at1 + 1].toNat_lt
    generalize b[at1].toNat = n0 at r0 hn c0
    generalize b[at1 + 1].toNat = n1 at r1 hn c1
    have e1 : (at1 : Int) + 1 = ((at1 + 1 : Nat) : Int) := by omega
    have w0 : shl .i64 (n0 : Int) 8 = ((n0 * 256 : Nat) : Int) := num_shl n0 (by omega) 8 (by omega)
    have ws : ((n0 * 256 : Nat) : Int) + (n1 : Int) = (beN ((b.drop at1).take 2) : Int) := by omega
    have hnl : beN ((b.drop at1).take 2) < 65536 := by omega
    generalize beN ((b.drop at1).take 2) = n at hpR hn ws hnl
    repeat first | simp -implicitDefEqProofs (disch := first | omega | with_reducible assumption | (simp only [zU, zC]; omega)) only [zT, zA, reduceCtorEq, zB, zC, zD, zE, zF, zG, zH, zI, zJ, zK, zL, reduceIte, F45, h4, cellsOf_dRow, splice3, cutL3, stepOp_slV_v, q1, stepOp_b2s_v, hst, es', kg, e2, g2, e1, r0, r1, binV_shl, w0, ws] | refine OrW.go ?_
    have hS0 : StP m (mx m [.cells [.string ⟨#[]⟩, .slice none 0 0, .string ⟨#[]⟩] 24 true .exact, .cells [.string ⟨nm.toArray⟩, .slice none 0 0, .string ⟨#[]⟩] 24 true .exact]) ⟨nm, [], []⟩ (.slice none 0 0) :=
      ⟨Old.here _ _, by rw [mx_size]; simp, mx_new0 _ _, mx_new _ _ 1, fun x ⟨o, l, c, h⟩ => (by cases h), .inl ⟨rfl, rfl⟩⟩
    refine W_loop (fun N qs => ∃ (i : Nat) (M : AMem) (acc : List (List UInt8)) (av : Option Addr) (cv : Nat) (at2 : Nat), N = n - i ∧ qs.ds = [] ∧ qs.m = mx M [] ∧ qs.t 0 = .slice (some ⟨x, o, none⟩) b.length k ∧ qs.t 2 = .pointer (some ⟨m.size, 0, none⟩) ∧ qs.t 4 = .pointer (some ⟨m.size + 1, 0, none⟩) ∧ qs.t 6 = .int .i64 at2 ∧ qs.t 8 = .int .i64 n ∧ qs.t 9 = .int .i64 i ∧ i ≤ n ∧ StP m M ⟨nm, acc, []⟩ (.slice av acc.length cv) ∧ acc.length = i ∧ at2 ≤ b.length ∧ readIns n ⟨b.drop (at1 + 2), false⟩ = (acc ++ (readIns (n - i) ⟨b.drop at2, false⟩).1, (readIns (n - i) ⟨b.drop at2, false⟩).2)) (n - (0)) ⟨0, mx m [.cells [.string ⟨#[]⟩, .slice none 0 0, .string ⟨#[]⟩] 24 true .exact, .cells [.string ⟨nm.toArray⟩, .slice none 0 0, .string ⟨#[]⟩] 24 true .exact], [], none, 0, at1 + 2, rfl, rfl, ?qm, ?q0, ?q2, ?q4, ?q6, ?q8, ?q9, ?_⟩ ?_
    case qm | q0 | q2 | q4 | q6 | q8 | q9 => first | rfl | (simp -implicitDefEqProofs (disch := first | omega | with_reducible assumption | (simp only [zU, zC]; omega)) only [zT, zA, reduceCtorEq, zB, zC, zD, zE, zF, zG, zH, zI, zJ, zK, zL, reduceIte, mx_mx, List.append_nil]; first | done | rfl | (congr 1; omega))
    · exact ⟨by omega, hS0, rfl, by omega, rfl⟩
    · rintro N t m1 ds ⟨i, M, acc, av, cv, at2, rfl, hds, hm, t0, t2, t4, t6, t8, t9, hp⟩
      simp only at hds hm t0 t2 t4 t6 t8 t9
      subst hds; replace hm := hm.symm; subst hm
      obtain ⟨hi, hS, hal, ha2, hri⟩ := hp
      have hsb := hS.box; have hsa := hS.at_; have hsl := hS.lt
      simp only at hsa
      have kg2 := DetC.known (refGet_ok (mx M []) (some ⟨x, o, none⟩) k b (hb.old (hS.old.mx [])) hl at2 ha2)
      by_cases gi : (i : Int) < (n : Int)
      · rw [show n - i = (n - i - 1) + 1 by omega] at hri
        have hsx : readIns (n - i - 1 + 1) ⟨b.drop at2, false⟩ = ((textR ⟨b.drop at2, false⟩).1 :: (readIns (n - i - 1) (textR ⟨b.drop at2, false⟩).2).1, (readIns (n - i - 1) (textR ⟨b.drop at2, false⟩).2).2) := by simp [readIns]
        rw [hsx] at hri
        cases hb2 : (textR ⟨b.drop at2, false⟩).2.bad with
        | true =>
          have ev2 : getV b at2 = .tuple #[.string ⟨#[]⟩, .int .i64 0, .bool false] := if_pos hb2
          rw [ev2] at kg2
          have hg : getR b = (nilD, 150) := getR_bad (by rw [hpR, hri]; exact textR_stay _ (readIns_stay _ hb2 _))
          repeat first | simp -implicitDefEqProofs (disch := first | omega | with_reducible assumption | (simp only [zU, zC]; omega)) only [zT, zA, reduceCtorEq, zB, zC, zD, zE, zF, zG, zH, zI, zJ, zK, zL, reduceIte, F45_l0, t0, t2, t4, t6, t8, t9, gi, kg2, hsb, hsa, cellsOf_dRow, splice3, cutL3] | refine OrW.go ?_
          exact hfalse hS cv av rfl hg
        | false =>
          obtain ⟨u3, u4⟩ := textR_not ha2 hb2
          have ev2 : getV b at2 = .tuple #[.string ⟨(textR ⟨b.drop at2, false⟩).1.toArray⟩, .int .i64 ((at2 + 4 + (textR ⟨b.drop at2, false⟩).1.length : Nat) : Int), .bool true] := if_neg (by rw [hb2]; simp)
          rw [ev2] at kg2
          rw [u4] at hri
          generalize (textR ⟨b.drop at2, false⟩).1 = s at u3 hri kg2
          obtain ⟨a', k', M', happ, z1, z2, hS'⟩ := hS.app (by show acc.length ≤ _; omega) s
          simp only at happ z2 hS'
          rw [hsa] at z2
          repeat first | simp -implicitDefEqProofs (disch := first | omega | with_reducible assumption | (simp only [zU, zC]; omega)) only [zT, zA, reduceCtorEq, zB, zC, zD, zE, zF, zG, zH, zI, zJ, zK, zL, reduceIte, F45_l0, t0, t2, t4, t6, t8, t9, gi, kg2, hsb, hsa, cellsOf_dRow, splice3, cutL3, stepOp_app_v, happ, z2] | refine OrW.go ?_
          rw [LoopK_normal]; refine ⟨_, ?_, i + 1, M'.set (m.size + 1) (.cells [.string ⟨nm.toArray⟩, .slice a' (acc ++ [s]).length k', .string ⟨#[]⟩] 24 true .exact), acc ++ [s], a', k', at2 + 4 + s.length, rfl, rfl, ?qm, ?q0, ?q2, ?q4, ?q6, ?q8, ?q9, ?_⟩
          case qm | q0 | q2 | q4 | q6 | q8 | q9 => first | rfl | (simp -implicitDefEqProofs (disch := first | omega | with_reducible assumption | (simp only [zU, zC]; omega)) only [zT, zA, reduceCtorEq, zB, zC, zD, zE, zF, zG, zH, zI, zJ, zK, zL, reduceIte, t0, t2, t4, t6, t8, t9]; first | done | rfl | (congr 1; omega))
          · omega
          · refine ⟨by omega, hS', by simp; omega, u3, ?_⟩
            rw [hri, show n - (i + 1) = n - i - 1 by omega]; simp
      · obtain rfl : i = n := by omega
        rw [Nat.sub_self] at hri
        have hri : readIns i ⟨b.drop (at1 + 2), false⟩ = (acc, ⟨b.drop at2, false⟩) := by rw [hri]; simp [readIns]
        rw [hri] at hpR
        simp only at hpR
        cases hb2 : (textR ⟨b.drop at2, false⟩).2.bad with
        | true =>
          have ev2 : getV b at2 = .tuple #[.string ⟨#[]⟩, .int .i64 0, .bool false] := if_pos hb2
          rw [ev2] at kg2
          have hg : getR b = (nilD, 150) := getR_bad (by rw [hpR]; exact hb2)
          have hS' := hS.set ⟨nm, acc, []⟩ rfl
          repeat first | simp -implicitDefEqProofs (disch := first | omega | with_reducible assumption | (simp only [zU, zC]; omega)) only [zT, zA, reduceCtorEq, zB, zC, zD, zE, zF, zG, zH, zI, zJ, zK, zL, reduceIte, F45_l0, t0, t2, t4, t6, t8, t9, gi, kg2, hsb, hsa, cellsOf_dRow, splice3, cutL3, undef] | refine OrW.go ?_
          exact hfalse hS' cv av rfl hg
        | false =>
          obtain ⟨u3, u4⟩ := textR_not ha2 hb2
          have ev2 : getV b at2 = .tuple #[.string ⟨(textR ⟨b.drop at2, false⟩).1.toArray⟩, .int .i64 ((at2 + 4 + (textR ⟨b.drop at2, false⟩).1.length : Nat) : Int), .bool true] := if_neg (by rw [hb2]; simp)
          rw [ev2] at kg2
          rw [u4] at hpR
          generalize (textR ⟨b.drop at2, false⟩).1 = s at u3 hpR kg2
          have hS' := hS.set ⟨nm, acc, s⟩ rfl
          by_cases ge : ((at2 + 4 + s.length : Nat) : Int) = (b.length : Int)
          · have hc : (b.drop (at2 + 4 + s.length)).length = 0 := by rw [List.length_drop]; omega
            have hil := readIns_len i ⟨b.drop (at1 + 2), false⟩
            rw [hri] at hil
            simp only [List.length_drop] at hil
            have hdok : (⟨nm, acc, s⟩ : DrvR).ok := ⟨by show nm.length ≤ _; omega, fun x hx => by have := hil.2.2 x hx; omega, by show acc.length ≤ _; omega, by show s.length ≤ _; omega⟩
            have k17 := DetC.known (refRight_ok (mx (M.set (m.size + 1) (.cells [.string ⟨nm.toArray⟩, .slice av acc.length cv, .string ⟨s.toArray⟩] 24 true .exact)) []) ⟨nm, acc, s⟩ av cv hdok (hS'.strs.row.old (Old.here _ [])))
            simp only [dRow] at k17
            cases hrr : rightR ⟨nm, acc, s⟩ with
            | true =>
              rw [hrr] at k17
              have hg : getR b = (⟨nm, acc, s⟩, 0) := by rw [hg0, hpR]; simp only [hrr, hc]; rfl
              repeat first | simp -implicitDefEqProofs (disch := first | omega | with_reducible assumption | (simp only [zU, zC]; omega)) only [zT, zA, reduceCtorEq, zB, zC, zD, zE, zF, zG, zH, zI, zJ, zK, zL, reduceIte, F45_l0, t0, t2, t4, t6, t8, t9, gi, kg2, hsb, hsa, cellsOf_dRow, splice3, cutL3, ge, k17] | refine OrW.go ?_
              exact ⟨_, rfl, fun _ => ⟨(hS'.old.set (Nat.le_refl _) _).mx [], ⟨nm, acc, s⟩, av, cv, true, rfl, ((hS'.strs.keep ((Keep.refl (fun x => x = m.size) _).set (fun _ => rfl) _) fun x hx e => by have := hS'.own x hx; omega).old (Old.here _ [])).row, (fun x o q e => (by
                subst e
                rcases hS'.strs with ⟨_, e⟩ | ⟨b', e, _⟩
                · cases e
                · cases e; have := hS'.own x ⟨_, _, _, rfl⟩; omega)), hg⟩⟩
            | false =>
              rw [hrr] at k17
              have hg : getR b = (nilD, 150) := by rw [hg0, hpR]; simp only [hrr]; simp
              repeat first | simp -implicitDefEqProofs (disch := first | omega | with_reducible assumption | (simp only [zU, zC]; omega)) only [zT, zA, reduceCtorEq, zB, zC, zD, zE, zF, zG, zH, zI, zJ, zK, zL, reduceIte, F45_l0, t0, t2, t4, t6, t8, t9, gi, kg2, hsb, hsa, cellsOf_dRow, splice3, cutL3, ge, k17] | refine OrW.go ?_
              exact hfalse hS' cv av rfl hg
          · have hc : ¬ (b.drop (at2 + 4 + s.length)).length = 0 := by rw [List.length_drop]; omega
            have hg : getR b = (nilD, 150) := by rw [hg0, hpR]; simp only [hc]; simp
            repeat first | simp -implicitDefEqProofs (disch := first | omega | with_reducible assumption | (simp only [zU, zC]; omega)) only [zT, zA, reduceCtorEq, zB, zC, zD, zE, zF, zG, zH, zI, zJ, zK, zL, reduceIte, F45_l0, t0, t2, t4, t6, t8, t9, gi, kg2, hsb, hsa, cellsOf_dRow, splice3, cutL3, ge, undef] | refine OrW.go ?_
            exact hfalse hS' cv av rfl hg
end Go.Proofs.YtgkmlbkocgjmmaaDoor
namespace Go.Proofs.YtgkmlbkocgjmmaaDoor
open Go Go.AM
set_option linter.unusedVariables false
set_option linter.unusedSimpArgs false
set_option maxHeartbeats 2000000
set_option maxRecDepth 100000

theorem refGetD_ok (m : AMem) (a : Option Addr) (k : Nat) (b : List UInt8) (hb : BSl m a k b) (hl : b.length ≤ 100000) :
    RelC Tryd.prog 3 19 [.slice a b.length k] m fun r m' => Old m m' ∧ ∃ a' k', r = .tuple #[.agg (dRow (getR b).1 a' k').toArray, .int .i64 (getR b).2] ∧ StrR m' a' (getR b).1.inputs := by
  refine rel_of_W (fn := Tryd.f19) rfl rfl F19_ok (by simp [F19]) ?_
  have hp := parts_ok (mx m [.cells [.string ⟨#[]⟩, .slice none 0 0, .string ⟨#[]⟩] 24 true .exact]) a k b (hb.old (Old.here _ _)) hl
  repeat first | simp -implicitDefEqProofs (disch := first | omega | with_reducible assumption | (simp only [zU, zC]; omega)) only [zT, zA, reduceCtorEq, zB, zC, zD, zE, zF, zG, zH, zI, zJ, zK, zL, reduceIte, F19] | refine OrW.go ?_
  refine RelC.call hp ?_
  rintro r M1 ⟨hO, d, da, dc, ok, rfl, hS, hap, hg⟩
  have hOm : Old m M1 := (Old.here m _).trans hO
  have hz := hO.1
  rw [mx_size] at hz
  simp only [List.length_cons, List.length_nil, Nat.zero_add] at hz
  have hbx : M1.get m.size = .cells [.string ⟨#[]⟩, .slice none 0 0, .string ⟨#[]⟩] 24 true .exact := by rw [hO.2 _ (by rw [mx_size]; simp)]; exact mx_new0 _ _
  cases ok with
  | false =>
    simp only [Bool.false_eq_true, if_false] at hg
    rw [hg]
    repeat first | simp -implicitDefEqProofs (disch := first | omega | with_reducible assumption | (simp only [zU, zC]; omega)) only [zT, zA, reduceCtorEq, zB, zC, zD, zE, zF, zG, zH, zI, zJ, zK, zL, reduceIte, dRow, cellsOf_dRow, splice3, cutL3, hbx] | refine OrW.go ?_
    exact ⟨_, rfl, fun _ => ⟨(hOm.set (Nat.le_refl _) _).mx _, none, 0, rfl, fun i hi => by simp [nilD] at hi⟩⟩
  | true =>
    simp only [if_true] at hg
    rw [hg]
    have hS2 : StrR (M1.set m.size (.cells (dRow d da dc) 24 true .exact)) da d.inputs := fun i hi => by
      obtain ⟨b', o', e1, e2, e3⟩ := hS i hi
      have hne : b' ≠ m.size := by
        have := hap _ _ _ e1
        rw [mx_size] at this
        simp only [List.length_cons, List.length_nil] at this
        omega
      exact ⟨b', o', e1, by rw [AMem.size_set]; exact e2, by rw [AMem.get_set_ne _ _ hne]; exact e3⟩
    repeat first | simp -implicitDefEqProofs (disch := first | omega | with_reducible assumption | (simp only [zU, zC]; omega)) only [zT, zA, reduceCtorEq, zB, zC, zD, zE, zF, zG, zH, zI, zJ, zK, zL, reduceIte, dRow, cellsOf_dRow, splice3, cutL3, hbx] | refine OrW.go ?_
    exact ⟨_, rfl, fun _ => ⟨(hOm.set (Nat.le_refl _) _).mx _, da, dc, rfl, hS2.old (Old.here _ _)⟩⟩
theorem sameTexts_ok (m : AMem) (a1 : Option Addr) (c1 : Nat) (a2 : Option Addr) (c2 : Nat) (l : List (List UInt8)) (h1 : StrR m a1 l) (h2 : StrR m a2 l) (hl : l.length ≤ 9223372036854775807) :
    PureC Tryd.prog 3 46 [.slice a1 l.length c1, .slice a2 l.length c2] m (.bool true) := by
  refine pure_of_W (fn := Tryd.f46) rfl rfl F46_ok (by simp [F46]) (.bool _) ?_
  repeat first | simp -implicitDefEqProofs (disch := first | omega | with_reducible assumption | (simp only [zU, zC]; omega)) only [zT, zA, reduceCtorEq, zB, zC, zD, zE, zF, zG, zH, zI, zJ, zK, zL, reduceIte, F46] | refine OrW.go ?_
  refine W_loop (fun N qs => ∃ (i : Nat), N = l.length - i ∧ qs.ds = [] ∧ qs.m = mx m [] ∧ qs.t 0 = .slice a1 l.length c1 ∧ qs.t 1 = .slice a2 l.length c2 ∧ qs.t 5 = .int .i64 i ∧ i ≤ l.length) (l.length - (0)) ⟨0, rfl, rfl, ?qm, ?q0, ?q1, ?q5, ?_⟩ ?_
  case qm | q0 | q1 | q5 => first | rfl | (simp -implicitDefEqProofs (disch := first | omega | with_reducible assumption | (simp only [zU, zC]; omega)) only [zT, zA, reduceCtorEq, zB, zC, zD, zE, zF, zG, zH, zI, zJ, zK, zL, reduceIte]; first | done | rfl | (congr 1; omega))
  · omega
  · rintro N t m1 ds ⟨i, rfl, hds, hm, t0, t1, t5, hp⟩
    simp only at hds hm t0 t1 t5
    subst hds; replace hm := hm.symm; subst hm
    by_cases g : (i : Int) < (l.length : Int)
    · have hi : i < l.length := by omega
      obtain ⟨b1, o1, rfl, hb1, r1⟩ := h1 i hi
      obtain ⟨b2, o2, rfl, hb2, r2⟩ := h2 i hi
      repeat first | simp -implicitDefEqProofs (disch := first | omega | with_reducible assumption | (simp only [zU, zC]; omega)) only [zT, zA, reduceCtorEq, zB, zC, zD, zE, zF, zG, zH, zI, zJ, zK, zL, reduceIte, F46_l0, t0, t1, t5, g, r1, r2] | refine OrW.go ?_
      rw [LoopK_normal]; refine ⟨_, ?_, i + 1, rfl, rfl, ?qm, ?q0, ?q1, ?q5, ?_⟩
      case qm | q0 | q1 | q5 => first | rfl | (simp -implicitDefEqProofs (disch := first | omega | with_reducible assumption | (simp only [zU, zC]; omega)) only [zT, zA, reduceCtorEq, zB, zC, zD, zE, zF, zG, zH, zI, zJ, zK, zL, reduceIte, t0, t1, t5]; first | done | rfl | (congr 1; omega))
      · omega
      · omega
    · repeat first | simp -implicitDefEqProofs (disch := first | omega | with_reducible assumption | (simp only [zU, zC]; omega)) only [zT, zA, reduceCtorEq, zB, zC, zD, zE, zF, zG, zH, zI, zJ, zK, zL, reduceIte, F46_l0, t0, t1, t5, g] | refine OrW.go ?_
theorem same_ok (m : AMem) (d : DrvR) (a1 : Option Addr) (c1 : Nat) (a2 : Option Addr) (c2 : Nat) (h1 : StrR m a1 d.inputs) (h2 : StrR m a2 d.inputs) (hl : d.inputs.length ≤ 9223372036854775807) :
    PureC Tryd.prog 3 20 [.agg (dRow d a1 c1).toArray, .agg (dRow d a2 c2).toArray] m (.bool true) := by
  refine pure_of_W (fn := Tryd.f20) rfl rfl F20_ok (by simp [F20]) (.bool _) ?_
  have k := DetC.known (sameTexts_ok (mx m [.cells (dRow d a1 c1) 24 true .exact, .cells (dRow d a2 c2) 24 true .exact]) a1 c1 a2 c2 d.inputs (h1.old (Old.here _ _)) (h2.old (Old.here _ _)) hl)
  simp only [dRow] at k
  repeat first | simp -implicitDefEqProofs (disch := first | omega | with_reducible assumption | (simp only [zU, zC]; omega)) only [zT, zA, reduceCtorEq, zB, zC, zD, zE, zF, zG, zH, zI, zJ, zK, zL, reduceIte, F20, dRow, cellsOf_dRow, k] | refine OrW.go ?_
end Go.Proofs.YtgkmlbkocgjmmaaDoor
namespace Go.Proofs.YtgkmlbkocgjmmaaDoor
open Go Go.AM
set_option linter.unusedVariables false
set_option linter.unusedSimpArgs false
set_option maxHeartbeats 2000000
set_option maxRecDepth 100000

theorem BSl.room {M : AMem} {b : Nat} {c : List UInt8} {e : TypeId} {w : Bool} (hb : b < M.size) (hm : M.get b = .cells (c.map byteV) e w (.room [.int .u8 0])) : BSl M (some ⟨b, 0, none⟩) openCap c :=
  .inr ⟨b, 0, _, e, w, _, rfl, hb, hm, by rw [← List.length_map (f := byteV)]; exact cutL_all rfl, .inl ⟨rfl, rfl⟩⟩
theorem getR_len (b : List UInt8) (hl : b.length ≤ 100000) : (getR b).1.inputs.length ≤ 100000 := by
  unfold getR
  split
  · split
    · rename_i h
      simp only [Bool.and_eq_true] at h
      have := (right_few h.2).2.1
      show (partsR _).1.inputs.length ≤ _; omega
    · simp [nilD]
  · simp [nilD]
theorem StrR.apart {M M' : AMem} {a : Option Addr} {l : List (List UInt8)} (h : StrR M a l) {p : Nat} {X : List Value} {e : TypeId} {w : Bool} {sp : Spare} (hp : M.get p = .cells X e w sp) (hX : ∀ v ∈ X, ∃ n, v = .int .u8 n) (hs : M.size ≤ M'.size) (hk : ∀ y, y < M.size → y ≠ p → M'.get y = M.get y) : StrR M' a l := fun i hi => by
  obtain ⟨b, o, h1, h2, h3⟩ := h i hi
  refine ⟨b, o, h1, Nat.lt_of_lt_of_le h2 hs, ?_⟩
  rw [hk b h2]
  · exact h3
  · rintro rfl
    rw [hp, rdO_cells] at h3
    unfold cutL at h3
    split at h3
    · have h4 := Option.some.inj h3
      have : Value.string ⟨l[i].toArray⟩ ∈ X := List.drop_subset _ _ (List.take_subset 1 _ (by rw [h4]; simp))
      obtain ⟨n, hn⟩ := hX _ this
      cases hn
    · cases h3
theorem lawGet (m : AMem) (hg : S.Glob m) (a : Option Addr) (k : Nat) (b : List UInt8) (hb : BSl m a k b) (hbl : b.length ≤ 9223372036854775807) :
    PureC Tryd.prog 3 4 [.slice a b.length k] m (.bool true) := by
  refine pure_of_W (fn := Tryd.f4) rfl rfl F4_ok (by simp [F4]) (.bool _) ?_
  have kw := kWorks hg []
  by_cases h : (3000 : Int) < (b.length : Int)
  · repeat first | simp -implicitDefEqProofs (disch := first | omega | with_reducible assumption | (simp only [zU, zC]; omega)) only [zT, zA, reduceCtorEq, zB, zC, zD, zE, zF, zG, zH, zI, zJ, zK, zL, reduceIte, F4, h, kw] | refine OrW.go ?_
  have hl : b.length ≤ 3000 := by omega
  have s0 := (hb.old (Old.here m [])).str
  have hown0 : BSl (mx m [.cells (b.map byteV) 5 true (.room [.int .u8 0])]) (some ⟨m.size, 0, none⟩) openCap b := BSl.room (by rw [mx_size]; simp) (mx_new0 _ _)
  have hG := get_ok (mx m [.cells (b.map byteV) 5 true (.room [.int .u8 0])]) _ _ b hown0 (by omega)
  repeat first | simp -implicitDefEqProofs (disch := first | omega | with_reducible assumption | (simp only [zU, zC]; omega)) only [zT, zA, reduceCtorEq, zB, zC, zD, zE, zF, zG, zH, zI, zJ, zK, zL, reduceIte, F4, h, stepOp_b2s_v, s0] | refine OrW.go ?_
  refine RelC.call hG ?_
  rintro r M1 ⟨hO1, a1, k1, rfl, hS1⟩
  have hz1 := hO1.1
  rw [mx_size] at hz1
  simp only [List.length_cons, List.length_nil, Nat.zero_add] at hz1
  have hOm1 : Old m M1 := (Old.here m _).trans hO1
  have hp1 : M1.get m.size = .cells (b.map byteV) 5 true (.room [.int .u8 0]) := by rw [hO1.2 _ (by rw [mx_size]; simp)]; exact mx_new0 _ _
  have hgl := getR_len b (by omega)
  have hG2 := refGetD_ok (mx M1 [.cells (dRow (getR b).1 a1 k1) 24 true .exact]) a k b (hb.old (hOm1.mx _)) (by omega)
  simp only [dRow] at hG2
  repeat first | simp -implicitDefEqProofs (disch := first | omega | with_reducible assumption | (simp only [zU, zC]; omega)) only [zT, zA, reduceCtorEq, zB, zC, zD, zE, zF, zG, zH, zI, zJ, zK, zL, reduceIte, dRow, cellsOf_dRow, splice3, cutL3] | refine OrW.go ?_
  refine RelC.call hG2 ?_
  rintro r M2 ⟨hO2, a2, k2, rfl, hS2⟩
  have hz2 := hO2.1
  rw [mx_size] at hz2
  simp only [List.length_cons, List.length_nil, Nat.zero_add] at hz2
  have hO12 : Old M1 M2 := (Old.here M1 _).trans hO2
  have hp2 : M2.get m.size = .cells (b.map byteV) 5 true (.room [.int .u8 0]) := by rw [hO12.2 _ (by omega)]; exact hp1
  have hc2 : M2.get M1.size = .cells (dRow (getR b).1 a1 k1) 24 true .exact := by rw [hO2.2 _ (by rw [mx_size]; simp)]; exact mx_new0 _ _
  have hS12 := hS1.old hO12
  generalize getR b = R at *
  obtain ⟨d, e⟩ := R
  simp only at hc2 hS12 hS1 hS2 hgl
  have ks := DetC.known (same_ok (mx M2 [.cells (dRow d a2 k2) 24 true .exact]) d a1 k1 a2 k2 (hS12.old (Old.here _ _)) (hS2.old (Old.here _ _)) (by omega))
  have hown2 : BSl (mx M2 [.cells (dRow d a2 k2) 24 true .exact]) (some ⟨m.size, 0, none⟩) openCap b := (BSl.room (by omega) hp2).old (Old.here _ _)
  have s1 := hown2.str
  have s2 := (hb.old ((hOm1.trans hO12).mx [.cells (dRow d a2 k2) 24 true .exact])).str
  simp only [dRow] at ks s1 s2 hc2
  repeat first | simp -implicitDefEqProofs (disch := first | omega | with_reducible assumption | (simp only [zU, zC]; omega)) only [zT, zA, reduceCtorEq, zB, zC, zD, zE, zF, zG, zH, zI, zJ, zK, zL, reduceIte, dRow, cellsOf_dRow, splice3, cutL3, hc2, ks, stepOp_b2s_v, s1, s2] | refine OrW.go ?_
  refine W_loop (fun N qs => ∃ (i : Nat) (M : AMem) (X : List Value), N = b.length - i ∧ qs.ds = [] ∧ qs.m = mx M [] ∧ qs.t 3 = .slice (some ⟨m.size, 0, none⟩) b.length openCap ∧ qs.t 4 = .pointer (some ⟨M1.size, 0, none⟩) ∧ qs.t 6 = .pointer (some ⟨M2.size, 0, none⟩) ∧ qs.t 8 = .int .i64 i ∧ i ≤ b.length ∧ X.length = b.length ∧ (∀ v ∈ X, ∃ n, v = .int .u8 n) ∧ M.size = M2.size + 1 ∧ M.get m.size = .cells X 5 true (.room [.int .u8 0]) ∧ ∀ y, y ≠ m.size → M.get y = (mx M2 [.cells [.string ⟨d.name.toArray⟩, .slice a2 d.inputs.length k2, .string ⟨d.recipe.toArray⟩] 24 true .exact]).get y) (b.length - (0)) ⟨0, mx M2 [.cells [.string ⟨d.name.toArray⟩, .slice a2 d.inputs.length k2, .string ⟨d.recipe.toArray⟩] 24 true .exact], b.map byteV, rfl, rfl, ?qm, ?q3, ?q4, ?q6, ?q8, ?_⟩ ?_
  case qm | q3 | q4 | q6 | q8 => first | rfl | (simp -implicitDefEqProofs (disch := first | omega | with_reducible assumption | (simp only [zU, zC]; omega)) only [zT, zA, reduceCtorEq, zB, zC, zD, zE, zF, zG, zH, zI, zJ, zK, zL, reduceIte, mx_mx, List.append_nil]; first | done | rfl | (congr 1; omega))
  · refine ⟨by omega, by simp, fun v hv => ?_, by rw [mx_size]; rfl, by rw [mx_old (by omega)]; exact hp2, fun y _ => rfl⟩
    simp only [List.mem_map] at hv; obtain ⟨y, _, rfl⟩ := hv; exact ⟨_, rfl⟩
  · rintro N t m1 ds ⟨i, M, X, rfl, hds, hm, t3, t4, t6, t8, hp⟩
    simp only at hds hm t3 t4 t6 t8
    subst hds; replace hm := hm.symm; subst hm
    obtain ⟨hi, hXl, hX, hMs, hMp, hMk⟩ := hp
    by_cases g : (i : Int) < (b.length : Int)
    · have hi' : i < X.length := by omega
      obtain ⟨n, hn⟩ := hX _ (List.getElem_mem hi')
      have hc : cutL X i 1 = some [.int .u8 n] := cut_one (by rw [List.getElem?_eq_getElem hi', hn])
      have hpl : m.size < M.size := by omega
      repeat first | simp -implicitDefEqProofs (disch := first | omega | with_reducible assumption | (simp only [zU, zC]; omega)) only [zT, zA, reduceCtorEq, zB, zC, zD, zE, zF, zG, zH, zI, zJ, zK, zL, reduceIte, F4_l0, t3, t4, t6, t8, g, hMp, hc] | refine OrW.go ?_
      rw [LoopK_normal]; refine ⟨_, ?_, i + 1, M.set m.size (.cells (X.set i (.int .u8 (IntKind.u8.wrap (n + 1)))) 5 true (.room [.int .u8 0])), X.set i (.int .u8 (IntKind.u8.wrap (n + 1))), rfl, rfl, ?qm, ?q3, ?q4, ?q6, ?q8, ?_⟩
      case qm | q3 | q4 | q6 | q8 => first | rfl | (simp -implicitDefEqProofs (disch := first | omega | with_reducible assumption | (simp only [zU, zC]; omega)) only [zT, zA, reduceCtorEq, zB, zC, zD, zE, zF, zG, zH, zI, zJ, zK, zL, reduceIte, t3, t4, t6, t8]; first | done | rfl | (congr 1; omega))
      · omega
      · refine ⟨by omega, by rw [List.length_set]; exact hXl, fun v hv => ?_, hMs, AMem.get_set_self _ _ _, fun y hy => by rw [AMem.get_set_ne _ _ hy]; exact hMk y hy⟩
        rcases List.mem_or_eq_of_mem_set hv with h | rfl
        · exact hX v h
        · exact ⟨_, rfl⟩
    · have h1 : M.get M1.size = .cells [.string ⟨d.name.toArray⟩, .slice a1 d.inputs.length k1, .string ⟨d.recipe.toArray⟩] 24 true .exact := by rw [hMk _ (by omega), mx_old (by omega)]; exact hc2
      have h2 : M.get M2.size = .cells [.string ⟨d.name.toArray⟩, .slice a2 d.inputs.length k2, .string ⟨d.recipe.toArray⟩] 24 true .exact := by rw [hMk _ (by omega)]; exact mx_new0 _ _
      have hbyte : ∀ v ∈ b.map byteV, ∃ n, v = .int .u8 n := fun v hv => by simp only [List.mem_map] at hv; obtain ⟨y, _, rfl⟩ := hv; exact ⟨_, rfl⟩
      have hk2 : ∀ y, y < M2.size → y ≠ m.size → M.get y = M2.get y := fun y hy hne => by rw [hMk y hne, mx_old hy]
      have q1 : StrR M a1 d.inputs := hS12.apart hp2 hbyte (by omega) hk2
      have q2 : StrR M a2 d.inputs := hS2.apart hp2 hbyte (by omega) hk2
      have kl := DetC.known (same_ok (mx M []) d a1 k1 a2 k2 (q1.old (Old.here _ _)) (q2.old (Old.here _ _)) (by omega))
      have hOM : Old m M := ⟨by omega, fun y hy => by rw [hk2 y (by omega) (by omega)]; exact (hOm1.trans hO12).2 y hy⟩
      have kw2 := kWorks (hg.old hOM) []
      have z1 : M1.size < M.size := by omega
      have z2 : M2.size < M.size := by omega
      simp only [dRow] at kl
      repeat first | simp -implicitDefEqProofs (disch := first | omega | with_reducible assumption | (simp only [zU, zC]; omega)) only [zT, zA, reduceCtorEq, zB, zC, zD, zE, zF, zG, zH, zI, zJ, zK, zL, reduceIte, F4_l0, t3, t4, t6, t8, g, h1, h2, cutL3, kl, kw2] | refine OrW.go ?_
      exact hOM.mx []
end Go.Proofs.YtgkmlbkocgjmmaaDoor
namespace Go.Proofs.YtgkmlbkocgjmmaaDoor.S
open Go Go.AM
set_option maxRecDepth 100000
set_option linter.unusedVariables false
set_option linter.unusedSimpArgs false

theorem kR_all (k : Nat) (h1 : 1 ≤ k) (h2 : k ≤ 31) (m : AMem) (x : UInt32) : Known Tryd.prog 3 81 [.int .i64 (k : Int), w32 x] m (w32 (rotr k x)) m := DetC.known (r_ok m x k h1 h2)
theorem kR17 {m : AMem} {x : UInt32} : Known Tryd.prog 3 81 [.int .i64 17, w32 x] m (w32 (rotr 17 x)) m := kR_all 17 (by omega) (by omega) m x
theorem kR19 {m : AMem} {x : UInt32} : Known Tryd.prog 3 81 [.int .i64 19, w32 x] m (w32 (rotr 19 x)) m := kR_all 19 (by omega) (by omega) m x
theorem kR7 {m : AMem} {x : UInt32} : Known Tryd.prog 3 81 [.int .i64 7, w32 x] m (w32 (rotr 7 x)) m := kR_all 7 (by omega) (by omega) m x
theorem kR18 {m : AMem} {x : UInt32} : Known Tryd.prog 3 81 [.int .i64 18, w32 x] m (w32 (rotr 18 x)) m := kR_all 18 (by omega) (by omega) m x
theorem kR6 {m : AMem} {x : UInt32} : Known Tryd.prog 3 81 [.int .i64 6, w32 x] m (w32 (rotr 6 x)) m := kR_all 6 (by omega) (by omega) m x
theorem kR11 {m : AMem} {x : UInt32} : Known Tryd.prog 3 81 [.int .i64 11, w32 x] m (w32 (rotr 11 x)) m := kR_all 11 (by omega) (by omega) m x
theorem kR25 {m : AMem} {x : UInt32} : Known Tryd.prog 3 81 [.int .i64 25, w32 x] m (w32 (rotr 25 x)) m := kR_all 25 (by omega) (by omega) m x
theorem kR2 {m : AMem} {x : UInt32} : Known Tryd.prog 3 81 [.int .i64 2, w32 x] m (w32 (rotr 2 x)) m := kR_all 2 (by omega) (by omega) m x
theorem kR13 {m : AMem} {x : UInt32} : Known Tryd.prog 3 81 [.int .i64 13, w32 x] m (w32 (rotr 13 x)) m := kR_all 13 (by omega) (by omega) m x
theorem kR22 {m : AMem} {x : UInt32} : Known Tryd.prog 3 81 [.int .i64 22, w32 x] m (w32 (rotr 22 x)) m := kR_all 22 (by omega) (by omega) m x
theorem shl24 {k : IntKind} {x : UInt32} : binV .shl (w32 x) (.int k 24) = some (w32 (shlW x 24)) := binV_shlw (b := 24) (by omega)
theorem shl16 {k : IntKind} {x : UInt32} : binV .shl (w32 x) (.int k 16) = some (w32 (shlW x 16)) := binV_shlw (b := 16) (by omega)
theorem shl8 {k : IntKind} {x : UInt32} : binV .shl (w32 x) (.int k 8) = some (w32 (shlW x 8)) := binV_shlw (b := 8) (by omega)
theorem shr10 {k : IntKind} {x : UInt32} : binV .shr (w32 x) (.int k 10) = some (w32 (shrW x 10)) := binV_shrw (b := 10) (by omega)
theorem shr3 {k : IntKind} {x : UInt32} : binV .shr (w32 x) (.int k 3) = some (w32 (shrW x 3)) := binV_shrw (b := 3) (by omega)
theorem fill_w {z : List Value} {o : Nat} {r : List (Nat × Nat × Value)} {x : UInt32} (h : o < z.length) : fill z ((o, 1, w32 x) :: r) = fill (z.set o (w32 x)) r := fill_one rfl h

theorem step4 (x : UInt32) (c : UInt8) : (shlW x 8 ||| UInt32.ofNat c.toNat).toNat = (x.toNat * 256 + c.toNat) % 2 ^ 32 := by
  have hc := c.toNat_lt
  have hx := x.toNat_lt
  rw [UInt32.toNat_or]
  have h1 : (shlW x 8).toNat = 2 ^ 8 * (x.toNat % 2 ^ 24) := by
    simp only [shlW, UInt32.toNat_ofNat, Nat.shiftLeft_eq]
    simp; omega
  have h2 : (UInt32.ofNat c.toNat).toNat = c.toNat := by simp
  rw [h1, h2, ← Nat.two_pow_add_eq_or_of_lt (by omega)]
  omega
theorem word4_sum (a b c d : UInt8) : word4 [a, b, c, d] = shlW (UInt32.ofNat a.toNat) 24 + shlW (UInt32.ofNat b.toNat) 16 + shlW (UInt32.ofNat c.toNat) 8 + UInt32.ofNat d.toNat := by
  apply UInt32.toNat_inj.1
  have ha := a.toNat_lt; have hb := b.toNat_lt; have hc := c.toNat_lt; have hd := d.toNat_lt
  have hs : ∀ (x : UInt8) (k : Nat), (shlW (UInt32.ofNat x.toNat) k).toNat = x.toNat * 2 ^ k % 2 ^ 32 := fun x k => by
    have := x.toNat_lt
    simp [shlW, Nat.shiftLeft_eq, Nat.mod_eq_of_lt (show x.toNat < 4294967296 by omega)]
  have h2 : (UInt32.ofNat d.toNat).toNat = d.toNat := by simp
  simp only [word4, List.foldl_cons, List.foldl_nil, step4, UInt32.toNat_add, hs, h2]
  simp; omega

theorem schedule_ok (m : AMem) (b o cap : Nat) (c : List UInt8) (X : List Value) (e : TypeId) (w : Bool) (sp : Spare) (hb : b < m.size) (hm : m.get b = .cells X e w sp) (h64 : c.length = 64) (hX : ∀ i (h : i < c.length), X[o + i]? = some (byteV c[i])) :
    DetC Tryd.prog 3 80 [.slice (some ⟨b, o, none⟩) 64 cap] m (.slice (some ⟨m.size, 0, none⟩) 64 openCap) (mx m [.cells ((sched c 64).map w32) 91 true (.room [.int .u32 0])]) := by
  refine det_of_W (fn := Tryd.f80) rfl rfl F80_ok (by simp [F80]) ?_
  have hlen : ∀ j, ((sched c j).map w32).length = j := fun j => by rw [List.length_map, sched_length]
  simp -implicitDefEqProofs (disch := first | omega | with_reducible assumption | (simp only [zU, zC]; omega)) only [zT, zA, reduceCtorEq, zB, zC, zD, zE, zF, zG, zH, zI, zJ, zK, zL, reduceIte, F80]
  refine W_loop (fun N qs => ∃ (i : Nat) (M : AMem) (av : Option Addr) (cv : Nat), N = 16 - i ∧ qs.ds = [] ∧ qs.m = mx M [] ∧ qs.t 0 = .slice (some ⟨b, o, none⟩) 64 cap ∧ qs.t 3 = .slice av i cv ∧ qs.t 4 = .int .i64 i ∧ i ≤ 16 ∧ Old m M ∧ Buf m M (.slice av i cv) ((sched c i).map w32) 91 (.int .u32 0)) (16 - (0)) ⟨0, mx m [], none, 0, rfl, rfl, ?qm, ?q0, ?q3, ?q4, ?_⟩ ?_
  case qm | q0 | q3 | q4 => first | rfl | (simp -implicitDefEqProofs (disch := first | omega | with_reducible assumption | (simp only [zU, zC]; omega)) only [zT, zA, reduceCtorEq, zB, zC, zD, zE, zF, zG, zH, zI, zJ, zK, zL, reduceIte]; first | done | rfl | (congr 1; omega))
  · exact ⟨by omega, Old.here _ _, .inl ⟨rfl, rfl⟩⟩
  · rintro N t m1 ds ⟨i, M, av, cv, rfl, hds, hm, t0, t3, t4, hp⟩
    simp only at hds hm t0 t3 t4
    subst hds; replace hm := hm.symm; subst hm
    obtain ⟨hi16, hO, hB⟩ := hp
    by_cases hi : (i : Int) < 16
    · have e0 : (4 : Int) * (i : Int) = ((4 * i : Nat) : Int) := by omega
      have e1 : ((4 * i : Nat) : Int) + 1 = ((4 * i + 1 : Nat) : Int) := by omega
      have e2 : ((4 * i : Nat) : Int) + 2 = ((4 * i + 2 : Nat) : Int) := by omega
      have e3 : ((4 * i : Nat) : Int) + 3 = ((4 * i + 3 : Nat) : Int) := by omega
      have hMb : M.get b = .cells X e w sp := by rw [hO.2 b hb]; exact hm
      have hbM : b < M.size := Nat.lt_of_lt_of_le hb hO.1
      have x0 := hX (4 * i) (by omega)
      have x1 := hX (4 * i + 1) (by omega)
      have x2 := hX (4 * i + 2) (by omega)
      have x3 := hX (4 * i + 3) (by omega)
      generalize hc0 : c[4 * i]'(by omega) = c0 at x0
      generalize hc1 : c[4 * i + 1]'(by omega) = c1 at x1
      generalize hc2 : c[4 * i + 2]'(by omega) = c2 at x2
      generalize hc3 : c[4 * i + 3]'(by omega) = c3 at x3
      have l0 := c0.toNat_lt; have l1 := c1.toNat_lt; have l2 := c2.toNat_lt; have l3 := c3.toNat_lt
      have hw : wordAt c (sched c i) i = shlW (UInt32.ofNat c0.toNat) 24 + shlW (UInt32.ofNat c1.toNat) 16 + shlW (UInt32.ofNat c2.toNat) 8 + UInt32.ofNat c3.toNat := by
        unfold wordAt; rw [if_pos (by omega), ← word4_sum]
        congr 1
        rw [List.drop_eq_getElem_cons (show 4 * i < c.length by omega), List.drop_eq_getElem_cons (show 4 * i + 1 < c.length by omega), List.drop_eq_getElem_cons (show 4 * i + 1 + 1 < c.length by omega), List.drop_eq_getElem_cons (show 4 * i + 1 + 1 + 1 < c.length by omega)]
        simp only [List.take_succ_cons, List.take_zero, hc0, hc1, hc2, hc3]
      obtain ⟨v', M', happ, hB', hF⟩ := hB.app1 (e2 := 91) (x := w32 (wordAt c (sched c i) i)) (bytes := 4) hO.1 rfl rfl (by rw [hlen]; omega) (by rw [hlen]; omega)
      have hO' := hO.fr hF hB.new
      have hnx : (sched c i).map w32 ++ [w32 (wordAt c (sched c i) i)] = (sched c (i + 1)).map w32 := by simp [sched]
      rw [hnx] at hB'
      obtain ⟨av', cv', rfl⟩ := hB'.len
      rw [hlen] at happ hB'
      rw [hw] at happ
      simp -implicitDefEqProofs (disch := first | omega | with_reducible assumption | (simp only [zU, zC]; omega)) only [zT, zA, reduceCtorEq, zB, zC, zD, zE, zF, zG, zH, zI, zJ, zK, zL, reduceIte, F80_l0, t0, t3, t4, hi, e0, e1, e2, e3, hMb, x0, x1, x2, x3, byteV_def, w32_of_byte, shl24, shl16, shl8, amW, fill_w, stepOp_app_v, happ]
      rw [LoopK_normal]; refine ⟨_, ?_, i + 1, M', av', cv', rfl, rfl, ?qm, ?q0, ?q3, ?q4, ?_⟩
      case qm | q0 | q3 | q4 => first | rfl | (simp -implicitDefEqProofs (disch := first | omega | with_reducible assumption | (simp only [zU, zC]; omega)) only [zT, zA, reduceCtorEq, zB, zC, zD, zE, zF, zG, zH, zI, zJ, zK, zL, reduceIte, t0, t3, t4]; first | done | rfl | (congr 1; omega))
      · omega
      · exact ⟨by omega, hO', hB'⟩
    · have h16 : i = 16 := by omega
      subst h16
      simp -implicitDefEqProofs (disch := first | omega | with_reducible assumption | (simp only [zU, zC]; omega)) only [zT, zA, reduceCtorEq, zB, zC, zD, zE, zF, zG, zH, zI, zJ, zK, zL, reduceIte, F80_l0, t0, t3, t4]
      clear hi hi16
      refine W_loop (fun N qs => ∃ (i : Nat) (M : AMem) (av : Option Addr) (cv : Nat), N = 64 - i ∧ qs.ds = [] ∧ qs.m = mx M [] ∧ qs.t 3 = .slice av i cv ∧ qs.t 5 = .int .i64 i ∧ 16 ≤ i ∧ i ≤ 64 ∧ Old m M ∧ Buf m M (.slice av i cv) ((sched c i).map w32) 91 (.int .u32 0)) (64 - (16)) ⟨16, M, av, cv, rfl, rfl, ?qm, ?q3, ?q5, ?_⟩ ?_
      case qm | q3 | q5 => first | rfl | (simp -implicitDefEqProofs (disch := first | omega | with_reducible assumption | (simp only [zU, zC]; omega)) only [zT, zA, reduceCtorEq, zB, zC, zD, zE, zF, zG, zH, zI, zJ, zK, zL, reduceIte, t0, t3, t4]; first | done | rfl | (congr 1; omega))
      · exact ⟨by omega, by omega, hO, hB⟩
      · clear t0 t3 t4 hO hB
        rintro N t m1 ds ⟨i, M, av, cv, rfl, hds, hm, t3, t5, hp⟩
        simp only at hds hm t3 t5
        subst hds; replace hm := hm.symm; subst hm
        obtain ⟨hi16, hi64, hO, hB⟩ := hp
        by_cases hi : (i : Int) < 64
        · have e1 : (i : Int) - 2 = ((i - 2 : Nat) : Int) := by omega
          have e2 : (i : Int) - 7 = ((i - 7 : Nat) : Int) := by omega
          have e3 : (i : Int) - 15 = ((i - 15 : Nat) : Int) := by omega
          have e4 : (i : Int) - 16 = ((i - 16 : Nat) : Int) := by omega
          have hsl := sched_length c i
          obtain ⟨bb, b1, b2, rfl, _, rfl, b3⟩ := hB.blk (by intro h; rw [List.map_eq_nil_iff] at h; rw [h] at hsl; simp at hsl; omega)
          have hw : wordAt c (sched c i) i = (rotr 17 ((sched c i)[i - 2]'(by omega)) ^^^ rotr 19 ((sched c i)[i - 2]'(by omega)) ^^^ shrW ((sched c i)[i - 2]'(by omega)) 10) + (sched c i)[i - 7]'(by omega) + (rotr 7 ((sched c i)[i - 15]'(by omega)) ^^^ rotr 18 ((sched c i)[i - 15]'(by omega)) ^^^ shrW ((sched c i)[i - 15]'(by omega)) 3) + (sched c i)[i - 16]'(by omega) := by
            unfold wordAt; rw [if_neg (by omega)]
            simp only [List.getD_eq_getElem?_getD, List.getElem?_eq_getElem (show i - 2 < (sched c i).length by omega), List.getElem?_eq_getElem (show i - 7 < (sched c i).length by omega), List.getElem?_eq_getElem (show i - 15 < (sched c i).length by omega), List.getElem?_eq_getElem (show i - 16 < (sched c i).length by omega), Option.getD_some]
            rfl
          obtain ⟨v', M', happ, hB', hF⟩ := hB.app1 (e2 := 91) (x := w32 (wordAt c (sched c i) i)) (bytes := 4) hO.1 rfl rfl (by rw [hlen]; omega) (by rw [hlen]; omega)
          have hO' := hO.fr hF hB.new
          have hnx : (sched c i).map w32 ++ [w32 (wordAt c (sched c i) i)] = (sched c (i + 1)).map w32 := by simp [sched]
          rw [hnx] at hB'
          obtain ⟨av', cv', rfl⟩ := hB'.len
          rw [hlen] at happ hB'
          rw [hw] at happ
          simp -implicitDefEqProofs (disch := first | omega | with_reducible assumption | (simp only [zU, zC]; omega)) only [zT, zA, reduceCtorEq, zB, zC, zD, zE, zF, zG, zH, zI, zJ, zK, zL, reduceIte, F80_l1, t3, t5, hi, e1, e2, e3, e4, b3, kR17, kR19, kR7, kR18, shr10, shr3, amW, fill_w, stepOp_app_v, happ]
          repeat refine OrW.go ?_
          rw [LoopK_normal]; refine ⟨_, ?_, i + 1, M', av', cv', rfl, rfl, ?qm, ?q3, ?q5, ?_⟩
          case qm | q3 | q5 => first | rfl | (simp -implicitDefEqProofs (disch := first | omega | with_reducible assumption | (simp only [zU, zC]; omega)) only [zT, zA, reduceCtorEq, zB, zC, zD, zE, zF, zG, zH, zI, zJ, zK, zL, reduceIte, t3, t5]; first | done | rfl | (congr 1; omega))
          · omega
          · exact ⟨by omega, by omega, hO', hB'⟩
        · have h64 : i = 64 := by omega
          subst h64
          simp -implicitDefEqProofs (disch := first | omega | with_reducible assumption | (simp only [zU, zC]; omega)) only [zT, zA, reduceCtorEq, zB, zC, zD, zE, zF, zG, zH, zI, zJ, zK, zL, reduceIte, F80_l1, t3, t5]
          intro _
          have := hB.kept hO (by intro h; have := hlen 64; rw [h] at this; simp at this) (fun v hv => by simp only [List.mem_map] at hv; obtain ⟨x, _, rfl⟩ := hv; exact plain_w32 _)
          rw [hlen] at this
          exact this
end Go.Proofs.YtgkmlbkocgjmmaaDoor.S
namespace Go.Proofs.YtgkmlbkocgjmmaaDoor.S
open Go Go.AM
set_option maxRecDepth 100000
set_option linter.unusedVariables false
set_option linter.unusedSimpArgs false

theorem changed_ok (m : AMem) (b o cap : Nat) (c : List UInt8) (X : List Value) (e : TypeId) (w : Bool) (sp : Spare) (hb : b < m.size) (hm : m.get b = .cells X e w sp) (h64 : c.length = 64) (hX : ∀ i (h : i < c.length), X[o + i]? = some (byteV c[i]))
    (bs cs : Nat) (S : List UInt32) (es : TypeId) (ws : Bool) (ss : Spare) (hbs : bs < m.size) (hms : m.get bs = .cells (S.map w32) es ws ss) (hS : S.length = 8)
    (bk ck : Nat) (K : List UInt32) (ek : TypeId) (wk : Bool) (sk : Spare) (hbk : bk < m.size) (hmk : m.get bk = .cells (K.map w32) ek wk sk) (hK : K.length = 64) :
    DetC Tryd.prog 3 64 [.slice (some ⟨bs, 0, none⟩) 8 cs, .slice (some ⟨bk, 0, none⟩) 64 ck, .slice (some ⟨b, o, none⟩) 64 cap] m (.slice (some ⟨m.size, 0, none⟩) 8 openCap)
      (mx m [.cells ((zip2 S (roundsW K c S 64)).map w32) 91 true (.room [.int .u32 0])]) := by
  refine det_of_W (fn := Tryd.f64) rfl rfl F64_ok (by simp [F64]) ?_
  have hsch := DetC.known (schedule_ok (mx m []) b o cap c X e w sp (by rw [mx_size]; simp; omega) ((mx_old hb).trans hm) h64 hX)
  have hz0 : (mx m []).size = m.size := rfl
  rw [hz0] at hsch
  have hsl := sched_length c 64
  simp -implicitDefEqProofs (disch := first | omega | with_reducible assumption | (simp only [zU, zC]; omega)) only [zT, zA, reduceCtorEq, zB, zC, zD, zE, zF, zG, zH, zI, zJ, zK, zL, reduceIte, F64, hsch]
  repeat refine OrW.go ?_
  refine W_loop (fun N qs => ∃ (i : Nat) (M : AMem) (b8 c8 : Nat) (e8 : TypeId) (w8 : Bool) (s8 : Spare), N = 64 - i ∧ qs.ds = [] ∧ qs.m = mx M [] ∧ qs.t 0 = .slice (some ⟨bs, 0, none⟩) 8 cs ∧ qs.t 1 = .slice (some ⟨bk, 0, none⟩) 64 ck ∧ qs.t 7 = .slice (some ⟨m.size, 0, none⟩) 64 openCap ∧ qs.t 8 = .slice (some ⟨b8, 0, none⟩) 8 c8 ∧ qs.t 9 = .int .i64 i ∧ i ≤ 64 ∧ Old m M ∧ m.size < M.size ∧ M.get m.size = .cells ((sched c 64).map w32) 91 true (.room [.int .u32 0]) ∧ b8 < M.size ∧ M.get b8 = .cells ((roundsW K c S i).map w32) e8 w8 s8) (64 - (0)) ⟨0, mx m [.cells ((sched c 64).map w32) 91 true (.room [.int .u32 0])], bs, cs, es, ws, ss, rfl, rfl, ?qm, ?q0, ?q1, ?q7, ?q8, ?q9, ?_⟩ ?_
  case qm | q0 | q1 | q7 | q8 | q9 => first | rfl | (simp -implicitDefEqProofs (disch := first | omega | with_reducible assumption | (simp only [zU, zC]; omega)) only [zT, zA, reduceCtorEq, zB, zC, zD, zE, zF, zG, zH, zI, zJ, zK, zL, reduceIte]; first | done | rfl | (congr 1; omega))
  · exact ⟨by omega, Old.here _ _, by rw [mx_size]; simp, mx_new0 _ _, by rw [mx_size]; omega, (mx_old hbs).trans hms⟩
  · rintro N t m1 ds ⟨i, M, b8, c8, e8, w8, s8, rfl, hds, hm, t0, t1, t7, t8, t9, hp⟩
    simp only at hds hm t0 t1 t7 t8 t9
    subst hds; replace hm := hm.symm; subst hm
    obtain ⟨hi64, hO, hW, hMW, hb8, hM8⟩ := hp
    have hMk : M.get bk = .cells (K.map w32) ek wk sk := (hO.2 bk hbk).trans hmk
    have hMs : M.get bs = .cells (S.map w32) es ws ss := (hO.2 bs hbs).trans hms
    have hkM : bk < M.size := Nat.lt_of_lt_of_le hbk hO.1
    have hsM : bs < M.size := Nat.lt_of_lt_of_le hbs hO.1
    have hR : (roundsW K c S i).length = 8 := by rw [roundsW_length, hS]
    by_cases hi : (i : Int) < 64
    · have hn : roundsW K c S (i + 1) = roundW (roundsW K c S i) (K[i]'(by omega)) ((sched c 64)[i]'(by omega)) := by
        simp [roundsW, hK, hsl, show i < 64 by omega]
      obtain ⟨x0, x1, x2, x3, x4, x5, x6, x7, hx⟩ := len8 hR
      rw [hx] at hn hM8
      simp only [List.map_cons, List.map_nil] at hM8
      simp -implicitDefEqProofs (disch := first | omega | with_reducible assumption | (simp only [zU, zC]; omega)) only [zT, zA, reduceCtorEq, zB, zC, zD, zE, zF, zG, zH, zI, zJ, zK, zL, reduceIte, F64_l0, t0, t1, t7, t8, t9, hi, hMk, hMW, hM8, amW, fill_w, kR6, kR11, kR25, kR2, kR13, kR22]
      repeat refine OrW.go ?_
      rw [LoopK_normal]; refine ⟨_, ?_, i + 1, mx M [.cells ((roundsW K c S (i + 1)).map w32) 91 true .exact], M.size, 8, 91, true, .exact, rfl, rfl, ?qm, ?q0, ?q1, ?q7, ?q8, ?q9, ?_⟩
      case qm | q0 | q1 | q7 | q8 | q9 => first | rfl | (simp -implicitDefEqProofs (disch := first | omega | with_reducible assumption | (simp only [zU, zC]; omega)) only [zT, zA, reduceCtorEq, zB, zC, zD, zE, zF, zG, zH, zI, zJ, zK, zL, reduceIte, t0, t1, t7, t8, t9, hn, roundW, turnedW, ch_eq, maj_eq, List.map_cons, List.map_nil]; first | done | rfl | (congr 1; omega))
      · omega
      · exact ⟨by omega, hO.mx _, by rw [mx_size]; omega, (mx_old hW).trans hMW, by rw [mx_size]; simp, mx_new0 _ _⟩
    · have hi' : i = 64 := by omega
      subst hi'
      generalize hV : roundsW K c S 64 = V at *
      simp -implicitDefEqProofs (disch := first | omega | with_reducible assumption | (simp only [zU, zC]; omega)) only [zT, zA, reduceCtorEq, zB, zC, zD, zE, zF, zG, zH, zI, zJ, zK, zL, reduceIte, F64_l0, t0, t1, t7, t8, t9]
      have hzl : (zip2 S V).length = 8 := zip2_length hS hR
      have hlen : ∀ j, j ≤ 8 → (((zip2 S V).take j).map w32).length = j := fun j hj => by rw [List.length_map, List.length_take]; omega
      refine W_loop (fun N qs => ∃ (j : Nat) (M1 : AMem) (av : Option Addr) (cv : Nat), N = 8 - j ∧ qs.ds = [] ∧ qs.m = mx M1 [] ∧ qs.t 0 = .slice (some ⟨bs, 0, none⟩) 8 cs ∧ qs.t 8 = .slice (some ⟨b8, 0, none⟩) 8 c8 ∧ qs.t 18 = .slice av j cv ∧ qs.t 19 = .int .i64 j ∧ j ≤ 8 ∧ Old M M1 ∧ Buf M M1 (.slice av j cv) (((zip2 S V).take j).map w32) 91 (.int .u32 0)) (8 - (0)) ⟨0, mx M [], none, 0, rfl, rfl, ?qm, ?q0, ?q8, ?q18, ?q19, ?_⟩ ?_
      case qm | q0 | q8 | q18 | q19 => first | rfl | (simp -implicitDefEqProofs (disch := first | omega | with_reducible assumption | (simp only [zU, zC]; omega)) only [zT, zA, reduceCtorEq, zB, zC, zD, zE, zF, zG, zH, zI, zJ, zK, zL, reduceIte, t0, t1, t7, t8, t9]; first | done | rfl | (congr 1; omega))
      · exact ⟨by omega, Old.here _ _, .inl ⟨rfl, rfl⟩⟩
      · clear t0 t1 t7 t8 t9 hi hi64
        rintro N t m1 ds ⟨j, M1, av, cv, rfl, hds, hm, t0, t8, t18, t19, hp⟩
        simp only at hds hm t0 t8 t18 t19
        subst hds; replace hm := hm.symm; subst hm
        obtain ⟨hj8, hO1, hB⟩ := hp
        have hbs1 : bs < M1.size := Nat.lt_of_lt_of_le hsM hO1.1
        have hb81 : b8 < M1.size := Nat.lt_of_lt_of_le hb8 hO1.1
        have hMs1 : M1.get bs = .cells (S.map w32) es ws ss := (hO1.2 bs hsM).trans hMs
        have hM81 : M1.get b8 = .cells (V.map w32) e8 w8 s8 := (hO1.2 b8 hb8).trans hM8
        by_cases hj : (j : Int) < 8
        · have hzg := zip2_get (a := S) (b := V) (i := j) (by omega) (by omega)
          obtain ⟨v', M', happ, hB', hF⟩ := hB.app1 (e2 := 91) (x := w32 (S[j]'(by omega) + V[j]'(by omega))) (bytes := 4) hO1.1 rfl rfl (by rw [hlen j hj8]; omega) (by rw [hlen j hj8]; omega)
          have hO' := hO1.fr hF hB.new
          have hnx : ((zip2 S V).take j).map w32 ++ [w32 (S[j]'(by omega) + V[j]'(by omega))] = ((zip2 S V).take (j + 1)).map w32 := by
            rw [List.take_succ_eq_append_getElem (by omega), hzg]; simp
          rw [hnx] at hB'
          obtain ⟨av', cv', rfl⟩ := hB'.len
          rw [hlen (j + 1) (by omega)] at happ hB'
          simp -implicitDefEqProofs (disch := first | omega | with_reducible assumption | (simp only [zU, zC]; omega)) only [zT, zA, reduceCtorEq, zB, zC, zD, zE, zF, zG, zH, zI, zJ, zK, zL, reduceIte, F64_l1, t0, t8, t18, t19, hj, hMs1, hM81, amW, fill_w, stepOp_app_v, happ]
          rw [LoopK_normal]; refine ⟨_, ?_, j + 1, M', av', cv', rfl, rfl, ?qm, ?q0, ?q8, ?q18, ?q19, ?_⟩
          case qm | q0 | q8 | q18 | q19 => first | rfl | (simp -implicitDefEqProofs (disch := first | omega | with_reducible assumption | (simp only [zU, zC]; omega)) only [zT, zA, reduceCtorEq, zB, zC, zD, zE, zF, zG, zH, zI, zJ, zK, zL, reduceIte, t0, t8, t18, t19]; first | done | rfl | (congr 1; omega))
          · omega
          · exact ⟨by omega, hO', hB'⟩
        · have h8 : j = 8 := by omega
          subst h8
          rw [List.take_of_length_le (by omega)] at hB
          simp -implicitDefEqProofs (disch := first | omega | with_reducible assumption | (simp only [zU, zC]; omega)) only [zT, zA, reduceCtorEq, zB, zC, zD, zE, zF, zG, zH, zI, zJ, zK, zL, reduceIte, F64_l1, t0, t8, t18, t19]
          intro _
          have hB2 : Buf m M1 (.slice av 8 cv) ((zip2 S V).map w32) 91 (.int .u32 0) := by
            rcases hB with ⟨h, h'⟩ | ⟨x, h1, h2, h3⟩
            · exact .inl ⟨h, h'⟩
            · exact .inr ⟨x, Nat.le_trans hO.1 h1, h2, h3⟩
          have := hB2.kept (hO.trans hO1) (by intro h; have := hlen 8 (by omega); rw [List.take_of_length_le (by omega), h] at this; simp at this) (fun v hv => by simp only [List.mem_map] at hv; obtain ⟨x, _, rfl⟩ := hv; exact plain_w32 _)
          rw [List.length_map, hzl] at this
          exact this
end Go.Proofs.YtgkmlbkocgjmmaaDoor.S
