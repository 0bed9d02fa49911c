/-
  Each operation of the abstract machine is what the model does: append, copy, clear.
-/
import Derived.Test.YtidngakhkpodgaaAmStep5
set_option linter.unusedVariables false
set_option linter.unusedSimpArgs false
set_option linter.unnecessarySimpa false
namespace Go.AM
set_option linter.unusedVariables false
set_option linter.unusedSimpArgs false

section
variable {P : Program} {G : Nat} {m : AMem} {ρ : Ren} {w : World}

/-- What a source of append or copy says: how many elements, and their cells, in every later draw of the same world. -/
theorem src_run (hR : Rep G m ρ w) {sz n : Nat} {v v' : Value} {cs : List Value} (hv : VRel ρ v v') (h : srcCells sz n v m = some cs) (hcs : cs.length = n * sz) (hone : cs.all oneCell = true) :
    ∃ cs', LRel ρ cs cs' ∧ (∀ u ∈ cs', u.oneCell' = true) ∧ ∀ k, (Builtin.firstCells sz n v').run P { w with drawn := k } = .ok cs'.toArray { w with drawn := k } := by
  have fin : ∀ cs', LRel ρ cs cs' → ∀ u ∈ cs', u.oneCell' = true := fun cs' hL u hu => by
    obtain ⟨i, hi, rfl⟩ := List.mem_iff_getElem.1 hu
    have := hL.2 i (by rw [hL.1]; exact hi) hi
    exact this.oneCell (List.all_eq_true.1 hone _ (List.getElem_mem _))
  unfold srcCells at h
  split at h <;> try (simp at h; done)
  · split at h <;> simp at h
    subst h
    cases hv
    exact ⟨[], LRel.nil ρ, by simp, fun k => by simp [Builtin.firstCells]⟩
  · rename_i _ b o l c
    split at h <;> try (simp at h; done)
    rename_i hnl
    have main : ∀ (L : Loc) (cap' : Nat), ρ b = some L → ∃ cs', LRel ρ cs cs' ∧ (∀ u ∈ cs', u.oneCell' = true) ∧
        ∀ k, (Builtin.firstCells sz n (.slice (some ⟨L.cb, L.co + o, none⟩) l cap')).run P { w with drawn := k } = .ok cs'.toArray { w with drawn := k } := by
      intro L cap' hL
      obtain ⟨cs', h1, h2, h3, h4⟩ := hR.rd hL h
      refine ⟨cs', h3, fin cs' h3, fun k => ?_⟩
      have := run_loadCells_list (P := P) { w with drawn := k } ⟨L.cb, L.co + o, none⟩ cs' (fun j v hj => h4 j v hj)
      rw [h1] at this
      simpa [Builtin.firstCells] using this
    cases hv with
    | slice hL _ => exact main _ _ hL
    | sliceOpen hL _ _ => exact main _ _ hL
    | sliceEnd hL _ =>
      have h0 : n * sz = 0 := by rw [show n = 0 by omega]; simp
      have : cs = [] := List.eq_nil_of_length_eq_zero (by rw [hcs, h0])
      subst this
      exact ⟨[], LRel.nil ρ, by simp, fun k => by simp [Builtin.firstCells, h0, loadCells, loadCellsFrom]⟩
  · split at h <;> simp at h
    rename_i _ s hcond
    obtain ⟨rfl, hn⟩ := hcond
    obtain rfl := hv.string_inv
    subst h
    have hL : LRel ρ ((s.data.toList.map byteV).take n) ((s.data.toList.map byteV).take n) := LRel.plain fun v hv => by
      obtain ⟨a, _, rfl⟩ := List.mem_map.1 (List.mem_of_mem_take hv)
      exact .int _ _
    refine ⟨_, hL, fin _ hL, fun k => ?_⟩
    simp only [Builtin.firstCells, Sem.run_pure]
    congr 1
    apply Array.ext'
    simp [List.map_take]
    rfl

/-- The two kinds of what is appended: elements that are there, or so many empty ones. -/
def zerosB (P : Program) (u : TypeId) : Bool := (P.underlying u) matches some (.int _)

/-- What the second argument of an append comes to. -/
def AppSrc (P : Program) (w : World) (u : TypeId) (sz bytes : Nat) (z : List Value) (x' : Value) (n : Nat) (news : List Value) : Prop :=
  (((∃ e', P.underlying u = some (.slice e')) ∨ P.underlying u = some .string) ∧ (Builtin.lenOf x').run P w = .ok n w ∧ ∀ k, (Builtin.firstCells sz n x').run P { w with drawn := k } = .ok news.toArray { w with drawn := k }) ∨
  (∃ k kk, P.underlying u = some (.int k) ∧ x' = .int kk (n : Int) ∧ news = rep z n ∧ n * bytes ≤ 281474976710656 ∧ n ≤ 9223372036854775807)

theorem zeroCells_rep (z : List Value) (n : Nat) : (Builtin.zeroCells z.toArray n).toList = rep z n := by
  unfold Builtin.zeroCells
  rcases Nat.eq_zero_or_pos z.length with h0 | h0
  · rw [List.size_toArray]
    exact range_rep z n (.inr (by simp [h0]))
  · rw [List.size_toArray]
    have := range_rep z n (.inl h0)
    rw [List.size_toArray] at this
    exact this

theorem wrap_nat {n : Nat} (h : n ≤ 9223372036854775807) : IntKind.i64.wrap (n : Int) = n := by
  simp [IntKind.wrap, IntKind.bits, IntKind.signed]; omega

theorem append_fit {t u ty e : TypeId} {sz bytes : Nat} {z : List Value} (hu : P.underlying t = some (.slice e)) (hs : szOf P e = some sz) (hby : byOf P e = some bytes) (hz : zeroOf P e = some z)
    {x' : Value} {n : Nat} {news : List Value} (hx : AppSrc P w u sz bytes z x' n news) {base : Option Addr} {l c : Nat} (hfit : l + n ≤ c) {w' : World}
    (hst : ∀ a, base = some a → (storeCells (a.add (l * sz)) news).run P w = .ok () w') (hno : base = none → w' = w) :
    (Builtin.append_ #[t, u] ty #[.slice base l c, x']).run P w = .ok (.slice base (l + n) c) w' := by
  obtain ⟨i, zv, hi, hzv, hcells, hzs, hpl⟩ := zeroOf_spec hz
  have hib : i.bytes = bytes := by unfold byOf at hby; simp [hi] at hby; exact hby
  have hsi : i.size = sz := by unfold szOf at hs; simp [hi] at hs; exact hs
  have hw0 : ({ w with drawn := w.drawn } : World) = w := rfl
  rcases hx with ⟨hd, hl, hA⟩ | ⟨k, kk, hd, rfl, rfl, hb1, hb2⟩
  · have hA0 := hA w.drawn
    rw [hw0] at hA0
    rcases hd with ⟨e', hd⟩ | hd
    all_goals
      cases base with
      | none => simp [Builtin.append_, run_underlying hu, run_underlying hd, szOf_spec hs, hl, hfit, hA0, hno rfl]
      | some a => simp [Builtin.append_, run_underlying hu, run_underlying hd, szOf_spec hs, hl, hfit, hA0, hst a rfl]
  · have hw := wrap_nat hb2
    have h48 : ¬ (281474976710656 < (n : Int) * (bytes : Int)) := by
      rw [← Int.natCast_mul]; omega
    have hneg : ¬ ((n : Int) < 0) := by omega
    by_cases h0 : n * sz = 0
    · have hn : rep z n = [] := List.eq_nil_of_length_eq_zero (by rw [rep_length, hzs, hsi, h0])
      rw [hn] at hst
      cases base with
      | none => simp [Builtin.append_, run_underlying hu, run_underlying hd, szOf_spec hs, asInt, asIntOf, hw, hneg, run_typeInfo w hi, hib, h48, hfit, h0, hno rfl]
      | some a => simp [Builtin.append_, run_underlying hu, run_underlying hd, szOf_spec hs, asInt, asIntOf, hw, hneg, run_typeInfo w hi, hib, h48, hfit, h0, hst a rfl]
    · cases base with
      | none => simp [Builtin.append_, run_underlying hu, run_underlying hd, szOf_spec hs, asInt, asIntOf, hw, hneg, run_typeInfo w hi, hib, h48, hfit, h0, zero_run hi hzv, hno rfl]
      | some a => simp [Builtin.append_, run_underlying hu, run_underlying hd, szOf_spec hs, asInt, asIntOf, hw, hneg, run_typeInfo w hi, hib, h48, hfit, h0, zero_run hi hzv, hcells, zeroCells_rep, hst a rfl]

theorem append_grow {t u ty e : TypeId} {sz bytes : Nat} {z : List Value} (hu : P.underlying t = some (.slice e)) (hs : szOf P e = some sz) (hby : byOf P e = some bytes) (hb0 : 0 < bytes) (hz : zeroOf P e = some z)
    {x' : Value} {n : Nat} {news : List Value} (hx : AppSrc P w u sz bytes z x' n news) {base : Option Addr} {l c : Nat} (hg : c < l + n) (hsz : 2 * (l + n) * bytes ≤ 281474976710656) {olds : List Value}
    (hO : ∀ k, (Builtin.firstCells sz l (.slice base l c)).run P { w with drawn := k } = .ok olds.toArray { w with drawn := k }) :
    ∃ cap, l + n ≤ cap ∧ (Builtin.append_ #[t, u] ty #[.slice base l c, x']).run P w = .ok (.slice (some ⟨w.heap.size, 0, none⟩) (l + n) cap)
      { w with drawn := w.drawn + 1, heap := w.heap.push (.cells ((olds ++ news).toArray ++ (rep z (cap - (l + n))).toArray) e (0, 0)) } := by
  obtain ⟨i, zv, hi, hzv, hcells, hzs, hpl⟩ := zeroOf_spec hz
  have hib : i.bytes = bytes := by unfold byOf at hby; simp [hi] at hby; exact hby
  have hsi : i.size = sz := by unfold szOf at hs; simp [hi] at hs; exact hs
  have hnf : ¬ (l + n ≤ c) := by omega
  have hcap48 : ¬ (281474976710656 < Builtin.nextslicecap (l + n) c * bytes) := by
    have := Nat.mul_le_mul_right bytes (nextslicecap_le hg)
    omega
  have hbne : bytes ≠ 0 := by omega
  have hbig : l + n ≤ 9223372036854775807 := by
    have : 2 * (l + n) * 1 ≤ 2 * (l + n) * bytes := Nat.mul_le_mul_left _ hb0
    omega
  let cap := (Question.appendCap (l + n) c e).cut (w.tape w.drawn (.appendCap (l + n) c e))
  refine ⟨cap, by simp [cap, Question.cut], ?_⟩
  have hO1 := hO (w.drawn + 1)
  have hO2 : (Builtin.firstCells sz l (.slice base l c)).run P w.drew = .ok olds.toArray w.drew := hO1
  have hzc : (Builtin.zeroCells z.toArray (cap - (l + n))) = (rep z (cap - (l + n))).toArray := by
    apply Array.ext'
    rw [zeroCells_rep]
  have hgoal : ({ w with drawn := w.drawn + 1, heap := w.heap.push (.cells ((olds ++ news).toArray ++ (rep z (cap - (l + n))).toArray) e (0, 0)) } : World) =
      w.drew.alloc (.cells (olds.toArray ++ news.toArray ++ (Builtin.zeroCells z.toArray (cap - (l + n)))) e) := by
    have hAr : (olds ++ news).toArray ++ (rep z (cap - (l + n))).toArray = olds.toArray ++ news.toArray ++ (Builtin.zeroCells z.toArray (cap - (l + n))) := by rw [hzc]; simp
    rw [hAr]; rfl
  rw [hgoal]
  rcases hx with ⟨hd, hl, hA⟩ | ⟨k, kk, hd, rfl, rfl, hb1, hb2⟩
  · have hA1 : (Builtin.firstCells sz n x').run P w.drew = .ok news.toArray w.drew := hA (w.drawn + 1)
    rcases hd with ⟨e', hd⟩ | hd
    all_goals
      simp [Builtin.append_, run_underlying hu, run_underlying hd, szOf_spec hs, hl, hnf, run_typeInfo _ hi, hib, hbne, hcap48, Question.forced, zero_run hi hzv, hcells, hO2, hA1, newRow]
      refine ⟨rfl, ?_⟩
      first | rfl | (refine congrArg (fun A => w.drew.alloc (.cells A e)) ?_; apply Array.ext'; simp; done) | (refine congrArg (fun A => w.drew.alloc (.cells A e)) ?_; apply Array.ext'; simp; rfl)
  · have hw := wrap_nat hb2
    have h48 : ¬ (281474976710656 < (n : Int) * (bytes : Int)) := by
      rw [← Int.natCast_mul]; omega
    have hneg : ¬ ((n : Int) < 0) := by omega
    have hbig' : ¬ (9223372036854775807 < (l : Int) + (n : Int)) := by omega
    by_cases h0 : n * sz = 0
    · have hn : rep z n = [] := List.eq_nil_of_length_eq_zero (by rw [rep_length, hzs, hsi, h0])
      simp [Builtin.append_, run_underlying hu, run_underlying hd, szOf_spec hs, asInt, asIntOf, hw, hneg, hnf, run_typeInfo _ hi, hib, h48, hbne, hcap48, hbig', h0, Question.forced, zero_run hi hzv, hcells, hO2, newRow, hn]
      refine ⟨rfl, ?_⟩
      first | rfl | (refine congrArg (fun A => w.drew.alloc (.cells A e)) ?_; apply Array.ext'; simp; done) | (refine congrArg (fun A => w.drew.alloc (.cells A e)) ?_; apply Array.ext'; simp; rfl)
    · have hzn : Builtin.zeroCells z.toArray n = (rep z n).toArray := by
        apply Array.ext'
        rw [zeroCells_rep]
      simp [Builtin.append_, run_underlying hu, run_underlying hd, szOf_spec hs, asInt, asIntOf, hw, hneg, hnf, run_typeInfo _ hi, hib, h48, hbne, hcap48, hbig', h0, Question.forced, zero_run hi hzv, hcells, hO2, newRow, hzn]
      refine ⟨rfl, ?_⟩
      first | rfl | (refine congrArg (fun A => w.drew.alloc (.cells A e)) ?_; apply Array.ext'; simp; done) | (refine congrArg (fun A => w.drew.alloc (.cells A e)) ?_; apply Array.ext'; simp; rfl)

end
end Go.AM
