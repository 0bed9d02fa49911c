/-
  What the abstract machine's transformer says of code and of functions, the model does.
-/
import Derived.Test.YtidngakhkpodgaaAmSound
set_option linter.unusedVariables false
set_option linter.unusedSimpArgs false
set_option linter.unnecessarySimpa false
namespace Go.AM
set_option linter.unusedVariables false
set_option linter.unusedSimpArgs false

section
variable {P : Program} {G N : Nat} {m0 : AMem} {ρ0 : Ren} {w0 : World}

theorem WI_ok {Q : AExit → ASt → Prop} {ops : Array Oper} : ∀ (is : List AIns) (l : List Oper) (k : Nat), ops.toList.drop k = l → compList P G N ops l = some is → ∀ (s : ASt) (a : Act) (ρ : Ren) (w : World),
    Rep G s.m ρ w → SRel N ρ s a → Ext m0 ρ0 w0 s.m ρ w → WI P G is Q s → wpOps P ops (QC G N Q m0 ρ0 w0) (List.range' k l.length) a w
  | [], l, k, hl, hc, s, a, ρ, w, hR, hS, hE, h => by
    cases l with
    | nil => exact ⟨ρ, s, .normal, h, .normal, hS, hR, hE⟩
    | cons o r =>
      simp only [compList] at hc
      split at hc <;> simp at hc
  | i :: is, l, k, hl, hc, s, a, ρ, w, hR, hS, hE, h => by
    cases l with
    | nil => simp [compList] at hc
    | cons o r =>
      simp only [compList] at hc
      split at hc <;> simp at hc
      rename_i i1 is1 hi his
      obtain ⟨rfl, rfl⟩ := hc
      have hok : ops[k]? = some o := by
        have : (ops.toList.drop k)[0]? = some o := by rw [hl]; rfl
        simpa using this
      have hr : ops.toList.drop (k + 1) = r := by
        rw [← List.drop_drop, hl]; rfl
      have ih := WI_ok (Q := Q) is1 r (k + 1) hr his
      obtain ⟨hg, hdst, hd⟩ := compIns_guard hi
      have hw := wanted_ok hS hg
      simp only [List.length_cons]
      rw [show List.range' k (r.length + 1) = k :: List.range' (k + 1) r.length from rfl]
      simp only [wpOps, hok]
      unfold WI at h
      rw [hw]
      split at h
      · rename_i hwt
        rw [if_pos hwt]
        exact .inl (WI1_ok hi hR hS hE (fun s' a' ρ' w' hK hR' hS' hE' => ih s' a' ρ' w' hR' hS' hE' hK) h)
      · rename_i hwt
        rw [if_neg hwt]
        rw [hdst] at h
        exact ih { s with t := updO s.t o.dst undef } _ ρ w hR (hS.put (Ren.le.refl _) hd (Plain.undef ρ)) hE h

theorem compList_len {ops : Array Oper} : ∀ {l : List Oper} {is : List AIns}, compList P G N ops l = some is → is.length = l.length
  | [], is, h => by simp [compList] at h; subst h; rfl
  | o :: r, is, h => by
    simp only [compList] at h
    split at h <;> simp at h
    rename_i i l hi hl
    subst h
    simp [compList_len hl]

theorem compList_get {ops : Array Oper} : ∀ {l : List Oper} {is : List AIns}, compList P G N ops l = some is → ∀ {i : Nat} {o : Oper}, l[i]? = some o → compIns P G N ops o = some (is.getD i default)
  | [], is, h, i, o, ho => by simp at ho
  | o1 :: r, is, h, i, o, ho => by
    simp only [compList] at h
    split at h <;> simp at h
    rename_i i1 l hi hl
    subst h
    cases i with
    | zero => simp at ho; subst ho; simpa using hi
    | succ i => simp at ho; simpa using compList_get hl ho

theorem AAny_ok {Q : AExit → ASt → Prop} {ops : Array Oper} {is : List AIns} (hc : compList P G N ops ops.toList = some is) : ∀ (k : Nat) (listed : Array Bool) (L : Nat → Bool), listed.size = ops.size → (∀ j, listed.getD j false = L j) →
    ∀ (s : ASt) (a : Act) (ρ : Ren) (w : World), Rep G s.m ρ w → SRel N ρ s a → Ext m0 ρ0 w0 s.m ρ w → AAny P G ops.size (fun i => is.getD i default) (preOf ops) Q k L s →
    wpAny P .any ops (QC G N Q m0 ρ0 w0) k listed a w := by
  have hready : ∀ (listed : Array Bool) (L : Nat → Bool), listed.size = ops.size → (∀ j, listed.getD j false = L j) → ∀ i, i ∈ Region.ready .any ops listed ↔ Rdy ops.size (preOf ops) L i := by
    intro listed L hsz hL i
    rw [mem_ready]
    constructor
    · rintro ⟨h0, o, ho, h1⟩
      have hlt : i < ops.size := (Array.getElem?_eq_some_iff.1 ho).1
      refine ⟨hlt, ?_, fun k hk => ?_⟩
      · rw [← hL]
        have : i < listed.size := by omega
        simp [this] at h0 ⊢; exact h0
      · simp only [preOf, ho, List.mem_map, List.mem_filter] at hk
        obtain ⟨e, ⟨he, hb⟩, rfl⟩ := hk
        rw [← hL]
        exact h1 e (by simpa using he) hb
    · rintro ⟨hlt, hl, h1⟩
      refine ⟨?_, ops[i], by simp [hlt], fun e he hb => ?_⟩
      · rw [← hL] at hl
        have : i < listed.size := by omega
        simp [this] at hl ⊢; exact hl
      · rw [hL]
        refine h1 _ ?_
        have : ops[i]? = some ops[i] := by simp [hlt]
        simp only [preOf, this, List.mem_map, List.mem_filter]
        exact ⟨e, ⟨by simpa using he, hb⟩, rfl⟩
  have hnil : ∀ (listed : Array Bool) (L : Nat → Bool), listed.size = ops.size → (∀ j, listed.getD j false = L j) → (Region.ready .any ops listed = [] ↔ ∀ i, ¬ Rdy ops.size (preOf ops) L i) := by
    intro listed L hsz hL
    rw [List.eq_nil_iff_forall_not_mem]
    exact forall_congr' fun i => not_congr (hready listed L hsz hL i)
  intro k
  induction k with
  | zero =>
    intro listed L hsz hL s a ρ w hR hS hE h
    exact ⟨(hnil listed L hsz hL).2 h.1, ρ, s, .normal, h.2, .normal, hS, hR, hE⟩
  | succ k ih =>
    intro listed L hsz hL s a ρ w hR hS hE h
    refine ⟨fun h0 => ⟨ρ, s, .normal, h.1 ((hnil listed L hsz hL).1 h0), .normal, hS, hR, hE⟩, fun i hi => ?_⟩
    have hr := (hready listed L hsz hL i).1 hi
    have hone := h.2 i hr
    have hin : i < ops.size := hr.1
    have ho : ops[i]? = some (ops[i]'hin) := by simp [hin]
    have hci := compList_get hc (i := i) (o := ops[i]'hin) (by simp [hin])
    obtain ⟨hg, hdst, hd⟩ := compIns_guard hci
    have hw := wanted_ok hS hg
    have hL' : ∀ j, (listed.setIfInBounds i true).getD j false = setL L i j := by
      intro j
      simp only [setL]
      split
      · rename_i he; subst he
        have : j < listed.size := by have := hr.1; omega
        simp [this]
      · rename_i hne
        rw [← hL]
        simp [Array.getD_eq_getD_getElem?, Array.getElem?_setIfInBounds_ne (Ne.symm hne)]
    have ih' := ih (listed.setIfInBounds i true) (setL L i) (by simp [hsz]) hL'
    simp only [wpOp, ho]
    unfold Aone at hone
    rw [hw]
    split at hone
    · rename_i hwt
      rw [if_pos hwt]
      exact .inl (WI1_ok hci hR hS hE (fun s' a' ρ' w' hK hR' hS' hE' => ih' s' a' ρ' w' hR' hS' hE' hK) hone)
    · rename_i hwt
      rw [if_neg hwt]
      rw [hdst] at hone
      exact ih' { s with t := updO s.t (ops[i]'hin).dst undef } _ ρ w hR (hS.put (Ren.le.refl _) hd (Plain.undef ρ)) hE hone

theorem draw_ok {Q : AExit → ASt → Prop} {id : Nat} {ops : Array Oper} {d : List DItem} (hc : compDraw P G N ops = some d) {s : ASt} {a : Act} {ρ : Ren} {w : World}
    (hR : Rep G s.m ρ w) (hS : SRel N ρ s a) (hE : Ext m0 ρ0 w0 s.m ρ w) (h : DW P G d Q s) : (Code.region id ops true).wp P (QC G N Q m0 ρ0 w0) a w := by
  unfold compDraw at hc
  split at hc
  · cases hc
  · rename_i is his
    simp only at hc
    split at hc <;> simp at hc
    rename_i hh
    simp only [Bool.and_eq_true] at hh
    subst hc
    have hA := AAny_of_DW hh.1.2 hh.2 h
    refine wp_region_any hh.1.1 (AAny_ok his ops.size _ _ (by simp) (fun j => ?_) s a ρ _ (hR.world fun _ _ _ _ => rfl) hS (hE.trans (Ext.drawn _ _ _ _)) hA)
    simp only [Array.getD_eq_getD_getElem?, Array.getElem?_replicate]
    split <;> rfl

end
end Go.AM
