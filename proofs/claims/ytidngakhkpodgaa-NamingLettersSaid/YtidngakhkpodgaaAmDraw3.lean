/-
  One order will do for all of them.
-/
import Derived.Test.YtidngakhkpodgaaAmDraw2
set_option linter.unusedVariables false
set_option linter.unusedSimpArgs false
set_option linter.unnecessarySimpa false
namespace Go.AM
set_option linter.unusedVariables false
set_option linter.unusedSimpArgs false

section
variable {P : Program} {G : Nat} {n : Nat} {ins : Nat → AIns} {pre anc : Nat → List Nat} {Q : AExit → ASt → Prop} {t0 : Tmps} {ds : List Deferred}

def Rdy (n : Nat) (pre : Nat → List Nat) (L : Nat → Bool) (j : Nat) : Prop := j < n ∧ L j = false ∧ ∀ k ∈ pre j, L k = true
def setL (L : Nat → Bool) (i : Nat) : Nat → Bool := fun j => if j = i then true else L j

def AAny (P : Program) (G n : Nat) (ins : Nat → AIns) (pre : Nat → List Nat) (Q : AExit → ASt → Prop) : Nat → (Nat → Bool) → ASt → Prop
  | 0, L, s => (∀ j, ¬ Rdy n pre L j) ∧ Q .normal s
  | k + 1, L, s => ((∀ j, ¬ Rdy n pre L j) → Q .normal s) ∧ ∀ i, Rdy n pre L i → Aone P G (ins i) (AAny P G n ins pre Q k (setL L i)) Q s

def Closed (n : Nat) (pre : Nat → List Nat) (L : Nat → Bool) : Prop := ∀ j, j < n → L j = true → ∀ k ∈ pre j, L k = true

structure DReg (n : Nat) (ins : Nat → AIns) (pre anc : Nat → List Nat) : Prop where
  d1 : ∀ i, i < n → ∀ k ∈ pre i, k < i ∧ k ∈ anc i
  d2 : ∀ i, i < n → ∀ k ∈ anc i, k < i ∧ (k ∈ pre i ∨ ∃ l ∈ pre i, k ∈ anc l)
  d3 : ∀ i, i < n → ∀ j, j < n → i ≠ j → ∀ d, (ins j).dst = some d → (ins i).dst ≠ some d ∧ (d ∈ (ins i).reads → j ∈ anc i ∨ i ∈ anc j)

theorem dregs_spec (h : dregs n ins pre anc = true) : DReg n ins pre anc := by
  simp only [dregs, List.all_eq_true, List.mem_range, Bool.and_eq_true, Bool.or_eq_true, beq_iff_eq, decide_eq_true_eq, List.contains_iff_mem, List.any_eq_true] at h
  refine ⟨fun i hi k hk => (h i hi).1.1 k hk, fun i hi k hk => (h i hi).1.2 k hk, fun i hi j hj hne d hd => ?_⟩
  have := ((h i hi).2 j hj).resolve_left hne
  simp only [hd, Bool.and_eq_true, Bool.or_eq_true, bne_iff_ne, Bool.not_eq_true'] at this
  refine ⟨this.1, fun hr => ?_⟩
  rcases this.2 with h1 | h1
  · rcases h1 with h1 | h1
    · have : (ins i).reads.contains d = true := List.contains_iff_mem.2 hr
      rw [this] at h1; cases h1
    · exact .inl (by simpa using h1)
  · exact .inr (by simpa using h1)

theorem anc_closed (D : DReg n ins pre anc) {L : Nat → Bool} (hL : Closed n pre L) : ∀ j, j < n → L j = true → ∀ k ∈ anc j, L k = true := by
  intro j
  induction j using Nat.strongRecOn with
  | _ j ih =>
    intro hj hl k hk
    rcases (D.d2 j hj k hk).2 with h | ⟨l, h1, h2⟩
    · exact hL j hj hl k h
    · have := (D.d1 j hj l h1).1
      exact ih l this (by omega) (hL j hj hl l h1) k h2

theorem anc_ready (D : DReg n ins pre anc) {L : Nat → Bool} (hL : Closed n pre L) {j : Nat} (h : Rdy n pre L j) : ∀ k ∈ anc j, L k = true := by
  intro k hk
  rcases (D.d2 j h.1 k hk).2 with h' | ⟨l, h1, h2⟩
  · exact h.2.2 k h'
  · have := (D.d1 j h.1 l h1).1
    exact anc_closed D hL l (by have := h.1; omega) (h.2.2 l h1) k h2

theorem Closed.set {L : Nat → Bool} (hL : Closed n pre L) {i : Nat} (h : Rdy n pre L i) : Closed n pre (setL L i) := by
  intro j hj hl k hk
  unfold setL at hl ⊢
  split
  · rfl
  · split at hl
    · rename_i he; subst he; exact h.2.2 k hk
    · exact hL j hj hl k hk

def env (ins : Nat → AIns) (anc : Nat → List Nat) (t0 t : Tmps) (i : Nat) : Tmps := fun r => if (anc i).any (fun j => (ins j).dst == some r) then t r else t0 r

def ixs (A : List (Nat × Bool)) : List Nat := A.map (·.1)

structure Inv (P : Program) (G n : Nat) (ins : Nat → AIns) (pre anc : Nat → List Nat) (Q : AExit → ASt → Prop) (t0 : Tmps) (ds : List Deferred)
    (A : List (Nat × Bool)) (r : List DIx) (L : Nat → Bool) (t : Tmps) (m : AMem) (s : ASt) : Prop where
  hm : s.m = m
  hds : s.ds = ds
  a1 : dok n ins anc A r = true
  a2 : ∀ i, L i = true → i ∈ ixs A
  a3 : ∀ i, (i, true) ∈ A → L i = true
  a4 : ∀ i ∈ ixs A, i < n ∧ ∀ k ∈ anc i, k ∈ ixs A
  a5 : Closed n pre L
  u : ∀ r', (∀ j ∈ ixs A, (ins j).dst ≠ some r') → t r' = t0 r'
  x1 : ∀ r', (∀ i ∈ ixs A, L i = false → (ins i).dst ≠ some r') → s.t r' = t r'
  x2 : ∀ i ∈ ixs A, L i = false → ∀ r', (ins i).dst = some r' → s.t r' = t0 r'
  p : ∀ i, (i, false) ∈ A → L i = false → (ins i).float = true ∧ ∃ v, valF (ins i) (env ins anc t0 t i) m = some v ∧ ∀ d, (ins i).dst = some d → t d = v
  w : DW P G (r.map (DIx.item ins)) Q ⟨t, m, ds⟩

theorem upd_other {t : Tmps} {d : Option Nat} {v : Value} {r : Nat} (h : d ≠ some r) : updO t d v r = t r := by
  cases d with
  | none => rfl
  | some d => simp only [updO, upd]; rw [if_neg]; intro e; subst e; exact h rfl

theorem upd_same {t : Tmps} {d : Option Nat} {v : Value} {r : Nat} (h : d = some r) : updO t d v r = v := by
  subst h; simp [updO, upd]

theorem dok_common {A : List (Nat × Bool)} {x : DIx} {r : List DIx} (h : dok n ins anc A (x :: r) = true) :
    x.ix < n ∧ x.ix ∉ ixs A ∧ (∀ j ∈ anc x.ix, j ∈ ixs A) ∧ (∀ b, (b, true) ∈ A → b ∈ anc x.ix) := by
  unfold dok at h
  simp only [Bool.and_eq_true, decide_eq_true_eq, Bool.not_eq_true', List.all_eq_true, List.contains_iff_mem] at h
  obtain ⟨⟨⟨⟨h1, h2⟩, h3⟩, h4⟩, h5⟩ := h
  refine ⟨h1, ?_, h3, fun b hb => h4 b ?_⟩
  · intro hx
    have : (A.map (·.1)).contains x.ix = true := List.contains_iff_mem.2 hx
    rw [h2] at this; cases this
  · simp only [isBar, List.mem_map, List.mem_filter]
    exact ⟨(b, true), ⟨hb, rfl⟩, rfl⟩

theorem dok_f {A : List (Nat × Bool)} {i : Nat} {r : List DIx} (h : dok n ins anc A (.f i :: r) = true) : (ins i).float = true ∧ dok n ins anc ((i, false) :: A) r = true := by
  unfold dok at h
  simp only [Bool.and_eq_true] at h
  exact h.2

theorem dok_b {A : List (Nat × Bool)} {i : Nat} {chk : List Nat} {r : List DIx} (h : dok n ins anc A (.b i chk :: r) = true) :
    dok n ins anc ((i, true) :: A) r = true ∧ ∀ f, (f, false) ∈ A → f ∈ anc i ∨ (ins f).indep = true ∨ (f ∈ chk ∧ ∀ k, k < n → ∀ d, (ins k).dst = some d → d ∈ (ins f).reads → k ∈ anc f) := by
  unfold dok at h
  simp only [Bool.and_eq_true, List.all_eq_true, Bool.or_eq_true, List.contains_iff_mem, List.mem_range] at h
  refine ⟨h.2.2, fun f hf => ?_⟩
  have := h.2.1 _ hf
  rcases this with ((h1 | h1) | h1) | ⟨h1, h2⟩
  · cases h1
  · exact .inl h1
  · exact .inr (.inl h1)
  · refine .inr (.inr ⟨h1, fun k hk d hd hr => ?_⟩)
    have := h2 k hk
    simp only [hd, Bool.or_eq_true, Bool.not_eq_true'] at this
    rcases this with h3 | h3
    · have : (ins f).reads.contains d = true := List.contains_iff_mem.2 hr
      rw [h3] at this; cases this
    · exact List.contains_iff_mem.1 h3

/-- What comes behind a bar is ordered behind it. -/
theorem dok_after {b : Nat} : ∀ {r : List DIx} {A : List (Nat × Bool)}, dok n ins anc A r = true → (b, true) ∈ A → ∀ x ∈ r, b ∈ anc x.ix
  | [], A, h, hb, x, hx => by cases hx
  | y :: r, A, h, hb, x, hx => by
    rcases List.mem_cons.1 hx with rfl | hx2
    · exact (dok_common h).2.2.2 b hb
    · cases y with
      | f i => exact dok_after (dok_f h).2 (List.mem_cons_of_mem _ hb) x hx2
      | b i chk => exact dok_after (dok_b h).1 (List.mem_cons_of_mem _ hb) x hx2

/-- All are somewhere. -/
theorem dok_all : ∀ {r : List DIx} {A : List (Nat × Bool)}, dok n ins anc A r = true → ∀ i, i < n → i ∈ ixs A ∨ i ∈ r.map DIx.ix
  | [], A, h, i, hi => by
    simp only [dok, List.all_eq_true, List.mem_range, List.contains_iff_mem] at h
    exact .inl (h i hi)
  | y :: r, A, h, i, hi => by
    cases y with
    | f j =>
      rcases dok_all (dok_f h).2 i hi with h1 | h1
      · simp only [ixs, List.map_cons, List.mem_cons] at h1
        rcases h1 with h1 | h1
        · exact .inr (by simp [DIx.ix, h1])
        · exact .inl h1
      · exact .inr (by simp only [List.map_cons, List.mem_cons]; exact .inr h1)
    | b j chk =>
      rcases dok_all (dok_b h).1 i hi with h1 | h1
      · simp only [ixs, List.map_cons, List.mem_cons] at h1
        rcases h1 with h1 | h1
        · exact .inr (by simp [DIx.ix, h1])
        · exact .inl h1
      · exact .inr (by simp only [List.map_cons, List.mem_cons]; exact .inr h1)

theorem mem_ixs {A : List (Nat × Bool)} {i : Nat} (h : i ∈ ixs A) : (i, true) ∈ A ∨ (i, false) ∈ A := by
  simp only [ixs, List.mem_map] at h
  obtain ⟨⟨j, b⟩, h1, rfl⟩ := h
  cases b
  · exact .inr h1
  · exact .inl h1

theorem ixs_mem {A : List (Nat × Bool)} {i : Nat} {b : Bool} (h : (i, b) ∈ A) : i ∈ ixs A := List.mem_map.2 ⟨_, h, rfl⟩

/-- What a register that one of A reads has does not change when another one of A's is written. -/
theorem env_keep (D : DReg n ins pre anc) {A : List (Nat × Bool)} (hA : ∀ i ∈ ixs A, i < n ∧ ∀ k ∈ anc i, k ∈ ixs A) {x : Nat} (hx : x < n) (hxA : x ∉ ixs A) {i : Nat} (hi : i ∈ ixs A) (t : Tmps) (v : Value) :
    env ins anc t0 (updO t (ins x).dst v) i = env ins anc t0 t i := by
  funext r
  unfold env
  split
  · rename_i h
    simp only [List.any_eq_true, beq_iff_eq] at h
    obtain ⟨j, h1, h2⟩ := h
    have hj := (hA i hi).2 j h1
    refine upd_other ?_
    have hne : x ≠ j := fun e => hxA (e ▸ hj)
    exact (D.d3 x hx j (hA j hj).1 hne r h2).1
  · rfl

/-- A float more. -/
theorem Inv.float (D : DReg n ins pre anc) {A : List (Nat × Bool)} {x : Nat} {r : List DIx} {L : Nat → Bool} {t : Tmps} {m : AMem} {s : ASt} (h : Inv P G n ins pre anc Q t0 ds A (.f x :: r) L t m s) :
    ∃ t', Inv P G n ins pre anc Q t0 ds ((x, false) :: A) r L t' m s := by
  obtain ⟨c1, c2, c3, c4⟩ := dok_common h.a1
  simp only [DIx.ix] at c1 c2 c3 c4
  obtain ⟨hf, hok⟩ := dok_f h.a1
  obtain ⟨v, hv, hw⟩ := h.w
  simp only at hv hw
  have hxL : L x = false := by
    cases hl : L x with
    | false => rfl
    | true => exact absurd (h.a2 x hl) c2
  -- what it reads
  have hread : ∀ r' ∈ (ins x).reads, t r' = env ins anc t0 (updO t (ins x).dst v) x r' := by
    intro r' hr
    unfold env
    split
    · rename_i hh
      simp only [List.any_eq_true, beq_iff_eq] at hh
      obtain ⟨j, h1, h2⟩ := hh
      have hj := c3 j h1
      have hne : x ≠ j := fun e => c2 (e ▸ hj)
      exact (upd_other (D.d3 x c1 j (h.a4 j hj).1 hne r' h2).1).symm
    · rename_i hh
      apply h.u
      intro j hj hjd
      apply hh
      simp only [List.any_eq_true, beq_iff_eq]
      have hne : x ≠ j := fun e => c2 (e ▸ hj)
      rcases (D.d3 x c1 j (h.a4 j hj).1 hne r' hjd).2 hr with h1 | h1
      · exact ⟨j, h1, hjd⟩
      · exact absurd ((h.a4 j hj).2 x h1) c2
  refine ⟨updO t (ins x).dst v, ⟨h.hm, h.hds, hok, fun i hi => List.mem_cons_of_mem _ (h.a2 i hi), ?_, ?_, h.a5, ?_, ?_, ?_, ?_, hw⟩⟩
  · intro i hi
    rcases List.mem_cons.1 hi with h1 | h1
    · cases h1
    · exact h.a3 i h1
  · intro i hi
    simp only [ixs, List.map_cons, List.mem_cons] at hi
    rcases hi with rfl | hi
    · exact ⟨c1, fun k hk => List.mem_cons_of_mem _ (c3 k hk)⟩
    · exact ⟨(h.a4 i hi).1, fun k hk => List.mem_cons_of_mem _ ((h.a4 i hi).2 k hk)⟩
  · intro r' hr
    rw [upd_other (hr x (by simp [ixs]))]
    exact h.u r' fun j hj => hr j (List.mem_cons_of_mem _ hj)
  · intro r' hr
    rw [upd_other (hr x (by simp [ixs]) hxL)]
    exact h.x1 r' fun i hi hl => hr i (List.mem_cons_of_mem _ hi) hl
  · intro i hi hl r' hd
    simp only [ixs, List.map_cons, List.mem_cons] at hi
    rcases hi with rfl | hi
    · have h1 : ∀ j ∈ ixs A, (ins j).dst ≠ some r' := fun j hj hjd => by
        have hne : j ≠ i := fun e => c2 (e ▸ hj)
        exact (D.d3 j (h.a4 j hj).1 i c1 hne r' hd).1 hjd
      rw [h.x1 r' fun j hj _ => h1 j hj, h.u r' h1]
    · exact h.x2 i hi hl r' hd
  · intro i hi hl
    rcases List.mem_cons.1 hi with h1 | h1
    · cases h1
      exact ⟨hf, v, by rw [← valF_congr hread]; exact hv, fun d hd => upd_same hd⟩
    · obtain ⟨p1, v', p2, p3⟩ := h.p i h1 hl
      refine ⟨p1, v', by rw [env_keep D h.a4 c1 c2 (ixs_mem h1)]; exact p2, fun d hd => ?_⟩
      rw [upd_other]
      · exact p3 d hd
      · have hne : x ≠ i := fun e => c2 (e ▸ ixs_mem h1)
        exact (D.d3 x c1 i (h.a4 i (ixs_mem h1)).1 hne d hd).1

theorem Inv.advance (D : DReg n ins pre anc) : ∀ (r : List DIx) {A : List (Nat × Bool)} {L : Nat → Bool} {t : Tmps} {m : AMem} {s : ASt}, Inv P G n ins pre anc Q t0 ds A r L t m s →
    ∃ A' r' t', Inv P G n ins pre anc Q t0 ds A' r' L t' m s ∧ (r' = [] ∨ ∃ x chk r'', r' = .b x chk :: r'')
  | [], A, L, t, m, s, h => ⟨A, [], t, h, .inl rfl⟩
  | .f x :: r, A, L, t, m, s, h => by
    obtain ⟨t', h'⟩ := h.float D
    exact Inv.advance D r h'
  | .b x chk :: r, A, L, t, m, s, h => ⟨A, _, t, h, .inr ⟨x, chk, r, rfl⟩⟩

theorem chkOk_mem {s : ASt} {f : Nat} : ∀ {chk : List Nat}, chkOk s (chk.map ins) → f ∈ chk → ∃ v, valF (ins f) s.t s.m = some v ∧ ∀ d, (ins f).dst = some d → s.t d = v
  | c :: r, h, hf => by
    obtain ⟨h1, h2⟩ := h
    rcases List.mem_cons.1 hf with rfl | hf
    · split at h1
      · rename_i d hd
        exact ⟨_, h1, fun d' hd' => by rw [hd] at hd'; cases hd'; rfl⟩
      · rename_i hd
        obtain ⟨v, hv⟩ := Option.isSome_iff_exists.1 h1
        exact ⟨v, hv, fun d' hd' => by rw [hd] at hd'; cases hd'⟩
    · exact chkOk_mem h2 hf

def unl (n : Nat) (L : Nat → Bool) : Nat := ((List.range n).filter fun i => !L i).length

theorem filter_length_lt {p q : Nat → Bool} {i : Nat} : ∀ {l : List Nat}, i ∈ l → (∀ j, q j = true → p j = true) → p i = true → q i = false → (l.filter q).length < (l.filter p).length
  | x :: l, hi, hpq, hp, hq => by
    have hle : ∀ l : List Nat, (l.filter q).length ≤ (l.filter p).length := by
      intro l
      induction l with
      | nil => simp
      | cons y l ih =>
        simp only [List.filter_cons]
        cases hqy : q y with
        | true => simp [hpq y hqy]; exact ih
        | false => cases p y <;> simp <;> omega
    rcases List.mem_cons.1 hi with rfl | hi
    · simp only [List.filter_cons, hp, hq, if_true]
      have := hle l
      simp; omega
    · have := filter_length_lt hi hpq hp hq
      simp only [List.filter_cons]
      cases hqy : q x with
      | true => simp [hpq x hqy]; exact this
      | false => cases p x <;> simp <;> omega

theorem unl_set {L : Nat → Bool} {i : Nat} (hi : i < n) (hl : L i = false) : unl n (setL L i) < unl n L := by
  refine filter_length_lt (i := i) (List.mem_range.2 hi) (fun j hj => ?_) (by simp [hl]) (by simp [setL])
  simp only [setL, Bool.not_eq_true'] at hj ⊢
  split at hj
  · cases hj
  · exact hj

theorem none_ready {L : Nat → Bool} (D : DReg n ins pre anc) (h : ∀ j, ¬ Rdy n pre L j) : ∀ i, i < n → L i = true := by
  intro i
  induction i using Nat.strongRecOn with
  | _ i ih =>
    intro hi
    cases hl : L i with
    | true => rfl
    | false => exact absurd ⟨hi, hl, fun k hk => ih k (D.d1 i hi k hk).1 (by have := (D.d1 i hi k hk).1; omega)⟩ (h i)

theorem Inv.done (D : DReg n ins pre anc) {A : List (Nat × Bool)} {r : List DIx} {L : Nat → Bool} {t : Tmps} {m : AMem} {s : ASt} (h : Inv P G n ins pre anc Q t0 ds A r L t m s)
    (hr : r = [] ∨ ∃ x chk r'', r = .b x chk :: r'') (hn : ∀ j, ¬ Rdy n pre L j) : Q .normal s := by
  have hall := none_ready D hn
  rcases hr with rfl | ⟨x, chk, r'', rfl⟩
  · have hw := h.w
    have ht : s.t = t := by
      funext r'
      exact h.x1 r' fun i hi hl => by rw [hall i (h.a4 i hi).1] at hl; cases hl
    have : s = ⟨t, m, ds⟩ := by
      obtain ⟨st, sm, sd⟩ := s
      have h1 := h.hm; have h2 := h.hds
      simp only at h1 h2 ht
      subst h1 h2 ht; rfl
    rw [this]
    exact hw
  · obtain ⟨c1, c2, _, _⟩ := dok_common h.a1
    exact absurd (h.a2 _ (hall _ c1)) c2

theorem AAny_of_inv (D : DReg n ins pre anc) : ∀ (k : Nat) {A : List (Nat × Bool)} {r : List DIx} {L : Nat → Bool} {t : Tmps} {m : AMem} {s : ASt},
    Inv P G n ins pre anc Q t0 ds A r L t m s → unl n L ≤ k → AAny P G n ins pre Q k L s := by
  intro k
  induction k with
  | zero =>
    intro A r L t m s h hk
    obtain ⟨A', r', t', h', hr⟩ := h.advance D
    have hn : ∀ j, ¬ Rdy n pre L j := fun j hj => by
      have := unl_set hj.1 hj.2.1
      omega
    exact ⟨hn, h'.done D hr hn⟩
  | succ k ih =>
    intro A r L t m s h hk
    obtain ⟨A, r, t, h, hr⟩ := h.advance D
    refine ⟨h.done D hr, fun i hi => ?_⟩
    have hu := unl_set hi.1 hi.2.1
    have hanc := anc_ready D h.a5 hi
    have hs : s = ⟨s.t, m, ds⟩ := by
      obtain ⟨st, sm, sd⟩ := s
      have h1 := h.hm; have h2 := h.hds
      simp only at h1 h2
      subst h1 h2; rfl
    by_cases hiA : i ∈ ixs A
    · -- a float that waits
      rcases mem_ixs hiA with hb | hf
      · have := h.a3 i hb
        rw [hi.2.1] at this; cases this
      · obtain ⟨p1, v, p2, p3⟩ := h.p i hf hi.2.1
        have hread : ∀ r' ∈ (ins i).reads, s.t r' = env ins anc t0 t i r' := by
          intro r' hr'
          unfold env
          split
          · rename_i hh
            simp only [List.any_eq_true, beq_iff_eq] at hh
            obtain ⟨j, h1, h2⟩ := hh
            refine h.x1 r' fun k hk hl hkd => ?_
            have hjA := (h.a4 i hiA).2 j h1
            have hne : k ≠ j := fun e => by rw [e, hanc j h1] at hl; cases hl
            exact (D.d3 k (h.a4 k hk).1 j (h.a4 j hjA).1 hne r' h2).1 hkd
          · rename_i hh
            by_cases hex : ∃ j ∈ ixs A, (ins j).dst = some r'
            · obtain ⟨j, hj, hjd⟩ := hex
              by_cases hji : j = i
              · subst hji; exact h.x2 j hj hi.2.1 r' hjd
              · rcases (D.d3 i hi.1 j (h.a4 j hj).1 (Ne.symm hji) r' hjd).2 hr' with h1 | h1
                · exact absurd (by simp only [List.any_eq_true, beq_iff_eq]; exact ⟨j, h1, hjd⟩) hh
                · refine h.x2 j hj ?_ r' hjd
                  cases hl : L j with
                  | false => rfl
                  | true =>
                    have := anc_closed D h.a5 j (h.a4 j hj).1 hl i h1
                    rw [hi.2.1] at this; cases this
            · have hno : ∀ j ∈ ixs A, (ins j).dst ≠ some r' := fun j hj hjd => hex ⟨j, hj, hjd⟩
              rw [h.x1 r' fun j hj _ => hno j hj, h.u r' hno]
        have hv : valF (ins i) s.t s.m = some v := by rw [h.hm, valF_congr hread]; exact p2
        refine Aone_float p1 hv (ih (A := A) (r := r) (t := t) (m := m) ⟨h.hm, h.hds, h.a1, ?_, ?_, h.a4, h.a5.set hi, h.u, ?_, ?_, ?_, h.w⟩ (by omega))
        · intro j hj
          simp only [setL] at hj
          split at hj
          · rename_i he; subst he; exact hiA
          · exact h.a2 j hj
        · intro j hj
          simp only [setL]
          split
          · rfl
          · exact h.a3 j hj
        · intro r' hr'
          by_cases hd : (ins i).dst = some r'
          · simp only [upd_same hd]
            exact (p3 r' hd).symm
          · simp only [upd_other hd]
            refine h.x1 r' fun j hj hl => ?_
            by_cases hji : j = i
            · subst hji; exact hd
            · exact hr' j hj (by simp only [setL, if_neg hji]; exact hl)
        · intro j hj hl r' hd
          simp only [setL] at hl
          split at hl
          · cases hl
          · rename_i hji
            have := (D.d3 i hi.1 j (h.a4 j hj).1 (Ne.symm hji) r' hd).1
            simp only [upd_other this]
            exact h.x2 j hj hl r' hd
        · intro j hj hl
          simp only [setL] at hl
          split at hl
          · cases hl
          · exact h.p j hj hl
    · -- the next bar
      obtain ⟨x, chk, r, rfl, rfl⟩ : ∃ x chk r'', r = .b x chk :: r'' ∧ i = x := by
        rcases (dok_all h.a1 i hi.1).resolve_left hiA with hin
        rcases hr with rfl | ⟨x, chk, r'', rfl⟩
        · cases hin
        · refine ⟨x, chk, r'', rfl, ?_⟩
          simp only [List.map_cons, List.mem_cons, DIx.ix] at hin
          rcases hin with h1 | h1
          · exact h1
          · obtain ⟨y, hy, he⟩ := List.mem_map.1 h1
            have := dok_after (b := x) (dok_b h.a1).1 List.mem_cons_self y hy
            rw [he] at this
            have := h.a2 x (hanc x this)
            exact absurd this (dok_common h.a1).2.1
      obtain ⟨c1, c2, c3, c4⟩ := dok_common h.a1
      simp only [DIx.ix] at c1 c2 c3 c4
      obtain ⟨hok, hchk⟩ := dok_b h.a1
      have hw : Aone P G (ins i) (fun s' => chkOk s' (chk.map ins) ∧ DW P G (r.map (DIx.item ins)) Q s') (PanAny Q) ⟨t, m, ds⟩ := h.w
      have hread : ∀ r' ∈ (ins i).reads, t r' = s.t r' := by
        intro r' hr'
        refine (h.x1 r' fun k hk hl hkd => ?_).symm
        have hne : i ≠ k := fun e => c2 (e ▸ hk)
        rcases (D.d3 i c1 k (h.a4 k hk).1 hne r' hkd).2 hr' with h1 | h1
        · rw [hanc k h1] at hl; cases hl
        · exact c2 ((h.a4 k hk).2 i h1)
      rw [hs]
      refine Aone_congr hread ?_ (fun c m' hq => hq s.t) hw
      rintro v m' ⟨hc, hd⟩
      have hAne : ∀ j ∈ ixs A, j ≠ i := fun j hj e => c2 (e ▸ hj)
      have hu' : ∀ r', (∀ j ∈ ixs ((i, true) :: A), (ins j).dst ≠ some r') → updO t (ins i).dst v r' = t0 r' := by
        intro r' hr'
        rw [upd_other (hr' i (by simp [ixs]))]
        exact h.u r' fun j hj => hr' j (List.mem_cons_of_mem _ hj)
      refine ih (A := (i, true) :: A) (r := r) (t := updO t (ins i).dst v) (m := m') ⟨rfl, rfl, hok, ?_, ?_, ?_, h.a5.set hi, hu', ?_, ?_, ?_, hd⟩ (by omega)
      · intro j hj
        simp only [setL] at hj
        split at hj
        · rename_i he; subst he; simp [ixs]
        · exact List.mem_cons_of_mem _ (h.a2 j hj)
      · intro j hj
        simp only [setL]
        split
        · rfl
        · rename_i hne
          rcases List.mem_cons.1 hj with h1 | h1
          · cases h1; exact absurd rfl hne
          · exact h.a3 j h1
      · intro j hj
        simp only [ixs, List.map_cons, List.mem_cons] at hj
        rcases hj with rfl | hj
        · exact ⟨c1, fun k hk => List.mem_cons_of_mem _ (c3 k hk)⟩
        · exact ⟨(h.a4 j hj).1, fun k hk => List.mem_cons_of_mem _ ((h.a4 j hj).2 k hk)⟩
      · intro r' hr'
        by_cases hdd : (ins i).dst = some r'
        · simp only [upd_same hdd]
        · simp only [upd_other hdd]
          refine h.x1 r' fun j hj hl => hr' j (List.mem_cons_of_mem _ hj) ?_
          simp only [setL, if_neg (hAne j hj)]; exact hl
      · intro j hj hl r' hdj
        simp only [setL] at hl
        split at hl
        · cases hl
        · rename_i hne
          simp only [ixs, List.map_cons, List.mem_cons] at hj
          have hj := hj.resolve_left hne
          have := (D.d3 i c1 j (h.a4 j hj).1 (Ne.symm hne) r' hdj).1
          simp only [upd_other this]
          exact h.x2 j hj hl r' hdj
      · intro j hj hl
        simp only [setL] at hl
        split at hl
        · cases hl
        · rename_i hne
          have hj : (j, false) ∈ A := by
            rcases List.mem_cons.1 hj with h1 | h1
            · cases h1
            · exact h1
          have hjA := ixs_mem hj
          obtain ⟨p1, v', p2, p3⟩ := h.p j hj hl
          refine ⟨p1, ?_⟩
          have hkeep := env_keep (t0 := t0) D h.a4 c1 c2 hjA t v
          have hdst : ∀ d, (ins j).dst = some d → updO t (ins i).dst v d = t d := fun d hdj =>
            upd_other (D.d3 i c1 j (h.a4 j hjA).1 (Ne.symm hne) d hdj).1
          rcases hchk j hj with h1 | h1 | ⟨h1, h2⟩
          · rw [hanc j h1] at hl; cases hl
          · exact ⟨v', by rw [hkeep]; exact valF_indep h1 p2, fun d hdj => by rw [hdst d hdj]; exact p3 d hdj⟩
          · obtain ⟨v2, q1, q2⟩ := chkOk_mem hc h1
            refine ⟨v2, ?_, q2⟩
            rw [← valF_congr (t := updO t (ins i).dst v)]
            · exact q1
            · intro r' hr'
              unfold env
              split
              · rfl
              · rename_i hh
                refine hu' r' fun k hk hkd => hh ?_
                have hkn : k < n := by
                  simp only [ixs, List.map_cons, List.mem_cons] at hk
                  rcases hk with rfl | hk
                  · exact c1
                  · exact (h.a4 k hk).1
                simp only [List.any_eq_true, beq_iff_eq]
                exact ⟨k, h2 k hkn r' hkd hr', hkd⟩

/-- All orders, of one. -/
theorem AAny_of_DW (hd : dregs n ins pre anc = true) {dsx : List DIx} (ho : dok n ins anc [] dsx = true) {s : ASt} (h : DW P G (dsx.map (DIx.item ins)) Q s) : AAny P G n ins pre Q n (fun _ => false) s := by
  refine AAny_of_inv (dregs_spec hd) n (t0 := s.t) (ds := s.ds) (A := []) (r := dsx) (t := s.t) (m := s.m) ⟨rfl, rfl, ho, ?_, ?_, ?_, ?_, ?_, ?_, ?_, ?_, h⟩ ?_
  · intro i hi; cases hi
  · intro i hi; cases hi
  · intro i hi; cases hi
  · intro j hj hl; cases hl
  · intro r' _; rfl
  · intro r' _; rfl
  · intro i hi; cases hi
  · intro i hi; cases hi
  · simp [unl]
    exact Nat.le_trans (List.length_filter_le _ _) (by simp)

end
end Go.AM
