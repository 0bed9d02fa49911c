/-
  Operations that may be done in any order.
-/
import Derived.Test.YtidngakhkpodgaaAmCode
set_option linter.unusedVariables false
set_option linter.unusedSimpArgs false
set_option linter.unnecessarySimpa false
namespace Go.AM
set_option linter.unusedVariables false
set_option linter.unusedSimpArgs false

def optL (x : Option AOpd) : List AOpd := match x with | some x => [x] | none => []

def AOp.opds : AOp → List AOpd
  | .mov x => [x]
  | .pick c a b => [c, a, b]
  | .new _ _ => []
  | .box _ x => [x]
  | .bld _ ps => ps.map (·.2.2)
  | .bldSl _ _ _ ps => ps.map (·.2.2)
  | .ld1 a => [a]
  | .ldn _ a => [a]
  | .st _ a x => [a, x]
  | .nchk x => [x]
  | .bin _ x y => [x, y]
  | .eql _ _ x y => [x, y]
  | .un _ x => [x]
  | .cvt _ x => [x]
  | .idc x => [x]
  | .s2b _ x => [x]
  | .b2s x => [x]
  | .mkI _ x => [x]
  | .mkF _ a b => a ++ b
  | .mkM => []
  | .mkSl _ _ _ _ l c => [l, c]
  | .slS x lo hi => x :: (optL lo ++ optL hi)
  | .slV _ x lo hi mx => x :: (optL lo ++ optL hi ++ optL mx)
  | .slA _ _ x lo hi mx => x :: (optL lo ++ optL hi ++ optL mx)
  | .fad _ x => [x]
  | .fld _ _ _ x => [x]
  | .iadA _ _ x i => [x, i]
  | .iadV _ x i => [x, i]
  | .ixA _ _ _ x i => [x, i]
  | .ixS x i => [x, i]
  | .ext _ x => [x]
  | .arrAt _ x => [x]
  | .rng x => [x]
  | .nxt x => [x]
  | .lenS x => [x]
  | .lenV x => [x]
  | .lenN _ => []
  | .app _ _ _ _ x y => [x, y]
  | .appN _ _ _ _ x y => [x, y]
  | .cpy _ x y => [x, y]
  | .mnx _ x xs => x :: xs
  | .clr _ _ x => [x]
  | .toU x => [x]
  | .frU _ _ x => [x]
  | .sdat x => [x]
  | .ustr _ x n => [x, n]

theorem bnd_congr {x : Option AOpd} {t t' : Tmps} {d : Nat} (h : ∀ y ∈ optL x, y.ev t = y.ev t') : bnd x t d = bnd x t' d := by
  cases x with
  | none => rfl
  | some x => simp [optL] at h; simp [bnd, h]

theorem cut_congr {n c : Nat} {lo hi mx : Option AOpd} {t t' : Tmps} (h1 : ∀ y ∈ optL lo, y.ev t = y.ev t') (h2 : ∀ y ∈ optL hi, y.ev t = y.ev t') (h3 : ∀ y ∈ optL mx, y.ev t = y.ev t') :
    cut n c lo hi mx t = cut n c lo hi mx t' := by
  simp only [cut, bnd_congr h1, bnd_congr h2, bnd_congr h3]

theorem map_ev_congr {xs : List AOpd} {t t' : Tmps} (h : ∀ y ∈ xs, y.ev t = y.ev t') : xs.map (·.ev t) = xs.map (·.ev t') :=
  List.map_congr_left h

theorem map_ps_congr {ps : List (Nat × Nat × AOpd)} {t t' : Tmps} (h : ∀ y ∈ ps.map (·.2.2), y.ev t = y.ev t') :
    (ps.map fun p => (p.1, p.2.1, p.2.2.ev t)) = ps.map fun p => (p.1, p.2.1, p.2.2.ev t') :=
  List.map_congr_left fun p hp => by rw [h p.2.2 (List.mem_map.2 ⟨p, hp, rfl⟩)]

theorem stepOp_congr {o : AOp} {t t' : Tmps} {m : AMem} (h : ∀ x ∈ o.opds, x.ev t = x.ev t') : stepOp o t m = stepOp o t' m := by
  cases o <;> simp only [AOp.opds] at h
  case bld z ps => simp only [stepOp, map_ps_congr h]
  case bldSl e n z ps => simp only [stepOp, map_ps_congr h]
  case mkF f a b =>
    have h1 := map_ev_congr (xs := a) (t := t) (t' := t') fun y hy => h y (List.mem_append_left _ hy)
    have h2 := map_ev_congr (xs := b) (t := t) (t' := t') fun y hy => h y (List.mem_append_right _ hy)
    simp only [stepOp, h1, h2]
  case mnx mx x xs =>
    have h1 := h x (by simp)
    have h2 := map_ev_congr (xs := xs) (t := t) (t' := t') fun y hy => h y (by simp [hy])
    simp only [stepOp, h1, h2]
  case slS x lo hi =>
    have h0 := h x (by simp)
    have h1 : ∀ n c, cut n c lo hi none t = cut n c lo hi none t' := fun n c => cut_congr (fun y hy => h y (by simp [hy])) (fun y hy => h y (by simp [hy])) (by simp [optL])
    simp only [stepOp, h0, h1]
  case slV s x lo hi mx =>
    have h0 := h x (by simp)
    have h1 : ∀ n c, cut n c lo hi mx t = cut n c lo hi mx t' := fun n c => cut_congr (fun y hy => h y (by simp [hy])) (fun y hy => h y (by simp [hy])) (fun y hy => h y (by simp [hy]))
    simp only [stepOp, h0, h1]
  case slA n s x lo hi mx =>
    have h0 := h x (by simp)
    have h1 : ∀ n c, cut n c lo hi mx t = cut n c lo hi mx t' := fun n c => cut_congr (fun y hy => h y (by simp [hy])) (fun y hy => h y (by simp [hy])) (fun y hy => h y (by simp [hy]))
    simp only [stepOp, h0, h1]
  all_goals (try simp only [List.mem_cons, List.not_mem_nil, or_false, forall_eq_or_imp, forall_eq] at h)
  all_goals first
    | rfl
    | (simp only [stepOp, h]; done)
    | (obtain ⟨h1, h2⟩ := h; simp only [stepOp, h1, h2]; done)
    | (obtain ⟨h1, h2, h3⟩ := h; simp only [stepOp, h1, h2, h3]; done)

/-- It leaves memory alone. -/
def AOp.pure : AOp → Bool
  | .new _ _ | .box _ _ | .bldSl _ _ _ _ | .st _ _ _ | .s2b _ _ | .mkM | .mkSl _ _ _ _ _ _ | .rng _ | .nxt _ | .app _ _ _ _ _ _ | .appN _ _ _ _ _ _ | .cpy _ _ _ | .clr _ _ _ | .ustr _ _ _ => false
  | _ => true

/-- And does not look at it. -/
def AOp.indep : AOp → Bool
  | .ld1 _ | .ldn _ _ | .slV _ _ _ _ _ | .b2s _ | .sdat _ | .toU _ | .frU _ _ _ => false
  | o => o.pure

theorem stepOp_pure {o : AOp} (h : o.pure = true) {t : Tmps} {m m' : AMem} {v : Value} (hs : stepOp o t m = some (v, m')) : m' = m := by
  cases o <;> simp only [AOp.pure, Bool.false_eq_true] at h <;> simp only [stepOp] at hs
  all_goals (repeat' split at hs)
  all_goals first
    | (simp at hs; done)
    | (simp at hs; exact hs.2.symm)
    | (simp only [Option.map_eq_some_iff, Prod.mk.injEq] at hs; obtain ⟨a, h1, h2, h3⟩ := hs; exact h3.symm)

theorem stepOp_indep {o : AOp} (h : o.indep = true) {t : Tmps} {m : AMem} {v : Value} (hs : stepOp o t m = some (v, m)) (m2 : AMem) : stepOp o t m2 = some (v, m2) := by
  cases o <;> simp only [AOp.indep, AOp.pure, Bool.false_eq_true] at h <;> simp only [stepOp] at hs ⊢
  all_goals (repeat' split at hs)
  all_goals (try (simp at hs; done))
  all_goals (try simp only [Option.map_eq_some_iff, Prod.mk.injEq, Option.some.injEq, and_true, true_and] at hs)
  all_goals (try obtain ⟨a, h1, rfl⟩ := hs)
  all_goals (try subst hs)
  all_goals (try simp_all)
end Go.AM
