/- Rows of rows of bytes, as arguments. -/
import Derived.Test.YtidngakhkpodgaaDoorB5
import Derived.Deep.Slices
set_option linter.unusedVariables false
set_option linter.unusedSimpArgs false
set_option linter.unnecessarySimpa false
namespace Go.AM
set_option linter.unusedVariables false

/-- What a slice of slices of bytes is, in a world. -/
inductive SlBB (w : World) : Value → Prop
  | nil : SlBB w (.slice none 0 0)
  | none (a : Addr) : SlBB w (.slice (some a) 0 0)
  | some (b o len cap : Nat) (V : Nat → Value) (carr : Array Value) (ty : TypeId) (frz : Nat × Nat) (hh : w.heap[b]? = some (.cells carr ty frz)) (hl : o + len ≤ carr.size)
      (hc : ∀ j, j < len → carr.getD (o + j) undef = V j) (hV : ∀ j, j < len → SlB w (V j)) (hcap : cap ≤ 9223372036854775807) (hle : len ≤ cap) : SlBB w (.slice (some ⟨b, o, Option.none⟩) len cap)

theorem open_bss {P : Program} {H : Type} {enc : TypeId × Value → H} {w : World} {base : Nat} {hd : Bool} {t e q : TypeId} {cs : List Value} {x : DataW H × List MemPlace} {fuel : Nat}
    (ht : P.underlying t = some (.slice e)) (he : P.underlying e = some (.slice q)) (hq : P.underlying q = some (.int .u8)) (ce : P.cellsOf e = 1) (cq : P.cellsOf q = 1)
    (h : DataW.trod enc P w base (fun _ => true) hd fuel t cs = some x) : ∃ v, cs = [v] ∧ SlBB w v := by
  rcases Go.Deep.open_slice1 ht ce h with ⟨rfl, _⟩ | ⟨a, len, cap, m, n, V, D, Pl, rfl, _, hle, hmax, hm, _, hx⟩
  · exact ⟨_, rfl, .nil⟩
  · refine ⟨_, rfl, ?_⟩
    simp only [if_true] at hm
    subst hm
    by_cases h0 : m = 0
    · subst h0
      obtain rfl : len = 0 := by omega
      exact .none a
    · have hc0 := (hx 0 (by omega)).1
      have ha0 : a.add 0 = a := by simp [Addr.add]
      rw [ha0] at hc0
      obtain ⟨b, o, sp⟩ := a
      simp only [World.cell?] at hc0
      split at hc0 <;> try (simp at hc0; done)
      rename_i carr ty frz hh
      split at hc0 <;> try (simp at hc0; done)
      rename_i hsp
      obtain rfl : sp = Option.none := by cases sp <;> simp_all
      have hall : ∀ i, i < m → carr[o + i]? = some (V i) := fun i hi => by
        have := (hx i hi).1
        by_cases hi0 : i = 0
        · subst hi0; rw [ha0] at this; simpa [World.cell?, hh] using this
        · simpa [World.cell?, Addr.add, hi0, hh] using this
      refine .some b o len m V carr ty frz hh ?_ (fun j hj => ?_) (fun j hj => ?_) hmax hle
      · by_cases hl0 : len = 0
        · have := (Array.getElem?_eq_some_iff.1 (hall 0 (by omega))).1; omega
        · have := (Array.getElem?_eq_some_iff.1 (hall (len - 1) (by omega))).1; omega
      · simp only [Array.getD_eq_getD_getElem?, hall j (by omega), Option.getD_some]
      · obtain ⟨v, hv, hs⟩ := open_bytes he hq cq (hx j (by omega)).2
        cases hv; exact hs
end Go.AM

namespace Go.Proofs.YtidngakhkpodgaaDoor.gl
open Go.ChangeShapes Go.WideShapes Go.ChangeAt Go.RowKit
set_option linter.unusedVariables false
theorem os_at {ty ty2 : TypeId} {l : List (AM.AObj × AM.Loc)} {k : Nat} {x : AM.AObj × AM.Loc} (h : l[k]? = some x) : (osOf ty ty2 l)[3 + k]? = some x := by
  rw [Nat.add_comm]; exact h
theorem get_at {ty ty2 : TypeId} {l : List (AM.AObj × AM.Loc)} {k : Nat} {x : AM.AObj × AM.Loc} (h : l[k]? = some x) : (AM.memOf (osOf ty ty2 l)).get (3 + k) = x.1 := by
  simp only [AM.memOf, os_at h]
theorem ren_at {ty ty2 : TypeId} {l : List (AM.AObj × AM.Loc)} {k : Nat} {x : AM.AObj × AM.Loc} (h : l[k]? = some x) : AM.renOf (osOf ty ty2 l) (3 + k) = some x.2 := by
  simp only [AM.renOf, os_at h, Option.map_some]
theorem lt_at {ty ty2 : TypeId} {l : List (AM.AObj × AM.Loc)} {k : Nat} {x : AM.AObj × AM.Loc} (h : l[k]? = some x) : 3 + k < (AM.memOf (osOf ty ty2 l)).size := by
  have := (List.getElem?_eq_some_iff.1 h).1
  show 3 + k < l.length + 1 + 1 + 1; omega

/-- One element, whose bytes lie in the k-th block. -/
theorem elem {W : World} {v : Value} (h : AM.SlB W v) (ty ty2 : TypeId) (k : Nat) : ∃ y : (AM.AObj × AM.Loc) × Option Addr × Nat × List UInt8, y.1.1.wrt = false ∧ (∀ ρ, AM.ObjRel ρ y.1.1 y.1.2 W) ∧
    ∀ l : List (AM.AObj × AM.Loc), l[k]? = some y.1 → AM.BSl (AM.memOf (osOf ty ty2 l)) y.2.1 y.2.2.1 y.2.2.2 ∧ AM.VRel (AM.renOf (osOf ty ty2 l)) (.slice y.2.1 y.2.2.2.length y.2.2.1) v := by
  cases h with
  | nil => exact ⟨((.dead, ⟨2, 0, 0, 1⟩), none, 0, []), rfl, (fun _ => trivial), fun l hl => ⟨.inl ⟨rfl, rfl, rfl⟩, .nilSlice 0 0⟩⟩
  | none a => exact ⟨((.dead, ⟨2, 0, 0, 1⟩), some ⟨0, 0, none⟩, 0, []), rfl, (fun _ => trivial), fun l hl => ⟨.inr ⟨0, 0, _, _, _, _, rfl, by show 0 < l.length + 1 + 1 + 1; omega, rfl, AM.cutL_zero (Nat.zero_le _), .inr ⟨AM.zeroCap_lt, Nat.le_refl _⟩⟩, .sliceEnd (b := 0) (o := 0) (L := ⟨0, 0, 64, 1⟩) rfl (.inl rfl)⟩⟩
  | some b o cap c carr t frz hh hl hc hcap hle =>
    refine ⟨((.cells (c.map AM.byteV) t false (.full 1), ⟨b, o, c.length, 1⟩), some ⟨3 + k, 0, none⟩, cap, c), rfl, fun ρ => ?_, fun l hk => ⟨.inr ⟨3 + k, 0, _, _, _, _, rfl, lt_at hk, get_at hk, ?_, .inr ⟨AM.openCap_lt hcap, hle⟩⟩, .slice (b := 3 + k) (o := 0) (ren_at hk) (AM.openCap_lt hcap)⟩⟩
    · have := AM.ObjRel.plain (ρ := ρ) (c := c.map AM.byteV) (o := o) (e := t) hh (by rw [List.length_map]; exact hl) (fun j hj => by rw [List.getElem_map]; exact hc j (by simpa using hj)) (AM.plain_byteV _) 1 (by omega)
      rw [List.length_map] at this
      exact this
    · rw [← List.length_map (f := AM.byteV)]; exact AM.cutL_all rfl

/-- A row of rows of bytes, of which the k-th block and those behind it are. -/
theorem arg_bss {W : World} {v : Value} (h : AM.SlBB W v) (ty ty2 : TypeId) (k : Nat) : ∃ (l : List (AM.AObj × AM.Loc)) (a : Option Addr) (cap : Nat) (ls : List (List UInt8)), ls.length ≤ 9223372036854775807 ∧ (∀ x ∈ l, x.1.wrt = false) ∧
    ∀ l1 l2 : List (AM.AObj × AM.Loc), l1.length = k → (∀ x ∈ l, AM.ObjRel (AM.renOf (osOf ty ty2 (l1 ++ (l ++ l2)))) x.1 x.2 W) ∧ AM.BSS (AM.memOf (osOf ty ty2 (l1 ++ (l ++ l2)))) a ls ∧
      AM.VRel (AM.renOf (osOf ty ty2 (l1 ++ (l ++ l2)))) (.slice a ls.length cap) v := by
  cases h with
  | nil => exact ⟨[], none, 0, [], by simp, (fun _ h => nomatch h), fun l1 l2 hk => ⟨(fun _ h => nomatch h), .inl ⟨rfl, rfl⟩, .nilSlice 0 0⟩⟩
  | none a => exact ⟨[], some ⟨0, 0, none⟩, 0, [], by simp, (fun _ h => nomatch h), fun l1 l2 hk => ⟨(fun _ h => nomatch h), .inr ⟨0, 0, _, _, _, _, rfl, by show 0 < (l1 ++ ([] ++ l2)).length + 1 + 1 + 1; omega, rfl, fun i h => nomatch h⟩, .sliceEnd (b := 0) (o := 0) (L := ⟨0, 0, 64, 1⟩) rfl (.inl rfl)⟩⟩
  | some b o len cap V carr t frz hh hl hc hV hcap hle =>
    haveI : Inhabited ((AM.AObj × AM.Loc) × Option Addr × Nat × List UInt8) := ⟨((.dead, ⟨2, 0, 0, 1⟩), none, 0, [])⟩
    obtain ⟨y, hy⟩ := Go.Deep.choose_lt (α := (AM.AObj × AM.Loc) × Option Addr × Nat × List UInt8) (n := len) (fun i hi => elem (hV i hi) ty ty2 (k + 1 + i))
    let X : List Value := (List.range len).map fun i => .slice (y i).2.1 (y i).2.2.2.length (y i).2.2.1
    let l : List (AM.AObj × AM.Loc) := (.cells X t false (.full 1), ⟨b, o, len, 1⟩) :: (List.range len).map fun i => (y i).1
    have hX : X.length = len := by simp [X]
    refine ⟨l, some ⟨3 + k, 0, none⟩, cap, (List.range len).map fun i => (y i).2.2.2, by simp; omega, fun x hx => ?_, fun l1 l2 hk => ?_⟩
    · simp only [l, List.mem_cons, List.mem_map, List.mem_range] at hx
      rcases hx with rfl | ⟨i, hi, rfl⟩
      · rfl
      · exact (hy i hi).1
    · have h0 : (l1 ++ (l ++ l2))[k]? = some (.cells X t false (.full 1), ⟨b, o, len, 1⟩) := by
        rw [List.getElem?_append_right (by omega), hk, Nat.sub_self]; rfl
      have hi1 : ∀ i, i < len → (l1 ++ (l ++ l2))[k + 1 + i]? = some (y i).1 := fun i hi => by
        rw [List.getElem?_append_right (by omega), hk, show k + 1 + i - k = i + 1 by omega, List.getElem?_append_left (by simp [l]; omega)]
        simp [l, hi]
      have hE := fun i hi => (hy i hi).2.2 _ (hi1 i hi)
      refine ⟨fun x hx => ?_, .inr ⟨3 + k, 0, X, _, _, _, rfl, lt_at h0, get_at h0, fun i hi => ?_⟩, ?_⟩
      · simp only [l, List.mem_cons, List.mem_map, List.mem_range] at hx
        rcases hx with rfl | ⟨i, hi, rfl⟩
        · refine ⟨carr, frz, hh, hl, Nat.le_of_eq hX, (fun h => by cases h), (fun k h => by cases h; exact ⟨hX.symm, rfl, by omega⟩), (fun j hj => ?_), (fun z h => by cases h), fun h => by cases h⟩
          rw [hX] at hj
          rw [hc j hj]
          simp only [X, List.getElem_map, List.getElem_range]
          exact (hE j hj).2
        · exact (hy i hi).2.1 _
      · have hi' : i < len := by simpa using hi
        refine ⟨(y i).2.1, (y i).2.2.1, ?_, ?_⟩
        · simp [X, hi']
        · simpa using (hE i hi').1
      · rw [List.length_map, List.length_range]
        exact .slice (b := 3 + k) (o := 0) (ren_at h0) (AM.openCap_lt hcap)
end Go.Proofs.YtidngakhkpodgaaDoor.gl
