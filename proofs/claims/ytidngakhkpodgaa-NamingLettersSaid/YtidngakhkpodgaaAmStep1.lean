/-
  What the abstract memory says of the world: reading cells, writing cells, new rows.
-/
import Derived.Test.YtidngakhkpodgaaAmOps
import Derived.Laws.IdiomCopy
import Derived.Laws.Append
import Derived.ChangeKeysEq
set_option linter.unusedVariables false
set_option linter.unusedSimpArgs false
set_option linter.unnecessarySimpa false
namespace Go.AM
set_option linter.unusedVariables false
set_option linter.unusedSimpArgs false

theorem VRel.oneCell {ρ : Ren} {v v' : Value} (h : VRel ρ v v') (k : AM.oneCell v = true) : v'.oneCell' = true := by
  cases h <;> simp_all [AM.oneCell, Value.oneCell']

theorem VRel.oneCell_iff {ρ : Ren} {v v' : Value} (h : VRel ρ v v') : v'.oneCell' = AM.oneCell v := by
  cases h <;> simp_all [AM.oneCell, Value.oneCell']

theorem add_mk (b o i : Nat) : (⟨b, o, none⟩ : Addr).add i = ⟨b, o + i, none⟩ := by
  unfold Addr.add; split
  · rename_i h; subst h; rfl
  · rfl

theorem cell_of_heap {w : World} {b : Nat} {carr : Array Value} {e : TypeId} {frz : Nat × Nat} (h : w.heap[b]? = some (.cells carr e frz)) (o : Nat) :
    w.cell? ⟨b, o, none⟩ = carr[o]? := by
  simp [World.cell?, h]

theorem frozen_of_heap {w : World} {b : Nat} {carr : Array Value} {e : TypeId} {frz : Nat × Nat} (h : w.heap[b]? = some (.cells carr e frz)) (o : Nat) :
    w.frozen? ⟨b, o, none⟩ = (decide (frz.1 ≤ o) && decide (o < frz.2)) := by
  simp [World.frozen?, h]

/-! A block of cells, opened. -/
structure BlkAt (ρ : Ren) (c : List Value) (e : TypeId) (wr : Bool) (sp : Spare) (L : Loc) (w : World) (carr : Array Value) (frz : Nat × Nat) : Prop where
  heap : w.heap[L.cb]? = some (.cells carr e frz)
  size : L.co + L.cc ≤ carr.size
  len : c.length ≤ L.cc
  exact : sp = .exact → L.cc = c.length ∧ L.co = 0 ∧ carr.size = L.cc
  full : ∀ k, sp = .full k → L.cc = c.length ∧ L.sz = k ∧ 0 < k
  cell : ∀ j (h : j < c.length), VRel ρ c[j] (carr.getD (L.co + j) undef)
  spare : ∀ z, sp = .room z → z.length = L.sz ∧ 0 < L.sz ∧ c.length % L.sz = 0 ∧ L.cc % L.sz = 0 ∧ (∀ v ∈ z, Plain v) ∧
        ∀ j, c.length ≤ j → j < L.cc → carr.getD (L.co + j) undef = z.getD (j % L.sz) undef
  free : wr = true → ∀ j, j < L.cc → ¬ (frz.1 ≤ L.co + j ∧ L.co + j < frz.2)

theorem ObjRel.blk {ρ : Ren} {c : List Value} {e : TypeId} {wr : Bool} {sp : Spare} {L : Loc} {w : World} (h : ObjRel ρ (.cells c e wr sp) L w) :
    ∃ carr frz, BlkAt ρ c e wr sp L w carr frz := by
  obtain ⟨carr, frz, h1, h2, h3, h4, h5, h6, h7, h8⟩ := h
  exact ⟨carr, frz, h1, h2, h3, h4, h5, h6, h7, h8⟩

theorem BlkAt.obj {ρ : Ren} {c : List Value} {e : TypeId} {wr : Bool} {sp : Spare} {L : Loc} {w : World} {carr : Array Value} {frz : Nat × Nat}
    (h : BlkAt ρ c e wr sp L w carr frz) : ObjRel ρ (.cells c e wr sp) L w := ⟨carr, frz, h.heap, h.size, h.len, h.exact, h.full, h.cell, h.spare, h.free⟩

theorem Rep.blk {G : Nat} {m : AMem} {ρ : Ren} {w : World} (h : Rep G m ρ w) {b : Nat} {L : Loc} (hb : ρ b = some L) {c : List Value} {e : TypeId} {wr : Bool} {sp : Spare}
    (hm : m.get b = .cells c e wr sp) : ∃ carr frz, BlkAt ρ c e wr sp L w carr frz := by
  have := h.obj b L hb
  rw [hm] at this
  exact this.blk

theorem BlkAt.get {ρ : Ren} {c : List Value} {e : TypeId} {wr : Bool} {sp : Spare} {L : Loc} {w : World} {carr : Array Value} {frz : Nat × Nat}
    (h : BlkAt ρ c e wr sp L w carr frz) (j : Nat) (hj : j < c.length) : w.cell? ⟨L.cb, L.co + j, none⟩ = some (carr.getD (L.co + j) undef) := by
  have h1 := h.size
  have h2 := h.len
  rw [cell_of_heap h.heap]
  simp [Array.getD, show L.co + j < carr.size by omega]

/-- Reading n cells. -/
theorem Rep.rd {G : Nat} {m : AMem} {ρ : Ren} {w : World} (h : Rep G m ρ w) {b o n : Nat} {L : Loc} (hb : ρ b = some L) {cs : List Value} (hr : rd m b o n = some cs) :
    ∃ cs' : List Value, cs'.length = n ∧ cs.length = n ∧ LRel ρ cs cs' ∧ ∀ j v, cs'[j]? = some v → w.cell? ((⟨L.cb, L.co + o, none⟩ : Addr).add j) = some v := by
  unfold AM.rd at hr
  split at hr <;> try (simp at hr; done)
  rename_i c e wr sp hm
  split at hr <;> simp at hr
  rename_i hlen
  obtain ⟨carr, frz, hB⟩ := h.blk hb hm
  have hcl : cs.length = n := by rw [← hr]; simp; omega
  refine ⟨(List.range n).map fun j => carr.getD (L.co + (o + j)) undef, by simp, hcl, ⟨by simp [hcl], ?_⟩, ?_⟩
  · intro j h1 h2
    simp at h2
    subst hr
    have := hB.cell (o + j) (by omega)
    simpa [List.getElem_take, List.getElem_drop] using this
  · intro j v hj
    have hjn : j < n := by
      rcases Nat.lt_or_ge j n with h' | h'
      · exact h'
      · rw [List.getElem?_eq_none (by simpa using h')] at hj; cases hj
    simp [hjn] at hj
    rw [add_mk, ← hj]
    have := hB.get (o + j) (by omega)
    rw [Nat.add_assoc, this]
    simp [Array.getD_eq_getD_getElem?]

theorem heap_setCell (w : World) (b o : Nat) (v : Value) (i : Nat) (hi : i ≠ b) : (w.setCell ⟨b, o, none⟩ v).heap[i]? = w.heap[i]? := by
  simp [World.setCell, Array.getElem?_modify, Ne.symm hi]

theorem heap_setCell_self {w : World} {b : Nat} {carr : Array Value} {e : TypeId} {frz : Nat × Nat} (h : w.heap[b]? = some (.cells carr e frz)) (o : Nat) (v : Value) :
    (w.setCell ⟨b, o, none⟩ v).heap[b]? = some (.cells (carr.setIfInBounds o v) e frz) := by
  simp [World.setCell, Array.getElem?_modify, h]

theorem setCells_heap (b : Nat) : ∀ (vs : List Value) (o : Nat) (w : World) (i : Nat), i ≠ b → (w.setCells b o vs).heap[i]? = w.heap[i]?
  | [], _, _, _, _ => rfl
  | v :: r, o, w, i, hi => by rw [World.setCells, setCells_heap b r _ _ _ hi, heap_setCell _ _ _ _ _ hi]

theorem setCells_self (b : Nat) (e : TypeId) (frz : Nat × Nat) : ∀ (vs : List Value) (o : Nat) (w : World) (carr : Array Value), w.heap[b]? = some (.cells carr e frz) →
    o + vs.length ≤ carr.size →
    ∃ carr', (w.setCells b o vs).heap[b]? = some (.cells carr' e frz) ∧ carr'.size = carr.size ∧
      (∀ j, (j < o ∨ o + vs.length ≤ j) → carr'.getD j undef = carr.getD j undef) ∧ ∀ j (h : j < vs.length), carr'.getD (o + j) undef = vs[j]
  | [], o, w, carr, h, _ => ⟨carr, h, rfl, fun _ _ => rfl, fun j h => by simp at h⟩
  | v :: r, o, w, carr, h, hl => by
    simp at hl
    obtain ⟨carr', h1, h2, h3, h4⟩ := setCells_self b e frz r (o + 1) _ _ (heap_setCell_self h o v) (by simp; omega)
    refine ⟨carr', h1, by simpa using h2, fun j hj => ?_, fun j hj => ?_⟩
    · simp at hj
      rw [h3 j (by omega)]
      simp [Array.getD_eq_getD_getElem?, Array.getElem?_setIfInBounds, show o ≠ j by omega]
    · cases j with
      | zero =>
        rw [Nat.add_zero, h3 o (by omega)]
        simp [Array.getD_eq_getD_getElem?, Array.getElem?_setIfInBounds, show o < carr.size by omega]
      | succ j =>
        have := h4 j (by simpa using hj)
        rw [show o + (j + 1) = o + 1 + j by omega, this]
        simp

theorem setCells_rest (b : Nat) : ∀ (vs : List Value) (o : Nat) (w : World), (w.setCells b o vs).os = w.os ∧ (w.setCells b o vs).tape = w.tape ∧
    (w.setCells b o vs).output = w.output ∧ (w.setCells b o vs).heap.size = w.heap.size
  | [], _, _ => ⟨rfl, rfl, rfl, rfl⟩
  | v :: r, o, w => by
    obtain ⟨a, b', c, d⟩ := setCells_rest b r (o + 1) (w.setCell ⟨b, o, none⟩ v)
    exact ⟨a, b', c, d.trans (by simp [World.setCell])⟩

theorem splice_length {c : List Value} {o : Nat} {v : List Value} (h : o + v.length ≤ c.length) : (splice c o v).length = c.length := by
  simp [splice]; omega

theorem splice_in {c : List Value} {o : Nat} {v : List Value} (h : o + v.length ≤ c.length) (j : Nat) (hj : j < v.length) (hk : o + j < (splice c o v).length) :
    (splice c o v)[o + j] = v[j] := by
  simp only [splice]
  rw [List.getElem_append_left (by simp; omega), List.getElem_append_right (by simp; omega)]
  simp [show min o c.length = o by omega]

theorem splice_out {c : List Value} {o : Nat} {v : List Value} (h : o + v.length ≤ c.length) (j : Nat) (hj : j < o ∨ o + v.length ≤ j) (hc : j < c.length) (hk : j < (splice c o v).length) :
    (splice c o v)[j] = c[j] := by
  simp only [splice]
  rcases hj with hj | hj
  · rw [List.getElem_append_left (by simp; omega), List.getElem_append_left (by simp; omega)]
    simp
  · rw [List.getElem_append_right (by simp; omega)]
    simp [show min o c.length = o by omega]
    congr 1
    omega

/-- Writing cells into a block that may be written. -/
theorem Rep.wr {G : Nat} {m m' : AMem} {ρ : Ren} {w : World} (h : Rep G m ρ w) {b o : Nat} {L : Loc} (hb : ρ b = some L) {vs vs' : List Value} (hw : wr m b o vs = some m')
    (hv : LRel ρ vs vs') (P : Program) (h1 : ∀ v ∈ vs', v.oneCell' = true) :
    (storeCells ⟨L.cb, L.co + o, none⟩ vs').run P w = .ok () (w.setCells L.cb (L.co + o) vs') ∧ Rep G m' ρ (w.setCells L.cb (L.co + o) vs') ∧
      Ext m ρ w m' ρ (w.setCells L.cb (L.co + o) vs') := by
  unfold AM.wr at hw
  split at hw <;> try (simp at hw; done)
  rename_i c e sp hm
  split at hw <;> simp at hw
  rename_i hlen
  subst hw
  obtain ⟨carr, frz, hB⟩ := h.blk hb hm
  have hs := hB.size
  have hl := hB.len
  have hll := hv.1
  obtain ⟨carr', e1, e2, e3, e4⟩ := setCells_self L.cb e frz vs' (L.co + o) w carr hB.heap (by omega)
  have hrest := setCells_rest L.cb vs' (L.co + o) w
  refine ⟨?_, ?_, ?_⟩
  · have := run_storeCells_cells (P := P) L.cb (L.co + o) vs' 0 w (fun j hj => by
      have := hB.get (o + j) (by omega)
      rw [show L.co + o + 0 + j = L.co + (o + j) by omega, this]; rfl)
      (fun j hj => by
      rw [show L.co + o + 0 + j = L.co + (o + j) by omega, frozen_of_heap hB.heap]
      have := hB.free rfl (o + j) (by omega)
      simp only [Bool.and_eq_false_iff, decide_eq_false_iff_not]
      omega) h1
    simpa using this
  · refine h.set hb (BlkAt.obj (carr := carr') (frz := frz) ?_) (by rw [hm]; rfl) (by rw [hm]; rfl) (fun _ => by rw [hm]; rfl) (fun i hi _ => setCells_heap _ _ _ _ _ hi)
    refine ⟨e1, by omega, by rw [splice_length hlen]; exact hl, fun hsp => by rw [splice_length hlen]; have := hB.exact hsp; exact ⟨this.1, this.2.1, by omega⟩, fun k hk => by rw [splice_length hlen]; exact hB.full k hk, fun j hj => ?_, fun z hz => ?_, hB.free⟩
    · have hj' : j < c.length := by rw [splice_length hlen] at hj; exact hj
      by_cases hin : o ≤ j ∧ j < o + vs.length
      · obtain ⟨i, rfl⟩ : ∃ i, j = o + i := ⟨j - o, by omega⟩
        rw [splice_in hlen i (by omega) hj, ← Nat.add_assoc, e4 i (by omega)]
        exact hv.2 i (by omega) (by omega)
      · rw [splice_out hlen j (by omega) hj' hj, e3 (L.co + j) (by omega)]
        exact hB.cell j hj'
    · obtain ⟨z1, z2, z3, z4, z5, z6⟩ := hB.spare z hz
      refine ⟨z1, z2, by rw [splice_length hlen]; exact z3, z4, z5, fun j hj hj' => ?_⟩
      rw [splice_length hlen] at hj
      rw [e3 (L.co + j) (by omega)]
      exact z6 j hj hj'
  · exact Ext.set h hb (by rw [hm]; rfl) (fun i hi _ => setCells_heap _ _ _ _ _ hi) hrest.1 hrest.2.1 hrest.2.2.1 (by omega)

/-- What is behind a new row's cells. -/
def Spare.z : Spare → List Value
  | .room z => z
  | _ => []

/-- A new row: what is in it, and what may be behind. -/
theorem Rep.row {G : Nat} {m : AMem} {ρ : Ren} {w : World} (h : Rep G m ρ w) (e : TypeId) {c c' : List Value} (hc : LRel ρ c c') (sp : Spare) (sz k : Nat)
    (n : Nat) (hn : sp = .exact → k = 0) (hf : ∀ j, sp ≠ .full j)
    (hz : ∀ z, sp = .room z → z.length = sz ∧ 0 < sz ∧ c.length % sz = 0 ∧ (∀ v ∈ z, Plain v)) :
    let w' : World := { w with drawn := n, heap := w.heap.push (.cells (c'.toArray ++ ((List.range (k * sz)).map fun j => sp.z.getD (j % sz) undef).toArray) e (0, 0)) }
    let L : Loc := ⟨w.heap.size, 0, c.length + k * sz, sz⟩
    Rep G (m.push (.cells c e true sp)) (ρ.add m.size L) w' ∧ Ext m ρ w (m.push (.cells c e true sp)) (ρ.add m.size L) w' ∧ ρ.le (ρ.add m.size L) := by
  intro w' L
  have hold : ∀ i, i < w.heap.size → w'.heap[i]? = w.heap[i]? := fun i hi => by simp [w', Array.getElem?_push, show i ≠ w.heap.size by omega]
  have hll := hc.1
  refine ⟨h.new hold (Nat.le_refl _) (BlkAt.obj (carr := c'.toArray ++ ((List.range (k * sz)).map fun j => sp.z.getD (j % sz) undef).toArray) (frz := (0, 0)) ?_),
    Ext.new h hold (Nat.le_refl _) rfl rfl rfl (by simp [w']), h.le_add L⟩
  refine ⟨by simp [w', L], by simp [L, hll], by simp [L], fun hsp => ⟨by simp [L, hn hsp], rfl, by simp [L, hn hsp, hll]⟩, fun j hj => (hf j hj).elim, fun j hj => ?_, fun z hzz => ?_, fun _ j hj => by simp⟩
  · have h2 := (hc.2 j hj (by omega)).mono (h.le_add L)
    have : (c'.toArray ++ ((List.range (k * sz)).map fun j => sp.z.getD (j % sz) undef).toArray).getD (L.co + j) undef = c'[j] := by
      simp [L, Array.getD_eq_getD_getElem?, List.getElem?_append, show j < c'.length by omega]
    rw [this]; exact h2
  · obtain ⟨z1, z2, z3, z4⟩ := hz z hzz
    refine ⟨z1, z2, z3, by simp [L, z3], z4, fun j hj hj' => ?_⟩
    simp [L] at hj'
    have hjs : (j - c'.length) % sz = j % sz := by
      rw [← hll]
      obtain ⟨q, hq⟩ : ∃ q, c.length = q * sz := ⟨c.length / sz, by rw [Nat.div_mul_cancel (Nat.dvd_of_mod_eq_zero z3)]⟩
      rw [hq] at hj ⊢
      obtain ⟨i, rfl⟩ : ∃ i, j = q * sz + i := ⟨j - q * sz, by omega⟩
      rw [show q * sz + i - q * sz = i by omega, Nat.add_comm, Nat.add_mul_mod_self_right]
    simp [L, hzz, Spare.z, Array.getD_eq_getD_getElem?, List.getElem?_append, show ¬ j < c'.length by omega, show j - c'.length < k * sz by omega, hjs]

theorem LRel.nil (ρ : Ren) : LRel ρ [] [] := ⟨rfl, fun i h => by simp at h⟩
theorem LRel.cons {ρ : Ren} {v v' : Value} {x x' : List Value} (h : VRel ρ v v') (k : LRel ρ x x') : LRel ρ (v :: x) (v' :: x') :=
  ⟨by simp [k.1], fun i a b => by
    cases i with
    | zero => simpa using h
    | succ i => simpa using k.2 i (by simpa using a) (by simpa using b)⟩
theorem LRel.uncons {ρ : Ren} {v v' : Value} {x x' : List Value} (h : LRel ρ (v :: x) (v' :: x')) : VRel ρ v v' ∧ LRel ρ x x' :=
  ⟨h.2 0 (by simp) (by simp), by simpa using h.1, fun i a b => h.2 (i + 1) (by simpa using a) (by simpa using b)⟩
theorem LRel.append {ρ : Ren} {x x' y y' : List Value} (h : LRel ρ x x') (k : LRel ρ y y') : LRel ρ (x ++ y) (x' ++ y') :=
  ⟨by simp [h.1, k.1], fun i a b => by
    by_cases hi : i < x.length
    · rw [List.getElem_append_left hi, List.getElem_append_left (by have := h.1; omega)]
      exact h.2 i hi _
    · have h1 := h.1
      simp at a b
      rw [List.getElem_append_right (by omega), List.getElem_append_right (by omega)]
      simp only [h1]
      exact k.2 _ (by omega) (by omega)⟩
theorem LRel.plain {ρ : Ren} {x : List Value} (h : ∀ v ∈ x, Plain v) : LRel ρ x x := ⟨rfl, fun i a _ => h _ (List.getElem_mem a) ρ⟩
theorem LRel.take {ρ : Ren} {x x' : List Value} (h : LRel ρ x x') (n : Nat) : LRel ρ (x.take n) (x'.take n) :=
  ⟨by simp [h.1], fun i a b => by
    simp at a b
    rw [List.getElem_take, List.getElem_take]
    exact h.2 i (by omega) (by omega)⟩
theorem LRel.drop {ρ : Ren} {x x' : List Value} (h : LRel ρ x x') (n : Nat) : LRel ρ (x.drop n) (x'.drop n) :=
  ⟨by simp [h.1], fun i a b => by
    simp at a b
    rw [List.getElem_drop, List.getElem_drop]
    exact h.2 _ (by omega) (by omega)⟩
theorem LRel.toArray {ρ : Ren} {x x' : List Value} (h : LRel ρ x x') : ARel ρ x.toArray x'.toArray := ⟨by simp [h.1], fun i a b => by simpa using h.2 i (by simpa using a) (by simpa using b)⟩
theorem ARel.toList {ρ : Ren} {x x' : Array Value} (h : ARel ρ x x') : LRel ρ x.toList x'.toList := ⟨by simp [h.1], fun i a b => by simpa using h.2 i (by simpa using a) (by simpa using b)⟩

/-- A value's cells. -/
theorem VRel.cells {ρ : Ren} {v v' : Value} (h : VRel ρ v v') {c : List Value} (hc : AM.cellsOf v = some c) :
    LRel ρ c v'.cells.toList ∧ ∀ u ∈ v'.cells.toList, u.oneCell' = true := by
  have h0 := h
  cases h with
  | agg x x' hx h =>
    simp only [AM.cellsOf] at hc
    split at hc <;> simp at hc
    rename_i hall
    subst hc
    have hA : ARel ρ x x' := ⟨hx, h⟩
    refine ⟨by simpa [Value.cells] using hA.toList, fun u hu => ?_⟩
    simp [Value.cells] at hu
    obtain ⟨i, hi, rfl⟩ := Array.mem_iff_getElem.1 hu
    have := h i (by omega) hi
    exact this.oneCell (List.all_eq_true.1 hall _ (by simp))
  | tuple x x' hx h => simp [AM.cellsOf] at hc
  | _ =>
    simp only [AM.cellsOf, Option.some.injEq] at hc
    subst hc
    refine ⟨?_, by simp [Value.cells, Value.oneCell']⟩
    simp only [Value.cells]
    exact LRel.cons (by first | assumption | exact h0) (LRel.nil ρ)

end Go.AM
