/-
  Each operation of the abstract machine is what the model does: fields, indexes, loads, stores, cuts.
-/
import Derived.Test.YtidngakhkpodgaaAmStep2
set_option linter.unusedVariables false
set_option linter.unusedSimpArgs false
set_option linter.unnecessarySimpa false
namespace Go.AM
set_option linter.unusedVariables false
set_option linter.unusedSimpArgs false

section
variable {P : Program} {G : Nat} {m : AMem} {ρ : Ren} {w : World}

theorem ARel.get? {x x' : Array Value} (h : ARel ρ x x') {i : Nat} {v : Value} (hv : x[i]? = some v) : ∃ v', x'[i]? = some v' ∧ VRel ρ v v' := by
  have hi := lt_of_getElem?_some hv
  have hs := h.1
  refine ⟨x'[i]'(by omega), Array.getElem?_eq_getElem (by omega), ?_⟩
  have := h.2 i hi (by omega)
  rw [Array.getElem?_eq_getElem hi] at hv
  simp at hv
  rwa [hv] at this

theorem ARel.extract {x x' : Array Value} (h : ARel ρ x x') (i j : Nat) : ARel ρ (x.extract i j) (x'.extract i j) := by
  have hs := h.1
  refine ⟨by simp [hs], fun k a b => ?_⟩
  simp at a b
  rw [Array.getElem_extract, Array.getElem_extract]
  exact h.2 _ (by omega) (by omega)

theorem part_run {ft : TypeId} {d : TypeDesc} {s : Nat} (hd : P.underlying ft = some d) (hs : szOf P ft = some s) {c c' : Array Value} (hc : ARel ρ c c') {off : Nat} {v : Value}
    (h : (if aggB d then some (Value.agg (c.extract off (off + s))) else c[off]?) = some v) : ∃ v', (part ft c' off).run P w = .ok v' w ∧ VRel ρ v v' := by
  split at h
  · rename_i hag
    simp at h
    subst h
    exact ⟨_, by simp [part, isAgg_spec hd, hag, szOf_spec hs], .ofARel (hc.extract _ _)⟩
  · rename_i hag
    obtain ⟨v', h1, h2⟩ := hc.get? h
    exact ⟨v', by simp [part, isAgg_spec hd, hag, h1], h2⟩

theorem sound_fld (hR : Rep G m ρ w) {xt : TypeId} {fs : Array Field} {fi : Nat} {f : Field} {d : TypeDesc} {s : Nat} (hu : P.underlying xt = some (.struct fs)) (hf : fs[fi]? = some f)
    (hd : P.underlying f.type = some d) (hs : szOf P f.type = some s) {c : Array Value} {x' v : Value} (hx : VRel ρ (.agg c) x')
    (h : (if aggB d then some (Value.agg (c.extract f.offset (f.offset + s))) else c[f.offset]?) = some v) : Sound P G m ρ w (Instr.field xt x' fi) v m := by
  obtain ⟨c', rfl, hA⟩ := hx.agg_inv
  obtain ⟨v', h1, h2⟩ := part_run (w := w) hd hs hA h
  exact .pure hR (by simp [Instr.field, run_underlying hu, hf, asAgg, h1]) h2

theorem sound_ixA (hR : Rep G m ρ w) {xt e : TypeId} {n s : Nat} {d : TypeDesc} (hu : P.underlying xt = some (.array n e)) (hs : szOf P e = some s) (hd : P.underlying e = some d)
    {c : Array Value} {x' v i' : Value} {k : IntKind} {i : Int} (hx : VRel ρ (.agg c) x') (hi : VRel ρ (.int k i) i') (hb : 0 ≤ i ∧ i < n)
    (h : (if aggB d then some (Value.agg (c.extract (i.toNat * s) (i.toNat * s + s))) else c[i.toNat * s]?) = some v) : Sound P G m ρ w (Instr.index xt x' i') v m := by
  obtain ⟨c', rfl, hA⟩ := hx.agg_inv
  obtain rfl := hi.int_inv
  obtain ⟨v', h1, h2⟩ := part_run (w := w) hd hs hA h
  exact .pure hR (by simp [Instr.index, asIntOf, run_underlying hu, hb, szOf_spec hs, h1]) h2

theorem sound_ixS (hR : Rep G m ρ w) {xt : TypeId} (hu : P.underlying xt = some .string) {s : ByteArray} {x' i' : Value} {k : IntKind} {i : Int} (hx : VRel ρ (.string s) x')
    (hi : VRel ρ (.int k i) i') (h0 : 0 ≤ i) {b : UInt8} (h : s[i.toNat]? = some b) : Sound P G m ρ w (Instr.index xt x' i') (.int .u8 b.toNat) m := by
  obtain rfl := hx.string_inv
  obtain rfl := hi.int_inv
  exact .pure hR (by simp [Instr.index, asIntOf, run_underlying hu, h0, h]) (.int _ _)

theorem sound_fad (hR : Rep G m ρ w) {xt : TypeId} {fs : Array Field} {fi : Nat} {f : Field} {s : Nat} (hu : P.underlying xt = some (.struct fs)) (hf : fs[fi]? = some f)
    (hs : szOf P f.type = some (s + 1)) {x x' : Value} {b o : Nat} (hx : VRel ρ x x') (ha : addr x = some (b, o)) :
    Sound P G m ρ w (Instr.fieldAt xt x' fi) (.pointer (some ⟨b, o + f.offset, none⟩)) m := by
  obtain ⟨L, hL, rfl⟩ := addr_inv ha hx
  refine .pure hR (v' := .pointer (some ⟨L.cb, L.co + (o + f.offset), none⟩)) ?_ (.ptr hL)
  simp [Instr.fieldAt, run_underlying hu, hf, Instr.sureAddr, fieldPlace, szOf_spec hs, add_mk, Nat.add_assoc]

theorem sound_iadA (hR : Rep G m ρ w) {xt e : TypeId} {n s : Nat} (hu : P.underlying xt = some (.array n e)) (hs : szOf P e = some s) {x x' i' : Value} {k : IntKind} {i : Int} {b o : Nat}
    (hx : VRel ρ x x') (ha : addr x = some (b, o)) (hi : VRel ρ (.int k i) i') (hb : 0 ≤ i ∧ i < n) :
    Sound P G m ρ w (Instr.indexAt xt x' i') (.pointer (some ⟨b, o + i.toNat * s, none⟩)) m := by
  obtain ⟨L, hL, rfl⟩ := addr_inv ha hx
  obtain rfl := hi.int_inv
  refine .pure hR (v' := .pointer (some ⟨L.cb, L.co + (o + i.toNat * s), none⟩)) ?_ (.ptr hL)
  by_cases ht : n ≤ 1 <;> simp [Instr.indexAt, asIntOf, run_underlying hu, Instr.sureAddr, hb, szOf_spec hs, add_mk, Nat.add_assoc, ht]

theorem sound_iadV (hR : Rep G m ρ w) {xt e : TypeId} {s : Nat} (hu : P.underlying xt = some (.slice e)) (hs : szOf P e = some s) {x' i' : Value} {k : IntKind} {i : Int} {b o l c : Nat}
    (hx : VRel ρ (.slice (some ⟨b, o, none⟩) l c) x') (hi : VRel ρ (.int k i) i') (hb : 0 ≤ i ∧ i < l) :
    Sound P G m ρ w (Instr.indexAt xt x' i') (.pointer (some ⟨b, o + i.toNat * s, none⟩)) m := by
  obtain rfl := hi.int_inv
  have key : ∀ (L : Loc) (c' : Nat), ρ b = some L → Sound P G m ρ w (Instr.indexAt xt (.slice (some ⟨L.cb, L.co + o, none⟩) l c') (.int k i)) (.pointer (some ⟨b, o + i.toNat * s, none⟩)) m := by
    intro L c' hL
    refine .pure hR (v' := .pointer (some ⟨L.cb, L.co + (o + i.toNat * s), none⟩)) ?_ (.ptr hL)
    by_cases ht : l ≤ 1 <;> simp [Instr.indexAt, asIntOf, run_underlying hu, hb, szOf_spec hs, add_mk, Nat.add_assoc, ht]
  cases hx with
  | slice hL _ => exact key _ _ hL
  | sliceOpen hL _ _ => exact key _ _ hL
  | sliceEnd hL _ => omega

theorem sound_ld1 (hR : Rep G m ρ w) {t : TypeId} {d : TypeDesc} (hd : P.underlying t = some d) (ha : aggB d = false) {x x' v : Value} {b o : Nat} (hx : VRel ρ x x') (hb : addr x = some (b, o))
    (h : rd m b o 1 = some [v]) : Sound P G m ρ w (Instr.loadAt t x') v m := by
  obtain ⟨L, hL, rfl⟩ := addr_inv hb hx
  obtain ⟨cs, h1, h2, h3, h4⟩ := hR.rd hL h
  match cs, h1 with
  | [v'], _ =>
    have := h4 0 v' rfl
    rw [add_mk, Nat.add_zero] at this
    refine .pure hR (v' := v') ?_ (by simpa using h3.2 0 (by simp) (by simp))
    simp [Instr.loadAt, Instr.sureAddr, loadVar, isAgg_spec hd, ha, this]

theorem sound_ldn (hR : Rep G m ρ w) {t : TypeId} {d : TypeDesc} {n : Nat} (hd : P.underlying t = some d) (ha : aggB d = true) (hs : szOf P t = some n) {x x' : Value} {b o : Nat} (hx : VRel ρ x x')
    (hb : addr x = some (b, o)) {c : List Value} (h : rd m b o n = some c) : Sound P G m ρ w (Instr.loadAt t x') (.agg c.toArray) m := by
  obtain ⟨L, hL, rfl⟩ := addr_inv hb hx
  obtain ⟨cs, h1, h2, h3, h4⟩ := hR.rd hL h
  refine .pure hR (v' := .agg cs.toArray) ?_ (.ofARel h3.toArray)
  have := run_loadCells_list (P := P) w ⟨L.cb, L.co + o, none⟩ cs h4
  rw [h1] at this
  simp [Instr.loadAt, Instr.sureAddr, loadVar, isAgg_spec hd, ha, szOf_spec hs, this]

theorem sound_st (hR : Rep G m ρ w) {t : TypeId} {n : Nat} (hs : szOf P t = some n) {x x' v v' : Value} {b o : Nat} {c : List Value} {m' : AMem} (hx : VRel ρ x x') (hb : addr x = some (b, o))
    (hv : VRel ρ v v') (hc : AM.cellsOf v = some c) (hl : c.length = n) (hw : wr m b o c = some m') :
    ∃ w', (Instr.storeAt t x' v').run P w = .ok () w' ∧ Rep G m' ρ w' ∧ Ext m ρ w m' ρ w' := by
  obtain ⟨L, hL, rfl⟩ := addr_inv hb hx
  obtain ⟨h1, h2⟩ := hv.cells hc
  obtain ⟨e1, e2, e3⟩ := hR.wr hL hw h1 P h2
  refine ⟨_, ?_, e2, e3⟩
  have hsz : v'.cells.size = n := by have := h1.1; simp at this; omega
  simp [Instr.storeAt, Instr.sureAddr, storeVar, szOf_spec hs, hsz, e1]

/-- A new row of exact size. -/
theorem Rep.row0 (h : Rep G m ρ w) (e : TypeId) {c c' : List Value} (hc : LRel ρ c c') :
    Rep G (m.push (.cells c e true .exact)) (ρ.add m.size ⟨w.heap.size, 0, c.length, 1⟩) (w.alloc (.cells c'.toArray e)) ∧
      Ext m ρ w (m.push (.cells c e true .exact)) (ρ.add m.size ⟨w.heap.size, 0, c.length, 1⟩) (w.alloc (.cells c'.toArray e)) := by
  have := h.row e hc .exact 1 0 w.drawn (fun _ => rfl) (fun j hj => by cases hj) (fun z hz => by cases hz)
  simp at this
  exact ⟨this.1, this.2.1⟩

theorem newPtr (L : Loc) (hL : L.co = 0) : VRel (ρ.add m.size L) (.pointer (some ⟨m.size, 0, none⟩)) (.pointer (some ⟨L.cb, 0, none⟩)) := by
  have : (ρ.add m.size L) m.size = some L := by simp [Ren.add]
  have := VRel.ptr (o := 0) this
  simpa [hL] using this

theorem sound_new (hR : Rep G m ρ w) {e : TypeId} {z : List Value} (hz : zeroOf P e = some z) :
    Sound P G m ρ w (Instr.alloc e true (.tuple #[])) (.pointer (some ⟨m.size, 0, none⟩)) (m.push (.cells z e true .exact)) := by
  obtain ⟨i, zv, hi, hzv, hcells, _, hp⟩ := zeroOf_spec hz
  obtain ⟨h1, h2⟩ := hR.row0 e (LRel.plain (ρ := ρ) fun v hv => plain_of (hp v hv))
  refine ⟨_, _, .pointer (some ⟨w.heap.size, 0, none⟩), ?_, newPtr _ rfl, h1, h2⟩
  simp [Instr.alloc, zero_run hi hzv, newVar, newRow, hcells]

theorem sound_box (hR : Rep G m ρ w) {e : TypeId} {x x' : Value} (hx : VRel ρ x x') {c : List Value} (hc : AM.cellsOf x = some c) :
    Sound P G m ρ w (Instr.box e x') (.pointer (some ⟨m.size, 0, none⟩)) (m.push (.cells c e true .exact)) := by
  obtain ⟨h1, h2⟩ := hx.cells hc
  obtain ⟨h3, h4⟩ := hR.row0 e h1
  refine ⟨_, _, .pointer (some ⟨w.heap.size, 0, none⟩), ?_, newPtr _ rfl, h3, h4⟩
  simp [Instr.box, newVar, newRow]

/-! Filling an aggregate. -/
theorem foldl_set (off : Nat) : ∀ (c : List Value) (k : Nat) (z : Array Value), off + k + c.length ≤ z.size →
    ((c.zipIdx k).foldl (fun cs p => cs.setIfInBounds (off + p.2) p.1) z).toList = splice z.toList (off + k) c
  | [], k, z, h => by simp [splice]
  | v :: r, k, z, h => by
    simp at h
    simp only [List.zipIdx_cons, List.foldl_cons]
    rw [foldl_set off r (k + 1) _ (by simp; omega)]
    apply List.ext_getElem?
    intro j
    simp only [splice, Array.toList_setIfInBounds]
    have hz : off + k < z.toList.length := by simp; omega
    rcases Nat.lt_trichotomy j (off + k) with h1 | h1 | h1
    · rw [List.getElem?_append_left (by simp; omega), List.getElem?_append_left (by simp; omega), List.getElem?_append_left (by simp; omega), List.getElem?_append_left (by simp; omega)]
      simp [List.getElem?_take, h1, show j < off + (k + 1) by omega, List.getElem?_set, show off + k ≠ j by omega]
    · subst h1
      rw [List.getElem?_append_left (by simp; omega), List.getElem?_append_left (by simp; omega)]
      rw [List.append_assoc, List.getElem?_append_right (by simp; omega)]
      simp [List.getElem?_take, show off + k < off + (k + 1) by omega, List.getElem?_set, show min (off + k) z.size = off + k by omega, show off + k < z.size by omega]
    · by_cases h2 : j < off + (k + 1) + r.length
      · rw [List.getElem?_append_left (by simp; omega), List.getElem?_append_right (by simp; omega)]
        rw [List.append_assoc, List.getElem?_append_right (by simp; omega)]
        simp only [List.length_take, List.length_set, Array.length_toList]
        rw [show min (off + k) z.size = off + k by omega, show min (off + (k + 1)) z.size = off + (k + 1) by omega, show j - (off + k) = (j - (off + (k + 1))) + 1 by omega]
        rw [List.getElem?_append_left (by simp; omega)]
        simp
      · rw [List.getElem?_append_right (by simp; omega), List.append_assoc, List.getElem?_append_right (by simp; omega)]
        rw [List.getElem?_append_right (by simp; omega)]
        simp only [List.length_append, List.length_take, List.length_set, Array.length_toList, List.length_cons, List.getElem?_drop, List.getElem?_set]
        rw [if_neg (by omega)]
        congr 1
        omega

theorem LRel.splice {z z' c c' : List Value} (h : LRel ρ z z') (k : LRel ρ c c') (o : Nat) : LRel ρ (AM.splice z o c) (AM.splice z' o c') := by
  unfold AM.splice
  rw [← k.1]
  exact ((h.take o).append k).append (h.drop _)

/-- Parts and their places: what the abstract machine has, and what the model has. -/
def PartsRel (ρ : Ren) (place : Nat → Option (Nat × Nat)) : List (Nat × Nat × Value) → List (Nat × Value) → Prop
  | [], [] => True
  | (o, s, v) :: r, (i, v') :: r' => place i = some (o, s) ∧ VRel ρ v v' ∧ PartsRel ρ place r r'
  | _, _ => False

theorem fill_run {place : Nat → Option (Nat × Nat)} : ∀ (ps : List (Nat × Nat × Value)) (ps' : List (Nat × Value)) (z : List Value) (z' : Array Value) (c : List Value), PartsRel ρ place ps ps' →
    LRel ρ z z'.toList → AM.fill z ps = some c → ∃ c', Instr.fill place z' ps' = some c' ∧ LRel ρ c c'.toList
  | [], [], z, z', c, _, hz, h => by simp [AM.fill] at h; subst h; exact ⟨z', rfl, hz⟩
  | (o, s, v) :: r, (i, v') :: r', z, z', c, hp, hz, h => by
    obtain ⟨h1, h2, h3⟩ := hp
    simp only [AM.fill] at h
    split at h <;> try (simp at h; done)
    rename_i cv hcv
    split at h <;> try (simp at h; done)
    rename_i hc
    obtain ⟨k1, k2⟩ := h2.cells hcv
    have hl := k1.1
    simp at hl
    have hzl := hz.1
    simp at hzl
    obtain ⟨c', e1, e2⟩ := fill_run r r' _ (v'.cells.zipIdx.foldl (fun cs p => cs.setIfInBounds (o + p.2) p.1) z') c h3 (by
      have := foldl_set o v'.cells.toList 0 z' (by simp; omega)
      have hzip : v'.cells.zipIdx.toList = v'.cells.toList.zipIdx 0 := by simp
      rw [← Array.foldl_toList, hzip, this]
      simpa using hz.splice k1 o) h
    refine ⟨c', ?_, e2⟩
    simp only [Instr.fill, h1]
    rw [if_neg (by simp; omega)]
    exact e1
  | [], _ :: _, _, _, _, hp, _, _ => hp.elim
  | _ :: _, [], _, _, _, hp, _, _ => by simp [PartsRel] at hp

theorem placesOf_spec {t : TypeId} {pl : Nat → Option (Nat × Nat)} {z : List Value} (hp : placesOf P t = some pl) (hz : zeroOf P t = some z) {parts : Array (Nat × Value)} {c : Array Value}
    (h : Instr.fill pl z.toArray parts.toList = some c) : (Instr.build t parts).run P w = .ok (.agg c) w := by
  obtain ⟨i, zv, hi, hzv, hcells, _, _⟩ := zeroOf_spec hz
  refine run_build w t parts c ?_
  unfold Program.built
  unfold placesOf at hp
  cases hu : P.underlying t with
  | none => simp [hu] at hp
  | some d =>
    cases d <;> simp only [hu] at hp <;> try (simp at hp; done)
    case array n e =>
      unfold szOf at hp
      cases hie : P.info? e with
      | none => simp [hie] at hp
      | some ie =>
        simp [hie] at hp
        subst hp
        simp only [hi, hzv, hcells, hie]
        exact h
    case struct fs =>
      split at hp <;> simp at hp
      rename_i l hl
      subst hp
      have : fs.toList.mapM (fun f => (P.info? f.type).map fun i => (f.offset, i.size)) = some l := by
        rw [← hl]
        congr 1
        funext f
        unfold szOf
        cases P.info? f.type <;> rfl
      simp only [hi, hzv, hcells, this]
      simpa using h

theorem compParts_rel {t : Tmps} {a : Act} (hev : ∀ x y, compOpd G x = some y → VRel ρ (y.ev t) (a.eval x)) {place : Nat → Option (Nat × Nat)} : ∀ (ps : List (Nat × Operand)) (qs : List (Nat × Nat × AOpd)),
    compParts G place ps = some qs → PartsRel ρ place (qs.map fun p => (p.1, p.2.1, p.2.2.ev t)) (ps.map fun p => (p.1, a.eval p.2))
  | [], qs, h => by simp [compParts] at h; subst h; trivial
  | (i, x) :: r, qs, h => by
    simp only [compParts] at h
    split at h <;> simp at h
    rename_i o s y b h1 h2 h3
    subst h
    exact ⟨h1, hev x y h2, compParts_rel hev r b h3⟩

theorem sound_bld (hR : Rep G m ρ w) {t : TypeId} {pl : Nat → Option (Nat × Nat)} {z : List Value} (hp : placesOf P t = some pl) (hz : zeroOf P t = some z) {ps : List (Nat × Nat × Value)}
    {ps' : Array (Nat × Value)} (hps : PartsRel ρ pl ps ps'.toList) {c : List Value} (h : AM.fill z ps = some c) : Sound P G m ρ w (Instr.build t ps') (.agg c.toArray) m := by
  obtain ⟨i, zv, hi, hzv, hcells, _, hpl⟩ := zeroOf_spec hz
  obtain ⟨c', e1, e2⟩ := fill_run ps ps'.toList z z.toArray c hps (by simpa using LRel.plain (ρ := ρ) fun v hv => plain_of (hpl v hv)) h
  refine .pure hR (placesOf_spec hp hz e1) ?_
  have := e2.toArray
  simpa using VRel.ofARel this

theorem rep_length (z : List Value) (n : Nat) : (rep z n).length = n * z.length := by
  simp [rep, List.length_flatten, List.map_replicate, List.sum_replicate_nat]

theorem rep_mem {z : List Value} {n : Nat} {v : Value} (h : v ∈ rep z n) : v ∈ z := by
  simp only [rep, List.mem_flatten, List.mem_replicate] at h
  obtain ⟨l, ⟨_, rfl⟩, hv⟩ := h
  exact hv

theorem rep_get (z : List Value) : ∀ (n j : Nat), j < n * z.length → (rep z n).getD j undef = z.getD (j % z.length) undef
  | 0, j, h => by simp at h
  | n + 1, j, h => by
    have hr : rep z (n + 1) = z ++ rep z n := by simp [rep, List.replicate_succ]
    rw [hr]
    by_cases hj : j < z.length
    · simp [List.getElem?_append_left hj, Nat.mod_eq_of_lt hj]
    · have hz : 0 < z.length := by
        rcases Nat.eq_zero_or_pos z.length with h0 | h0
        · simp [h0] at h
        · exact h0
      have := rep_get z n (j - z.length) (by rw [Nat.succ_mul] at h; omega)
      simp only [List.getD_eq_getElem?_getD] at this ⊢
      rw [List.getElem?_append_right (by omega), this]
      congr 2
      exact (Nat.mod_eq_sub_mod (by omega)).symm

theorem range_rep (z : List Value) (n : Nat) (h : 0 < z.length ∨ n * z.length = 0) : ((Array.range (n * z.length)).map (z.toArray[· % z.toArray.size]!)).toList = rep z n := by
  apply List.ext_getElem?
  intro j
  by_cases hj : j < n * z.length
  · have hz : 0 < z.length := by
      rcases Nat.eq_zero_or_pos z.length with h0 | h0
      · simp [h0] at hj
      · exact h0
    have h1 := rep_get z n j hj
    have hl : j < (rep z n).length := by rw [rep_length]; exact hj
    have hm : j % z.length < z.length := Nat.mod_lt _ hz
    rw [List.getD_eq_getElem?_getD, List.getElem?_eq_getElem hl] at h1
    simp [List.getElem?_eq_getElem hl, hj, hm] at h1 ⊢
    rw [h1]
  · rw [List.getElem?_eq_none (by simpa using hj), List.getElem?_eq_none (by rw [rep_length]; omega)]

theorem sound_bldSl (hR : Rep G m ρ w) {t e : TypeId} {s len : Nat} {z : List Value} (hu : P.underlying t = some (.slice e)) (hs : szOf P e = some s) (hz : zeroOf P e = some z) (hb : len * s ≤ 16777216) (hb2 : len ≤ 16777216)
    (hzl : z.length = s) {ps : List (Nat × Nat × Value)} {ps' : Array (Nat × Value)} (hps : PartsRel ρ (fun i => some (i * s, s)) ps ps'.toList) {c : List Value} (h : AM.fill (rep z len) ps = some c) :
    Sound P G m ρ w (Instr.buildSlice t len ps') (.slice (some ⟨m.size, 0, none⟩) len len) (m.push (.cells c e true .exact)) := by
  obtain ⟨i, zv, hi, hzv, hcells, hzs, hpl⟩ := zeroOf_spec hz
  have hz0 : 0 < z.length ∨ len * z.length = 0 := by
    rcases Nat.eq_zero_or_pos z.length with h0 | h0
    · exact .inr (by simp [h0])
    · exact .inl h0
  obtain ⟨c', e1, e2⟩ := fill_run (z' := (Array.range (len * z.length)).map (z.toArray[· % z.toArray.size]!)) ps ps'.toList (rep z len) c hps
    (by rw [range_rep z len hz0]; exact LRel.plain fun v hv => plain_of (hpl v (rep_mem hv))) h
  obtain ⟨h3, h4⟩ := hR.row0 e e2
  have hrun : (Instr.buildSlice t len ps').run P w = .ok (.slice (some ⟨w.heap.size, 0, none⟩) len len) (w.alloc (.cells c' e)) := by
    unfold Instr.buildSlice
    rw [hzl] at e1
    by_cases hn : len * s = 0
    · have hr : ∀ f : Nat → Value, Array.map f (Array.range 0) = #[] := fun f => by apply Array.ext'; simp
      simp only [hn, hr] at e1
      simp [run_underlying hu, szOf_spec hs, hn, hr, e1, newRow]
    · simp [run_underlying hu, szOf_spec hs, hn, show ¬ (16777216 < len * s) by omega, zero_run hi hzv, hcells]
      simp at e1
      simp [e1, newRow]
  refine ⟨_, _, _, hrun, ?_, by simpa using h3, by simpa using h4⟩
  have hL : (ρ.add m.size ⟨w.heap.size, 0, c.length, 1⟩) m.size = some ⟨w.heap.size, 0, c.length, 1⟩ := by simp [Ren.add]
  have := VRel.slice (o := 0) (l := len) hL (openCap_lt (c := len) (by omega))
  simpa using this

end
end Go.AM
