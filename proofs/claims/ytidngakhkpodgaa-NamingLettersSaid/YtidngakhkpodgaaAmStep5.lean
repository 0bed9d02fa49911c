/-
  Each operation of the abstract machine is what the model does: texts and bytes, rows that are made, '=='.
-/
import Derived.Test.YtidngakhkpodgaaAmStep4
import Derived.Laws.StructEq
import Derived.Laws.Small
set_option linter.unusedVariables false
set_option linter.unusedSimpArgs false
set_option linter.unnecessarySimpa false
namespace Go.AM
set_option linter.unusedVariables false
set_option linter.unusedSimpArgs false

section
variable {P : Program} {G : Nat} {m : AMem} {ρ : Ren} {w : World}

/-- A new concrete row of whatever kind. -/
theorem Rep.newCells (hR : Rep G m ρ w) {w' : World} {c : List Value} {e : TypeId} {sp : Spare} {carr : Array Value} {frz : Nat × Nat} {cc sz : Nat}
    (hold : ∀ i, i < w.heap.size → w'.heap[i]? = w.heap[i]?) (hos : w'.os = w.os) (htape : w'.tape = w.tape) (hout : w'.output = w.output) (hsize : w.heap.size ≤ w'.heap.size)
    (hB : BlkAt (ρ.add m.size ⟨w.heap.size, 0, cc, sz⟩) c e true sp ⟨w.heap.size, 0, cc, sz⟩ w' carr frz) :
    Rep G (m.push (.cells c e true sp)) (ρ.add m.size ⟨w.heap.size, 0, cc, sz⟩) w' ∧ Ext m ρ w (m.push (.cells c e true sp)) (ρ.add m.size ⟨w.heap.size, 0, cc, sz⟩) w' :=
  ⟨hR.new hold (Nat.le_refl _) hB.obj, Ext.new hR hold (Nat.le_refl _) hos htape hout hsize⟩

theorem add_self (L : Loc) : (ρ.add m.size L) m.size = some L := by simp [Ren.add]

theorem sound_s2b (hR : Rep G m ρ w) {s d e : TypeId} (hs : P.underlying s = some .string) (hd : P.underlying d = some (.slice e)) (he : intB P e = some .u8) {x : ByteArray} {x' : Value}
    (hx : VRel ρ (.string x) x') (hlen : x.size ≤ 9223372036854775807) :
    Sound P G m ρ w (convert s d x') (.slice (some ⟨m.size, 0, none⟩) x.size openCap) (m.push (.cells (x.data.toList.map byteV) e true (.room [.int .u8 0]))) := by
  obtain rfl := hx.string_inv
  have hu8 : P.underlying e = some (.int .u8) := by
    unfold intB at he; split at he <;> simp at he; subst he; assumption
  let cap := (Question.appendCap x.size 0 e).cut (w.tape w.drawn (.appendCap x.size 0 e))
  have hcap : x.size ≤ cap := by simp [cap, Question.cut]
  let carr : Array Value := (x.data.map fun b => Value.int .u8 b.toNat) ++ Array.replicate (cap - x.size) (.int .u8 0)
  have hcs : carr.size = cap := by
    have : x.data.size = x.size := rfl
    simp [carr, this]; omega
  let w' : World := { w with drawn := w.drawn + 1, heap := w.heap.push (.cells carr e (cap, cap + 1)) }
  have hold : ∀ i, i < w.heap.size → w'.heap[i]? = w.heap[i]? := fun i hi => by simp [w', Array.getElem?_push, show i ≠ w.heap.size by omega]
  have hrun : (convert s d (.string x)).run P w = .ok (.slice (some ⟨w.heap.size, 0, none⟩) x.size cap) w' := by
    simp only [convert, Sem.run_bind, run_underlying hs, run_underlying hd, run_underlying hu8, Result.andThen_ok, Conv.stringToBytes, run_choose, Question.forced, newRow, run_newObj, markStringish, run_shape]
    simp only [Bool.false_eq_true, if_false, Result.andThen_ok, Sem.run_pure]
    have hsh : ∀ (W : World), W.heap = w.heap.push (.cells carr e) → W.shape? w.heap.size = some (e, cap) := by
      intro W hW
      simp [World.shape?, hW, hcs]
    rw [hsh _ rfl]
    simp only [run_freeze, Result.andThen_ok, Sem.run_pure]
    congr 1
    simp only [World.freeze, w']
    simp
    have hm : ∀ (i : Nat), i < (w.heap.push (.cells carr e)).size → True := fun _ _ => trivial
    apply Array.ext (by simp)
    intro i h1 h2
    simp [Array.getElem_modify, Array.getElem_push]
    by_cases hi : i = w.heap.size
    · subst hi; simp; rfl
    · have : i < w.heap.size := by simp at h2; omega
      simp [this, Ne.symm hi]
  have hB : BlkAt (ρ.add m.size ⟨w.heap.size, 0, cap, 1⟩) (x.data.toList.map byteV) e true (.room [.int .u8 0]) ⟨w.heap.size, 0, cap, 1⟩ w' carr (cap, cap + 1) := by
    have hxl : x.data.toList.length = x.size := by simp
    refine ⟨(by simp [w']), (by simp [hcs]), (by simp only [List.length_map, hxl]; exact hcap), (fun h => by cases h), (fun k h => by cases h), fun j hj => ?_, fun z hz => ?_, (fun _ j hj => by simp at hj ⊢; omega)⟩
    · simp at hj
      have h2 : carr.getD (0 + j) undef = .int .u8 x.data[j].toNat := by
        simp [carr, Array.getD_eq_getD_getElem?, Array.getElem?_append, hj]
      rw [h2]
      simp [byteV]
      exact .int _ _
    · cases hz
      refine ⟨rfl, by simp, by simp [Nat.mod_one], by simp [Nat.mod_one], by simp; exact Plain.int _ _, fun j hj hj' => ?_⟩
      simp only [List.length_map, hxl] at hj
      simp at hj'
      have hds : x.data.size = x.size := rfl
      simp [carr, Array.getD_eq_getD_getElem?, Array.getElem?_append, hds, show ¬ j < x.size by omega, Nat.mod_one, Array.getElem?_replicate, show j - x.size < cap - x.size by omega]
  obtain ⟨h1, h2⟩ := hR.newCells (w' := w') hold rfl rfl rfl (by simp [w']) hB
  refine ⟨_, w', _, hrun, ?_, h1, h2⟩
  have := VRel.sliceOpen (o := 0) (l := x.size) (c := cap) (add_self (ρ := ρ) (m := m) ⟨w.heap.size, 0, cap, 1⟩) (by simp) (by simp)
  simpa using this

theorem bytes_of {c c' : List Value} : ∀ {l : List UInt8}, c.mapM byteOf = some l → LRel ρ c c' → ∃ xs : List Int, c' = xs.map (Value.int .u8) ∧ l = xs.map fun n => UInt8.ofNat n.toNat := by
  induction c generalizing c' with
  | nil =>
    intro l h hc
    simp at h; subst h
    have := hc.1
    cases c' <;> simp at this
    exact ⟨[], rfl, rfl⟩
  | cons v r ih =>
    intro l h hc
    simp only [List.mapM_cons, Option.bind_eq_bind, Option.pure_def] at h
    cases hv : byteOf v with
    | none => simp [hv] at h
    | some b =>
      cases hr : r.mapM byteOf with
      | none => simp [hv, hr] at h
      | some l' =>
        simp [hv, hr] at h
        subst h
        have hcl := hc.1
        cases c' with
        | nil => simp at hcl
        | cons v' r' =>
          obtain ⟨h1, h2⟩ := hc.uncons
          obtain ⟨xs, e1, e2⟩ := ih hr h2
          unfold byteOf at hv
          split at hv <;> simp at hv
          subst hv
          obtain rfl := h1.int_inv
          rename_i n
          exact ⟨n :: xs, by simp [e1], by simp [e2]⟩

theorem sound_b2s (hR : Rep G m ρ w) {s d e : TypeId} (hs : P.underlying s = some (.slice e)) (hd : P.underlying d = some .string) (he : intB P e = some .u8) {x x' : Value} (hx : VRel ρ x x')
    {t : Tmps} {xo : AOpd} (hxo : xo.ev t = x) {v : Value} {m' : AMem} (h : stepOp (.b2s xo) t m = some (v, m')) : m' = m ∧ Sound P G m ρ w (convert s d x') v m := by
  have hu8 : P.underlying e = some (.int .u8) := by
    unfold intB at he; split at he <;> simp at he; subst he; assumption
  simp only [stepOp, hxo] at h
  split at h <;> try (simp at h; done)
  · simp at h
    obtain ⟨rfl, rfl⟩ := h
    cases hx
    exact ⟨rfl, .pure hR (run_convert_bytes_nil w s e hs hu8 _ _ d hd) (.string _)⟩
  · rename_i _ b o l cp
    split at h <;> try (simp at h; done)
    rename_i _ c hc
    simp at h
    obtain ⟨l', hl', rfl, rfl⟩ := h
    refine ⟨rfl, ?_⟩
    have main : ∀ (L : Loc) (cap' : Nat), ρ b = some L → Sound P G m ρ w (convert s d (.slice (some ⟨L.cb, L.co + o, none⟩) l cap')) (.string ⟨l'.toArray⟩) m := by
      intro L cap' hL
      obtain ⟨cs, h1, h2, h3, h4⟩ := hR.rd hL hc
      obtain ⟨xs, rfl, e2⟩ := bytes_of hl' h3
      refine .pure hR (v' := .string ⟨l'.toArray⟩) ?_ (.string _)
      have := run_convert_bytes_arg (P := P) w s e hs hu8 L.cb (L.co + o) l cap' xs (by simpa using h1) (fun i hi => by
        have := h4 i (.int .u8 (xs.getD i 0)) (by simp at h1; simp [show i < xs.length by omega, List.getD])
        rwa [add_mk] at this) d hd
      rw [this]
      simp [strOfNums, e2]
    cases hx with
    | slice hL _ => exact main _ _ hL
    | sliceOpen hL _ _ => exact main _ _ hL
    | sliceEnd hL _ =>
      unfold AM.rd at hc
      split at hc <;> try (simp at hc; done)
      split at hc <;> simp at hc
      subst hc
      simp at hl'
      subst hl'
      refine .pure hR (v' := .string ⟨#[]⟩) ?_ (.string _)
      have := run_convert_bytes_string w s d e (some ‹Addr›) 0 0 hs hu8 hd
      rw [this, run_bytesToString w _ 0 0 [] (by simp [loadCells, loadCellsFrom])]
      rfl

theorem sound_mkSl (hR : Rep G m ρ w) {ty e : TypeId} {sz bytes : Nat} {z : List Value} (hu : P.underlying ty = some (.slice e)) (hs : szOf P e = some sz) (hby : byOf P e = some bytes) (hz : zeroOf P e = some z)
    (h0 : 0 < sz) {l c : Int} {kl kc : IntKind} {l' c' : Value} (hl : VRel ρ (.int kl l) l') (hc : VRel ρ (.int kc c) c') (hb : 0 ≤ l ∧ l ≤ c ∧ bytes * c ≤ 281474976710656 ∧ c ≤ 281474976710656 ∧ z.length = sz) :
    Sound P G m ρ w (Instr.makeSlice ty l' c') (.slice (some ⟨m.size, 0, none⟩) l.toNat c.toNat) (m.push (.cells (rep z c.toNat) e true .exact)) := by
  obtain rfl := hl.int_inv
  obtain rfl := hc.int_inv
  obtain ⟨b1, b2, b3, b4, b5⟩ := hb
  obtain ⟨i, zv, hi, hzv, hcells, hzs, hpl⟩ := zeroOf_spec hz
  have hib : i.bytes = bytes := by unfold byOf at hby; simp [hi] at hby; exact hby
  have wl : IntKind.i64.wrap l = l := by simp [IntKind.wrap, IntKind.bits, IntKind.signed]; omega
  have wc : IntKind.i64.wrap c = c := by simp [IntKind.wrap, IntKind.bits, IntKind.signed]; omega
  have b3' : ¬ (281474976710656 < (bytes : Int) * c) := by omega
  obtain ⟨h3, h4⟩ := hR.row0 e (LRel.plain (ρ := ρ) (x := rep z c.toNat) fun v hv => plain_of (hpl v (rep_mem hv)))
  have hL := add_self (ρ := ρ) (m := m) ⟨w.heap.size, 0, (rep z c.toNat).length, 1⟩
  refine ⟨_, _, .slice (some ⟨w.heap.size, 0, none⟩) l.toNat c.toNat, ?_, by simpa using VRel.slice (o := 0) (l := l.toNat) hL (openCap_lt (c := c.toNat) (by omega)), h3, h4⟩
  have hrr := range_rep z c.toNat (.inl (by omega))
  have hn0 : (c.toNat * sz = 0) → rep z c.toNat = [] := fun h => by
    apply List.eq_nil_of_length_eq_zero
    rw [rep_length, b5, h]
  unfold Instr.makeSlice
  simp only [Sem.run_bind, run_underlying hu, Result.andThen_ok, asInt, asIntOf, Sem.run_pure, run_typeInfo w hi, hib, wl, wc]
  rw [if_neg (by simp; omega)]
  simp only [Sem.run_bind, run_askRoom, Result.andThen_ok, szOf_spec hs]
  by_cases hcz : c.toNat * sz = 0
  · have hr : ∀ f : Nat → Value, Array.map f (Array.range 0) = #[] := fun f => by apply Array.ext'; simp
    simp [hcz, hr, newRow, hn0 hcz]
  · simp only [hcz, if_false, Sem.run_bind, zero_run hi hzv, Result.andThen_ok, Sem.run_pure, hcells, newRow, run_newObj]
    congr 2
    rw [b5] at hrr
    show w.heap.push _ = w.heap.push _
    congr 2
    apply Array.ext'
    exact hrr

theorem sound_mnx (mx : Bool) : ∀ (xs xs' : List Value) (a a' v : Value), LRel ρ xs xs' → VRel ρ a a' → mnxs mx a xs = some v →
    ∃ v', (xs'.foldlM (if mx then Builtin.max2 else Builtin.min2) a').run P w = .ok v' w ∧ VRel ρ v v'
  | [], xs', a, a', v, hx, ha, h => by
    have := hx.1
    cases xs' <;> simp at this
    simp [mnxs] at h; subst h
    exact ⟨a', by simp, ha⟩
  | b :: r, xs', a, a', v, hx, ha, h => by
    have hl := hx.1
    cases xs' with
    | nil => simp at hl
    | cons b' r' =>
      obtain ⟨h1, h2⟩ := hx.uncons
      simp only [mnxs] at h
      split at h <;> try (simp at h; done)
      split at h <;> try (simp at h; done)
      rename_i _ _ k p k' q hk
      subst hk
      obtain rfl := ha.int_inv
      obtain rfl := h1.int_inv
      obtain ⟨v', e1, e2⟩ := sound_mnx mx r r' _ (.int k (if mx then (if q > p then q else p) else (if q < p then q else p))) v h2 (.int _ _) h
      refine ⟨v', ?_, e2⟩
      simp only [List.foldlM_cons, Sem.run_bind]
      rw [← e1]
      cases mx <;> simp [Builtin.max2, Builtin.min2]

theorem equal_unf (t : TypeId) (x y : Value) : Op.equal t x y = Op.equalIn (9998 + 1 + 1) t x y := rfl

theorem eqCells_run {e : TypeId} {k : IntKind} (he : P.underlying e = some (.int k)) (d : Nat) : ∀ (n : Nat) (xs ys : List Value) (b : Bool) (i : Nat) (X Y : Array Value),
    xs.length = n → eqCells xs ys = some b → (∀ j, j < n → X[i + j]? = xs[j]?) → (∀ j, j < n → Y[i + j]? = ys[j]?) →
    (Op.eqItems (d + 1) e 1 X Y (List.range' i n)).run P w = .ok b w
  | 0, xs, ys, b, i, X, Y, hx, h, _, _ => by
    cases xs <;> simp at hx
    cases ys <;> simp [eqCells] at h
    subst h
    simp [Op.eqItems]
  | n + 1, xs, ys, b, i, X, Y, hx, h, hX, hY => by
    cases xs with
    | nil => simp at hx
    | cons x r =>
      cases ys with
      | nil => cases x <;> simp [eqCells] at h
      | cons y r' =>
        obtain ⟨k1, p, rfl⟩ : ∃ k1 p, x = .int k1 p := by cases x <;> first | exact ⟨_, _, rfl⟩ | simp [eqCells] at h
        obtain ⟨k2, q, rfl⟩ : ∃ k2 q, y = .int k2 q := by cases y <;> first | exact ⟨_, _, rfl⟩ | simp [eqCells] at h
        simp only [eqCells] at h
        split at h <;> try (simp at h; done)
        rename_i hk
        subst hk
        have hx0 := hX 0 (by omega)
        have hy0 := hY 0 (by omega)
        simp at hx0 hy0
        have pX : (part e X (i * 1)).run P w = .ok (.int k1 p) w := by simp [part, isAgg, run_underlying he, hx0]
        have pY : (part e Y (i * 1)).run P w = .ok (.int k1 q) w := by simp [part, isAgg, run_underlying he, hy0]
        rw [show List.range' i (n + 1) = i :: List.range' (i + 1) n from rfl]
        simp only [Op.eqItems, Sem.run_bind, pX, pY, Result.andThen_ok, run_equalIn_int w d e k1 k p q he]
        split at h
        · rename_i hpq
          subst hpq
          simp only [beq_self_eq_true, Bool.not_true, Bool.false_eq_true, if_false]
          refine eqCells_run he d n r r' b (i + 1) X Y (by simpa using hx) h (fun j hj => ?_) (fun j hj => ?_)
          · have := hX (j + 1) (by omega)
            rw [show i + 1 + j = i + (j + 1) by omega, this]; simp
          · have := hY (j + 1) (by omega)
            rw [show i + 1 + j = i + (j + 1) by omega, this]; simp
        · rename_i hpq
          simp at h; subst h
          simp [show (p == q) = false by simpa using hpq]

theorem eqCells_len : ∀ {x y : List Value} {b : Bool}, eqCells x y = some b → b = true → x.length = y.length
  | [], [], _, _, _ => rfl
  | [], _ :: _, _, h, _ => by simp [eqCells] at h
  | v :: _, [], _, h, _ => by cases v <;> simp [eqCells] at h
  | v :: x, u :: y, b, h, hb => by
    obtain ⟨k1, p, rfl⟩ : ∃ k1 p, v = .int k1 p := by cases v <;> first | exact ⟨_, _, rfl⟩ | simp [eqCells] at h
    obtain ⟨k2, q, rfl⟩ : ∃ k2 q, u = .int k2 q := by cases u <;> first | exact ⟨_, _, rfl⟩ | simp [eqCells] at h
    simp only [eqCells] at h
    split at h <;> try (simp at h; done)
    split at h
    · simp [eqCells_len h hb]
    · simp at h; subst h; cases hb

theorem eqCells_rel : ∀ {x y x' y' : List Value} {b : Bool}, eqCells x y = some b → LRel ρ x x' → LRel ρ y y' → eqCells x' y' = some b
  | [], [], x', y', b, h, hx, hy => by
    have := hx.1; have := hy.1
    cases x' <;> cases y' <;> simp_all
  | [], _ :: _, _, _, _, h, _, _ => by simp [eqCells] at h
  | v :: _, [], _, _, _, h, _, _ => by cases v <;> simp [eqCells] at h
  | v :: x, u :: y, x', y', b, h, hx, hy => by
    have hl := hx.1; have hl' := hy.1
    cases x' with
    | nil => simp at hl
    | cons v' x' =>
      cases y' with
      | nil => simp at hl'
      | cons u' y' =>
        obtain ⟨h1, h2⟩ := hx.uncons
        obtain ⟨h3, h4⟩ := hy.uncons
        obtain ⟨k1, p, rfl⟩ : ∃ k1 p, v = .int k1 p := by cases v <;> first | exact ⟨_, _, rfl⟩ | simp [eqCells] at h
        obtain ⟨k2, q, rfl⟩ : ∃ k2 q, u = .int k2 q := by cases u <;> first | exact ⟨_, _, rfl⟩ | simp [eqCells] at h
        simp only [eqCells] at h
        obtain rfl := h1.int_inv
        obtain rfl := h3.int_inv
        split at h <;> try (simp at h; done)
        rename_i hk
        simp only [eqCells]
        rw [if_pos hk]
        split at h
        · rename_i hp
          rw [if_pos hp]
          exact eqCells_rel h h2 h4
        · rename_i hp
          rw [if_neg hp]
          exact h

end
end Go.AM
