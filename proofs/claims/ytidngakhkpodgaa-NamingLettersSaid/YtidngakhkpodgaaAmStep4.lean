/-
  Each operation of the abstract machine is what the model does: cuts, texts and bytes, small things.
-/
import Derived.Test.YtidngakhkpodgaaAmStep3
set_option linter.unusedVariables false
set_option linter.unusedSimpArgs false
set_option linter.unnecessarySimpa false
namespace Go.AM
set_option linter.unusedVariables false
set_option linter.unusedSimpArgs false

section
variable {P : Program} {G : Nat} {m : AMem} {ρ : Ren} {w : World}

theorem sound_slS (hR : Rep G m ρ w) {t : Tmps} {a : Act} (hev : ∀ x y, compOpd G x = some y → VRel ρ (y.ev t) (a.eval x)) {xt : TypeId} (hu : P.underlying xt = some .string) {lo hi : Option Operand}
    {lo' hi' : Option AOpd} (c1 : compOpdO G lo = some lo') (c2 : compOpdO G hi = some hi') {s : ByteArray} {x' : Value} (hx : VRel ρ (.string s) x') {i h k : Nat}
    (hc : cut s.size s.size lo' hi' none t = some (i, h, k)) : Sound P G m ρ w (Instr.sliceAt xt x' (lo.map a.eval) (hi.map a.eval) none) (.string (s.extract i h)) m := by
  obtain rfl := hx.string_inv
  obtain ⟨h1, _⟩ := cut_run (P := P) (w := w) hev c1 c2 (mx := none) (mx' := none) rfl (.inl rfl) (isSlice := false) hc (Nat.le_refl _)
  refine .pure hR (v' := .string (s.extract i h)) ?_ (.string _)
  simp at h1
  simp [Instr.sliceAt, Instr.slice, run_underlying hu, h1]

theorem map_none_of {mx : Option Operand} {mx' : Option AOpd} {a : Act} (h : compOpdO G mx = some mx') : (mx.map a.eval = none ↔ mx'.isNone = true) := by
  cases mx with
  | none => simp [compOpdO] at h; subst h; simp
  | some x => simp [compOpdO] at h; obtain ⟨y, _, rfl⟩ := h; simp

theorem sound_slA (hR : Rep G m ρ w) {t : Tmps} {a : Act} (hev : ∀ x y, compOpd G x = some y → VRel ρ (y.ev t) (a.eval x)) {xt e : TypeId} {n s : Nat} (hu : P.underlying xt = some (.array n e))
    (hs : szOf P e = some s) {lo hi mx : Option Operand} {lo' hi' mx' : Option AOpd} (c1 : compOpdO G lo = some lo') (c2 : compOpdO G hi = some hi') (c3 : compOpdO G mx = some mx')
    (hmh : mx'.isNone = true ∨ hi'.isSome = true) (hn : n ≤ 9223372036854775807) {x x' : Value} {b o : Nat} (hx : VRel ρ x x') (ha : addr x = some (b, o)) {i h k : Nat}
    (hc : cut n n lo' hi' mx' t = some (i, h, k)) :
    Sound P G m ρ w (Instr.sliceAt xt x' (lo.map a.eval) (hi.map a.eval) (mx.map a.eval)) (.slice (some ⟨b, if k = i then o else o + i * s, none⟩) (h - i) (k - i)) m := by
  obtain ⟨L, hL, rfl⟩ := addr_inv ha hx
  obtain ⟨h1, h2, h3, h4, h5⟩ := cut_run (P := P) (w := w) hev c1 c2 c3 hmh (isSlice := false) hc (Nat.le_refl _)
  have hk : (if mx'.isNone then n else k) = k := by
    split
    · exact (h5 ‹_›).symm
    · rfl
  rw [hk] at h1
  refine .pure hR (v' := .slice (some ⟨L.cb, L.co + (if k = i then o else o + i * s), none⟩) (h - i) (k - i)) ?_ (.slice hL (openCap_lt (by omega)))
  by_cases hki : k = i <;> simp [Instr.sliceAt, run_underlying hu, Instr.sureAddr, h1, szOf_spec hs, hki, add_mk, Nat.add_assoc]

theorem run_sliceOf {xt e : TypeId} {s : Nat} (hu : P.underlying xt = some (.slice e)) (hs : szOf P e = some s) {A : Option Addr} {l c : Nat} {lo hi mx : Option Value} {i h k : Nat}
    (hb : (Instr.sliceBounds true l c lo hi mx).run P w = .ok (i, h, k) w) :
    (Instr.sliceAt xt (.slice A l c) lo hi mx).run P w = .ok (.slice (if k = i then A else A.map (·.add (i * s))) (h - i) (k - i)) w := by
  simp [Instr.sliceAt, Instr.slice, run_underlying hu, hb, szOf_spec hs]

theorem BlkAt.spsize {c : List Value} {e : TypeId} {wr : Bool} {sp : Spare} {L : Loc} {carr : Array Value} {frz : Nat × Nat}
    (h : BlkAt ρ c e wr sp L w carr frz) {s : Nat} (hs : sp.size = s) (h0 : 0 < s) : L.sz = s := by
  cases sp with
  | exact => simp [Spare.size] at hs; omega
  | room z => have := (h.spare z rfl).1; simp [Spare.size] at hs; omega
  | full k => have := (h.full k rfl).2.1; simp [Spare.size] at hs; omega

theorem sound_slV (hR : Rep G m ρ w) {t : Tmps} {a : Act} (hev : ∀ x y, compOpd G x = some y → VRel ρ (y.ev t) (a.eval x)) {xt e : TypeId} {s : Nat} (hu : P.underlying xt = some (.slice e))
    (hs : szOf P e = some s) (h0 : 0 < s) {lo hi mx : Option Operand} {xo : Operand} {lo' hi' mx' : Option AOpd} {x : AOpd} (cx : compOpd G xo = some x) (c1 : compOpdO G lo = some lo') (c2 : compOpdO G hi = some hi')
    (c3 : compOpdO G mx = some mx') (hmh : mx'.isNone = true ∨ hi'.isSome = true) {v : Value} {m' : AMem} (h : stepOp (.slV s x lo' hi' mx') t m = some (v, m')) :
    m' = m ∧ Sound P G m ρ w (Instr.sliceAt xt (a.eval xo) (lo.map a.eval) (hi.map a.eval) (mx.map a.eval)) v m := by
  have hx := hev xo x cx
  generalize hxv : x.ev t = xv at hx
  generalize a.eval xo = x' at hx
  simp only [stepOp, hxv] at h
  split at h <;> try (simp at h; done)
  rename_i _ A l c
  split at h
  · rename_i hcap
    subst hcap
    split at h <;> try (simp at h; done)
    rename_i _ b o
    split at h <;> try (simp at h; done)
    rename_i _ c e' wr' sp hm
    split at h <;> try (simp at h; done)
    rename_i hcond
    obtain ⟨hsp, hl⟩ := hcond
    split at h <;> try (simp at h; done)
    rename_i _ i hh k hcut
    have main : ∀ (L : Loc) (cap' : Nat), ρ b = some L → (c.length - o) / s ≤ cap' →
        (Instr.sliceBounds true l cap' (lo.map a.eval) (hi.map a.eval) (mx.map a.eval)).run P w = .ok (i, hh, if mx'.isNone then cap' else k) w ∧ i ≤ hh ∧ hh ≤ k ∧ k ≤ (c.length - o) / s ∧
          (mx'.isNone = true → k = (c.length - o) / s) := fun L cap' _ hle => cut_run (P := P) (w := w) hev c1 c2 c3 hmh hcut hle
    cases hx with
    | slice hL hc => exact absurd rfl (Nat.ne_of_lt hc)
    | @sliceOpen _ _ _ cap' L hL hc hsz =>
      obtain ⟨carr, frz, hB⟩ := hR.blk hL hm
      have hLs := hB.spsize hsp h0
      rw [hLs] at hc
      have hlen := hB.len
      have hcc : (c.length - o) / s ≤ cap' := by
        apply Nat.div_le_of_le_mul
        rw [Nat.mul_comm]; omega
      obtain ⟨e1, e2, e3, e4, e5⟩ := main L cap' hL hcc
      cases mx' with
      | none =>
        simp at h
        obtain ⟨rfl, rfl⟩ := h
        refine ⟨rfl, ?_⟩
        simp at e1
        have hrun := run_sliceOf (w := w) hu hs (A := some ⟨L.cb, L.co + o, none⟩) e1
        have hk := e5 rfl
        by_cases hki : cap' = i
        · rw [if_pos hki] at hrun
          refine .pure hR hrun ?_
          have h1 : hh - i = 0 := by omega
          have h2 : cap' - i = 0 := by omega
          rw [h1, h2]
          refine .sliceEnd hL (.inr ⟨rfl, ?_⟩)
          rw [← hki]; omega
        · rw [if_neg hki] at hrun
          refine .pure hR hrun ?_
          simp only [Option.map_some, add_mk, Nat.add_assoc]
          refine .sliceOpen hL ?_ hsz
          rw [hLs, Nat.sub_mul]
          have : i * s ≤ cap' * s := Nat.mul_le_mul_right _ (by omega)
          omega
      | some mxo =>
        simp at h
        obtain ⟨hkb, rfl, rfl⟩ := h
        refine ⟨rfl, ?_⟩
        simp at e1
        have hrun := run_sliceOf (w := w) hu hs (A := some ⟨L.cb, L.co + o, none⟩) e1
        refine .pure hR hrun ?_
        by_cases hki : k = i
        · simp only [hki, if_true]
          exact .slice hL (openCap_lt (by omega))
        · simp only [hki, if_false, Option.map_some, add_mk, Nat.add_assoc]
          exact .slice hL (openCap_lt (by omega))
    | @sliceEnd _ _ _ L a' hL hc =>
      obtain ⟨carr, frz, hB⟩ := hR.blk hL hm
      have hlen := hB.len
      have hcc : L.cc = o := by
        rcases hc with hc | hc
        · have : (0 : Nat) < openCap := openCap_lt (by omega)
          omega
        · exact hc.2
      have hz : (c.length - o) / s = 0 := by rw [show c.length - o = 0 by omega]; simp
      obtain ⟨e1, e2, e3, e4, e5⟩ := main L 0 hL (by omega)
      have hi0 : i = 0 := by omega
      have hh0 : hh = 0 := by omega
      have hk0 : k = 0 := by omega
      subst hi0 hh0 hk0
      have e1' : (Instr.sliceBounds true 0 0 (lo.map a.eval) (hi.map a.eval) (mx.map a.eval)).run P w = .ok (0, 0, 0) w := by rw [e1]; split <;> rfl
      have hrun := run_sliceOf (w := w) hu hs (A := some a') e1'
      simp at hrun
      cases mx' with
      | none =>
        simp at h
        obtain ⟨rfl, rfl⟩ := h
        exact ⟨rfl, .pure hR hrun (.sliceEnd hL (.inr ⟨rfl, hcc⟩))⟩
      | some mxo =>
        simp at h
        obtain ⟨rfl, rfl⟩ := h
        exact ⟨rfl, .pure hR hrun (.sliceEnd hL (.inl rfl))⟩
  · rename_i hcap
    split at h <;> try (simp at h; done)
    rename_i _ i hh k hcut
    obtain ⟨e1, e2, e3, e4, e5⟩ := cut_run (P := P) (w := w) hev c1 c2 c3 hmh (isSlice := true) hcut (Nat.le_refl _)
    have hk : (if mx'.isNone then c else k) = k := by
      split
      · exact (e5 ‹_›).symm
      · rfl
    rw [hk] at e1
    split at h <;> try (simp at h; done)
    · simp at h
      obtain ⟨rfl, rfl⟩ := h
      refine ⟨rfl, ?_⟩
      cases hx with
      | nilSlice =>
        have hrun := run_sliceOf (w := w) hu hs (A := none) e1
        refine .pure hR hrun ?_
        simp
        exact .nilSlice _ _
    · rename_i _ b o
      simp at h
      obtain ⟨rfl, rfl⟩ := h
      refine ⟨rfl, ?_⟩
      cases hx with
      | slice hL hc =>
        rename_i L
        have hrun := run_sliceOf (w := w) hu hs (A := some ⟨L.cb, L.co + o, none⟩) e1
        refine .pure hR hrun ?_
        by_cases hki : k = i
        · simp only [hki, if_true]
          exact .slice hL (by omega)
        · simp only [hki, if_false, Option.map_some, add_mk, Nat.add_assoc]
          exact .slice hL (by omega)
      | sliceOpen hL _ _ => exact absurd rfl hcap
      | @sliceEnd _ _ _ L a' hL hc =>
        have hc0 : c = 0 := by rcases hc with hc | hc; exact hc; exact absurd hc.1 hcap
        subst hc0
        have hi0 : i = 0 := by omega
        have hh0 : hh = 0 := by omega
        have hk0 : k = 0 := by omega
        subst hi0 hh0 hk0
        have hrun := run_sliceOf (w := w) hu hs (A := some a') e1
        simp at hrun
        refine .pure hR hrun ?_
        simp
        exact .sliceEnd hL (.inl rfl)

theorem sound_arrAt (hR : Rep G m ρ w) {t e : TypeId} {n : Nat} (hu : P.underlying t = some (.array n e)) {b o l c : Nat} {x' : Value} (hx : VRel ρ (.slice (some ⟨b, o, none⟩) l c) x') (h0 : 0 < n) (h : n ≤ l) :
    Sound P G m ρ w (Instr.arrayAt t x') (.pointer (some ⟨b, o, none⟩)) m := by
  have key : ∀ (L : Loc) (c' : Nat), ρ b = some L → Sound P G m ρ w (Instr.arrayAt t (.slice (some ⟨L.cb, L.co + o, none⟩) l c')) (.pointer (some ⟨b, o, none⟩)) m := fun L c' hL =>
    .pure hR (v' := .pointer (some ⟨L.cb, L.co + o, none⟩)) (by simp [Instr.arrayAt, run_underlying hu, show ¬ l < n by omega]) (.ptr hL)
  cases hx with
  | slice hL _ => exact key _ _ hL
  | sliceOpen hL _ _ => exact key _ _ hL
  | sliceEnd hL _ => omega

theorem sound_ext (hR : Rep G m ρ w) {x' : Value} {vs : Array Value} {i : Nat} {v : Value} (hx : VRel ρ (.tuple vs) x') (h : vs[i]? = some v) : Sound P G m ρ w (Instr.extract x' i) v m := by
  obtain ⟨ys, rfl, hA⟩ := hx.tuple_inv
  obtain ⟨v', h1, h2⟩ := hA.get? h
  exact .pure hR (by simp [Instr.extract, h1]) h2

theorem sound_mkI (hR : Rep G m ρ w) {t : TypeId} {d : TypeDesc} (hu : P.underlying t = some d) (hd : ∀ ms, d ≠ .interface ms) {x x' : Value} (hx : VRel ρ x x') :
    Sound P G m ρ w (Instr.makeInterface t x') (.iface t x) m := by
  refine .pure hR (v' := .iface t x') ?_ (.iface t hx)
  cases d <;> first | exact absurd rfl (hd _) | simp [Instr.makeInterface, run_underlying hu]

theorem alloc_old (ob : Obj) {i : Nat} (hi : i < w.heap.size) : (w.alloc ob).heap[i]? = w.heap[i]? := by
  show (w.heap.push ob)[i]? = _
  simp [Array.getElem?_push, show i ≠ w.heap.size by omega]
theorem alloc_new (ob : Obj) : (w.alloc ob).heap[w.heap.size]? = some ob := by
  show (w.heap.push ob)[w.heap.size]? = _
  simp

/-- A new object of another kind. -/
theorem Rep.newObj (hR : Rep G m ρ w) {ob : Obj} {o : AObj} (ho : ∀ ρ', ObjRel ρ' o ⟨w.heap.size, 0, 0, 0⟩ (w.alloc ob)) :
    Rep G (m.push o) (ρ.add m.size ⟨w.heap.size, 0, 0, 0⟩) (w.alloc ob) ∧ Ext m ρ w (m.push o) (ρ.add m.size ⟨w.heap.size, 0, 0, 0⟩) (w.alloc ob) := by
  have hold : ∀ i, i < w.heap.size → (w.alloc ob).heap[i]? = w.heap[i]? := fun i hi => alloc_old ob hi
  exact ⟨hR.new hold (Nat.le_refl _) (ho _), Ext.new hR hold (Nat.le_refl _) rfl rfl rfl (by simp)⟩

theorem sound_mkM (hR : Rep G m ρ w) {t : TypeId} : Sound P G m ρ w (Instr.makeMap t none) (.map (some m.size)) (m.push (.map #[] 0)) := by
  obtain ⟨h1, h2⟩ := hR.newObj (ob := .map #[] 0) (o := .map #[] 0) (fun ρ' => ⟨alloc_new _, by simp⟩)
  have hL : (ρ.add m.size ⟨w.heap.size, 0, 0, 0⟩) m.size = some ⟨w.heap.size, 0, 0, 0⟩ := by simp [Ren.add]
  exact ⟨_, _, .map (some w.heap.size), by simp [Instr.makeMap], .map hL, h1, h2⟩

theorem sound_rng (hR : Rep G m ρ w) {t : TypeId} (hu : P.underlying t = some .string) {s : ByteArray} {x' : Value} (hx : VRel ρ (.string s) x') :
    Sound P G m ρ w (Instr.range t x') (.pointer (some ⟨m.size, 0, none⟩)) (m.push (.iter s 0)) := by
  obtain rfl := hx.string_inv
  obtain ⟨h1, h2⟩ := hR.newObj (ob := .stringIter s 0) (o := .iter s 0) (fun ρ' => ⟨alloc_new _, rfl⟩)
  exact ⟨_, _, .pointer (some ⟨w.heap.size, 0, none⟩), by simp [Instr.range, run_underlying hu], newPtr _ rfl, h1, h2⟩

theorem sound_nxt (hR : Rep G m ρ w) {ty : TypeId} {r pos : Nat} {s : ByteArray} {x' v : Value} {m' : AMem} (hx : VRel ρ (.pointer (some ⟨r, 0, none⟩)) x') (hm : m.get r = .iter s pos)
    (h : (if pos < s.size then some (Value.tuple #[.bool true, .int .i64 pos, .int .i32 (Utf8.decode s pos).1], m.set r (.iter s (pos + (Utf8.decode s pos).2))) else some (.tuple #[.bool false], m)) = some (v, m')) :
    Sound P G m ρ w (Instr.next x' true ty) v m' := by
  obtain ⟨L, hL, rfl⟩ := hx.ptr_inv
  have hO := hR.obj r L hL
  rw [hm] at hO
  obtain ⟨hh, hco⟩ := hO
  split at h
  · rename_i hlt
    simp at h
    obtain ⟨rfl, rfl⟩ := h
    let w' : World := { w with heap := w.heap.setIfInBounds L.cb (.stringIter s (pos + (Utf8.decode s pos).2)) }
    have hlt' := lt_of_getElem?_some hh
    refine ⟨ρ, w', .tuple #[.bool true, .int .i64 pos, .int .i32 (Utf8.decode s pos).1], ?_, ?_, ?_, ?_⟩
    · simp only [Instr.next, hco, Nat.zero_add]
      simp [getObj, setObj, Sem.run, hh, hlt, goInt, w']
    · exact Plain.tuple (fun v hv => by simp at hv; rcases hv with rfl | rfl | rfl; exact .bool _; exact .int _ _; exact .int _ _) ρ
    · refine hR.set hL ⟨by simp [w', Array.getElem?_setIfInBounds, hlt'], hco⟩ (by rw [hm]; rfl) (by rw [hm]; rfl) (fun _ => by rw [hm]; rfl) (fun i hi _ => ?_)
      simp [w', Array.getElem?_setIfInBounds, Ne.symm hi]
    · refine Ext.set hR hL (by rw [hm]; rfl) (fun i hi _ => ?_) rfl rfl rfl (by simp [w'])
      simp [w', Array.getElem?_setIfInBounds, Ne.symm hi]
  · rename_i hlt
    simp at h
    obtain ⟨rfl, rfl⟩ := h
    refine .pure hR (v' := .tuple #[.bool false]) ?_ (Plain.tuple (fun v hv => by simp at hv; subst hv; exact .bool _) ρ)
    simp only [Instr.next, hco, Nat.zero_add]
    simp [getObj, Sem.run, hh, hlt]

end
end Go.AM
