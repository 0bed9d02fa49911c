/-
  Each operation of the abstract machine is what the model does: pointers without a type; texts that are looked at through them.
-/
import Derived.Test.YtidngakhkpodgaaAmStep9
import Derived.Lib.Builder
import Derived.Lib.UnsafeStr
set_option linter.unusedVariables false
set_option linter.unusedSimpArgs false
set_option linter.unnecessarySimpa false
namespace Go.AM
set_option linter.unusedVariables false
set_option linter.unusedSimpArgs false

section
variable {P : Program} {G : Nat} {m : AMem} {ρ : Ren} {w : World}

theorem szOf_info {e : TypeId} {k : Nat} (h : szOf P e = some k) : ∃ j, P.info? e = some j ∧ j.size = k := by
  unfold szOf at h
  simp only [Option.map_eq_some_iff] at h
  obtain ⟨j, h1, h2⟩ := h
  exact ⟨j, h1, h2⟩

theorem sound_toU (hR : Rep G m ρ w) {s d e : TypeId} (hs : P.underlying s = some (.pointer e)) (hd : P.underlying d = some .unsafePointer) {k : Nat} (hk : szOf P e = some (k + 1)) {x x' : Value} (hx : VRel ρ x x')
    {t : Tmps} {xo : AOpd} (hxo : xo.ev t = x) {v : Value} {m' : AMem} (h : stepOp (.toU xo) t m = some (v, m')) : m' = m ∧ Sound P G m ρ w (convert s d x') v m := by
  simp only [stepOp, hxo] at h
  obtain ⟨j, hj1, hj2⟩ := szOf_info hk
  split at h <;> try (simp at h; done)
  · simp at h
    obtain ⟨rfl, rfl⟩ := h
    cases hx
    exact ⟨rfl, .pure hR (v' := .pointer none) (by simp [convert, run_underlying hs, run_underlying hd, Conv.unsafePointer]) .nilPtr⟩
  · rename_i _ b o
    split at h <;> try (simp at h; done)
    rename_i _ c e' wb sp hm
    split at h <;> simp at h
    rename_i ho
    obtain ⟨rfl, rfl⟩ := h
    refine ⟨rfl, ?_⟩
    cases hx with
    | ptr hL =>
      rename_i L
      obtain ⟨carr, frz, hB⟩ := hR.blk hL hm
      have h1 := hB.size
      have h2 := hB.len
      refine .pure hR (v' := .pointer (some ⟨L.cb, L.co + o, none⟩)) ?_ (.ptr hL)
      exact Lib.run_to_unsafe w ⟨L.cb, L.co + o, none⟩ hs hd hj1 (by omega) (e := e') (cells := carr.size) (by simp [World.shape?, hB.heap]) (by simp only; omega)

theorem liesAt_own {e : TypeId} {s : Nat} (hs : P.cellsOf e = s) (h0 : 0 < s) (count n i : Nat) (hn : i + n ≤ count) : liesAt P P.depth e count (i * s) e n = true := by
  have hd : P.depth = (2 * (P.types.size + Made.depth) + 1) + 1 := rfl
  rw [hd]
  simp only [liesAt, Bool.or_eq_true]
  left
  rw [hd]
  have h1 : s ≠ 0 := by omega
  simp [rowAt, hs, h1, Nat.mul_div_cancel _ h0, hn, sameLayout]

theorem sound_frU (hR : Rep G m ρ w) {s d u : TypeId} (hs : P.underlying s = some .unsafePointer) (hd : P.underlying d = some (.pointer u)) {k : Nat} (hk : szOf P u = some (k + 1)) {x x' : Value} (hx : VRel ρ x x')
    {t : Tmps} {xo : AOpd} (hxo : xo.ev t = x) {v : Value} {m' : AMem} (h : stepOp (.frU u (k + 1) xo) t m = some (v, m')) : m' = m ∧ Sound P G m ρ w (convert s d x') v m := by
  simp only [stepOp, hxo] at h
  obtain ⟨j, hj1, hj2⟩ := szOf_info hk
  split at h <;> try (simp at h; done)
  · simp at h
    obtain ⟨rfl, rfl⟩ := h
    cases hx
    exact ⟨rfl, .pure hR (v' := .pointer none) (by simp [convert, run_underlying hs, run_underlying hd, Conv.unsafePointer]) .nilPtr⟩
  · rename_i _ b o
    split at h <;> try (simp at h; done)
    rename_i _ c e' wb hm
    split at h <;> simp at h
    rename_i ho
    obtain ⟨rfl, rfl⟩ := h
    obtain ⟨rfl, rfl, hlen⟩ := ho
    refine ⟨rfl, ?_⟩
    cases hx with
    | ptr hL =>
      rename_i L
      obtain ⟨carr, frz, hB⟩ := hR.blk hL hm
      obtain ⟨h1, h2, h3⟩ := hB.exact rfl
      refine .pure hR (v' := .pointer (some ⟨L.cb, L.co + 0, none⟩)) ?_ (.ptr hL)
      have hc : P.cellsOf e' = k + 1 := by simp [Program.cellsOf, hj1, hj2]
      refine Lib.run_from_unsafe w ⟨L.cb, L.co + 0, none⟩ hs hd hj1 (e := e') (cells := carr.size) (by simp [World.shape?, hB.heap]) ?_
      have := liesAt_own (P := P) hc (by omega) (carr.size / P.cellsOf e') 1 0 (by
        rw [hc, Nat.zero_add]
        exact (Nat.one_le_div_iff (by omega)).2 (by omega))
      simpa [h2] using this

theorem sound_sdat (hR : Rep G m ρ w) {tys : Array TypeId} {ty : TypeId} {x x' : Value} (hx : VRel ρ x x')
    {t : Tmps} {xo : AOpd} (hxo : xo.ev t = x) {v : Value} {m' : AMem} (h : stepOp (.sdat xo) t m = some (v, m')) : m' = m ∧ ∃ v', VRel ρ v v' ∧ ∀ (W : World), (Builtin.unsafeSliceData_ tys ty #[x']).run P W = .ok v' W := by
  simp only [stepOp, hxo] at h
  split at h <;> try (simp at h; done)
  · simp at h
    obtain ⟨rfl, rfl⟩ := h
    cases hx
    exact ⟨rfl, .pointer none, .nilPtr, fun W => rfl⟩
  · rename_i _ b o l c
    split at h <;> try (simp at h; done)
    rename_i h0
    split at h
    · rename_i hc
      split at h <;> try (simp at h; done)
      rename_i _ cells e' wb sp hm
      split at h <;> simp at h
      rename_i ho
      obtain ⟨rfl, rfl⟩ := h
      refine ⟨rfl, ?_⟩
      cases hx with
      | slice hL hcc => exact absurd hc (Nat.ne_of_lt hcc)
      | sliceOpen hL hcc hsz =>
        rename_i c' L
        obtain ⟨carr, frz, hB⟩ := hR.blk hL hm
        have h2 := hB.len
        have hc0 : c' ≠ 0 := by rintro rfl; omega
        exact ⟨_, .ptr hL, fun W => Lib.run_unsafeSliceData_row W tys ty _ _ _ hc0⟩
      | sliceEnd hL hc => exact absurd rfl h0
    · rename_i hc
      split at h <;> simp at h
      rename_i hpos
      obtain ⟨rfl, rfl⟩ := h
      refine ⟨rfl, ?_⟩
      cases hx with
      | slice hL hcc => exact ⟨_, .ptr hL, fun W => Lib.run_unsafeSliceData_row W tys ty _ _ _ (by omega)⟩
      | sliceOpen hL hcc hsz => exact absurd rfl hc
      | sliceEnd hL hc => exact absurd rfl h0

theorem World.freeze_heap (w : World) (b o n i : Nat) (hi : i ≠ b) : (w.freeze ⟨b, o, none⟩ n).heap[i]? = w.heap[i]? := by
  unfold World.freeze
  split
  · rfl
  · simp [Array.getElem?_modify, Ne.symm hi]

theorem World.freeze_self (w : World) (b o n : Nat) {c : Array Value} {e : TypeId} {f : Nat × Nat} (h : w.heap[b]? = some (.cells c e f)) : ∃ f', (w.freeze ⟨b, o, none⟩ n).heap[b]? = some (.cells c e f') := by
  unfold World.freeze
  split
  · exact ⟨f, h⟩
  · obtain ⟨lo, hi⟩ := f
    simp only [Array.getElem?_modify, if_true, h, Option.map_some]
    exact ⟨_, rfl⟩

theorem mapM_len {c : List Value} : ∀ {l : List UInt8}, c.mapM byteOf = some l → l.length = c.length := by
  induction c with
  | nil => intro l h; simp at h; subst h; rfl
  | cons x r ih =>
    intro l h
    simp only [List.mapM_cons, Option.bind_eq_bind, Option.bind_eq_some_iff] at h
    obtain ⟨y, h1, l', h2, h3⟩ := h
    simp at h3; subst h3
    simp [ih h2]

theorem run_loadBytesI {P : Program} (w : World) : ∀ (l : List Int) (a : Addr) (acc : ByteArray), (∀ j x, l[j]? = some x → w.cell? (a.add j) = some (.int .u8 x)) →
    (loadBytes a acc l.length).run P w = .ok ⟨acc.data ++ (l.map fun n => UInt8.ofNat n.toNat).toArray⟩ w
  | [], a, acc, _ => by simp [loadBytes]
  | x :: l, a, acc, h => by
    have h0 : w.cell? a = some (.int .u8 x) := by
      have := h 0 x rfl
      simpa [Addr.add] using this
    have ih := run_loadBytesI (P := P) w l (a.add 1) (acc.push x.toNat.toUInt8) (fun j y hy => by
      have := h (j + 1) y (by simpa using hy)
      have e : (a.add 1).add j = a.add (j + 1) := by
        unfold Addr.add
        by_cases hj : j = 0
        · subst hj; simp
        · simp [hj]; omega
      rw [e]; exact this)
    simp only [List.length_cons, loadBytes, Sem.run_bind, run_load, h0, Result.andThen]
    rw [ih]
    congr 1
    apply ByteArray.ext
    simp [ByteArray.push]

theorem run_ustr (w : World) (pt it ty e : TypeId) (hp : P.underlying pt = some (.pointer e)) (hc : P.cellsOf e = 1) (g off cells : Nat) (hsh : w.shape? g = some (e, cells)) (l : List Int) (h0 : l ≠ []) (hn : off + l.length ≤ cells) (h63 : l.length ≤ 9223372036854775807)
    (hcell : ∀ j x, l[j]? = some x → w.cell? ((⟨g, off, none⟩ : Addr).add j) = some (.int .u8 x)) :
    (Builtin.unsafeString_ #[pt, it] ty #[.pointer (some ⟨g, off, none⟩), .int .i64 l.length]).run P w = .ok (.string ⟨(l.map fun n => UInt8.ofNat n.toNat).toArray⟩) (w.freeze ⟨g, off, none⟩ l.length) := by
  have hl : l.length ≠ 0 := by simpa using h0
  have hlb := run_loadBytesI (P := P) w l ⟨g, off, none⟩ .empty hcell
  have hlies := liesAt_own (P := P) hc (by omega) (cells / P.cellsOf e) l.length off (by rw [hc]; simpa using hn)
  rw [Nat.mul_one] at hlies
  have h63' : ¬ (9223372036854775807 : Int) < (l.length : Int) := by omega
  have hdef : Builtin.unsafeString_ #[pt, it] ty #[.pointer (some ⟨g, off, none⟩), .int .i64 l.length] =
      (do
        let n ← asInt (.int .i64 l.length)
        if n < 0 then runtimePanic (.error "unsafe.String: len out of range")
        if n > IntKind.i64.max then unsupported (.unsafePointer "String: a length above the largest int")
        if n = 0 then pure (.string .empty)
        else if ← variablesAt ⟨g, off, none⟩ (← elemOf pt) n.toNat then do
          let s ← loadBytes ⟨g, off, none⟩ .empty n.toNat
          freeze ⟨g, off, none⟩ n.toNat
          pure (.string s)
        else unsupported (.unsafePointer "String: not so many bytes at ptr")) := rfl
  rw [hdef]
  have hmax : IntKind.i64.max = 9223372036854775807 := rfl
  have hneg : ¬ (l.length : Int) < 0 := by omega
  simp [asInt, asIntOf, hmax, h63', hneg, hl, variablesAt, hsh, elemOf, run_underlying hp, hlies, hlb]

theorem sound_ustr (hR : Rep G m ρ w) {pt it ty u : TypeId} (hp : P.underlying pt = some (.pointer u)) (hk : szOf P u = some 1) {x x' n n' : Value} (hx : VRel ρ x x') (hn : VRel ρ n n')
    {t : Tmps} {xo no : AOpd} (hxo : xo.ev t = x) (hno : no.ev t = n) {v : Value} {m' : AMem} (h : stepOp (.ustr u xo no) t m = some (v, m')) : Sound P G m ρ w (Builtin.unsafeString_ #[pt, it] ty #[x', n']) v m' := by
  simp only [stepOp, hxo, hno] at h
  obtain ⟨j, hj1, hj2⟩ := szOf_info hk
  have hcc : P.cellsOf u = 1 := by simp [Program.cellsOf, hj1, hj2]
  split at h <;> try (simp at h; done)
  · rename_i n0
    split at h <;> simp at h
    rename_i hz
    obtain ⟨rfl, rfl⟩ := h
    subst hz
    cases hx
    obtain rfl := hn.int_inv
    exact .pure hR (v' := .string .empty) (Lib.run_unsafeString_none w pt it ty none) (.string _)
  · rename_i b o n0
    split at h <;> try (simp at h; done)
    rename_i hpos
    split at h <;> try (simp at h; done)
    rename_i _ c e sp hm
    split at h <;> try (simp at h; done)
    rename_i hh
    obtain ⟨rfl, hlen⟩ := hh
    simp only [Option.map_eq_some_iff, Prod.mk.injEq] at h
    obtain ⟨l, hl, rfl, rfl⟩ := h
    obtain rfl := hn.int_inv
    cases hx with
    | ptr hL =>
      rename_i L
      have hrd : rd m b o n0.toNat = some ((c.drop o).take n0.toNat) := by simp [rd, hm, hlen]
      obtain ⟨cs, h1, h2, h3, h4⟩ := hR.rd hL hrd
      obtain ⟨xs, rfl, e2⟩ := bytes_of hl h3
      obtain ⟨carr, frz, hB⟩ := hR.blk hL hm
      have hll := mapM_len hl
      have hll2 : l.length = n0.toNat := by rw [hll]; simp; omega
      have h5 := hB.size
      have h6 := hB.len
      obtain ⟨frz', hself⟩ := World.freeze_self w L.cb (L.co + o) n0.toNat hB.heap
      have hrun : (Builtin.unsafeString_ #[pt, it] ty #[.pointer (some ⟨L.cb, L.co + o, none⟩), .int .i64 n0]).run P w = .ok (.string ⟨l.toArray⟩) (w.freeze ⟨L.cb, L.co + o, none⟩ n0.toNat) := by
        have hxl : xs.length = n0.toNat := by simpa using h1
        have := run_ustr (P := P) w pt it ty e hp hcc L.cb (L.co + o) carr.size (by simp [World.shape?, hB.heap]) xs (by intro hnil; rw [hnil] at hxl; simp at hxl; omega) (by omega) (by omega) (fun i y hy => by
          refine h4 i _ ?_
          simp [hy])
        rw [hxl, ← e2] at this
        rw [show (n0.toNat : Int) = n0 by omega] at this
        exact this
      have hset : Rep G (m.set b (.cells c e false sp)) ρ (w.freeze ⟨L.cb, L.co + o, none⟩ n0.toNat) := by
        refine hR.set hL (BlkAt.obj (carr := carr) (frz := frz') ⟨hself, hB.size, hB.len, hB.exact, hB.full, hB.cell, hB.spare, (fun hh => by cases hh)⟩) (by rw [hm]; rfl) (by rw [hm]; rfl) (fun hh => by cases hh) (fun i hi _ => World.freeze_heap _ _ _ _ _ hi)
      have hsz : (w.freeze ⟨L.cb, L.co + o, none⟩ n0.toNat).heap.size = w.heap.size := by
        unfold World.freeze
        split
        · rfl
        · simp
      have hw3 : (w.freeze ⟨L.cb, L.co + o, none⟩ n0.toNat).os = w.os ∧ (w.freeze ⟨L.cb, L.co + o, none⟩ n0.toNat).tape = w.tape ∧ (w.freeze ⟨L.cb, L.co + o, none⟩ n0.toNat).output = w.output := by
        unfold World.freeze
        split <;> exact ⟨rfl, rfl, rfl⟩
      exact ⟨ρ, _, _, hrun, .string _, hset, Ext.set hR hL (by rw [hm]; rfl) (fun i hi _ => World.freeze_heap _ _ _ _ _ hi) hw3.1 hw3.2.1 hw3.2.2 (by omega)⟩

end
end Go.AM
