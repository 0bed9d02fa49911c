/-
  An abstract memory over the model's world: what stands for what, and that it stays so.
-/
import Derived.Calls
import Derived.Below
import Derived.Orders
import Derived.KernelRfl
set_option linter.unusedVariables false
set_option linter.unusedSimpArgs false
set_option linter.unnecessarySimpa false
namespace Go.AM

/-- Where an abstract block lies: concrete block, first cell, how many cells belong to it, cells of one element. -/
structure Loc where
  cb : Nat
  co : Nat
  cc : Nat
  sz : Nat

abbrev Ren := Nat → Option Loc

/-- The capacity of a slice that reaches to the end of its block, wherever that is. -/
@[irreducible] def openCap : Nat := 18446744073709551616

theorem openCap_lt {c : Nat} (h : c ≤ 9223372036854775807) : c < openCap := by
  unfold openCap; omega
theorem openCap_ne {c : Nat} (h : c ≤ 9223372036854775807) : c ≠ openCap := Nat.ne_of_lt (openCap_lt h)

inductive VRel (ρ : Ren) : Value → Value → Prop
  | bool (b : Bool) : VRel ρ (.bool b) (.bool b)
  | int (k : IntKind) (n : Int) : VRel ρ (.int k n) (.int k n)
  | float (k : FloatKind) (n : Nat) : VRel ρ (.float k n) (.float k n)
  | complex (k : FloatKind) (n m : Nat) : VRel ρ (.complex k n m) (.complex k n m)
  | string (s : ByteArray) : VRel ρ (.string s) (.string s)
  | nilPtr : VRel ρ (.pointer none) (.pointer none)
  | ptr {b o : Nat} {L : Loc} (h : ρ b = some L) : VRel ρ (.pointer (some ⟨b, o, none⟩)) (.pointer (some ⟨L.cb, L.co + o, none⟩))
  | nilSlice (l c : Nat) : VRel ρ (.slice none l c) (.slice none l c)
  | slice {b o l c : Nat} {L : Loc} (h : ρ b = some L) (hc : c < openCap) :
      VRel ρ (.slice (some ⟨b, o, none⟩) l c) (.slice (some ⟨L.cb, L.co + o, none⟩) l c)
  | sliceOpen {b o l c : Nat} {L : Loc} (h : ρ b = some L) (hc : c * L.sz + o = L.cc) (hs : 0 < L.sz) :
      VRel ρ (.slice (some ⟨b, o, none⟩) l openCap) (.slice (some ⟨L.cb, L.co + o, none⟩) l c)
  | sliceEnd {b o c : Nat} {L : Loc} {a : Addr} (h : ρ b = some L) (hc : c = 0 ∨ (c = openCap ∧ L.cc = o)) :
      VRel ρ (.slice (some ⟨b, o, none⟩) 0 c) (.slice (some a) 0 0)
  | nilMap : VRel ρ (.map none) (.map none)
  | map {r : Nat} {L : Loc} (h : ρ r = some L) : VRel ρ (.map (some r)) (.map (some L.cb))
  | func (f : FuncId) (x x' y y' : Array Value) (hx : x.size = x'.size) (hy : y.size = y'.size)
      (h : ∀ i (h : i < x.size) (h' : i < x'.size), VRel ρ x[i] x'[i]) (k : ∀ i (h : i < y.size) (h' : i < y'.size), VRel ρ y[i] y'[i]) :
      VRel ρ (.func (.func f) x y) (.func (.func f) x' y')
  | yield {l : Nat} {L : Loc} (h : ρ l = some L) : VRel ρ (.func (.yield l) #[] #[]) (.func (.yield L.cb) #[] #[])
  | nilFunc : VRel ρ .nilFunc .nilFunc
  | iface (t : TypeId) {v v' : Value} (h : VRel ρ v v') : VRel ρ (.iface t v) (.iface t v')
  | nilIface : VRel ρ .nilIface .nilIface
  | agg (x x' : Array Value) (hx : x.size = x'.size) (h : ∀ i (h : i < x.size) (h' : i < x'.size), VRel ρ x[i] x'[i]) :
      VRel ρ (.agg x) (.agg x')
  | tuple (x x' : Array Value) (hx : x.size = x'.size) (h : ∀ i (h : i < x.size) (h' : i < x'.size), VRel ρ x[i] x'[i]) :
      VRel ρ (.tuple x) (.tuple x')

/-- Two rows of values, one by one. -/
def ARel (ρ : Ren) (x x' : Array Value) : Prop := x.size = x'.size ∧ ∀ i (h : i < x.size) (h' : i < x'.size), VRel ρ x[i] x'[i]

def LRel (ρ : Ren) (x x' : List Value) : Prop := x.length = x'.length ∧ ∀ i (h : i < x.length) (h' : i < x'.length), VRel ρ x[i] x'[i]

def Ren.le (ρ ρ' : Ren) : Prop := ∀ b L, ρ b = some L → ρ' b = some L

theorem Ren.le.refl (ρ : Ren) : ρ.le ρ := fun _ _ h => h
theorem Ren.le.trans {a b c : Ren} (h : a.le b) (k : b.le c) : a.le c := fun x L e => k x L (h x L e)

theorem VRel.mono {ρ ρ' : Ren} (hr : ρ.le ρ') {v v' : Value} (h : VRel ρ v v') : VRel ρ' v v' := by
  induction h with
  | bool b => exact .bool b
  | int k n => exact .int k n
  | float k n => exact .float k n
  | complex k n m => exact .complex k n m
  | string s => exact .string s
  | nilPtr => exact .nilPtr
  | ptr h => exact .ptr (hr _ _ h)
  | nilSlice l c => exact .nilSlice l c
  | slice h hc => exact .slice (hr _ _ h) hc
  | sliceOpen h hc hs => exact .sliceOpen (hr _ _ h) hc hs
  | sliceEnd h hc => exact .sliceEnd (hr _ _ h) hc
  | nilMap => exact .nilMap
  | map h => exact .map (hr _ _ h)
  | func f x x' y y' hx hy _ _ ih1 ih2 => exact .func f x x' y y' hx hy ih1 ih2
  | yield h => exact .yield (hr _ _ h)
  | nilFunc => exact .nilFunc
  | iface t _ ih => exact .iface t ih
  | nilIface => exact .nilIface
  | agg x x' hx _ ih => exact .agg x x' hx ih
  | tuple x x' hx _ ih => exact .tuple x x' hx ih

theorem ARel.mono {ρ ρ' : Ren} (hr : ρ.le ρ') {x x' : Array Value} (h : ARel ρ x x') : ARel ρ' x x' :=
  ⟨h.1, fun i a b => (h.2 i a b).mono hr⟩
theorem LRel.mono {ρ ρ' : Ren} (hr : ρ.le ρ') {x x' : List Value} (h : LRel ρ x x') : LRel ρ' x x' :=
  ⟨h.1, fun i a b => (h.2 i a b).mono hr⟩

/-- A value that leads nowhere. -/
def Plain (v : Value) : Prop := ∀ ρ, VRel ρ v v

theorem Plain.bool (b : Bool) : Plain (.bool b) := fun _ => .bool b
theorem Plain.int (k : IntKind) (n : Int) : Plain (.int k n) := fun _ => .int k n
theorem Plain.string (s : ByteArray) : Plain (.string s) := fun _ => .string s
theorem Plain.nilPtr : Plain (.pointer none) := fun _ => .nilPtr
theorem Plain.nilSlice (l c : Nat) : Plain (.slice none l c) := fun _ => .nilSlice l c
theorem Plain.nilMap : Plain (.map none) := fun _ => .nilMap
theorem Plain.nilFunc : Plain .nilFunc := fun _ => .nilFunc
theorem Plain.nilIface : Plain .nilIface := fun _ => .nilIface
theorem Plain.func (f : FuncId) : Plain (.func (.func f) #[] #[]) := fun _ => .func f _ _ _ _ rfl rfl (fun i h => by simp at h) (fun i h => by simp at h)
theorem Plain.iface {t : TypeId} {v : Value} (h : Plain v) : Plain (.iface t v) := fun ρ => .iface t (h ρ)
theorem Plain.agg {x : Array Value} (h : ∀ v ∈ x, Plain v) : Plain (.agg x) := fun ρ => .agg x x rfl fun _ hi _ => h _ (Array.getElem_mem hi) ρ
theorem Plain.tuple {x : Array Value} (h : ∀ v ∈ x, Plain v) : Plain (.tuple x) := fun ρ => .tuple x x rfl fun _ hi _ => h _ (Array.getElem_mem hi) ρ
theorem Plain.undef : Plain undef := .tuple (by simp)

/-! ### The abstract memory -/

/-- What stands behind a row's cells: nothing, and that is all there is to say; empty elements, who knows how many; nothing, of elements of a size. -/
inductive Spare where
  | exact
  | room (z : List Value)
  | full (sz : Nat)
  deriving Inhabited

inductive AObj where
  | dead
  | cells (c : List Value) (e : TypeId) (wr : Bool) (sp : Spare)
  | iter (s : ByteArray) (pos : Nat)
  | map (es : Array MapEntry) (clock : Nat)
  deriving Inhabited

def AObj.alive : AObj → Bool
  | .dead => false
  | _ => true

def AObj.wrt : AObj → Bool
  | .dead => false
  | .cells _ _ wr _ => wr
  | .iter _ _ => true
  | .map _ _ => true

structure AMem where
  size : Nat
  get : Nat → AObj

namespace AMem
def set (m : AMem) (b : Nat) (o : AObj) : AMem := ⟨m.size, fun x => if x = b then o else m.get x⟩
def push (m : AMem) (o : AObj) : AMem := ⟨m.size + 1, fun x => if x = m.size then o else m.get x⟩
theorem size_set (m : AMem) (b : Nat) (o : AObj) : (m.set b o).size = m.size := rfl
theorem size_push (m : AMem) (o : AObj) : (m.push o).size = m.size + 1 := rfl
theorem get_set (m : AMem) (b x : Nat) (o : AObj) : (m.set b o).get x = if x = b then o else m.get x := rfl
theorem get_push (m : AMem) (x : Nat) (o : AObj) : (m.push o).get x = if x = m.size then o else m.get x := rfl
theorem get_set_self (m : AMem) (b : Nat) (o : AObj) : (m.set b o).get b = o := by simp [get_set]
theorem get_push_self (m : AMem) (o : AObj) : (m.push o).get m.size = o := by simp [get_push]
theorem get_set_ne (m : AMem) {b x : Nat} (o : AObj) (h : x ≠ b) : (m.set b o).get x = m.get x := by simp [get_set, h]
theorem get_push_ne (m : AMem) {x : Nat} (o : AObj) (h : x ≠ m.size) : (m.push o).get x = m.get x := by simp [get_push, h]
theorem ext' {m m' : AMem} (h : m.size = m'.size) (k : ∀ x, m.get x = m'.get x) : m = m' := by
  cases m; cases m'; simp at *; exact ⟨h, funext k⟩
end AMem

/-- The abstract object o stands in the world, at L. -/
def ObjRel (ρ : Ren) (o : AObj) (L : Loc) (w : World) : Prop :=
  match o with
  | .dead => True
  | .cells c e wr sp => ∃ (carr : Array Value) (frz : Nat × Nat), w.heap[L.cb]? = some (.cells carr e frz) ∧ L.co + L.cc ≤ carr.size ∧ c.length ≤ L.cc ∧
      (sp = .exact → L.cc = c.length ∧ L.co = 0 ∧ carr.size = L.cc) ∧ (∀ k, sp = .full k → L.cc = c.length ∧ L.sz = k ∧ 0 < k) ∧
      (∀ j (h : j < c.length), VRel ρ c[j] (carr.getD (L.co + j) undef)) ∧
      (∀ z, sp = .room z → z.length = L.sz ∧ 0 < L.sz ∧ c.length % L.sz = 0 ∧ L.cc % L.sz = 0 ∧ (∀ v ∈ z, Plain v) ∧
        ∀ j, c.length ≤ j → j < L.cc → carr.getD (L.co + j) undef = z.getD (j % L.sz) undef) ∧
      (wr = true → ∀ j, j < L.cc → ¬ (frz.1 ≤ L.co + j ∧ L.co + j < frz.2))
  | .iter s pos => w.heap[L.cb]? = some (.stringIter s pos) ∧ L.co = 0
  | .map es clock => w.heap[L.cb]? = some (.map es clock) ∧ ∀ e ∈ es, Plain e.key ∧ Plain e.val

theorem ObjRel.mono {ρ ρ' : Ren} (hr : ρ.le ρ') {o : AObj} {L : Loc} {w : World} (h : ObjRel ρ o L w) : ObjRel ρ' o L w := by
  cases o with
  | dead => trivial
  | cells c e wr sp =>
    obtain ⟨carr, frz, h1, h2, h3, h4, h8, h5, h6, h7⟩ := h
    exact ⟨carr, frz, h1, h2, h3, h4, h8, fun j hj => (h5 j hj).mono hr, h6, h7⟩
  | iter s pos => exact h
  | map es clock => exact h

theorem ObjRel.world {ρ : Ren} {o : AObj} {L : Loc} {w w' : World} (he : w'.heap[L.cb]? = w.heap[L.cb]?) (h : ObjRel ρ o L w) : ObjRel ρ o L w' := by
  cases o with
  | dead => trivial
  | cells c e wr sp =>
    obtain ⟨carr, frz, h1, h⟩ := h
    exact ⟨carr, frz, he.trans h1, h⟩
  | iter s pos => exact ⟨he.trans h.1, h.2⟩
  | map es clock => exact ⟨he.trans h.1, h.2⟩

theorem lt_of_getElem?_some {α : Type} {a : Array α} {i : Nat} {x : α} (h : a[i]? = some x) : i < a.size := by
  rcases Nat.lt_or_ge i a.size with h' | h'
  · exact h'
  · rw [Array.getElem?_eq_none h'] at h; cases h

theorem ObjRel.lt {ρ : Ren} {o : AObj} {L : Loc} {w : World} (h : ObjRel ρ o L w) (ha : o.alive = true) : L.cb < w.heap.size := by
  cases o with
  | dead => simp [AObj.alive] at ha
  | cells c e wr sp => obtain ⟨carr, frz, h1, _⟩ := h; exact lt_of_getElem?_some h1
  | iter s pos => exact lt_of_getElem?_some h.1
  | map es clock => exact lt_of_getElem?_some h.1

/-- The abstract memory m stands in the world w, each block b at ρ b. G: how many package variables there are: these stand where they stand. -/
structure Rep (G : Nat) (m : AMem) (ρ : Ren) (w : World) : Prop where
  dom : ∀ b L, ρ b = some L → b < m.size
  obj : ∀ b L, ρ b = some L → ObjRel ρ (m.get b) L w
  sep : ∀ b b' L L', ρ b = some L → ρ b' = some L' → b ≠ b' → (m.get b).alive = true → (m.get b').alive = true →
    (m.get b).wrt = true → L.cb ≠ L'.cb
  glob : ∀ g, g < G → ∃ L, ρ g = some L ∧ L.cb = g ∧ L.co = 0

def Img (m : AMem) (ρ : Ren) (i : Nat) : Prop := ∃ b L, ρ b = some L ∧ (m.get b).wrt = true ∧ L.cb = i

/-- How a later state stands to an earlier one. -/
structure Ext (m : AMem) (ρ : Ren) (w : World) (m' : AMem) (ρ' : Ren) (w' : World) : Prop where
  ren : ρ.le ρ'
  os : w'.os = w.os
  tape : w'.tape = w.tape
  output : w'.output = w.output
  size : w.heap.size ≤ w'.heap.size
  keep : ∀ i, i < w.heap.size → ¬ Img m ρ i → w'.heap[i]? = w.heap[i]?
  img : ∀ i, i < w.heap.size → Img m' ρ' i → Img m ρ i

theorem Ext.refl (m : AMem) (ρ : Ren) (w : World) : Ext m ρ w m ρ w :=
  ⟨.refl ρ, rfl, rfl, rfl, Nat.le_refl _, fun _ _ _ => rfl, fun _ _ h => h⟩

theorem Ext.trans {m m1 m2 : AMem} {ρ ρ1 ρ2 : Ren} {w w1 w2 : World} (h : Ext m ρ w m1 ρ1 w1) (k : Ext m1 ρ1 w1 m2 ρ2 w2) : Ext m ρ w m2 ρ2 w2 where
  ren := h.ren.trans k.ren
  os := k.os.trans h.os
  tape := k.tape.trans h.tape
  output := k.output.trans h.output
  size := Nat.le_trans h.size k.size
  keep := fun i hi hn => (k.keep i (Nat.lt_of_lt_of_le hi h.size) (fun hc => hn (h.img i hi hc))).trans (h.keep i hi hn)
  img := fun i hi hc => h.img i hi (k.img i (Nat.lt_of_lt_of_le hi h.size) hc)

/-! ### The ways in which a state changes -/

/-- Another world of the same blocks. -/
theorem Rep.world {G : Nat} {m : AMem} {ρ : Ren} {w w' : World} (h : Rep G m ρ w)
    (he : ∀ b L, ρ b = some L → (m.get b).alive = true → w'.heap[L.cb]? = w.heap[L.cb]?) : Rep G m ρ w' where
  dom := h.dom
  obj := fun b L hb => by
    by_cases ha : (m.get b).alive = true
    · exact (h.obj b L hb).world (he b L hb ha)
    · have : m.get b = .dead := by cases hm : m.get b <;> simp_all [AObj.alive]
      rw [this]; trivial
  sep := h.sep
  glob := h.glob

/-- A draw. -/
theorem Rep.drawn {G : Nat} {m : AMem} {ρ : Ren} {w : World} (h : Rep G m ρ w) (n : Nat) : Rep G m ρ { w with drawn := n } := h.world fun _ _ _ _ => rfl
theorem Ext.drawn (m : AMem) (ρ : Ren) (w : World) (n : Nat) : Ext m ρ w m ρ { w with drawn := n } :=
  ⟨.refl ρ, rfl, rfl, rfl, Nat.le_refl _, fun _ _ _ => rfl, fun _ _ h => h⟩

def Ren.add (ρ : Ren) (b : Nat) (L : Loc) : Ren := fun x => if x = b then some L else ρ x

theorem Ren.le_add {ρ : Ren} {b : Nat} {L : Loc} (h : ρ b = none) : ρ.le (ρ.add b L) := by
  intro x M hx
  have : x ≠ b := fun e => by rw [e, h] at hx; cases hx
  simp [Ren.add, this, hx]

theorem Rep.none_of_ge {G : Nat} {m : AMem} {ρ : Ren} {w : World} (h : Rep G m ρ w) {b : Nat} (hb : m.size ≤ b) : ρ b = none := by
  cases hρ : ρ b with
  | none => rfl
  | some L => have := h.dom b L hρ; omega

theorem Rep.le_add {G : Nat} {m : AMem} {ρ : Ren} {w : World} (h : Rep G m ρ w) (L : Loc) : ρ.le (ρ.add m.size L) := Ren.le_add (h.none_of_ge (Nat.le_refl _))

/-- A new abstract block, that lies where no living one does. -/
theorem Rep.push {G : Nat} {m : AMem} {ρ : Ren} {w : World} (h : Rep G m ρ w) {o : AObj} {L : Loc} (ho : ObjRel (ρ.add m.size L) o L w)
    (ha : ∀ b' L', ρ b' = some L' → (m.get b').alive = true → L'.cb ≠ L.cb) : Rep G (m.push o) (ρ.add m.size L) w where
  dom := fun b M hb => by
    rw [AMem.size_push]
    by_cases e : b = m.size
    · omega
    · simp [Ren.add, e] at hb; have := h.dom b M hb; omega
  obj := fun b M hb => by
    by_cases e : b = m.size
    · subst e; simp [Ren.add] at hb; subst hb; rw [AMem.get_push_self]; exact ho
    · simp [Ren.add, e] at hb; rw [AMem.get_push_ne _ _ e]; exact (h.obj b M hb).mono (h.le_add L)
  sep := fun b b' M M' hb hb' hne h1 h2 h3 => by
    by_cases e : b = m.size
    · subst e
      have e' : b' ≠ m.size := fun x => hne x.symm
      simp [Ren.add] at hb; subst hb
      simp [Ren.add, e'] at hb'
      rw [AMem.get_push_ne _ _ e'] at h2
      exact fun x => ha b' M' hb' h2 x.symm
    · simp [Ren.add, e] at hb
      rw [AMem.get_push_ne _ _ e] at h1 h3
      by_cases e' : b' = m.size
      · subst e'; simp [Ren.add] at hb'; subst hb'; exact ha b M hb h1
      · simp [Ren.add, e'] at hb'
        rw [AMem.get_push_ne _ _ e'] at h2
        exact h.sep b b' M M' hb hb' hne h1 h2 h3
  glob := fun g hg => by
    obtain ⟨M, hM, h1, h2⟩ := h.glob g hg
    exact ⟨M, h.le_add L g M hM, h1, h2⟩

/-- A block turns into another one, at its place. -/
theorem Rep.set {G : Nat} {m : AMem} {ρ : Ren} {w w' : World} (h : Rep G m ρ w) {b : Nat} {L : Loc} {o : AObj} (hb : ρ b = some L) (ho : ObjRel ρ o L w')
    (hw : (m.get b).wrt = true) (ha : (m.get b).alive = true) (hwo : o.wrt = true → (m.get b).wrt = true)
    (he : ∀ i, i ≠ L.cb → i < w.heap.size → w'.heap[i]? = w.heap[i]?) : Rep G (m.set b o) ρ w' where
  dom := fun x M hx => by rw [AMem.size_set]; exact h.dom x M hx
  obj := fun x M hx => by
    by_cases e : x = b
    · subst e; rw [hb] at hx; cases hx; rw [AMem.get_set_self]; exact ho
    · rw [AMem.get_set_ne _ _ e]
      by_cases hal : (m.get x).alive = true
      · have hne := h.sep b x L M hb hx (fun z => e z.symm) ha hal hw
        exact (h.obj x M hx).world (he M.cb (fun z => hne z.symm) ((h.obj x M hx).lt hal))
      · have : m.get x = .dead := by cases hm : m.get x <;> simp_all [AObj.alive]
        rw [this]; trivial
  sep := fun x y M M' hx hy hne h1 h2 h3 => by
    by_cases e : x = b
    · subst e
      have e' : y ≠ x := fun z => hne z.symm
      rw [AMem.get_set_ne _ _ e'] at h2
      exact h.sep x y M M' hx hy hne ha h2 hw
    · rw [AMem.get_set_ne _ _ e] at h1 h3
      by_cases e' : y = b
      · subst e'; exact h.sep x y M M' hx hy hne h1 ha h3
      · rw [AMem.get_set_ne _ _ e'] at h2
        exact h.sep x y M M' hx hy hne h1 h2 h3
  glob := h.glob

/-- A block dies. -/
theorem Rep.kill {G : Nat} {m : AMem} {ρ : Ren} {w : World} (h : Rep G m ρ w) (b : Nat) : Rep G (m.set b .dead) ρ w where
  dom := fun x M hx => by rw [AMem.size_set]; exact h.dom x M hx
  obj := fun x M hx => by
    by_cases e : x = b
    · subst e; rw [AMem.get_set_self]; trivial
    · rw [AMem.get_set_ne _ _ e]; exact h.obj x M hx
  sep := fun x y M M' hx hy hne h1 h2 h3 => by
    have e : x ≠ b := fun z => by subst z; rw [AMem.get_set_self] at h1; simp [AObj.alive] at h1
    have e' : y ≠ b := fun z => by subst z; rw [AMem.get_set_self] at h2; simp [AObj.alive] at h2
    rw [AMem.get_set_ne _ _ e] at h1 h3
    rw [AMem.get_set_ne _ _ e'] at h2
    exact h.sep x y M M' hx hy hne h1 h2 h3
  glob := h.glob

theorem Rep.lt {G : Nat} {m : AMem} {ρ : Ren} {w : World} (h : Rep G m ρ w) {b : Nat} {L : Loc} (hb : ρ b = some L) (ha : (m.get b).alive = true) : L.cb < w.heap.size :=
  (h.obj b L hb).lt ha

/-- What was allocated: a new concrete block, and an abstract one that is it. -/
theorem Rep.new {G : Nat} {m : AMem} {ρ : Ren} {w w' : World} (h : Rep G m ρ w) {o : AObj} {L : Loc}
    (hw : ∀ i, i < w.heap.size → w'.heap[i]? = w.heap[i]?) (hL : w.heap.size ≤ L.cb) (ho : ObjRel (ρ.add m.size L) o L w') : Rep G (m.push o) (ρ.add m.size L) w' := by
  have h' : Rep G m ρ w' := h.world fun b M hb ha => hw _ (h.lt hb ha)
  refine h'.push ho fun b' L' hb' ha' => ?_
  have := h.lt hb' ha'
  omega

theorem Ext.new {G : Nat} {m : AMem} {ρ : Ren} {w w' : World} (h : Rep G m ρ w) {o : AObj} {L : Loc}
    (hw : ∀ i, i < w.heap.size → w'.heap[i]? = w.heap[i]?) (hL : w.heap.size ≤ L.cb)
    (hos : w'.os = w.os) (htape : w'.tape = w.tape) (hout : w'.output = w.output) (hsize : w.heap.size ≤ w'.heap.size) :
    Ext m ρ w (m.push o) (ρ.add m.size L) w' where
  ren := h.le_add L
  os := hos
  tape := htape
  output := hout
  size := hsize
  keep := fun i hi _ => hw i hi
  img := fun i hi ⟨b, M, hb, hwr, hc⟩ => by
    by_cases e : b = m.size
    · subst e; simp [Ren.add] at hb; subst hb; omega
    · simp [Ren.add, e] at hb
      rw [AMem.get_push_ne _ _ e] at hwr
      exact ⟨b, M, hb, hwr, hc⟩

theorem Ext.set {G : Nat} {m : AMem} {ρ : Ren} {w w' : World} (h : Rep G m ρ w) {b : Nat} {L : Loc} {o : AObj} (hb : ρ b = some L)
    (hw : (m.get b).wrt = true) (he : ∀ i, i ≠ L.cb → i < w.heap.size → w'.heap[i]? = w.heap[i]?)
    (hos : w'.os = w.os) (htape : w'.tape = w.tape) (hout : w'.output = w.output) (hsize : w.heap.size ≤ w'.heap.size) :
    Ext m ρ w (m.set b o) ρ w' where
  ren := .refl ρ
  os := hos
  tape := htape
  output := hout
  size := hsize
  keep := fun i hi hn => he i (fun e => hn ⟨b, L, hb, hw, e.symm⟩) hi
  img := fun i hi ⟨x, M, hx, hwr, hc⟩ => by
    by_cases e : x = b
    · subst e; exact ⟨x, L, hb, hw, by rw [hb] at hx; cases hx; exact hc⟩
    · rw [AMem.get_set_ne _ _ e] at hwr; exact ⟨x, M, hx, hwr, hc⟩

end Go.AM
