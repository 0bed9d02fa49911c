/-
  An abstract memory over the model's world: what stands for what, and that it stays so.
-/
import Derived.Calls
import Derived.Below
import Derived.Orders
import Derived.KernelRfl
import Derived.Laws.IdiomCopy
import Derived.Laws.Append
import Derived.ChangeKeysEq
import Derived.Laws.Slices
import Derived.Laws.Tables
import Derived.Laws.BytesArg
import Derived.Laws.StructEq
import Derived.Laws.Small
set_option linter.unusedVariables false
set_option linter.unusedSimpArgs false
set_option linter.unnecessarySimpa false
namespace Go.AM

structure Loc where
  cb : Nat
  co : Nat
  cc : Nat
  sz : Nat

abbrev Ren := Nat → Option Loc

@[irreducible] def openCap : Nat := 18446744073709551616

theorem openCap_lt {c : Nat} (h : c ≤ 9223372036854775807) : c < openCap := by
  unfold openCap; omega
inductive VRel (ρ : Ren) : Value → Value → Prop
  | bool (b : Bool) : VRel ρ (.bool b) (.bool b)
  | int (k : IntKind) (n : Int) : VRel ρ (.int k n) (.int k n)
  | float (k : FloatKind) (n : Nat) : VRel ρ (.float k n) (.float k n)
  | complex (k : FloatKind) (n m : Nat) : VRel ρ (.complex k n m) (.complex k n m)
  | string (s : ByteArray) : VRel ρ (.string s) (.string s)
  | nilPtr : VRel ρ (.pointer none) (.pointer none)
  | ptr {b o : Nat} {L : Loc} (h : ρ b = some L) : VRel ρ (.pointer (some ⟨b, o, none⟩)) (.pointer (some ⟨L.cb, L.co + o, none⟩))
  | nilSlice (l c : Nat) : VRel ρ (.slice none l c) (.slice none l c)
  | slice {b o l c : Nat} {L : Loc} (h : ρ b = some L) (hc : c < openCap) :
      VRel ρ (.slice (some ⟨b, o, none⟩) l c) (.slice (some ⟨L.cb, L.co + o, none⟩) l c)
  | sliceOpen {b o l c : Nat} {L : Loc} (h : ρ b = some L) (hc : c * L.sz + o = L.cc) (hs : 0 < L.sz) :
      VRel ρ (.slice (some ⟨b, o, none⟩) l openCap) (.slice (some ⟨L.cb, L.co + o, none⟩) l c)
  | sliceEnd {b o c : Nat} {L : Loc} {a : Addr} (h : ρ b = some L) (hc : c = 0 ∨ (c = openCap ∧ L.cc = o)) :
      VRel ρ (.slice (some ⟨b, o, none⟩) 0 c) (.slice (some a) 0 0)
  | nilMap : VRel ρ (.map none) (.map none)
  | map {r : Nat} {L : Loc} (h : ρ r = some L) : VRel ρ (.map (some r)) (.map (some L.cb))
  | func (f : FuncId) (x x' y y' : Array Value) (hx : x.size = x'.size) (hy : y.size = y'.size)
      (h : ∀ i (h : i < x.size) (h' : i < x'.size), VRel ρ x[i] x'[i]) (k : ∀ i (h : i < y.size) (h' : i < y'.size), VRel ρ y[i] y'[i]) :
      VRel ρ (.func (.func f) x y) (.func (.func f) x' y')
  | yield {l : Nat} {L : Loc} (h : ρ l = some L) : VRel ρ (.func (.yield l) #[] #[]) (.func (.yield L.cb) #[] #[])
  | nilFunc : VRel ρ .nilFunc .nilFunc
  | iface (t : TypeId) {v v' : Value} (h : VRel ρ v v') : VRel ρ (.iface t v) (.iface t v')
  | nilIface : VRel ρ .nilIface .nilIface
  | agg (x x' : Array Value) (hx : x.size = x'.size) (h : ∀ i (h : i < x.size) (h' : i < x'.size), VRel ρ x[i] x'[i]) :
      VRel ρ (.agg x) (.agg x')
  | tuple (x x' : Array Value) (hx : x.size = x'.size) (h : ∀ i (h : i < x.size) (h' : i < x'.size), VRel ρ x[i] x'[i]) :
      VRel ρ (.tuple x) (.tuple x')

def ARel (ρ : Ren) (x x' : Array Value) : Prop := x.size = x'.size ∧ ∀ i (h : i < x.size) (h' : i < x'.size), VRel ρ x[i] x'[i]

def LRel (ρ : Ren) (x x' : List Value) : Prop := x.length = x'.length ∧ ∀ i (h : i < x.length) (h' : i < x'.length), VRel ρ x[i] x'[i]

def Ren.le (ρ ρ' : Ren) : Prop := ∀ b L, ρ b = some L → ρ' b = some L

theorem Ren.le.refl (ρ : Ren) : ρ.le ρ := fun _ _ h => h
theorem Ren.le.trans {a b c : Ren} (h : a.le b) (k : b.le c) : a.le c := fun x L e => k x L (h x L e)

theorem VRel.mono {ρ ρ' : Ren} (hr : ρ.le ρ') {v v' : Value} (h : VRel ρ v v') : VRel ρ' v v' := by
  induction h with
  | bool b => exact .bool b
  | int k n => exact .int k n
  | float k n => exact .float k n
  | complex k n m => exact .complex k n m
  | string s => exact .string s
  | nilPtr => exact .nilPtr
  | ptr h => exact .ptr (hr _ _ h)
  | nilSlice l c => exact .nilSlice l c
  | slice h hc => exact .slice (hr _ _ h) hc
  | sliceOpen h hc hs => exact .sliceOpen (hr _ _ h) hc hs
  | sliceEnd h hc => exact .sliceEnd (hr _ _ h) hc
  | nilMap => exact .nilMap
  | map h => exact .map (hr _ _ h)
  | func f x x' y y' hx hy _ _ ih1 ih2 => exact .func f x x' y y' hx hy ih1 ih2
  | yield h => exact .yield (hr _ _ h)
  | nilFunc => exact .nilFunc
  | iface t _ ih => exact .iface t ih
  | nilIface => exact .nilIface
  | agg x x' hx _ ih => exact .agg x x' hx ih
  | tuple x x' hx _ ih => exact .tuple x x' hx ih

theorem ARel.mono {ρ ρ' : Ren} (hr : ρ.le ρ') {x x' : Array Value} (h : ARel ρ x x') : ARel ρ' x x' :=
  ⟨h.1, fun i a b => (h.2 i a b).mono hr⟩
theorem LRel.mono {ρ ρ' : Ren} (hr : ρ.le ρ') {x x' : List Value} (h : LRel ρ x x') : LRel ρ' x x' :=
  ⟨h.1, fun i a b => (h.2 i a b).mono hr⟩

def Plain (v : Value) : Prop := ∀ ρ, VRel ρ v v

theorem Plain.bool (b : Bool) : Plain (.bool b) := fun _ => .bool b
theorem Plain.int (k : IntKind) (n : Int) : Plain (.int k n) := fun _ => .int k n
theorem Plain.string (s : ByteArray) : Plain (.string s) := fun _ => .string s
theorem Plain.nilPtr : Plain (.pointer none) := fun _ => .nilPtr
theorem Plain.nilSlice (l c : Nat) : Plain (.slice none l c) := fun _ => .nilSlice l c
theorem Plain.nilMap : Plain (.map none) := fun _ => .nilMap
theorem Plain.nilFunc : Plain .nilFunc := fun _ => .nilFunc
theorem Plain.nilIface : Plain .nilIface := fun _ => .nilIface
theorem Plain.func (f : FuncId) : Plain (.func (.func f) #[] #[]) := fun _ => .func f _ _ _ _ rfl rfl (fun i h => by simp at h) (fun i h => by simp at h)
theorem Plain.iface {t : TypeId} {v : Value} (h : Plain v) : Plain (.iface t v) := fun ρ => .iface t (h ρ)
theorem Plain.agg {x : Array Value} (h : ∀ v ∈ x, Plain v) : Plain (.agg x) := fun ρ => .agg x x rfl fun _ hi _ => h _ (Array.getElem_mem hi) ρ
theorem Plain.tuple {x : Array Value} (h : ∀ v ∈ x, Plain v) : Plain (.tuple x) := fun ρ => .tuple x x rfl fun _ hi _ => h _ (Array.getElem_mem hi) ρ
theorem Plain.undef : Plain undef := .tuple (by simp)

/-! ### The abstract memory -/

inductive Spare where
  | exact
  | room (z : List Value)
  | full (sz : Nat)
  deriving Inhabited

def Spare.size : Spare → Nat
  | .exact => 0
  | .room z => z.length
  | .full k => k

inductive AObj where
  | dead
  | cells (c : List Value) (e : TypeId) (wr : Bool) (sp : Spare)
  | iter (s : ByteArray) (pos : Nat)
  | map (es : Array MapEntry) (clock : Nat)
  | defd
  | loop (st : LoopState) (pend : Option Code) (t : Nat → Value) (rec : Loop)
  deriving Inhabited

def AObj.alive : AObj → Bool
  | .dead => false
  | _ => true

def AObj.wrt : AObj → Bool
  | .dead => false
  | .cells _ _ wr _ => wr
  | .iter _ _ => true
  | .map _ _ => true
  | .defd => true
  | .loop _ _ _ _ => true

structure AMem where
  size : Nat
  get : Nat → AObj

namespace AMem
def set (m : AMem) (b : Nat) (o : AObj) : AMem := ⟨m.size, fun x => if x = b then o else m.get x⟩
def push (m : AMem) (o : AObj) : AMem := ⟨m.size + 1, fun x => if x = m.size then o else m.get x⟩
theorem size_set (m : AMem) (b : Nat) (o : AObj) : (m.set b o).size = m.size := rfl
theorem size_push (m : AMem) (o : AObj) : (m.push o).size = m.size + 1 := rfl
theorem get_set (m : AMem) (b x : Nat) (o : AObj) : (m.set b o).get x = if x = b then o else m.get x := rfl
theorem get_push (m : AMem) (x : Nat) (o : AObj) : (m.push o).get x = if x = m.size then o else m.get x := rfl
theorem get_set_self (m : AMem) (b : Nat) (o : AObj) : (m.set b o).get b = o := by simp [get_set]
theorem get_push_self (m : AMem) (o : AObj) : (m.push o).get m.size = o := by simp [get_push]
theorem get_set_ne (m : AMem) {b x : Nat} (o : AObj) (h : x ≠ b) : (m.set b o).get x = m.get x := by simp [get_set, h]
theorem get_push_ne (m : AMem) {x : Nat} (o : AObj) (h : x ≠ m.size) : (m.push o).get x = m.get x := by simp [get_push, h]
theorem ext' {m m' : AMem} (h : m.size = m'.size) (k : ∀ x, m.get x = m'.get x) : m = m' := by
  cases m; cases m'; simp at *; exact ⟨h, funext k⟩
end AMem

def ObjRel (ρ : Ren) (o : AObj) (L : Loc) (w : World) : Prop :=
  match o with
  | .dead => True
  | .cells c e wr sp => ∃ (carr : Array Value) (frz : Nat × Nat), w.heap[L.cb]? = some (.cells carr e frz) ∧ L.co + L.cc ≤ carr.size ∧ c.length ≤ L.cc ∧
      (sp = .exact → L.cc = c.length ∧ L.co = 0 ∧ carr.size = L.cc) ∧ (∀ k, sp = .full k → L.cc = c.length ∧ L.sz = k ∧ 0 < k) ∧
      (∀ j (h : j < c.length), VRel ρ c[j] (carr.getD (L.co + j) undef)) ∧
      (∀ z, sp = .room z → z.length = L.sz ∧ 0 < L.sz ∧ c.length % L.sz = 0 ∧ L.cc % L.sz = 0 ∧ (∀ v ∈ z, Plain v) ∧
        ∀ j, c.length ≤ j → j < L.cc → carr.getD (L.co + j) undef = z.getD (j % L.sz) undef) ∧
      (wr = true → (∀ j, j < L.cc → ¬ (frz.1 ≤ L.co + j ∧ L.co + j < frz.2)) ∧ (sp.size ≠ 1 → ¬ (frz.1 ≤ carr.size ∧ carr.size < frz.2)))
  | .iter s pos => w.heap[L.cb]? = some (.stringIter s pos) ∧ L.co = 0
  | .map es clock => w.heap[L.cb]? = some (.map es clock) ∧ ∀ e ∈ es, Plain e.key ∧ Plain e.val
  | .defd => w.heap[L.cb]? = some (.deferred (some [])) ∧ L.co = 0
  | .loop st pend t rec => w.heap[L.cb]? = some (.loop { rec with state := st, pending := pend }) ∧ L.co = 0 ∧ ∀ i, VRel ρ (t i) (rec.tmps.getD i undef)

theorem ObjRel.mono {ρ ρ' : Ren} (hr : ρ.le ρ') {o : AObj} {L : Loc} {w : World} (h : ObjRel ρ o L w) : ObjRel ρ' o L w := by
  cases o with
  | dead => trivial
  | cells c e wr sp =>
    obtain ⟨carr, frz, h1, h2, h3, h4, h8, h5, h6, h7⟩ := h
    exact ⟨carr, frz, h1, h2, h3, h4, h8, fun j hj => (h5 j hj).mono hr, h6, h7⟩
  | iter s pos => exact h
  | map es clock => exact h
  | defd => exact h
  | loop st pend t rec => exact ⟨h.1, h.2.1, fun i => (h.2.2 i).mono hr⟩

theorem ObjRel.world {ρ : Ren} {o : AObj} {L : Loc} {w w' : World} (he : w'.heap[L.cb]? = w.heap[L.cb]?) (h : ObjRel ρ o L w) : ObjRel ρ o L w' := by
  cases o with
  | dead => trivial
  | cells c e wr sp =>
    obtain ⟨carr, frz, h1, h⟩ := h
    exact ⟨carr, frz, he.trans h1, h⟩
  | iter s pos => exact ⟨he.trans h.1, h.2⟩
  | map es clock => exact ⟨he.trans h.1, h.2⟩
  | defd => exact ⟨he.trans h.1, h.2⟩
  | loop st pend t rec => exact ⟨he.trans h.1, h.2⟩

theorem lt_of_getElem?_some {α : Type} {a : Array α} {i : Nat} {x : α} (h : a[i]? = some x) : i < a.size := by
  rcases Nat.lt_or_ge i a.size with h' | h'
  · exact h'
  · rw [Array.getElem?_eq_none h'] at h; cases h

theorem ObjRel.lt {ρ : Ren} {o : AObj} {L : Loc} {w : World} (h : ObjRel ρ o L w) (ha : o.alive = true) : L.cb < w.heap.size := by
  cases o with
  | dead => simp [AObj.alive] at ha
  | cells c e wr sp => obtain ⟨carr, frz, h1, _⟩ := h; exact lt_of_getElem?_some h1
  | iter s pos => exact lt_of_getElem?_some h.1
  | map es clock => exact lt_of_getElem?_some h.1
  | defd => exact lt_of_getElem?_some h.1
  | loop st pend t rec => exact lt_of_getElem?_some h.1

structure Rep (G : Nat) (m : AMem) (ρ : Ren) (w : World) : Prop where
  dom : ∀ b L, ρ b = some L → b < m.size
  obj : ∀ b L, ρ b = some L → ObjRel ρ (m.get b) L w
  sep : ∀ b b' L L', ρ b = some L → ρ b' = some L' → b ≠ b' → (m.get b).alive = true → (m.get b').alive = true →
    (m.get b).wrt = true → L.cb ≠ L'.cb
  glob : ∀ g, g < G → ∃ L, ρ g = some L ∧ L.cb = g ∧ L.co = 0

def Img (m : AMem) (ρ : Ren) (i : Nat) : Prop := ∃ b L, ρ b = some L ∧ (m.get b).wrt = true ∧ L.cb = i

structure Ext (m : AMem) (ρ : Ren) (w : World) (m' : AMem) (ρ' : Ren) (w' : World) : Prop where
  ren : ρ.le ρ'
  os : w'.os = w.os
  tape : w'.tape = w.tape
  output : w'.output = w.output
  size : w.heap.size ≤ w'.heap.size
  keep : ∀ i, i < w.heap.size → ¬ Img m ρ i → w'.heap[i]? = w.heap[i]?
  img : ∀ i, i < w.heap.size → Img m' ρ' i → Img m ρ i
  late : ∀ b, b < m.size → ρ' b = ρ b
  grow : m.size ≤ m'.size

theorem Ext.refl (m : AMem) (ρ : Ren) (w : World) : Ext m ρ w m ρ w :=
  ⟨.refl ρ, rfl, rfl, rfl, Nat.le_refl _, fun _ _ _ => rfl, fun _ _ h => h, fun _ _ => rfl, Nat.le_refl _⟩

theorem Ext.trans {m m1 m2 : AMem} {ρ ρ1 ρ2 : Ren} {w w1 w2 : World} (h : Ext m ρ w m1 ρ1 w1) (k : Ext m1 ρ1 w1 m2 ρ2 w2) : Ext m ρ w m2 ρ2 w2 where
  ren := h.ren.trans k.ren
  os := k.os.trans h.os
  tape := k.tape.trans h.tape
  output := k.output.trans h.output
  size := Nat.le_trans h.size k.size
  keep := fun i hi hn => (k.keep i (Nat.lt_of_lt_of_le hi h.size) (fun hc => hn (h.img i hi hc))).trans (h.keep i hi hn)
  img := fun i hi hc => h.img i hi (k.img i (Nat.lt_of_lt_of_le hi h.size) hc)
  late := fun b hb => (k.late b (Nat.lt_of_lt_of_le hb h.grow)).trans (h.late b hb)
  grow := Nat.le_trans h.grow k.grow

/-! ### The ways in which a state changes -/

theorem Rep.world {G : Nat} {m : AMem} {ρ : Ren} {w w' : World} (h : Rep G m ρ w)
    (he : ∀ b L, ρ b = some L → (m.get b).alive = true → w'.heap[L.cb]? = w.heap[L.cb]?) : Rep G m ρ w' where
  dom := h.dom
  obj := fun b L hb => by
    by_cases ha : (m.get b).alive = true
    · exact (h.obj b L hb).world (he b L hb ha)
    · have : m.get b = .dead := by cases hm : m.get b <;> simp_all [AObj.alive]
      rw [this]; trivial
  sep := h.sep
  glob := h.glob

theorem Rep.drawn {G : Nat} {m : AMem} {ρ : Ren} {w : World} (h : Rep G m ρ w) (n : Nat) : Rep G m ρ { w with drawn := n } := h.world fun _ _ _ _ => rfl
theorem Ext.drawn (m : AMem) (ρ : Ren) (w : World) (n : Nat) : Ext m ρ w m ρ { w with drawn := n } :=
  ⟨.refl ρ, rfl, rfl, rfl, Nat.le_refl _, fun _ _ _ => rfl, fun _ _ h => h, fun _ _ => rfl, Nat.le_refl _⟩

def Ren.add (ρ : Ren) (b : Nat) (L : Loc) : Ren := fun x => if x = b then some L else ρ x

theorem Ren.le_add {ρ : Ren} {b : Nat} {L : Loc} (h : ρ b = none) : ρ.le (ρ.add b L) := by
  intro x M hx
  have : x ≠ b := fun e => by rw [e, h] at hx; cases hx
  simp [Ren.add, this, hx]

theorem Rep.none_of_ge {G : Nat} {m : AMem} {ρ : Ren} {w : World} (h : Rep G m ρ w) {b : Nat} (hb : m.size ≤ b) : ρ b = none := by
  cases hρ : ρ b with
  | none => rfl
  | some L => have := h.dom b L hρ; omega

theorem Rep.le_add {G : Nat} {m : AMem} {ρ : Ren} {w : World} (h : Rep G m ρ w) (L : Loc) : ρ.le (ρ.add m.size L) := Ren.le_add (h.none_of_ge (Nat.le_refl _))

theorem Rep.push {G : Nat} {m : AMem} {ρ : Ren} {w : World} (h : Rep G m ρ w) {o : AObj} {L : Loc} (ho : ObjRel (ρ.add m.size L) o L w)
    (ha : ∀ b' L', ρ b' = some L' → (m.get b').alive = true → L'.cb ≠ L.cb) : Rep G (m.push o) (ρ.add m.size L) w where
  dom := fun b M hb => by
    rw [AMem.size_push]
    by_cases e : b = m.size
    · omega
    · simp [Ren.add, e] at hb; have := h.dom b M hb; omega
  obj := fun b M hb => by
    by_cases e : b = m.size
    · subst e; simp [Ren.add] at hb; subst hb; rw [AMem.get_push_self]; exact ho
    · simp [Ren.add, e] at hb; rw [AMem.get_push_ne _ _ e]; exact (h.obj b M hb).mono (h.le_add L)
  sep := fun b b' M M' hb hb' hne h1 h2 h3 => by
    by_cases e : b = m.size
    · subst e
      have e' : b' ≠ m.size := fun x => hne x.symm
      simp [Ren.add] at hb; subst hb
      simp [Ren.add, e'] at hb'
      rw [AMem.get_push_ne _ _ e'] at h2
      exact fun x => ha b' M' hb' h2 x.symm
    · simp [Ren.add, e] at hb
      rw [AMem.get_push_ne _ _ e] at h1 h3
      by_cases e' : b' = m.size
      · subst e'; simp [Ren.add] at hb'; subst hb'; exact ha b M hb h1
      · simp [Ren.add, e'] at hb'
        rw [AMem.get_push_ne _ _ e'] at h2
        exact h.sep b b' M M' hb hb' hne h1 h2 h3
  glob := fun g hg => by
    obtain ⟨M, hM, h1, h2⟩ := h.glob g hg
    exact ⟨M, h.le_add L g M hM, h1, h2⟩

theorem Rep.set {G : Nat} {m : AMem} {ρ : Ren} {w w' : World} (h : Rep G m ρ w) {b : Nat} {L : Loc} {o : AObj} (hb : ρ b = some L) (ho : ObjRel ρ o L w')
    (hw : (m.get b).wrt = true) (ha : (m.get b).alive = true) (hwo : o.wrt = true → (m.get b).wrt = true)
    (he : ∀ i, i ≠ L.cb → i < w.heap.size → w'.heap[i]? = w.heap[i]?) : Rep G (m.set b o) ρ w' where
  dom := fun x M hx => by rw [AMem.size_set]; exact h.dom x M hx
  obj := fun x M hx => by
    by_cases e : x = b
    · subst e; rw [hb] at hx; cases hx; rw [AMem.get_set_self]; exact ho
    · rw [AMem.get_set_ne _ _ e]
      by_cases hal : (m.get x).alive = true
      · have hne := h.sep b x L M hb hx (fun z => e z.symm) ha hal hw
        exact (h.obj x M hx).world (he M.cb (fun z => hne z.symm) ((h.obj x M hx).lt hal))
      · have : m.get x = .dead := by cases hm : m.get x <;> simp_all [AObj.alive]
        rw [this]; trivial
  sep := fun x y M M' hx hy hne h1 h2 h3 => by
    by_cases e : x = b
    · subst e
      have e' : y ≠ x := fun z => hne z.symm
      rw [AMem.get_set_ne _ _ e'] at h2
      exact h.sep x y M M' hx hy hne ha h2 hw
    · rw [AMem.get_set_ne _ _ e] at h1 h3
      by_cases e' : y = b
      · subst e'; exact h.sep x y M M' hx hy hne h1 ha h3
      · rw [AMem.get_set_ne _ _ e'] at h2
        exact h.sep x y M M' hx hy hne h1 h2 h3
  glob := h.glob

theorem Rep.kill {G : Nat} {m : AMem} {ρ : Ren} {w : World} (h : Rep G m ρ w) (b : Nat) : Rep G (m.set b .dead) ρ w where
  dom := fun x M hx => by rw [AMem.size_set]; exact h.dom x M hx
  obj := fun x M hx => by
    by_cases e : x = b
    · subst e; rw [AMem.get_set_self]; trivial
    · rw [AMem.get_set_ne _ _ e]; exact h.obj x M hx
  sep := fun x y M M' hx hy hne h1 h2 h3 => by
    have e : x ≠ b := fun z => by subst z; rw [AMem.get_set_self] at h1; simp [AObj.alive] at h1
    have e' : y ≠ b := fun z => by subst z; rw [AMem.get_set_self] at h2; simp [AObj.alive] at h2
    rw [AMem.get_set_ne _ _ e] at h1 h3
    rw [AMem.get_set_ne _ _ e'] at h2
    exact h.sep x y M M' hx hy hne h1 h2 h3
  glob := h.glob

theorem Rep.lt {G : Nat} {m : AMem} {ρ : Ren} {w : World} (h : Rep G m ρ w) {b : Nat} {L : Loc} (hb : ρ b = some L) (ha : (m.get b).alive = true) : L.cb < w.heap.size :=
  (h.obj b L hb).lt ha

theorem Rep.new {G : Nat} {m : AMem} {ρ : Ren} {w w' : World} (h : Rep G m ρ w) {o : AObj} {L : Loc}
    (hw : ∀ i, i < w.heap.size → w'.heap[i]? = w.heap[i]?) (hL : w.heap.size ≤ L.cb) (ho : ObjRel (ρ.add m.size L) o L w') : Rep G (m.push o) (ρ.add m.size L) w' := by
  have h' : Rep G m ρ w' := h.world fun b M hb ha => hw _ (h.lt hb ha)
  refine h'.push ho fun b' L' hb' ha' => ?_
  have := h.lt hb' ha'
  omega

theorem Ext.new {G : Nat} {m : AMem} {ρ : Ren} {w w' : World} (h : Rep G m ρ w) {o : AObj} {L : Loc}
    (hw : ∀ i, i < w.heap.size → w'.heap[i]? = w.heap[i]?) (hL : w.heap.size ≤ L.cb)
    (hos : w'.os = w.os) (htape : w'.tape = w.tape) (hout : w'.output = w.output) (hsize : w.heap.size ≤ w'.heap.size) :
    Ext m ρ w (m.push o) (ρ.add m.size L) w' where
  ren := h.le_add L
  os := hos
  tape := htape
  output := hout
  size := hsize
  keep := fun i hi _ => hw i hi
  img := fun i hi ⟨b, M, hb, hwr, hc⟩ => by
    by_cases e : b = m.size
    · subst e; simp [Ren.add] at hb; subst hb; omega
    · simp [Ren.add, e] at hb
      rw [AMem.get_push_ne _ _ e] at hwr
      exact ⟨b, M, hb, hwr, hc⟩
  late := fun b hb => by simp [Ren.add, show b ≠ m.size by omega]
  grow := by simp [AMem.push]

theorem Ext.set {G : Nat} {m : AMem} {ρ : Ren} {w w' : World} (h : Rep G m ρ w) {b : Nat} {L : Loc} {o : AObj} (hb : ρ b = some L)
    (hw : (m.get b).wrt = true) (he : ∀ i, i ≠ L.cb → i < w.heap.size → w'.heap[i]? = w.heap[i]?)
    (hos : w'.os = w.os) (htape : w'.tape = w.tape) (hout : w'.output = w.output) (hsize : w.heap.size ≤ w'.heap.size) :
    Ext m ρ w (m.set b o) ρ w' where
  ren := .refl ρ
  os := hos
  tape := htape
  output := hout
  size := hsize
  keep := fun i hi hn => he i (fun e => hn ⟨b, L, hb, hw, e.symm⟩) hi
  img := fun i hi ⟨x, M, hx, hwr, hc⟩ => by
    by_cases e : x = b
    · subst e; exact ⟨x, L, hb, hw, by rw [hb] at hx; cases hx; exact hc⟩
    · rw [AMem.get_set_ne _ _ e] at hwr; exact ⟨x, M, hx, hwr, hc⟩
  late := fun _ _ => rfl
  grow := Nat.le_refl _

end Go.AM
namespace Go.AM

abbrev Tmps := Nat → Value

def upd (t : Tmps) (d : Nat) (v : Value) : Tmps := fun i => if i = d then v else t i
def updO (t : Tmps) (d : Option Nat) (v : Value) : Tmps := match d with | some d => upd t d v | none => t

inductive AOpd where
  | t (i : Nat)
  | c (v : Value)
  deriving Inhabited

def AOpd.ev (x : AOpd) (t : Tmps) : Value := match x with | .t i => t i | .c v => v

inductive EqTy where
  | bool | ptr | nilS | nilM | nilF | cells (n : Nat) | iface
  deriving DecidableEq, Inhabited

inductive AOp where
  | mov (x : AOpd)
  | pick (c a b : AOpd)
  | new (e : TypeId) (z : List Value)
  | box (e : TypeId) (x : AOpd)
  | bld (z : List Value) (ps : List (Nat × Nat × AOpd))
  | bldSl (e : TypeId) (len : Nat) (z : List Value) (ps : List (Nat × Nat × AOpd))
  | ld1 (a : AOpd)
  | ldn (n : Nat) (a : AOpd)
  | st (n : Nat) (a x : AOpd)
  | nchk (x : AOpd)
  | bin (op : BinOp) (x y : AOpd)
  | eql (neg : Bool) (k : EqTy) (x y : AOpd)
  | un (op : UnOp) (x : AOpd)
  | cvt (k : IntKind) (x : AOpd)
  | idc (x : AOpd)
  | s2b (e : TypeId) (x : AOpd)
  | b2s (x : AOpd)
  | mkI (t : TypeId) (x : AOpd)
  | mkF (f : FuncId) (first captured : List AOpd)
  | mkM
  | mkSl (e : TypeId) (sz : Nat) (z : List Value) (bytes : Nat) (l c : AOpd)
  | slS (x : AOpd) (lo hi : Option AOpd)
  | slV (sz : Nat) (x : AOpd) (lo hi mx : Option AOpd)
  | slA (n sz : Nat) (x : AOpd) (lo hi mx : Option AOpd)
  | fad (off : Nat) (x : AOpd)
  | fld (off sz : Nat) (agg : Bool) (x : AOpd)
  | iadA (len sz : Nat) (x i : AOpd)
  | iadV (sz : Nat) (x i : AOpd)
  | ixA (len sz : Nat) (agg : Bool) (x i : AOpd)
  | ixS (x i : AOpd)
  | ext (i : Nat) (x : AOpd)
  | arrAt (n : Nat) (x : AOpd)
  | rng (x : AOpd)
  | nxt (x : AOpd)
  | lenS (x : AOpd)
  | lenV (x : AOpd)
  | lenN (n : Nat)
  | app (e : TypeId) (sz bytes : Nat) (z : List Value) (x y : AOpd)
  | appN (e : TypeId) (sz bytes : Nat) (z : List Value) (x y : AOpd)
  | cpy (sz : Nat) (x y : AOpd)
  | mnx (mx : Bool) (x : AOpd) (xs : List AOpd)
  | clr (sz : Nat) (z : List Value) (x : AOpd)
  | toU (x : AOpd)
  | frU (u : TypeId) (s : Nat) (x : AOpd)
  | sdat (x : AOpd)
  | ustr (u : TypeId) (x n : AOpd)
  | s2s (x : AOpd)
  | tas (T : TypeId) (z : Value) (x : AOpd)
  | asr (T : TypeId) (x : AOpd)
  | i2s (x : AOpd)
  | lkp (z : Value) (ok : Bool) (x i : AOpd)
  | mup (x k v : AOpd)
  deriving Inhabited

/-! ### Pure parts -/

def ibits (op : BinOp) (k : IntKind) (x y : Int) : Int :=
  let a := BitVec.ofInt k.bits x
  let b := BitVec.ofInt k.bits y
  k.wrap (match op with
    | .and => (a &&& b).toNat
    | .or => (a ||| b).toNat
    | .xor => (a ^^^ b).toNat
    | _ => (a &&& ~~~b).toNat)

def ibin (op : BinOp) (k : IntKind) (x y : Int) : Option Value :=
  match op with
  | .add => some (.int k (k.wrap (x + y)))
  | .sub => some (.int k (k.wrap (x - y)))
  | .mul => some (.int k (k.wrap (x * y)))
  | .quo => if y = 0 then none else some (.int k (k.wrap (x.tdiv y)))
  | .rem => if y = 0 then none else some (.int k (x.tmod y))
  | .and => some (.int k (ibits .and k x y))
  | .or => some (.int k (ibits .or k x y))
  | .xor => some (.int k (ibits .xor k x y))
  | .andNot => some (.int k (ibits .andNot k x y))
  | .eql => some (.bool (x == y))
  | .neq => some (.bool (x != y))
  | .lss => some (.bool (decide (x < y)))
  | .leq => some (.bool (decide (x ≤ y)))
  | .gtr => some (.bool (decide (x > y)))
  | .geq => some (.bool (decide (x ≥ y)))
  | _ => none

def shl (k : IntKind) (x y : Int) : Int := k.wrap (x * 2 ^ (min y.toNat k.bits))
def shr (k : IntKind) (x y : Int) : Int := x.fdiv (2 ^ (min y.toNat k.bits))

def strEq (x y : ByteArray) : Bool := x.toList == y.toList
def strLt (x y : ByteArray) : Bool := Op.bytesLess x.toList y.toList

def sbin (op : BinOp) (x y : ByteArray) : Option Value :=
  match op with
  | .add => if x.size + y.size ≤ 9223372036854775807 then some (.string (x ++ y)) else none
  | .eql => some (.bool (strEq x y))
  | .neq => some (.bool (!strEq x y))
  | .lss => some (.bool (strLt x y))
  | .leq => some (.bool (strLt x y || strEq x y))
  | .gtr => some (.bool (!(strLt x y || strEq x y)))
  | .geq => some (.bool (!strLt x y))
  | _ => none

def binV (op : BinOp) (x y : Value) : Option Value :=
  match x, y with
  | .int k a, .int k' b =>
    match op with
    | .shl => if 0 ≤ b then some (.int k (shl k a b)) else none
    | .shr => if 0 ≤ b then some (.int k (shr k a b)) else none
    | _ => if k = k' then ibin op k a b else none
  | .string a, .string b => sbin op a b
  | _, _ => none

def eqCells : List Value → List Value → Option Bool
  | [], [] => some true
  | .int k a :: x, .int k' b :: y => if k = k' then (if a = b then eqCells x y else some false) else none
  | _, _ => none

def eqV (k : EqTy) (x y : Value) : Option Bool :=
  match k, x, y with
  | .bool, .bool a, .bool b => some (a == b)
  | .ptr, .pointer none, .pointer b => some b.isNone
  | .ptr, .pointer _, .pointer none => some false
  | .ptr, .pointer (some a), .pointer (some b) => if a.block = b.block then some (a.off == b.off) else none
  | .nilS, .slice none _ _, .slice b _ _ => some b.isNone
  | .nilS, .slice _ _ _, .slice none _ _ => some false
  | .nilM, .map none, .map b => some b.isNone
  | .nilM, .map _, .map none => some false
  | .nilF, .nilFunc, .nilFunc => some true
  | .nilF, .nilFunc, .func _ _ _ => some false
  | .nilF, .func _ _ _, .nilFunc => some false
  | .cells n, .agg a, .agg b => if a.size = n then eqCells a.toList b.toList else none
  | .iface, .nilIface, .iface _ _ => some false
  | .iface, .iface _ _, .nilIface => some false
  | .iface, .nilIface, .nilIface => some true
  | _, _, _ => none

def unV (op : UnOp) (x : Value) : Option Value :=
  match op, x with
  | .neg, .int k n => some (.int k (k.wrap (0 - n)))
  | .xor, .int k n => some (.int k (ibits .xor k (if k.signed then -1 else k.max) n))
  | .not, .bool b => some (.bool !b)
  | _, _ => none

/-! ### Memory -/

def rd (m : AMem) (b o n : Nat) : Option (List Value) :=
  match m.get b with
  | .cells c _ _ _ => if o + n ≤ c.length then some ((c.drop o).take n) else none
  | _ => none

def splice (c : List Value) (o : Nat) (v : List Value) : List Value := c.take o ++ v ++ c.drop (o + v.length)

def wr (m : AMem) (b o : Nat) (v : List Value) : Option AMem :=
  match m.get b with
  | .cells c e true sp => if o + v.length ≤ c.length then some (m.set b (.cells (splice c o v) e true sp)) else none
  | _ => none

def oneCell (v : Value) : Bool := match v with | .agg _ | .tuple _ => false | _ => true

def cellsOf (v : Value) : Option (List Value) :=
  match v with
  | .agg c => if c.toList.all oneCell then some c.toList else none
  | .tuple _ => none
  | v => some [v]

def fill (z : List Value) : List (Nat × Nat × Value) → Option (List Value)
  | [] => some z
  | (off, size, v) :: rest =>
    match cellsOf v with
    | none => none
    | some c => if c.length = size ∧ off + size ≤ z.length then fill (splice z off c) rest else none

def addr (v : Value) : Option (Nat × Nat) := match v with | .pointer (some ⟨b, o, none⟩) => some (b, o) | _ => none

def bnd (x : Option AOpd) (t : Tmps) (d : Nat) : Option Int :=
  match x with
  | none => some d
  | some x => match x.ev t with | .int _ i => some i | _ => none

def byteV (b : UInt8) : Value := .int .u8 b.toNat

def srcCells (sz n : Nat) (v : Value) (m : AMem) : Option (List Value) :=
  match v with
  | .slice none _ _ => if n = 0 then some [] else none
  | .slice (some ⟨b, o, none⟩) l _ => if n ≤ l then rd m b o (n * sz) else none
  | .string s => if sz = 1 ∧ n ≤ s.size then some ((s.data.toList.map byteV).take n) else none
  | _ => none

def srcLen (v : Value) : Option Nat := match v with | .slice _ n _ => some n | .string s => some s.size | _ => none

def eqP : Value → Value → Bool
  | .bool a, .bool b => a == b
  | .int k a, .int k' b => decide (k = k') && a == b
  | .string a, .string b => decide (a = b)
  | .pointer none, .pointer none => true
  | .slice none a b, .slice none c d => a == c && b == d
  | .map none, .map none => true
  | .nilFunc, .nilFunc => true
  | .nilIface, .nilIface => true
  | _, _ => false

def eqPL : List Value → List Value → Bool
  | [], [] => true
  | a :: x, b :: y => eqP a b && eqPL x y
  | _, _ => false

theorem eqP_eq {a b : Value} (h : eqP a b = true) : a = b := by
  unfold eqP at h
  split at h <;> simp_all

theorem eqPL_eq : ∀ {x y : List Value}, eqPL x y = true → x = y
  | [], [], _ => rfl
  | a :: x, b :: y, h => by
    simp [eqPL] at h
    rw [eqP_eq h.1, eqPL_eq h.2]
  | [], _ :: _, h => by simp [eqPL] at h
  | _ :: _, [], h => by simp [eqPL] at h

def appendTo (e : TypeId) (sz bytes : Nat) (z : List Value) (s : Value) (n : Nat) (news : List Value) (m : AMem) : Option (Value × AMem) :=
  match s with
  | .slice none l c =>
    if l = 0 ∧ c = 0 then
      if n = 0 then some (s, m)
      else if 2 * n * bytes ≤ 281474976710656 ∧ n ≤ 9223372036854775807 then some (.slice (some ⟨m.size, 0, none⟩) n openCap, m.push (.cells news e true (.room z)))
      else none
    else none
  | .slice (some ⟨b, o, none⟩) l c =>
    if c = openCap then
      match m.get b with
      | .cells x e' w sp =>
        if sp.size = sz then
          if o + (l + n) * sz ≤ x.length then
            if n = 0 then some (s, m)
            else if w = true then some (.slice (some ⟨b, o, none⟩) (l + n) openCap, m.set b (.cells (splice x (o + l * sz) news) e' w sp)) else none
          else if o + l * sz ≤ x.length ∧ 2 * (l + n) * bytes ≤ 281474976710656 ∧ l + n ≤ 9223372036854775807 then
            match sp with
            | .room z' => if w = true ∧ o % sz = 0 ∧ e = e' ∧ eqPL z' z = true then
                some (.slice (some ⟨m.size, 0, none⟩) (l + n) openCap, (m.set b .dead).push (.cells ((x.drop o).take (l * sz) ++ news) e true (.room z))) else none
            | _ => some (.slice (some ⟨m.size, 0, none⟩) (l + n) openCap, m.push (.cells ((x.drop o).take (l * sz) ++ news) e true (.room z)))
          else none
        else none
      | _ => none
    else if l + n ≤ c then
      if n = 0 then some (s, m)
      else match wr m b (o + l * sz) news with
        | some m' => some (.slice (some ⟨b, o, none⟩) (l + n) c, m')
        | none => none
    else match rd m b o (l * sz) with
      | some olds =>
        if 2 * (l + n) * bytes ≤ 281474976710656 ∧ l + n ≤ 9223372036854775807 then
          some (.slice (some ⟨m.size, 0, none⟩) (l + n) openCap, m.push (.cells (olds ++ news) e true (.room z)))
        else none
      | none => none
  | _ => none

def byteOf (v : Value) : Option UInt8 := match v with | .int .u8 n => some (UInt8.ofNat n.toNat) | _ => none

def mnxs (mx : Bool) (a : Value) : List Value → Option Value
  | [] => some a
  | b :: rest => match a, b with
    | .int k p, .int k' q => if k = k' then mnxs mx (.int k (if mx then (if q > p then q else p) else (if q < p then q else p))) rest else none
    | _, _ => none

def rep (z : List Value) (n : Nat) : List Value := (List.replicate n z).flatten

def cut (len cap : Nat) (lo hi mx : Option AOpd) (t : Tmps) : Option (Nat × Nat × Nat) :=
  match bnd mx t cap, bnd hi t len, bnd lo t 0 with
  | some m, some h, some l => if 0 ≤ l ∧ l ≤ h ∧ h ≤ m ∧ m ≤ cap then some (l.toNat, h.toNat, m.toNat) else none
  | _, _, _ => none

def lkRes (z : Value) (ok : Bool) (o : Option Value) : Value := if ok then .tuple #[o.getD z, .bool o.isSome] else o.getD z
def simpleB : Value → Bool
  | .bool _ | .int _ _ | .string _ => true
  | _ => false

def stepOp (op : AOp) (t : Tmps) (m : AMem) : Option (Value × AMem) :=
  match op with
  | .mov x => some (x.ev t, m)
  | .pick c a b => match c.ev t with | .bool c => some (if c then a.ev t else b.ev t, m) | _ => none
  | .new e z => some (.pointer (some ⟨m.size, 0, none⟩), m.push (.cells z e true .exact))
  | .box e x => match cellsOf (x.ev t) with
    | some c => some (.pointer (some ⟨m.size, 0, none⟩), m.push (.cells c e true .exact))
    | none => none
  | .bld z ps => match fill z (ps.map fun p => (p.1, p.2.1, p.2.2.ev t)) with
    | some c => some (.agg c.toArray, m)
    | none => none
  | .bldSl e len z ps => match fill z (ps.map fun p => (p.1, p.2.1, p.2.2.ev t)) with
    | some c => some (.slice (some ⟨m.size, 0, none⟩) len len, m.push (.cells c e true .exact))
    | none => none
  | .ld1 a => match addr (a.ev t) with
    | some (b, o) => match rd m b o 1 with
      | some [v] => some (v, m)
      | _ => none
    | none => none
  | .ldn n a => match addr (a.ev t) with
    | some (b, o) => match rd m b o n with
      | some c => some (.agg c.toArray, m)
      | none => none
    | none => none
  | .st n a x => match addr (a.ev t), cellsOf (x.ev t) with
    | some (b, o), some c => if c.length = n then (wr m b o c).map fun m' => (undef, m') else none
    | _, _ => none
  | .nchk x => match x.ev t with
    | .pointer none | .nilIface | .nilFunc => none
    | .func _ _ _ => none
    | v => some (v, m)
  | .bin op x y => (binV op (x.ev t) (y.ev t)).map fun v => (v, m)
  | .eql neg k x y => (eqV k (x.ev t) (y.ev t)).map fun b => (.bool (if neg then !b else b), m)
  | .un op x => (unV op (x.ev t)).map fun v => (v, m)
  | .cvt k x => match x.ev t with | .int _ n => some (.int k (k.wrap n), m) | _ => none
  | .idc x => match x.ev t with | .string s => some (.string s, m) | _ => none
  | .s2b e x => match x.ev t with
    | .string s => if s.size ≤ 9223372036854775807 then some (.slice (some ⟨m.size, 0, none⟩) s.size openCap, m.push (.cells (s.data.toList.map byteV) e true (.room [.int .u8 0]))) else none
    | _ => none
  | .b2s x => match x.ev t with
    | .slice none _ _ => some (.string .empty, m)
    | .slice (some ⟨b, o, none⟩) l _ => if l = 0 then some (.string .empty, m) else match rd m b o l with
      | some c => (c.mapM byteOf).map fun l => (.string ⟨l.toArray⟩, m)
      | none => none
    | _ => none
  | .mkI T x => some (.iface T (x.ev t), m)
  | .mkF f first captured => some (.func (.func f) (first.map (·.ev t)).toArray (captured.map (·.ev t)).toArray, m)
  | .mkM => some (.map (some m.size), m.push (.map #[] 0))
  | .mkSl e sz z bytes l c => match l.ev t, c.ev t with
    | .int _ l, .int _ c => if 0 ≤ l ∧ l ≤ c ∧ bytes * c ≤ 281474976710656 ∧ c ≤ 281474976710656 ∧ z.length = sz then
        some (.slice (some ⟨m.size, 0, none⟩) l.toNat c.toNat, m.push (.cells (rep z c.toNat) e true .exact)) else none
    | _, _ => none
  | .slS x lo hi => match x.ev t with
    | .string s => match cut s.size s.size lo hi none t with
      | some (l, h, _) => some (.string (s.extract l h), m)
      | none => none
    | _ => none
  | .slV sz x lo hi mx => match x.ev t with
    | .slice a l c =>
      if c = openCap then
        match a with
        | some ⟨b, o, none⟩ => match m.get b with
          | .cells x _ _ sp =>
            if sp.size = sz ∧ l ≤ (x.length - o) / sz then
              match cut l ((x.length - o) / sz) lo hi mx t with
              | some (i, h, k) =>
                match mx with
                | none => some (.slice (some ⟨b, o + i * sz, none⟩) (h - i) openCap, m)
                | some _ => if k ≤ 9223372036854775807 then some (.slice (some ⟨b, if k = i then o else o + i * sz, none⟩) (h - i) (k - i), m) else none
              | none => none
            else none
          | _ => none
        | _ => none
      else match cut l c lo hi mx t with
        | some (i, h, k) => match a with
          | none => some (.slice none (h - i) (k - i), m)
          | some ⟨b, o, none⟩ => some (.slice (some ⟨b, if k = i then o else o + i * sz, none⟩) (h - i) (k - i), m)
          | _ => none
        | none => none
    | _ => none
  | .slA n sz x lo hi mx => match addr (x.ev t) with
    | some (b, o) => match cut n n lo hi mx t with
      | some (i, h, k) => some (.slice (some ⟨b, if k = i then o else o + i * sz, none⟩) (h - i) (k - i), m)
      | none => none
    | none => none
  | .fad off x => match addr (x.ev t) with
    | some (b, o) => some (.pointer (some ⟨b, o + off, none⟩), m)
    | none => none
  | .fld off sz agg x => match x.ev t with
    | .agg c => if agg then some (.agg (c.extract off (off + sz)), m) else (c[off]?).map fun v => (v, m)
    | _ => none
  | .iadA len sz x i => match addr (x.ev t), i.ev t with
    | some (b, o), .int _ i => if 0 ≤ i ∧ i < len then some (.pointer (some ⟨b, o + i.toNat * sz, none⟩), m) else none
    | _, _ => none
  | .iadV sz x i => match x.ev t, i.ev t with
    | .slice (some ⟨b, o, none⟩) len _, .int _ i => if 0 ≤ i ∧ i < len then some (.pointer (some ⟨b, o + i.toNat * sz, none⟩), m) else none
    | _, _ => none
  | .ixA len sz agg x i => match x.ev t, i.ev t with
    | .agg c, .int _ i => if 0 ≤ i ∧ i < len then
        if agg then some (.agg (c.extract (i.toNat * sz) (i.toNat * sz + sz)), m) else (c[i.toNat * sz]?).map fun v => (v, m) else none
    | _, _ => none
  | .ixS x i => match x.ev t, i.ev t with
    | .string s, .int _ i => if 0 ≤ i then (s[i.toNat]?).map fun b => (.int .u8 b.toNat, m) else none
    | _, _ => none
  | .ext i x => match x.ev t with | .tuple v => (v[i]?).map fun v => (v, m) | _ => none
  | .arrAt n x => match x.ev t with
    | .slice (some ⟨b, o, none⟩) l _ => if n ≤ l then some (.pointer (some ⟨b, o, none⟩), m) else none
    | _ => none
  | .rng x => match x.ev t with
    | .string s => some (.pointer (some ⟨m.size, 0, none⟩), m.push (.iter s 0))
    | _ => none
  | .nxt x => match x.ev t with
    | .pointer (some ⟨r, 0, none⟩) => match m.get r with
      | .iter s pos => if pos < s.size then
          some (.tuple #[.bool true, .int .i64 pos, .int .i32 (Utf8.decode s pos).1], m.set r (.iter s (pos + (Utf8.decode s pos).2)))
        else some (.tuple #[.bool false], m)
      | _ => none
    | _ => none
  | .lenS x => match x.ev t with | .string s => some (.int .i64 s.size, m) | _ => none
  | .lenV x => match x.ev t with | .slice _ n _ => some (.int .i64 n, m) | _ => none
  | .lenN n => some (.int .i64 n, m)
  | .app e sz bytes z x y => match srcLen (y.ev t) with
    | some n => match srcCells sz n (y.ev t) m with
      | some news => if z.length = sz ∧ 0 < sz ∧ news.all oneCell = true ∧ news.length = n * sz then appendTo e sz bytes z (x.ev t) n news m else none
      | none => none
    | none => none
  | .appN e sz bytes z x y => match y.ev t with
    | .int _ n => if 0 ≤ n ∧ n * bytes ≤ 281474976710656 ∧ n ≤ 9223372036854775807 ∧ z.length = sz ∧ 0 < sz then appendTo e sz bytes z (x.ev t) n.toNat (rep z n.toNat) m else none
    | _ => none
  | .cpy sz x y => match x.ev t, srcLen (y.ev t) with
    | .slice a dl _, some n => match srcCells sz (min n dl) (y.ev t) m with
      | some c => if c.length = min n dl * sz ∧ c.all oneCell = true then
          match a with
          | none => if min n dl = 0 then some (.int .i64 0, m) else none
          | some ⟨b, o, none⟩ => if min n dl = 0 then some (.int .i64 0, m) else (wr m b o c).map fun m' => (.int .i64 (min n dl : Nat), m')
          | _ => none
        else none
      | none => none
    | _, _ => none
  | .mnx mx x xs => (mnxs mx (x.ev t) (xs.map (·.ev t))).map fun v => (v, m)
  | .clr sz z x => match x.ev t with
    | .slice none _ _ => some (.tuple #[], m)
    | .slice (some ⟨b, o, none⟩) n _ => if n = 0 then some (.tuple #[], m) else if z.length = sz then (wr m b o (rep z n)).map fun m' => (.tuple #[], m') else none
    | _ => none
  | .toU x => match x.ev t with
    | .pointer none => some (.pointer none, m)
    | .pointer (some ⟨b, o, none⟩) => match m.get b with
      | .cells c _ _ _ => if o < c.length then some (.pointer (some ⟨b, o, none⟩), m) else none
      | _ => none
    | _ => none
  | .frU u s x => match x.ev t with
    | .pointer none => some (.pointer none, m)
    | .pointer (some ⟨b, o, none⟩) => match m.get b with
      | .cells c e _ .exact => if o = 0 ∧ e = u ∧ s ≤ c.length then some (.pointer (some ⟨b, o, none⟩), m) else none
      | _ => none
    | _ => none
  | .sdat x => match x.ev t with
    | .slice none _ _ => some (.pointer none, m)
    | .slice (some ⟨b, o, none⟩) l c =>
      if l = 0 then none
      else if c = openCap then
        match m.get b with
        | .cells x _ _ _ => if o < x.length then some (.pointer (some ⟨b, o, none⟩), m) else none
        | _ => none
      else if 0 < c then some (.pointer (some ⟨b, o, none⟩), m) else none
    | _ => none
  | .ustr u x n => match x.ev t, n.ev t with
    | .pointer none, .int .i64 n => if n = 0 then some (.string .empty, m) else none
    | .pointer (some ⟨b, o, none⟩), .int .i64 n => if 0 < n ∧ n ≤ 9223372036854775807 then
        match m.get b with
        | .cells c e true sp => if e = u ∧ o + n.toNat ≤ c.length then
            ((((c.drop o).take n.toNat).mapM byteOf)).map fun l => (.string ⟨l.toArray⟩, m.set b (.cells c e false sp)) else none
        | _ => none
      else none
    | _, _ => none
  | .s2s x => match x.ev t with
    | .slice (some ⟨b, o, none⟩) l c => if 0 < l ∧ c ≠ openCap then
        match m.get b with
        | .cells cs e true sp => some (.slice (some ⟨b, o, none⟩) l c, m.set b (.cells cs e false sp))
        | _ => none
      else none
    | _ => none
  | .tas T z x => match x.ev t with
    | .nilIface => some (.tuple #[z, .bool false], m)
    | .iface u v => some (if u = T then .tuple #[v, .bool true] else .tuple #[z, .bool false], m)
    | _ => none
  | .asr T x => match x.ev t with
    | .iface u v => if u = T then some (v, m) else none
    | _ => none
  | .i2s x => match x.ev t with | .int _ n => some (.string (Utf8.encode n), m) | _ => none
  | .lkp z ok x i => match x.ev t, i.ev t with
    | .map none, .string _ => some (lkRes z ok none, m)
    | .map (some r), .string s => match m.get r with
      | .map es _ => match Instr.findNow .string (.string s) es.toList 0 with
        | some o => some (lkRes z ok (o.map (·.2)), m)
        | none => none
      | _ => none
    | _, _ => none
  | .mup x k v => match x.ev t, k.ev t with
    | .map (some r), .string s => if simpleB (v.ev t) = true then
        match m.get r with
        | .map es c => match Instr.findNow .string (.string s) es.toList 0 with
          | some (some (i, _)) => some (undef, m.set r (.map (es.modify i fun e => { e with key := .string s, val := v.ev t }) c))
          | some none => some (undef, m.set r (.map (es.push { key := .string s, val := v.ev t, born := c }) (c + 1)))
          | none => none
        | _ => none
      else none
    | _, _ => none

end Go.AM
namespace Go.AM
set_option linter.unusedVariables false
set_option linter.unusedSimpArgs false

theorem VRel.oneCell {ρ : Ren} {v v' : Value} (h : VRel ρ v v') (k : AM.oneCell v = true) : v'.oneCell' = true := by
  cases h <;> simp_all [AM.oneCell, Value.oneCell']

theorem add_mk (b o i : Nat) : (⟨b, o, none⟩ : Addr).add i = ⟨b, o + i, none⟩ := by
  unfold Addr.add; split
  · rename_i h; subst h; rfl
  · rfl

theorem cell_of_heap {w : World} {b : Nat} {carr : Array Value} {e : TypeId} {frz : Nat × Nat} (h : w.heap[b]? = some (.cells carr e frz)) (o : Nat) :
    w.cell? ⟨b, o, none⟩ = carr[o]? := by
  simp [World.cell?, h]

theorem frozen_of_heap {w : World} {b : Nat} {carr : Array Value} {e : TypeId} {frz : Nat × Nat} (h : w.heap[b]? = some (.cells carr e frz)) (o : Nat) :
    w.frozen? ⟨b, o, none⟩ = (decide (frz.1 ≤ o) && decide (o < frz.2)) := by
  simp [World.frozen?, h]

/-! A block of cells, opened. -/
structure BlkAt (ρ : Ren) (c : List Value) (e : TypeId) (wr : Bool) (sp : Spare) (L : Loc) (w : World) (carr : Array Value) (frz : Nat × Nat) : Prop where
  heap : w.heap[L.cb]? = some (.cells carr e frz)
  size : L.co + L.cc ≤ carr.size
  len : c.length ≤ L.cc
  exact : sp = .exact → L.cc = c.length ∧ L.co = 0 ∧ carr.size = L.cc
  full : ∀ k, sp = .full k → L.cc = c.length ∧ L.sz = k ∧ 0 < k
  cell : ∀ j (h : j < c.length), VRel ρ c[j] (carr.getD (L.co + j) undef)
  spare : ∀ z, sp = .room z → z.length = L.sz ∧ 0 < L.sz ∧ c.length % L.sz = 0 ∧ L.cc % L.sz = 0 ∧ (∀ v ∈ z, Plain v) ∧
        ∀ j, c.length ≤ j → j < L.cc → carr.getD (L.co + j) undef = z.getD (j % L.sz) undef
  free : wr = true → (∀ j, j < L.cc → ¬ (frz.1 ≤ L.co + j ∧ L.co + j < frz.2)) ∧ (sp.size ≠ 1 → ¬ (frz.1 ≤ carr.size ∧ carr.size < frz.2))

theorem ObjRel.blk {ρ : Ren} {c : List Value} {e : TypeId} {wr : Bool} {sp : Spare} {L : Loc} {w : World} (h : ObjRel ρ (.cells c e wr sp) L w) :
    ∃ carr frz, BlkAt ρ c e wr sp L w carr frz := by
  obtain ⟨carr, frz, h1, h2, h3, h4, h5, h6, h7, h8⟩ := h
  exact ⟨carr, frz, h1, h2, h3, h4, h5, h6, h7, h8⟩

theorem BlkAt.obj {ρ : Ren} {c : List Value} {e : TypeId} {wr : Bool} {sp : Spare} {L : Loc} {w : World} {carr : Array Value} {frz : Nat × Nat}
    (h : BlkAt ρ c e wr sp L w carr frz) : ObjRel ρ (.cells c e wr sp) L w := ⟨carr, frz, h.heap, h.size, h.len, h.exact, h.full, h.cell, h.spare, h.free⟩

theorem Rep.blk {G : Nat} {m : AMem} {ρ : Ren} {w : World} (h : Rep G m ρ w) {b : Nat} {L : Loc} (hb : ρ b = some L) {c : List Value} {e : TypeId} {wr : Bool} {sp : Spare}
    (hm : m.get b = .cells c e wr sp) : ∃ carr frz, BlkAt ρ c e wr sp L w carr frz := by
  have := h.obj b L hb
  rw [hm] at this
  exact this.blk

theorem BlkAt.get {ρ : Ren} {c : List Value} {e : TypeId} {wr : Bool} {sp : Spare} {L : Loc} {w : World} {carr : Array Value} {frz : Nat × Nat}
    (h : BlkAt ρ c e wr sp L w carr frz) (j : Nat) (hj : j < c.length) : w.cell? ⟨L.cb, L.co + j, none⟩ = some (carr.getD (L.co + j) undef) := by
  have h1 := h.size
  have h2 := h.len
  rw [cell_of_heap h.heap]
  simp [Array.getD, show L.co + j < carr.size by omega]

theorem Rep.rd {G : Nat} {m : AMem} {ρ : Ren} {w : World} (h : Rep G m ρ w) {b o n : Nat} {L : Loc} (hb : ρ b = some L) {cs : List Value} (hr : rd m b o n = some cs) :
    ∃ cs' : List Value, cs'.length = n ∧ cs.length = n ∧ LRel ρ cs cs' ∧ ∀ j v, cs'[j]? = some v → w.cell? ((⟨L.cb, L.co + o, none⟩ : Addr).add j) = some v := by
  unfold AM.rd at hr
  split at hr <;> try (simp at hr; done)
  rename_i c e wr sp hm
  split at hr <;> simp at hr
  rename_i hlen
  obtain ⟨carr, frz, hB⟩ := h.blk hb hm
  have hcl : cs.length = n := by rw [← hr]; simp; omega
  refine ⟨(List.range n).map fun j => carr.getD (L.co + (o + j)) undef, by simp, hcl, ⟨by simp [hcl], ?_⟩, ?_⟩
  · intro j h1 h2
    simp at h2
    subst hr
    have := hB.cell (o + j) (by omega)
    simpa [List.getElem_take, List.getElem_drop] using this
  · intro j v hj
    have hjn : j < n := by
      rcases Nat.lt_or_ge j n with h' | h'
      · exact h'
      · rw [List.getElem?_eq_none (by simpa using h')] at hj; cases hj
    simp [hjn] at hj
    rw [add_mk, ← hj]
    have := hB.get (o + j) (by omega)
    rw [Nat.add_assoc, this]
    simp [Array.getD_eq_getD_getElem?]

theorem heap_setCell (w : World) (b o : Nat) (v : Value) (i : Nat) (hi : i ≠ b) : (w.setCell ⟨b, o, none⟩ v).heap[i]? = w.heap[i]? := by
  simp [World.setCell, Array.getElem?_modify, Ne.symm hi]

theorem heap_setCell_self {w : World} {b : Nat} {carr : Array Value} {e : TypeId} {frz : Nat × Nat} (h : w.heap[b]? = some (.cells carr e frz)) (o : Nat) (v : Value) :
    (w.setCell ⟨b, o, none⟩ v).heap[b]? = some (.cells (carr.setIfInBounds o v) e frz) := by
  simp [World.setCell, Array.getElem?_modify, h]

theorem setCells_heap (b : Nat) : ∀ (vs : List Value) (o : Nat) (w : World) (i : Nat), i ≠ b → (w.setCells b o vs).heap[i]? = w.heap[i]?
  | [], _, _, _, _ => rfl
  | v :: r, o, w, i, hi => by rw [World.setCells, setCells_heap b r _ _ _ hi, heap_setCell _ _ _ _ _ hi]

theorem setCells_self (b : Nat) (e : TypeId) (frz : Nat × Nat) : ∀ (vs : List Value) (o : Nat) (w : World) (carr : Array Value), w.heap[b]? = some (.cells carr e frz) →
    o + vs.length ≤ carr.size →
    ∃ carr', (w.setCells b o vs).heap[b]? = some (.cells carr' e frz) ∧ carr'.size = carr.size ∧
      (∀ j, (j < o ∨ o + vs.length ≤ j) → carr'.getD j undef = carr.getD j undef) ∧ ∀ j (h : j < vs.length), carr'.getD (o + j) undef = vs[j]
  | [], o, w, carr, h, _ => ⟨carr, h, rfl, fun _ _ => rfl, fun j h => by simp at h⟩
  | v :: r, o, w, carr, h, hl => by
    simp at hl
    obtain ⟨carr', h1, h2, h3, h4⟩ := setCells_self b e frz r (o + 1) _ _ (heap_setCell_self h o v) (by simp; omega)
    refine ⟨carr', h1, by simpa using h2, fun j hj => ?_, fun j hj => ?_⟩
    · simp at hj
      rw [h3 j (by omega)]
      simp [Array.getD_eq_getD_getElem?, Array.getElem?_setIfInBounds, show o ≠ j by omega]
    · cases j with
      | zero =>
        rw [Nat.add_zero, h3 o (by omega)]
        simp [Array.getD_eq_getD_getElem?, Array.getElem?_setIfInBounds, show o < carr.size by omega]
      | succ j =>
        have := h4 j (by simpa using hj)
        rw [show o + (j + 1) = o + 1 + j by omega, this]
        simp

theorem setCells_rest (b : Nat) : ∀ (vs : List Value) (o : Nat) (w : World), (w.setCells b o vs).os = w.os ∧ (w.setCells b o vs).tape = w.tape ∧
    (w.setCells b o vs).output = w.output ∧ (w.setCells b o vs).heap.size = w.heap.size
  | [], _, _ => ⟨rfl, rfl, rfl, rfl⟩
  | v :: r, o, w => by
    obtain ⟨a, b', c, d⟩ := setCells_rest b r (o + 1) (w.setCell ⟨b, o, none⟩ v)
    exact ⟨a, b', c, d.trans (by simp [World.setCell])⟩

theorem splice_length {c : List Value} {o : Nat} {v : List Value} (h : o + v.length ≤ c.length) : (splice c o v).length = c.length := by
  simp [splice]; omega

theorem splice_in {c : List Value} {o : Nat} {v : List Value} (h : o + v.length ≤ c.length) (j : Nat) (hj : j < v.length) (hk : o + j < (splice c o v).length) :
    (splice c o v)[o + j] = v[j] := by
  simp only [splice]
  rw [List.getElem_append_left (by simp; omega), List.getElem_append_right (by simp; omega)]
  simp [show min o c.length = o by omega]

theorem splice_out {c : List Value} {o : Nat} {v : List Value} (h : o + v.length ≤ c.length) (j : Nat) (hj : j < o ∨ o + v.length ≤ j) (hc : j < c.length) (hk : j < (splice c o v).length) :
    (splice c o v)[j] = c[j] := by
  simp only [splice]
  rcases hj with hj | hj
  · rw [List.getElem_append_left (by simp; omega), List.getElem_append_left (by simp; omega)]
    simp
  · rw [List.getElem_append_right (by simp; omega)]
    simp [show min o c.length = o by omega]
    congr 1
    omega

theorem Rep.wr {G : Nat} {m m' : AMem} {ρ : Ren} {w : World} (h : Rep G m ρ w) {b o : Nat} {L : Loc} (hb : ρ b = some L) {vs vs' : List Value} (hw : wr m b o vs = some m')
    (hv : LRel ρ vs vs') (P : Program) (h1 : ∀ v ∈ vs', v.oneCell' = true) :
    (storeCells ⟨L.cb, L.co + o, none⟩ vs').run P w = .ok () (w.setCells L.cb (L.co + o) vs') ∧ Rep G m' ρ (w.setCells L.cb (L.co + o) vs') ∧
      Ext m ρ w m' ρ (w.setCells L.cb (L.co + o) vs') := by
  unfold AM.wr at hw
  split at hw <;> try (simp at hw; done)
  rename_i c e sp hm
  split at hw <;> simp at hw
  rename_i hlen
  subst hw
  obtain ⟨carr, frz, hB⟩ := h.blk hb hm
  have hs := hB.size
  have hl := hB.len
  have hll := hv.1
  obtain ⟨carr', e1, e2, e3, e4⟩ := setCells_self L.cb e frz vs' (L.co + o) w carr hB.heap (by omega)
  have hrest := setCells_rest L.cb vs' (L.co + o) w
  refine ⟨?_, ?_, ?_⟩
  · have := run_storeCells_cells (P := P) L.cb (L.co + o) vs' 0 w (fun j hj => by
      have := hB.get (o + j) (by omega)
      rw [show L.co + o + 0 + j = L.co + (o + j) by omega, this]; rfl)
      (fun j hj => by
      rw [show L.co + o + 0 + j = L.co + (o + j) by omega, frozen_of_heap hB.heap]
      have := (hB.free rfl).1 (o + j) (by omega)
      simp only [Bool.and_eq_false_iff, decide_eq_false_iff_not]
      omega) h1
    simpa using this
  · refine h.set hb (BlkAt.obj (carr := carr') (frz := frz) ?_) (by rw [hm]; rfl) (by rw [hm]; rfl) (fun _ => by rw [hm]; rfl) (fun i hi _ => setCells_heap _ _ _ _ _ hi)
    refine ⟨e1, by omega, by rw [splice_length hlen]; exact hl, fun hsp => by rw [splice_length hlen]; have := hB.exact hsp; exact ⟨this.1, this.2.1, by omega⟩, fun k hk => by rw [splice_length hlen]; exact hB.full k hk, fun j hj => ?_, fun z hz => ?_, fun hw => ⟨(hB.free hw).1, by rw [e2]; exact (hB.free hw).2⟩⟩
    · have hj' : j < c.length := by rw [splice_length hlen] at hj; exact hj
      by_cases hin : o ≤ j ∧ j < o + vs.length
      · obtain ⟨i, rfl⟩ : ∃ i, j = o + i := ⟨j - o, by omega⟩
        rw [splice_in hlen i (by omega) hj, ← Nat.add_assoc, e4 i (by omega)]
        exact hv.2 i (by omega) (by omega)
      · rw [splice_out hlen j (by omega) hj' hj, e3 (L.co + j) (by omega)]
        exact hB.cell j hj'
    · obtain ⟨z1, z2, z3, z4, z5, z6⟩ := hB.spare z hz
      refine ⟨z1, z2, by rw [splice_length hlen]; exact z3, z4, z5, fun j hj hj' => ?_⟩
      rw [splice_length hlen] at hj
      rw [e3 (L.co + j) (by omega)]
      exact z6 j hj hj'
  · exact Ext.set h hb (by rw [hm]; rfl) (fun i hi _ => setCells_heap _ _ _ _ _ hi) hrest.1 hrest.2.1 hrest.2.2.1 (by omega)

def Spare.z : Spare → List Value
  | .room z => z
  | _ => []

theorem Rep.row {G : Nat} {m : AMem} {ρ : Ren} {w : World} (h : Rep G m ρ w) (e : TypeId) {c c' : List Value} (hc : LRel ρ c c') (sp : Spare) (sz k : Nat)
    (n : Nat) (hn : sp = .exact → k = 0) (hf : ∀ j, sp ≠ .full j)
    (hz : ∀ z, sp = .room z → z.length = sz ∧ 0 < sz ∧ c.length % sz = 0 ∧ (∀ v ∈ z, Plain v)) :
    let w' : World := { w with drawn := n, heap := w.heap.push (.cells (c'.toArray ++ ((List.range (k * sz)).map fun j => sp.z.getD (j % sz) undef).toArray) e (0, 0)) }
    let L : Loc := ⟨w.heap.size, 0, c.length + k * sz, sz⟩
    Rep G (m.push (.cells c e true sp)) (ρ.add m.size L) w' ∧ Ext m ρ w (m.push (.cells c e true sp)) (ρ.add m.size L) w' ∧ ρ.le (ρ.add m.size L) := by
  intro w' L
  have hold : ∀ i, i < w.heap.size → w'.heap[i]? = w.heap[i]? := fun i hi => by simp [w', Array.getElem?_push, show i ≠ w.heap.size by omega]
  have hll := hc.1
  refine ⟨h.new hold (Nat.le_refl _) (BlkAt.obj (carr := c'.toArray ++ ((List.range (k * sz)).map fun j => sp.z.getD (j % sz) undef).toArray) (frz := (0, 0)) ?_),
    Ext.new h hold (Nat.le_refl _) rfl rfl rfl (by simp [w']), h.le_add L⟩
  refine ⟨by simp [w', L], by simp [L, hll], by simp [L], fun hsp => ⟨by simp [L, hn hsp], rfl, by simp [L, hn hsp, hll]⟩, fun j hj => (hf j hj).elim, fun j hj => ?_, fun z hzz => ?_, fun _ => ⟨fun j hj => by simp, fun _ => by simp⟩⟩
  · have h2 := (hc.2 j hj (by omega)).mono (h.le_add L)
    have : (c'.toArray ++ ((List.range (k * sz)).map fun j => sp.z.getD (j % sz) undef).toArray).getD (L.co + j) undef = c'[j] := by
      simp [L, Array.getD_eq_getD_getElem?, List.getElem?_append, show j < c'.length by omega]
    rw [this]; exact h2
  · obtain ⟨z1, z2, z3, z4⟩ := hz z hzz
    refine ⟨z1, z2, z3, by simp [L, z3], z4, fun j hj hj' => ?_⟩
    simp [L] at hj'
    have hjs : (j - c'.length) % sz = j % sz := by
      rw [← hll]
      obtain ⟨q, hq⟩ : ∃ q, c.length = q * sz := ⟨c.length / sz, by rw [Nat.div_mul_cancel (Nat.dvd_of_mod_eq_zero z3)]⟩
      rw [hq] at hj ⊢
      obtain ⟨i, rfl⟩ : ∃ i, j = q * sz + i := ⟨j - q * sz, by omega⟩
      rw [show q * sz + i - q * sz = i by omega, Nat.add_comm, Nat.add_mul_mod_self_right]
    simp [L, hzz, Spare.z, Array.getD_eq_getD_getElem?, List.getElem?_append, show ¬ j < c'.length by omega, show j - c'.length < k * sz by omega, hjs]

theorem LRel.nil (ρ : Ren) : LRel ρ [] [] := ⟨rfl, fun i h => by simp at h⟩
theorem LRel.cons {ρ : Ren} {v v' : Value} {x x' : List Value} (h : VRel ρ v v') (k : LRel ρ x x') : LRel ρ (v :: x) (v' :: x') :=
  ⟨by simp [k.1], fun i a b => by
    cases i with
    | zero => simpa using h
    | succ i => simpa using k.2 i (by simpa using a) (by simpa using b)⟩
theorem LRel.uncons {ρ : Ren} {v v' : Value} {x x' : List Value} (h : LRel ρ (v :: x) (v' :: x')) : VRel ρ v v' ∧ LRel ρ x x' :=
  ⟨h.2 0 (by simp) (by simp), by simpa using h.1, fun i a b => h.2 (i + 1) (by simpa using a) (by simpa using b)⟩
theorem LRel.append {ρ : Ren} {x x' y y' : List Value} (h : LRel ρ x x') (k : LRel ρ y y') : LRel ρ (x ++ y) (x' ++ y') :=
  ⟨by simp [h.1, k.1], fun i a b => by
    by_cases hi : i < x.length
    · rw [List.getElem_append_left hi, List.getElem_append_left (by have := h.1; omega)]
      exact h.2 i hi _
    · have h1 := h.1
      simp at a b
      rw [List.getElem_append_right (by omega), List.getElem_append_right (by omega)]
      simp only [h1]
      exact k.2 _ (by omega) (by omega)⟩
theorem LRel.plain {ρ : Ren} {x : List Value} (h : ∀ v ∈ x, Plain v) : LRel ρ x x := ⟨rfl, fun i a _ => h _ (List.getElem_mem a) ρ⟩
theorem LRel.take {ρ : Ren} {x x' : List Value} (h : LRel ρ x x') (n : Nat) : LRel ρ (x.take n) (x'.take n) :=
  ⟨by simp [h.1], fun i a b => by
    simp at a b
    rw [List.getElem_take, List.getElem_take]
    exact h.2 i (by omega) (by omega)⟩
theorem LRel.drop {ρ : Ren} {x x' : List Value} (h : LRel ρ x x') (n : Nat) : LRel ρ (x.drop n) (x'.drop n) :=
  ⟨by simp [h.1], fun i a b => by
    simp at a b
    rw [List.getElem_drop, List.getElem_drop]
    exact h.2 _ (by omega) (by omega)⟩
theorem LRel.toArray {ρ : Ren} {x x' : List Value} (h : LRel ρ x x') : ARel ρ x.toArray x'.toArray := ⟨by simp [h.1], fun i a b => by simpa using h.2 i (by simpa using a) (by simpa using b)⟩
theorem ARel.toList {ρ : Ren} {x x' : Array Value} (h : ARel ρ x x') : LRel ρ x.toList x'.toList := ⟨by simp [h.1], fun i a b => by simpa using h.2 i (by simpa using a) (by simpa using b)⟩

theorem VRel.cells {ρ : Ren} {v v' : Value} (h : VRel ρ v v') {c : List Value} (hc : AM.cellsOf v = some c) :
    LRel ρ c v'.cells.toList ∧ ∀ u ∈ v'.cells.toList, u.oneCell' = true := by
  have h0 := h
  cases h with
  | agg x x' hx h =>
    simp only [AM.cellsOf] at hc
    split at hc <;> simp at hc
    rename_i hall
    subst hc
    have hA : ARel ρ x x' := ⟨hx, h⟩
    refine ⟨by simpa [Value.cells] using hA.toList, fun u hu => ?_⟩
    simp [Value.cells] at hu
    obtain ⟨i, hi, rfl⟩ := Array.mem_iff_getElem.1 hu
    have := h i (by omega) hi
    exact this.oneCell (List.all_eq_true.1 hall _ (by simp))
  | tuple x x' hx h => simp [AM.cellsOf] at hc
  | _ =>
    simp only [AM.cellsOf, Option.some.injEq] at hc
    subst hc
    refine ⟨?_, by simp [Value.cells, Value.oneCell']⟩
    simp only [Value.cells]
    exact LRel.cons (by first | assumption | exact h0) (LRel.nil ρ)

end Go.AM
namespace Go.AM
set_option linter.unusedVariables false

def plainB : Value → Bool
  | .bool _ | .int _ _ | .string _ | .pointer none | .slice none _ _ | .map none | .nilFunc | .nilIface => true
  | .func (.func _) x y => x.size == 0 && y.size == 0
  | _ => false

def plainB2 : Value → Bool
  | .agg c => c.toList.all plainB
  | .iface _ v => plainB v
  | v => plainB v

theorem plain_of {v : Value} (h : plainB v = true) : Plain v := by
  unfold plainB at h
  split at h <;> try (simp at h; done)
  · exact .bool _
  · exact .int _ _
  · exact .string _
  · exact .nilPtr
  · exact .nilSlice _ _
  · exact .nilMap
  · exact .nilFunc
  · exact .nilIface
  · rename_i f x y
    simp at h
    obtain ⟨rfl, rfl⟩ := h
    exact .func f

theorem plain_of2 {v : Value} (h : plainB2 v = true) : Plain v := by
  unfold plainB2 at h
  split at h
  · rename_i c
    refine .agg fun v hv => plain_of (List.all_eq_true.1 h v (by simpa using hv))
  · exact .iface (plain_of h)
  · exact plain_of h

theorem oneCell_of {v : Value} (h : plainB v = true) : oneCell v = true := by
  unfold plainB at h
  split at h <;> first | (simp at h; done) | rfl

def compOpd (G : Nat) : Operand → Option AOpd
  | .tmp t => some (.t t)
  | .const v => if plainB2 v then some (.c v) else none
  | .global g => if g < G then some (.c (.pointer (some ⟨g, 0, none⟩))) else none
  | .func f => some (.c (.func (.func f) #[] #[]))

def compOpdO (G : Nat) : Option Operand → Option (Option AOpd)
  | none => some none
  | some x => (compOpd G x).map some

def compOpds (G : Nat) : List Operand → Option (List AOpd)
  | [] => some []
  | x :: r => match compOpd G x, compOpds G r with | some a, some b => some (a :: b) | _, _ => none

def zeroOf (P : Program) (t : TypeId) : Option (List Value) :=
  match P.info? t with
  | some i => match i.zero with
    | some z => if z.cells.toList.all plainB && z.cells.size == i.size then some z.cells.toList else none
    | none => none
  | none => none

def zeroVOf (P : Program) (t : TypeId) : Option Value :=
  match P.info? t with
  | some i => match i.zero with
    | some z => if plainB2 z then some z else none
    | none => none
  | none => none

def szOf (P : Program) (t : TypeId) : Option Nat := (P.info? t).map (·.size)
def byOf (P : Program) (t : TypeId) : Option Nat := (P.info? t).map (·.bytes)

def aggB : TypeDesc → Bool
  | .struct _ | .array _ _ => true
  | _ => false

def placesOf (P : Program) (t : TypeId) : Option (Nat → Option (Nat × Nat)) :=
  match P.underlying t with
  | some (.struct fs) => match fs.toList.mapM fun f => (szOf P f.type).map fun s => (f.offset, s) with
    | some l => some fun i => l[i]?
    | none => none
  | some (.array _ e) => (szOf P e).map fun s i => some (i * s, s)
  | _ => none

def compParts (G : Nat) (place : Nat → Option (Nat × Nat)) : List (Nat × Operand) → Option (List (Nat × Nat × AOpd))
  | [] => some []
  | (i, x) :: r => match place i, compOpd G x, compParts G place r with
    | some (o, s), some a, some b => some ((o, s, a) :: b)
    | _, _, _ => none

def intB (P : Program) (t : TypeId) : Option IntKind := match P.underlying t with | some (.int k) => some k | _ => none

def isNilC : Operand → Bool
  | .const .nilIface => true
  | _ => false

def eqTyOf (P : Program) (t : TypeId) (x y : Operand) : Option EqTy :=
  match P.underlying t with
  | some .bool => some .bool
  | some (.pointer e) => match szOf P e with | some (_ + 1) => some .ptr | _ => none
  | some (.slice _) => some .nilS
  | some (.map _ _) => some .nilM
  | some (.func _ _ _) => some .nilF
  | some (.array n e) => if (intB P e).isSome ∧ szOf P e = some 1 then some (.cells n) else none
  | some (.interface _) => if isNilC x || isNilC y then some .iface else none
  | _ => none

def compBuiltin (P : Program) (G : Nat) (b : Builtin) (tys : List TypeId) (args : List Operand) : Option AOp :=
  match b, tys, args with
  | .len, [t], [x] => match P.underlying t with
    | some .string => (compOpd G x).map .lenS
    | some (.slice _) => (compOpd G x).map .lenV
    | some (.array n _) => some (.lenN n)
    | some (.pointer a) => match P.underlying a with | some (.array n _) => some (.lenN n) | _ => none
    | _ => none
  | .append, [t, u], [x, y] => match P.underlying t, P.underlying u with
    | some (.slice e), some (.slice _) | some (.slice e), some .string => match szOf P e, byOf P e, zeroOf P e, compOpd G x, compOpd G y with
      | some sz, some by_, some z, some x, some y => if 0 < by_ then some (.app e sz by_ z x y) else none
      | _, _, _, _, _ => none
    | some (.slice e), some (.int _) => match szOf P e, byOf P e, zeroOf P e, compOpd G x, compOpd G y with
      | some sz, some by_, some z, some x, some y => if 0 < by_ then some (.appN e sz by_ z x y) else none
      | _, _, _, _, _ => none
    | _, _ => none
  | .copy, [t, _], [x, y] => match P.underlying t with
    | some (.slice e) => match szOf P e, compOpd G x, compOpd G y with
      | some sz, some x, some y => some (.cpy sz x y)
      | _, _, _ => none
    | _ => none
  | .unsafeSliceData, [_], [x] => (compOpd G x).map .sdat
  | .unsafeString, [pt, _], [p, n] => match P.underlying pt, compOpd G p, compOpd G n with
    | some (.pointer e), some p, some n => if szOf P e = some 1 then some (.ustr e p n) else none
    | _, _, _ => none
  | .min, _, x :: xs => match compOpd G x, compOpds G xs with | some x, some xs => some (.mnx false x xs) | _, _ => none
  | .max, _, x :: xs => match compOpd G x, compOpds G xs with | some x, some xs => some (.mnx true x xs) | _, _ => none
  | .clear, [t], [x] => match P.underlying t with
    | some (.slice e) => match szOf P e, zeroOf P e, compOpd G x with
      | some sz, some z, some x => if z.length = sz then some (.clr sz z x) else none
      | _, _, _ => none
    | _ => none
  | _, _, _ => none

def compOp (P : Program) (G : Nat) (o : Oper) : Option AOp :=
  match o.op with
  | .move x | .assign x => (compOpd G x).map .mov
  | .pick c a b => match compOpd G c, compOpd G a, compOpd G b with | some c, some a, some b => some (.pick c a b) | _, _, _ => none
  | .alloc e => (zeroOf P e).map (.new e)
  | .box e x => (compOpd G x).map (.box e)
  | .build t ps => match placesOf P t, zeroOf P t with
    | some pl, some z => (compParts G pl ps.toList).map (.bld z)
    | _, _ => none
  | .buildSlice t len ps => match P.underlying t with
    | some (.slice e) => match szOf P e, zeroOf P e with
      | some s, some z => if len * s ≤ 16777216 ∧ len ≤ 16777216 ∧ z.length = s then (compParts G (fun i => some (i * s, s)) ps.toList).map (.bldSl e len (rep z len)) else none
      | _, _ => none
    | _ => none
  | .load t a => match P.underlying t, szOf P t, compOpd G a with
    | some d, some n, some a => if aggB d then some (.ldn n a) else some (.ld1 a)
    | _, _, _ => none
  | .store t a x => match szOf P t, compOpd G a, compOpd G x, o.dst with
    | some n, some a, some x, none => some (.st n a x)
    | _, _, _, _ => none
  | .nilCheck x => (compOpd G x).map .nchk
  | .binOp op xt x y _ => match compOpd G x, compOpd G y with
    | some a, some b =>
      match op, P.underlying xt with
      | .eql, some (.int _) | .eql, some .string | .neq, some (.int _) | .neq, some .string => some (.bin op a b)
      | .eql, _ => (eqTyOf P xt x y).map fun k => .eql false k a b
      | .neq, _ => (eqTyOf P xt x y).map fun k => .eql true k a b
      | _, _ => some (.bin op a b)
    | _, _ => none
  | .unOp op _ x => (compOpd G x).map (.un op)
  | .convert s d x => match P.underlying s, P.underlying d, compOpd G x with
    | some (.int _), some (.int k), some x => some (.cvt k x)
    | some .string, some .string, some x => some (.idc x)
    | some (.int _), some .string, some x => some (.i2s x)
    | some .string, some (.slice e), some x => if intB P e = some .u8 then some (.s2b e x) else none
    | some (.slice e), some .string, some x => if intB P e = some .u8 then some (.b2s x) else none
    | some (.pointer e), some .unsafePointer, some x => match szOf P e with | some (_ + 1) => some (.toU x) | _ => none
    | some .unsafePointer, some (.pointer u), some x => match szOf P u with | some (k + 1) => some (.frU u (k + 1) x) | _ => none
    | some (.slice _), some (.slice e), some x => if s = d ∧ intB P e = some .u8 then some (.s2s x) else none
    | _, _, _ => none
  | .sliceToArrayPointer t x => match P.underlying t with | some (.array n _) => if 0 < n then (compOpd G x).map (.arrAt n) else none | _ => none
  | .makeInterface t x => match P.underlying t with | some (.interface _) => none | some _ => (compOpd G x).map (.mkI t) | none => none
  | .makeFunc (.func f) first captured => match compOpds G first.toList, compOpds G captured.toList with | some a, some b => some (.mkF f a b) | _, _ => none
  | .makeMap _ none => some .mkM
  | .makeSlice t l c => match P.underlying t with
    | some (.slice e) => match szOf P e, byOf P e, zeroOf P e, compOpd G l, compOpd G c with
      | some s, some b, some z, some l, some c => if 0 < s then some (.mkSl e s z b l c) else none
      | _, _, _, _, _ => none
    | _ => none
  | .slice t x lo hi mx => match compOpd G x, compOpdO G lo, compOpdO G hi, compOpdO G mx with
    | some x, some lo, some hi, some mx => match P.underlying t with
      | some .string => if mx.isNone then some (.slS x lo hi) else none
      | some (.slice e) => match szOf P e with | some s => if 0 < s ∧ (mx.isNone ∨ hi.isSome) then some (.slV s x lo hi mx) else none | none => none
      | some (.array n e) => match szOf P e with | some s => if (mx.isNone ∨ hi.isSome) ∧ n ≤ 9223372036854775807 then some (.slA n s x lo hi mx) else none | none => none
      | _ => none
    | _, _, _, _ => none
  | .fieldAddr t x f => match P.underlying t with
    | some (.struct fs) => match fs[f]? with
      | some f => match szOf P f.type with | some (_ + 1) => (compOpd G x).map (.fad f.offset) | _ => none
      | none => none
    | _ => none
  | .field t x f => match P.underlying t with
    | some (.struct fs) => match fs[f]? with
      | some f => match P.underlying f.type, szOf P f.type with | some d, some s => (compOpd G x).map (.fld f.offset s (aggB d)) | _, _ => none
      | none => none
    | _ => none
  | .indexAddr t x i => match compOpd G x, compOpd G i, P.underlying t with
    | some x, some i, some (.array n e) => (szOf P e).map fun s => .iadA n s x i
    | some x, some i, some (.slice e) => (szOf P e).map fun s => .iadV s x i
    | _, _, _ => none
  | .index t x i => match compOpd G x, compOpd G i, P.underlying t with
    | some x, some i, some (.array n e) => match szOf P e, P.underlying e with | some s, some d => some (.ixA n s (aggB d) x i) | _, _ => none
    | some x, some i, some .string => some (.ixS x i)
    | _, _, _ => none
  | .extract x i => (compOpd G x).map (.ext i)
  | .range t x => match P.underlying t with | some .string => (compOpd G x).map .rng | _ => none
  | .lookup t x i ok => match P.underlying t, compOpd G x, compOpd G i with
    | some (.map k e), some x, some i => match P.underlying k, zeroVOf P e with
      | some .string, some z => some (.lkp z ok x i)
      | _, _ => none
    | _, _, _ => none
  | .mapUpdate t x k v => match P.underlying t, compOpd G x, compOpd G k, compOpd G v, o.dst with
    | some (.map kt _), some x, some k, some v, none => match P.underlying kt with
      | some .string => some (.mup x k v)
      | _ => none
    | _, _, _, _, _ => none
  | .next x true => (compOpd G x).map .nxt
  | .typeAssert x _ T true => match P.underlying T with
    | some (.interface _) => none
    | some _ => match zeroVOf P T, compOpd G x with | some z, some x => some (.tas T z x) | _, _ => none
    | none => none
  | .typeAssert x _ T false => match P.underlying T with
    | some (.interface _) => none
    | some _ => (compOpd G x).map (.asr T)
    | none => none
  | .call { callee := .builtin b, args, argTypes } => compBuiltin P G b argTypes.toList args.toList
  | _ => none

end Go.AM
namespace Go.AM
set_option linter.unusedVariables false
set_option linter.unusedSimpArgs false

def Sound (P : Program) (G : Nat) (m : AMem) (ρ : Ren) (w : World) (s : Sem Value) (v : Value) (m' : AMem) : Prop :=
  ∃ ρ' w' v', s.run P w = .ok v' w' ∧ VRel ρ' v v' ∧ Rep G m' ρ' w' ∧ Ext m ρ w m' ρ' w'

theorem Sound.pure {P : Program} {G : Nat} {m : AMem} {ρ : Ren} {w : World} {s : Sem Value} {v v' : Value} (hR : Rep G m ρ w) (h : s.run P w = .ok v' w) (hv : VRel ρ v v') :
    Sound P G m ρ w s v m := ⟨ρ, w, v', h, hv, hR, Ext.refl _ _ _⟩

theorem szOf_spec {P : Program} {t : TypeId} {n : Nat} (h : szOf P t = some n) (w : World) : (sizeOf t).run P w = .ok n w := by
  unfold szOf at h
  cases hi : P.info? t with
  | none => simp [hi] at h
  | some i => simp [hi] at h; simp [sizeOf, typeInfo, hi, h]

theorem isAgg_spec {P : Program} {t : TypeId} {d : TypeDesc} (h : P.underlying t = some d) (w : World) : (isAgg t).run P w = .ok (aggB d) w := by
  unfold isAgg
  cases d <;> simp [run_underlying h, aggB]

theorem zeroOf_spec {P : Program} {t : TypeId} {z : List Value} (h : zeroOf P t = some z) :
    ∃ i zv, P.info? t = some i ∧ i.zero = some zv ∧ zv.cells = z.toArray ∧ z.length = i.size ∧ ∀ v ∈ z, plainB v = true := by
  unfold zeroOf at h
  cases hi : P.info? t with
  | none => simp [hi] at h
  | some i =>
    cases hz : i.zero with
    | none => simp [hi, hz] at h
    | some zv =>
      simp [hi, hz] at h
      obtain ⟨⟨h1, h2⟩, h3⟩ := h
      refine ⟨i, zv, rfl, hz, by rw [← h3], by rw [← h3]; simpa using h2, fun v hv => ?_⟩
      rw [← h3] at hv
      simp at hv
      obtain ⟨j, hj, rfl⟩ := Array.mem_iff_getElem.1 hv
      exact h1 j hj

theorem zero_run {P : Program} {t : TypeId} {i : TypeInfo} {z : Value} (hi : P.info? t = some i) (hz : i.zero = some z) (w : World) : (zeroValue t).run P w = .ok z w := by
  simp [zeroValue, typeInfo, hi, hz]

/-! Inversions. -/
theorem VRel.int_inv {ρ : Ren} {k : IntKind} {n : Int} {v' : Value} (h : VRel ρ (.int k n) v') : v' = .int k n := by cases h; rfl
theorem VRel.bool_inv {ρ : Ren} {b : Bool} {v' : Value} (h : VRel ρ (.bool b) v') : v' = .bool b := by cases h; rfl
theorem VRel.string_inv {ρ : Ren} {s : ByteArray} {v' : Value} (h : VRel ρ (.string s) v') : v' = .string s := by cases h; rfl
theorem VRel.agg_inv {ρ : Ren} {x : Array Value} {v' : Value} (h : VRel ρ (.agg x) v') : ∃ x', v' = .agg x' ∧ ARel ρ x x' := by cases h; exact ⟨_, rfl, ‹_›, ‹_›⟩
theorem VRel.tuple_inv {ρ : Ren} {x : Array Value} {v' : Value} (h : VRel ρ (.tuple x) v') : ∃ x', v' = .tuple x' ∧ ARel ρ x x' := by cases h; exact ⟨_, rfl, ‹_›, ‹_›⟩
theorem VRel.ptr_inv {ρ : Ren} {b o : Nat} {v' : Value} (h : VRel ρ (.pointer (some ⟨b, o, none⟩)) v') : ∃ L, ρ b = some L ∧ v' = .pointer (some ⟨L.cb, L.co + o, none⟩) := by
  cases h; exact ⟨_, ‹_›, rfl⟩
theorem VRel.ofARel {ρ : Ren} {x x' : Array Value} (h : ARel ρ x x') : VRel ρ (.agg x) (.agg x') := .agg _ _ h.1 h.2
theorem VRel.ofARelT {ρ : Ren} {x x' : Array Value} (h : ARel ρ x x') : VRel ρ (.tuple x) (.tuple x') := .tuple _ _ h.1 h.2

theorem addr_inv {ρ : Ren} {v v' : Value} {b o : Nat} (h : addr v = some (b, o)) (hv : VRel ρ v v') : ∃ L, ρ b = some L ∧ v' = .pointer (some ⟨L.cb, L.co + o, none⟩) := by
  unfold addr at h
  split at h <;> simp at h
  obtain ⟨rfl, rfl⟩ := h
  exact hv.ptr_inv

section
variable {P : Program} {G : Nat} {m : AMem} {ρ : Ren} {w : World}

theorem sound_bin (hR : Rep G m ρ w) {op : BinOp} {xt : TypeId} {x y x' y' v : Value} (hx : VRel ρ x x') (hy : VRel ρ y y') (h : binV op x y = some v) :
    (∀ a b : Operand, (eqGuard op xt a b x' y').run P w = .ok () w) ∧ (binOp op xt x' y').run P w = .ok v w ∧ VRel ρ v v := by
  unfold binV at h
  split at h
  · rename_i k a k' b
    obtain rfl := hx.int_inv
    obtain rfl := hy.int_inv
    refine ⟨fun _ _ => by unfold eqGuard; cases op <;> simp, ?_⟩
    split at h
    · split at h <;> simp at h
      subst h
      refine ⟨?_, .int _ _⟩
      simp [binOp, Op.shift, shl]; omega
    · split at h <;> simp at h
      subst h
      refine ⟨?_, .int _ _⟩
      simp [binOp, Op.shift, shr]; omega
    · rename_i h1 h2
      split at h <;> try (simp at h; done)
      rename_i hk
      subst hk
      cases op <;> simp only [ibin, reduceCtorEq, Option.some.injEq] at h <;> try (first | exact absurd rfl h1 | exact absurd rfl h2)
      all_goals first
        | (subst h; exact ⟨by simp [binOp, Op.intArith, Op.intBits, Op.intCmp, ibits], by first | exact .int _ _ | exact .bool _⟩)
        | (split at h <;> simp at h; subst h; rename_i hy0; exact ⟨by simp [binOp, Op.intDiv, hy0], .int _ _⟩)
  · rename_i a b
    obtain rfl := hx.string_inv
    obtain rfl := hy.string_inv
    refine ⟨fun _ _ => by unfold eqGuard; cases op <;> simp, ?_⟩
    cases op <;> simp only [sbin, reduceCtorEq, Option.some.injEq] at h
    case add =>
      split at h <;> simp at h
      subst h
      rename_i hle
      refine ⟨?_, .string _⟩
      simp only [binOp, Op.stringOp]
      rw [if_neg (by simp [IntKind.max, IntKind.bits, IntKind.signed]; omega)]
      rfl
    all_goals (subst h; exact ⟨by simp [binOp, Op.stringOp, strEq, strLt], .bool _⟩)
  · simp at h

theorem sound_un (hR : Rep G m ρ w) {op : UnOp} {x x' v : Value} (hx : VRel ρ x x') (h : unV op x = some v) : (Op.unary op x').run P w = .ok v w ∧ VRel ρ v v := by
  unfold unV at h
  split at h <;> simp at h
  · obtain rfl := hx.int_inv
    subst h
    exact ⟨by simp [Op.unary, Op.intArith], .int _ _⟩
  · obtain rfl := hx.int_inv
    subst h
    exact ⟨by simp [Op.unary, Op.intBits, ibits], .int _ _⟩
  · obtain rfl := hx.bool_inv
    subst h
    exact ⟨by simp [Op.unary], .bool _⟩

theorem bnd_run {t : Tmps} {a : Act} (hev : ∀ x y, compOpd G x = some y → VRel ρ (y.ev t) (a.eval x)) {x : Option Operand} {y : Option AOpd} (hc : compOpdO G x = some y) {d : Nat} {i : Int}
    (h : bnd y t d = some i) : (x = none ∧ y = none ∧ i = d) ∨ ∃ o p k, x = some o ∧ y = some p ∧ a.eval o = .int k i := by
  cases x with
  | none => simp [compOpdO] at hc; subst hc; simp [bnd] at h; exact .inl ⟨rfl, rfl, h.symm⟩
  | some o =>
    simp [compOpdO] at hc
    obtain ⟨p, hp, rfl⟩ := hc
    simp only [bnd] at h
    split at h <;> simp at h
    rename_i k j hj
    subst h
    have := hev o p hp
    rw [hj] at this
    exact .inr ⟨o, p, k, rfl, rfl, this.int_inv⟩

theorem cut_run {t : Tmps} {a : Act} (hev : ∀ x y, compOpd G x = some y → VRel ρ (y.ev t) (a.eval x)) {lo hi mx : Option Operand} {lo' hi' mx' : Option AOpd}
    (c1 : compOpdO G lo = some lo') (c2 : compOpdO G hi = some hi') (c3 : compOpdO G mx = some mx') (hmh : mx'.isNone = true ∨ hi'.isSome = true) {isSlice : Bool} {len cap cap' : Nat} {i h k : Nat}
    (hcut : cut len cap lo' hi' mx' t = some (i, h, k)) (hcap : cap ≤ cap') :
    (Instr.sliceBounds isSlice len cap' (lo.map a.eval) (hi.map a.eval) (mx.map a.eval)).run P w = .ok (i, h, if mx'.isNone then cap' else k) w ∧ i ≤ h ∧ h ≤ k ∧ k ≤ cap ∧ (mx'.isNone = true → k = cap) := by
  unfold cut at hcut
  split at hcut <;> try (simp at hcut; done)
  rename_i M H Lo e1 e2 e3
  split at hcut <;> simp at hcut
  rename_i hb
  obtain ⟨b1, b2, b3, b4⟩ := hb
  obtain ⟨rfl, rfl, rfl⟩ := hcut
  rcases bnd_run hev c3 e1 with ⟨rfl, rfl, rfl⟩ | ⟨om, pm, km, rfl, rfl, hm⟩
  · rcases bnd_run hev c2 e2 with ⟨rfl, rfl, rfl⟩ | ⟨oh, ph, kh, rfl, rfl, hh⟩
    · rcases bnd_run hev c1 e3 with ⟨rfl, rfl, rfl⟩ | ⟨ol, pl, kl, rfl, rfl, hl⟩
      · simp [Instr.sliceBounds]; omega
      · simp [Instr.sliceBounds, hl, run_sliceBound_if, b1, b2, show (Lo ≤ (len : Int)) from b2]; omega
    · rcases bnd_run hev c1 e3 with ⟨rfl, rfl, rfl⟩ | ⟨ol, pl, kl, rfl, rfl, hl⟩
      · simp [Instr.sliceBounds, hh, run_sliceBound_if, show (0 : Int) ≤ H by omega, show H ≤ (cap' : Int) by omega]; omega
      · simp [Instr.sliceBounds, hl, hh, run_sliceBound_if, show (0 : Int) ≤ H by omega, show H ≤ (cap' : Int) by omega, b1, b2, show Lo ≤ max H 0 by omega]; omega
  · rcases bnd_run hev c2 e2 with ⟨rfl, rfl, rfl⟩ | ⟨oh, ph, kh, rfl, rfl, hh⟩
    · simp at hmh
    · rcases bnd_run hev c1 e3 with ⟨rfl, rfl, rfl⟩ | ⟨ol, pl, kl, rfl, rfl, hl⟩
      · simp [Instr.sliceBounds, hm, hh, run_sliceBound_if, show (0 : Int) ≤ M by omega, show M ≤ (cap' : Int) by omega, show (0 : Int) ≤ H by omega, show H ≤ max M 0 by omega]; omega
      · simp [Instr.sliceBounds, hm, hl, hh, run_sliceBound_if, show (0 : Int) ≤ M by omega, show M ≤ (cap' : Int) by omega, show (0 : Int) ≤ H by omega, show H ≤ max M 0 by omega, b1, show Lo ≤ max H 0 by omega]; omega

end
end Go.AM
namespace Go.AM
set_option linter.unusedVariables false
set_option linter.unusedSimpArgs false

section
variable {P : Program} {G : Nat} {m : AMem} {ρ : Ren} {w : World}

theorem ARel.get? {x x' : Array Value} (h : ARel ρ x x') {i : Nat} {v : Value} (hv : x[i]? = some v) : ∃ v', x'[i]? = some v' ∧ VRel ρ v v' := by
  have hi := lt_of_getElem?_some hv
  have hs := h.1
  refine ⟨x'[i]'(by omega), Array.getElem?_eq_getElem (by omega), ?_⟩
  have := h.2 i hi (by omega)
  rw [Array.getElem?_eq_getElem hi] at hv
  simp at hv
  rwa [hv] at this

theorem ARel.extract {x x' : Array Value} (h : ARel ρ x x') (i j : Nat) : ARel ρ (x.extract i j) (x'.extract i j) := by
  have hs := h.1
  refine ⟨by simp [hs], fun k a b => ?_⟩
  simp at a b
  rw [Array.getElem_extract, Array.getElem_extract]
  exact h.2 _ (by omega) (by omega)

theorem part_run {ft : TypeId} {d : TypeDesc} {s : Nat} (hd : P.underlying ft = some d) (hs : szOf P ft = some s) {c c' : Array Value} (hc : ARel ρ c c') {off : Nat} {v : Value}
    (h : (if aggB d then some (Value.agg (c.extract off (off + s))) else c[off]?) = some v) : ∃ v', (part ft c' off).run P w = .ok v' w ∧ VRel ρ v v' := by
  split at h
  · rename_i hag
    simp at h
    subst h
    exact ⟨_, by simp [part, isAgg_spec hd, hag, szOf_spec hs], .ofARel (hc.extract _ _)⟩
  · rename_i hag
    obtain ⟨v', h1, h2⟩ := hc.get? h
    exact ⟨v', by simp [part, isAgg_spec hd, hag, h1], h2⟩

theorem sound_fld (hR : Rep G m ρ w) {xt : TypeId} {fs : Array Field} {fi : Nat} {f : Field} {d : TypeDesc} {s : Nat} (hu : P.underlying xt = some (.struct fs)) (hf : fs[fi]? = some f)
    (hd : P.underlying f.type = some d) (hs : szOf P f.type = some s) {c : Array Value} {x' v : Value} (hx : VRel ρ (.agg c) x')
    (h : (if aggB d then some (Value.agg (c.extract f.offset (f.offset + s))) else c[f.offset]?) = some v) : Sound P G m ρ w (Instr.field xt x' fi) v m := by
  obtain ⟨c', rfl, hA⟩ := hx.agg_inv
  obtain ⟨v', h1, h2⟩ := part_run (w := w) hd hs hA h
  exact .pure hR (by simp [Instr.field, run_underlying hu, hf, asAgg, h1]) h2

theorem sound_ixA (hR : Rep G m ρ w) {xt e : TypeId} {n s : Nat} {d : TypeDesc} (hu : P.underlying xt = some (.array n e)) (hs : szOf P e = some s) (hd : P.underlying e = some d)
    {c : Array Value} {x' v i' : Value} {k : IntKind} {i : Int} (hx : VRel ρ (.agg c) x') (hi : VRel ρ (.int k i) i') (hb : 0 ≤ i ∧ i < n)
    (h : (if aggB d then some (Value.agg (c.extract (i.toNat * s) (i.toNat * s + s))) else c[i.toNat * s]?) = some v) : Sound P G m ρ w (Instr.index xt x' i') v m := by
  obtain ⟨c', rfl, hA⟩ := hx.agg_inv
  obtain rfl := hi.int_inv
  obtain ⟨v', h1, h2⟩ := part_run (w := w) hd hs hA h
  exact .pure hR (by simp [Instr.index, asIntOf, run_underlying hu, hb, szOf_spec hs, h1]) h2

theorem sound_ixS (hR : Rep G m ρ w) {xt : TypeId} (hu : P.underlying xt = some .string) {s : ByteArray} {x' i' : Value} {k : IntKind} {i : Int} (hx : VRel ρ (.string s) x')
    (hi : VRel ρ (.int k i) i') (h0 : 0 ≤ i) {b : UInt8} (h : s[i.toNat]? = some b) : Sound P G m ρ w (Instr.index xt x' i') (.int .u8 b.toNat) m := by
  obtain rfl := hx.string_inv
  obtain rfl := hi.int_inv
  exact .pure hR (by simp [Instr.index, asIntOf, run_underlying hu, h0, h]) (.int _ _)

theorem sound_fad (hR : Rep G m ρ w) {xt : TypeId} {fs : Array Field} {fi : Nat} {f : Field} {s : Nat} (hu : P.underlying xt = some (.struct fs)) (hf : fs[fi]? = some f)
    (hs : szOf P f.type = some (s + 1)) {x x' : Value} {b o : Nat} (hx : VRel ρ x x') (ha : addr x = some (b, o)) :
    Sound P G m ρ w (Instr.fieldAt xt x' fi) (.pointer (some ⟨b, o + f.offset, none⟩)) m := by
  obtain ⟨L, hL, rfl⟩ := addr_inv ha hx
  refine .pure hR (v' := .pointer (some ⟨L.cb, L.co + (o + f.offset), none⟩)) ?_ (.ptr hL)
  simp [Instr.fieldAt, run_underlying hu, hf, Instr.sureAddr, fieldPlace, szOf_spec hs, add_mk, Nat.add_assoc]

theorem sound_iadA (hR : Rep G m ρ w) {xt e : TypeId} {n s : Nat} (hu : P.underlying xt = some (.array n e)) (hs : szOf P e = some s) {x x' i' : Value} {k : IntKind} {i : Int} {b o : Nat}
    (hx : VRel ρ x x') (ha : addr x = some (b, o)) (hi : VRel ρ (.int k i) i') (hb : 0 ≤ i ∧ i < n) :
    Sound P G m ρ w (Instr.indexAt xt x' i') (.pointer (some ⟨b, o + i.toNat * s, none⟩)) m := by
  obtain ⟨L, hL, rfl⟩ := addr_inv ha hx
  obtain rfl := hi.int_inv
  refine .pure hR (v' := .pointer (some ⟨L.cb, L.co + (o + i.toNat * s), none⟩)) ?_ (.ptr hL)
  by_cases ht : n ≤ 1 <;> simp [Instr.indexAt, asIntOf, run_underlying hu, Instr.sureAddr, hb, szOf_spec hs, add_mk, Nat.add_assoc, ht]

theorem sound_iadV (hR : Rep G m ρ w) {xt e : TypeId} {s : Nat} (hu : P.underlying xt = some (.slice e)) (hs : szOf P e = some s) {x' i' : Value} {k : IntKind} {i : Int} {b o l c : Nat}
    (hx : VRel ρ (.slice (some ⟨b, o, none⟩) l c) x') (hi : VRel ρ (.int k i) i') (hb : 0 ≤ i ∧ i < l) :
    Sound P G m ρ w (Instr.indexAt xt x' i') (.pointer (some ⟨b, o + i.toNat * s, none⟩)) m := by
  obtain rfl := hi.int_inv
  have key : ∀ (L : Loc) (c' : Nat), ρ b = some L → Sound P G m ρ w (Instr.indexAt xt (.slice (some ⟨L.cb, L.co + o, none⟩) l c') (.int k i)) (.pointer (some ⟨b, o + i.toNat * s, none⟩)) m := by
    intro L c' hL
    refine .pure hR (v' := .pointer (some ⟨L.cb, L.co + (o + i.toNat * s), none⟩)) ?_ (.ptr hL)
    by_cases ht : l ≤ 1 <;> simp [Instr.indexAt, asIntOf, run_underlying hu, hb, szOf_spec hs, add_mk, Nat.add_assoc, ht]
  cases hx with
  | slice hL _ => exact key _ _ hL
  | sliceOpen hL _ _ => exact key _ _ hL
  | sliceEnd hL _ => omega

theorem sound_ld1 (hR : Rep G m ρ w) {t : TypeId} {d : TypeDesc} (hd : P.underlying t = some d) (ha : aggB d = false) {x x' v : Value} {b o : Nat} (hx : VRel ρ x x') (hb : addr x = some (b, o))
    (h : rd m b o 1 = some [v]) : Sound P G m ρ w (Instr.loadAt t x') v m := by
  obtain ⟨L, hL, rfl⟩ := addr_inv hb hx
  obtain ⟨cs, h1, h2, h3, h4⟩ := hR.rd hL h
  match cs, h1 with
  | [v'], _ =>
    have := h4 0 v' rfl
    rw [add_mk, Nat.add_zero] at this
    refine .pure hR (v' := v') ?_ (by simpa using h3.2 0 (by simp) (by simp))
    simp [Instr.loadAt, Instr.sureAddr, loadVar, isAgg_spec hd, ha, this]

theorem sound_ldn (hR : Rep G m ρ w) {t : TypeId} {d : TypeDesc} {n : Nat} (hd : P.underlying t = some d) (ha : aggB d = true) (hs : szOf P t = some n) {x x' : Value} {b o : Nat} (hx : VRel ρ x x')
    (hb : addr x = some (b, o)) {c : List Value} (h : rd m b o n = some c) : Sound P G m ρ w (Instr.loadAt t x') (.agg c.toArray) m := by
  obtain ⟨L, hL, rfl⟩ := addr_inv hb hx
  obtain ⟨cs, h1, h2, h3, h4⟩ := hR.rd hL h
  refine .pure hR (v' := .agg cs.toArray) ?_ (.ofARel h3.toArray)
  have := run_loadCells_list (P := P) w ⟨L.cb, L.co + o, none⟩ cs h4
  rw [h1] at this
  simp [Instr.loadAt, Instr.sureAddr, loadVar, isAgg_spec hd, ha, szOf_spec hs, this]

theorem sound_st (hR : Rep G m ρ w) {t : TypeId} {n : Nat} (hs : szOf P t = some n) {x x' v v' : Value} {b o : Nat} {c : List Value} {m' : AMem} (hx : VRel ρ x x') (hb : addr x = some (b, o))
    (hv : VRel ρ v v') (hc : AM.cellsOf v = some c) (hl : c.length = n) (hw : wr m b o c = some m') :
    ∃ w', (Instr.storeAt t x' v').run P w = .ok () w' ∧ Rep G m' ρ w' ∧ Ext m ρ w m' ρ w' := by
  obtain ⟨L, hL, rfl⟩ := addr_inv hb hx
  obtain ⟨h1, h2⟩ := hv.cells hc
  obtain ⟨e1, e2, e3⟩ := hR.wr hL hw h1 P h2
  refine ⟨_, ?_, e2, e3⟩
  have hsz : v'.cells.size = n := by have := h1.1; simp at this; omega
  simp [Instr.storeAt, Instr.sureAddr, storeVar, szOf_spec hs, hsz, e1]

theorem Rep.row0 (h : Rep G m ρ w) (e : TypeId) {c c' : List Value} (hc : LRel ρ c c') :
    Rep G (m.push (.cells c e true .exact)) (ρ.add m.size ⟨w.heap.size, 0, c.length, 1⟩) (w.alloc (.cells c'.toArray e)) ∧
      Ext m ρ w (m.push (.cells c e true .exact)) (ρ.add m.size ⟨w.heap.size, 0, c.length, 1⟩) (w.alloc (.cells c'.toArray e)) := by
  have := h.row e hc .exact 1 0 w.drawn (fun _ => rfl) (fun j hj => by cases hj) (fun z hz => by cases hz)
  simp at this
  exact ⟨this.1, this.2.1⟩

theorem newPtr (L : Loc) (hL : L.co = 0) : VRel (ρ.add m.size L) (.pointer (some ⟨m.size, 0, none⟩)) (.pointer (some ⟨L.cb, 0, none⟩)) := by
  have : (ρ.add m.size L) m.size = some L := by simp [Ren.add]
  have := VRel.ptr (o := 0) this
  simpa [hL] using this

theorem sound_new (hR : Rep G m ρ w) {e : TypeId} {z : List Value} (hz : zeroOf P e = some z) :
    Sound P G m ρ w (Instr.alloc e true (.tuple #[])) (.pointer (some ⟨m.size, 0, none⟩)) (m.push (.cells z e true .exact)) := by
  obtain ⟨i, zv, hi, hzv, hcells, _, hp⟩ := zeroOf_spec hz
  obtain ⟨h1, h2⟩ := hR.row0 e (LRel.plain (ρ := ρ) fun v hv => plain_of (hp v hv))
  refine ⟨_, _, .pointer (some ⟨w.heap.size, 0, none⟩), ?_, newPtr _ rfl, h1, h2⟩
  simp [Instr.alloc, zero_run hi hzv, newVar, newRow, hcells]

theorem sound_box (hR : Rep G m ρ w) {e : TypeId} {x x' : Value} (hx : VRel ρ x x') {c : List Value} (hc : AM.cellsOf x = some c) :
    Sound P G m ρ w (Instr.box e x') (.pointer (some ⟨m.size, 0, none⟩)) (m.push (.cells c e true .exact)) := by
  obtain ⟨h1, h2⟩ := hx.cells hc
  obtain ⟨h3, h4⟩ := hR.row0 e h1
  refine ⟨_, _, .pointer (some ⟨w.heap.size, 0, none⟩), ?_, newPtr _ rfl, h3, h4⟩
  simp [Instr.box, newVar, newRow]

/-! Filling an aggregate. -/
theorem foldl_set (off : Nat) : ∀ (c : List Value) (k : Nat) (z : Array Value), off + k + c.length ≤ z.size →
    ((c.zipIdx k).foldl (fun cs p => cs.setIfInBounds (off + p.2) p.1) z).toList = splice z.toList (off + k) c
  | [], k, z, h => by simp [splice]
  | v :: r, k, z, h => by
    simp at h
    simp only [List.zipIdx_cons, List.foldl_cons]
    rw [foldl_set off r (k + 1) _ (by simp; omega)]
    apply List.ext_getElem?
    intro j
    simp only [splice, Array.toList_setIfInBounds]
    have hz : off + k < z.toList.length := by simp; omega
    rcases Nat.lt_trichotomy j (off + k) with h1 | h1 | h1
    · rw [List.getElem?_append_left (by simp; omega), List.getElem?_append_left (by simp; omega), List.getElem?_append_left (by simp; omega), List.getElem?_append_left (by simp; omega)]
      simp [List.getElem?_take, h1, show j < off + (k + 1) by omega, List.getElem?_set, show off + k ≠ j by omega]
    · subst h1
      rw [List.getElem?_append_left (by simp; omega), List.getElem?_append_left (by simp; omega)]
      rw [List.append_assoc, List.getElem?_append_right (by simp; omega)]
      simp [List.getElem?_take, show off + k < off + (k + 1) by omega, List.getElem?_set, show min (off + k) z.size = off + k by omega, show off + k < z.size by omega]
    · by_cases h2 : j < off + (k + 1) + r.length
      · rw [List.getElem?_append_left (by simp; omega), List.getElem?_append_right (by simp; omega)]
        rw [List.append_assoc, List.getElem?_append_right (by simp; omega)]
        simp only [List.length_take, List.length_set, Array.length_toList]
        rw [show min (off + k) z.size = off + k by omega, show min (off + (k + 1)) z.size = off + (k + 1) by omega, show j - (off + k) = (j - (off + (k + 1))) + 1 by omega]
        rw [List.getElem?_append_left (by simp; omega)]
        simp
      · rw [List.getElem?_append_right (by simp; omega), List.append_assoc, List.getElem?_append_right (by simp; omega)]
        rw [List.getElem?_append_right (by simp; omega)]
        simp only [List.length_append, List.length_take, List.length_set, Array.length_toList, List.length_cons, List.getElem?_drop, List.getElem?_set]
        rw [if_neg (by omega)]
        congr 1
        omega

theorem LRel.splice {z z' c c' : List Value} (h : LRel ρ z z') (k : LRel ρ c c') (o : Nat) : LRel ρ (AM.splice z o c) (AM.splice z' o c') := by
  unfold AM.splice
  rw [← k.1]
  exact ((h.take o).append k).append (h.drop _)

def PartsRel (ρ : Ren) (place : Nat → Option (Nat × Nat)) : List (Nat × Nat × Value) → List (Nat × Value) → Prop
  | [], [] => True
  | (o, s, v) :: r, (i, v') :: r' => place i = some (o, s) ∧ VRel ρ v v' ∧ PartsRel ρ place r r'
  | _, _ => False

theorem fill_run {place : Nat → Option (Nat × Nat)} : ∀ (ps : List (Nat × Nat × Value)) (ps' : List (Nat × Value)) (z : List Value) (z' : Array Value) (c : List Value), PartsRel ρ place ps ps' →
    LRel ρ z z'.toList → AM.fill z ps = some c → ∃ c', Instr.fill place z' ps' = some c' ∧ LRel ρ c c'.toList
  | [], [], z, z', c, _, hz, h => by simp [AM.fill] at h; subst h; exact ⟨z', rfl, hz⟩
  | (o, s, v) :: r, (i, v') :: r', z, z', c, hp, hz, h => by
    obtain ⟨h1, h2, h3⟩ := hp
    simp only [AM.fill] at h
    split at h <;> try (simp at h; done)
    rename_i cv hcv
    split at h <;> try (simp at h; done)
    rename_i hc
    obtain ⟨k1, k2⟩ := h2.cells hcv
    have hl := k1.1
    simp at hl
    have hzl := hz.1
    simp at hzl
    obtain ⟨c', e1, e2⟩ := fill_run r r' _ (v'.cells.zipIdx.foldl (fun cs p => cs.setIfInBounds (o + p.2) p.1) z') c h3 (by
      have := foldl_set o v'.cells.toList 0 z' (by simp; omega)
      have hzip : v'.cells.zipIdx.toList = v'.cells.toList.zipIdx 0 := by simp
      rw [← Array.foldl_toList, hzip, this]
      simpa using hz.splice k1 o) h
    refine ⟨c', ?_, e2⟩
    simp only [Instr.fill, h1]
    rw [if_neg (by simp; omega)]
    exact e1
  | [], _ :: _, _, _, _, hp, _, _ => hp.elim
  | _ :: _, [], _, _, _, hp, _, _ => by simp [PartsRel] at hp

theorem placesOf_spec {t : TypeId} {pl : Nat → Option (Nat × Nat)} {z : List Value} (hp : placesOf P t = some pl) (hz : zeroOf P t = some z) {parts : Array (Nat × Value)} {c : Array Value}
    (h : Instr.fill pl z.toArray parts.toList = some c) : (Instr.build t parts).run P w = .ok (.agg c) w := by
  obtain ⟨i, zv, hi, hzv, hcells, _, _⟩ := zeroOf_spec hz
  refine run_build w t parts c ?_
  unfold Program.built
  unfold placesOf at hp
  cases hu : P.underlying t with
  | none => simp [hu] at hp
  | some d =>
    cases d <;> simp only [hu] at hp <;> try (simp at hp; done)
    case array n e =>
      unfold szOf at hp
      cases hie : P.info? e with
      | none => simp [hie] at hp
      | some ie =>
        simp [hie] at hp
        subst hp
        simp only [hi, hzv, hcells, hie]
        exact h
    case struct fs =>
      split at hp <;> simp at hp
      rename_i l hl
      subst hp
      have : fs.toList.mapM (fun f => (P.info? f.type).map fun i => (f.offset, i.size)) = some l := by
        rw [← hl]
        congr 1
        funext f
        unfold szOf
        cases P.info? f.type <;> rfl
      simp only [hi, hzv, hcells, this]
      simpa using h

theorem compParts_rel {t : Tmps} {a : Act} (hev : ∀ x y, compOpd G x = some y → VRel ρ (y.ev t) (a.eval x)) {place : Nat → Option (Nat × Nat)} : ∀ (ps : List (Nat × Operand)) (qs : List (Nat × Nat × AOpd)),
    compParts G place ps = some qs → PartsRel ρ place (qs.map fun p => (p.1, p.2.1, p.2.2.ev t)) (ps.map fun p => (p.1, a.eval p.2))
  | [], qs, h => by simp [compParts] at h; subst h; trivial
  | (i, x) :: r, qs, h => by
    simp only [compParts] at h
    split at h <;> simp at h
    rename_i o s y b h1 h2 h3
    subst h
    exact ⟨h1, hev x y h2, compParts_rel hev r b h3⟩

theorem sound_bld (hR : Rep G m ρ w) {t : TypeId} {pl : Nat → Option (Nat × Nat)} {z : List Value} (hp : placesOf P t = some pl) (hz : zeroOf P t = some z) {ps : List (Nat × Nat × Value)}
    {ps' : Array (Nat × Value)} (hps : PartsRel ρ pl ps ps'.toList) {c : List Value} (h : AM.fill z ps = some c) : Sound P G m ρ w (Instr.build t ps') (.agg c.toArray) m := by
  obtain ⟨i, zv, hi, hzv, hcells, _, hpl⟩ := zeroOf_spec hz
  obtain ⟨c', e1, e2⟩ := fill_run ps ps'.toList z z.toArray c hps (by simpa using LRel.plain (ρ := ρ) fun v hv => plain_of (hpl v hv)) h
  refine .pure hR (placesOf_spec hp hz e1) ?_
  have := e2.toArray
  simpa using VRel.ofARel this

theorem rep_length (z : List Value) (n : Nat) : (rep z n).length = n * z.length := by
  simp [rep, List.length_flatten, List.map_replicate, List.sum_replicate_nat]

theorem rep_mem {z : List Value} {n : Nat} {v : Value} (h : v ∈ rep z n) : v ∈ z := by
  simp only [rep, List.mem_flatten, List.mem_replicate] at h
  obtain ⟨l, ⟨_, rfl⟩, hv⟩ := h
  exact hv

theorem rep_get (z : List Value) : ∀ (n j : Nat), j < n * z.length → (rep z n).getD j undef = z.getD (j % z.length) undef
  | 0, j, h => by simp at h
  | n + 1, j, h => by
    have hr : rep z (n + 1) = z ++ rep z n := by simp [rep, List.replicate_succ]
    rw [hr]
    by_cases hj : j < z.length
    · simp [List.getElem?_append_left hj, Nat.mod_eq_of_lt hj]
    · have hz : 0 < z.length := by
        rcases Nat.eq_zero_or_pos z.length with h0 | h0
        · simp [h0] at h
        · exact h0
      have := rep_get z n (j - z.length) (by rw [Nat.succ_mul] at h; omega)
      simp only [List.getD_eq_getElem?_getD] at this ⊢
      rw [List.getElem?_append_right (by omega), this]
      congr 2
      exact (Nat.mod_eq_sub_mod (by omega)).symm

theorem range_rep (z : List Value) (n : Nat) (h : 0 < z.length ∨ n * z.length = 0) : ((Array.range (n * z.length)).map (z.toArray[· % z.toArray.size]!)).toList = rep z n := by
  apply List.ext_getElem?
  intro j
  by_cases hj : j < n * z.length
  · have hz : 0 < z.length := by
      rcases Nat.eq_zero_or_pos z.length with h0 | h0
      · simp [h0] at hj
      · exact h0
    have h1 := rep_get z n j hj
    have hl : j < (rep z n).length := by rw [rep_length]; exact hj
    have hm : j % z.length < z.length := Nat.mod_lt _ hz
    rw [List.getD_eq_getElem?_getD, List.getElem?_eq_getElem hl] at h1
    simp [List.getElem?_eq_getElem hl, hj, hm] at h1 ⊢
    rw [h1]
  · rw [List.getElem?_eq_none (by simpa using hj), List.getElem?_eq_none (by rw [rep_length]; omega)]

theorem sound_bldSl (hR : Rep G m ρ w) {t e : TypeId} {s len : Nat} {z : List Value} (hu : P.underlying t = some (.slice e)) (hs : szOf P e = some s) (hz : zeroOf P e = some z) (hb : len * s ≤ 16777216) (hb2 : len ≤ 16777216)
    (hzl : z.length = s) {ps : List (Nat × Nat × Value)} {ps' : Array (Nat × Value)} (hps : PartsRel ρ (fun i => some (i * s, s)) ps ps'.toList) {c : List Value} (h : AM.fill (rep z len) ps = some c) :
    Sound P G m ρ w (Instr.buildSlice t len ps') (.slice (some ⟨m.size, 0, none⟩) len len) (m.push (.cells c e true .exact)) := by
  obtain ⟨i, zv, hi, hzv, hcells, hzs, hpl⟩ := zeroOf_spec hz
  have hz0 : 0 < z.length ∨ len * z.length = 0 := by
    rcases Nat.eq_zero_or_pos z.length with h0 | h0
    · exact .inr (by simp [h0])
    · exact .inl h0
  obtain ⟨c', e1, e2⟩ := fill_run (z' := (Array.range (len * z.length)).map (z.toArray[· % z.toArray.size]!)) ps ps'.toList (rep z len) c hps
    (by rw [range_rep z len hz0]; exact LRel.plain fun v hv => plain_of (hpl v (rep_mem hv))) h
  obtain ⟨h3, h4⟩ := hR.row0 e e2
  have hrun : (Instr.buildSlice t len ps').run P w = .ok (.slice (some ⟨w.heap.size, 0, none⟩) len len) (w.alloc (.cells c' e)) := by
    unfold Instr.buildSlice
    rw [hzl] at e1
    by_cases hn : len * s = 0
    · have hr : ∀ f : Nat → Value, Array.map f (Array.range 0) = #[] := fun f => by apply Array.ext'; simp
      simp only [hn, hr] at e1
      simp [run_underlying hu, szOf_spec hs, hn, hr, e1, newRow]
    · simp [run_underlying hu, szOf_spec hs, hn, show ¬ (16777216 < len * s) by omega, zero_run hi hzv, hcells]
      simp at e1
      simp [e1, newRow]
  refine ⟨_, _, _, hrun, ?_, by simpa using h3, by simpa using h4⟩
  have hL : (ρ.add m.size ⟨w.heap.size, 0, c.length, 1⟩) m.size = some ⟨w.heap.size, 0, c.length, 1⟩ := by simp [Ren.add]
  have := VRel.slice (o := 0) (l := len) hL (openCap_lt (c := len) (by omega))
  simpa using this

end
end Go.AM
namespace Go.AM
set_option linter.unusedVariables false
set_option linter.unusedSimpArgs false

section
variable {P : Program} {G : Nat} {m : AMem} {ρ : Ren} {w : World}

theorem sound_slS (hR : Rep G m ρ w) {t : Tmps} {a : Act} (hev : ∀ x y, compOpd G x = some y → VRel ρ (y.ev t) (a.eval x)) {xt : TypeId} (hu : P.underlying xt = some .string) {lo hi : Option Operand}
    {lo' hi' : Option AOpd} (c1 : compOpdO G lo = some lo') (c2 : compOpdO G hi = some hi') {s : ByteArray} {x' : Value} (hx : VRel ρ (.string s) x') {i h k : Nat}
    (hc : cut s.size s.size lo' hi' none t = some (i, h, k)) : Sound P G m ρ w (Instr.sliceAt xt x' (lo.map a.eval) (hi.map a.eval) none) (.string (s.extract i h)) m := by
  obtain rfl := hx.string_inv
  obtain ⟨h1, _⟩ := cut_run (P := P) (w := w) hev c1 c2 (mx := none) (mx' := none) rfl (.inl rfl) (isSlice := false) hc (Nat.le_refl _)
  refine .pure hR (v' := .string (s.extract i h)) ?_ (.string _)
  simp at h1
  simp [Instr.sliceAt, Instr.slice, run_underlying hu, h1]

theorem map_none_of {mx : Option Operand} {mx' : Option AOpd} {a : Act} (h : compOpdO G mx = some mx') : (mx.map a.eval = none ↔ mx'.isNone = true) := by
  cases mx with
  | none => simp [compOpdO] at h; subst h; simp
  | some x => simp [compOpdO] at h; obtain ⟨y, _, rfl⟩ := h; simp

theorem sound_slA (hR : Rep G m ρ w) {t : Tmps} {a : Act} (hev : ∀ x y, compOpd G x = some y → VRel ρ (y.ev t) (a.eval x)) {xt e : TypeId} {n s : Nat} (hu : P.underlying xt = some (.array n e))
    (hs : szOf P e = some s) {lo hi mx : Option Operand} {lo' hi' mx' : Option AOpd} (c1 : compOpdO G lo = some lo') (c2 : compOpdO G hi = some hi') (c3 : compOpdO G mx = some mx')
    (hmh : mx'.isNone = true ∨ hi'.isSome = true) (hn : n ≤ 9223372036854775807) {x x' : Value} {b o : Nat} (hx : VRel ρ x x') (ha : addr x = some (b, o)) {i h k : Nat}
    (hc : cut n n lo' hi' mx' t = some (i, h, k)) :
    Sound P G m ρ w (Instr.sliceAt xt x' (lo.map a.eval) (hi.map a.eval) (mx.map a.eval)) (.slice (some ⟨b, if k = i then o else o + i * s, none⟩) (h - i) (k - i)) m := by
  obtain ⟨L, hL, rfl⟩ := addr_inv ha hx
  obtain ⟨h1, h2, h3, h4, h5⟩ := cut_run (P := P) (w := w) hev c1 c2 c3 hmh (isSlice := false) hc (Nat.le_refl _)
  have hk : (if mx'.isNone then n else k) = k := by
    split
    · exact (h5 ‹_›).symm
    · rfl
  rw [hk] at h1
  refine .pure hR (v' := .slice (some ⟨L.cb, L.co + (if k = i then o else o + i * s), none⟩) (h - i) (k - i)) ?_ (.slice hL (openCap_lt (by omega)))
  by_cases hki : k = i <;> simp [Instr.sliceAt, run_underlying hu, Instr.sureAddr, h1, szOf_spec hs, hki, add_mk, Nat.add_assoc]

theorem run_sliceOf {xt e : TypeId} {s : Nat} (hu : P.underlying xt = some (.slice e)) (hs : szOf P e = some s) {A : Option Addr} {l c : Nat} {lo hi mx : Option Value} {i h k : Nat}
    (hb : (Instr.sliceBounds true l c lo hi mx).run P w = .ok (i, h, k) w) :
    (Instr.sliceAt xt (.slice A l c) lo hi mx).run P w = .ok (.slice (if k = i then A else A.map (·.add (i * s))) (h - i) (k - i)) w := by
  simp [Instr.sliceAt, Instr.slice, run_underlying hu, hb, szOf_spec hs]

theorem BlkAt.spsize {c : List Value} {e : TypeId} {wr : Bool} {sp : Spare} {L : Loc} {carr : Array Value} {frz : Nat × Nat}
    (h : BlkAt ρ c e wr sp L w carr frz) {s : Nat} (hs : sp.size = s) (h0 : 0 < s) : L.sz = s := by
  cases sp with
  | exact => simp [Spare.size] at hs; omega
  | room z => have := (h.spare z rfl).1; simp [Spare.size] at hs; omega
  | full k => have := (h.full k rfl).2.1; simp [Spare.size] at hs; omega

theorem sound_slV (hR : Rep G m ρ w) {t : Tmps} {a : Act} (hev : ∀ x y, compOpd G x = some y → VRel ρ (y.ev t) (a.eval x)) {xt e : TypeId} {s : Nat} (hu : P.underlying xt = some (.slice e))
    (hs : szOf P e = some s) (h0 : 0 < s) {lo hi mx : Option Operand} {xo : Operand} {lo' hi' mx' : Option AOpd} {x : AOpd} (cx : compOpd G xo = some x) (c1 : compOpdO G lo = some lo') (c2 : compOpdO G hi = some hi')
    (c3 : compOpdO G mx = some mx') (hmh : mx'.isNone = true ∨ hi'.isSome = true) {v : Value} {m' : AMem} (h : stepOp (.slV s x lo' hi' mx') t m = some (v, m')) :
    m' = m ∧ Sound P G m ρ w (Instr.sliceAt xt (a.eval xo) (lo.map a.eval) (hi.map a.eval) (mx.map a.eval)) v m := by
  have hx := hev xo x cx
  generalize hxv : x.ev t = xv at hx
  generalize a.eval xo = x' at hx
  simp only [stepOp, hxv] at h
  split at h <;> try (simp at h; done)
  rename_i _ A l c
  split at h
  · rename_i hcap
    subst hcap
    split at h <;> try (simp at h; done)
    rename_i _ b o
    split at h <;> try (simp at h; done)
    rename_i _ c e' wr' sp hm
    split at h <;> try (simp at h; done)
    rename_i hcond
    obtain ⟨hsp, hl⟩ := hcond
    split at h <;> try (simp at h; done)
    rename_i _ i hh k hcut
    have main : ∀ (L : Loc) (cap' : Nat), ρ b = some L → (c.length - o) / s ≤ cap' →
        (Instr.sliceBounds true l cap' (lo.map a.eval) (hi.map a.eval) (mx.map a.eval)).run P w = .ok (i, hh, if mx'.isNone then cap' else k) w ∧ i ≤ hh ∧ hh ≤ k ∧ k ≤ (c.length - o) / s ∧
          (mx'.isNone = true → k = (c.length - o) / s) := fun L cap' _ hle => cut_run (P := P) (w := w) hev c1 c2 c3 hmh hcut hle
    cases hx with
    | slice hL hc => exact absurd rfl (Nat.ne_of_lt hc)
    | @sliceOpen _ _ _ cap' L hL hc hsz =>
      obtain ⟨carr, frz, hB⟩ := hR.blk hL hm
      have hLs := hB.spsize hsp h0
      rw [hLs] at hc
      have hlen := hB.len
      have hcc : (c.length - o) / s ≤ cap' := by
        apply Nat.div_le_of_le_mul
        rw [Nat.mul_comm]; omega
      obtain ⟨e1, e2, e3, e4, e5⟩ := main L cap' hL hcc
      cases mx' with
      | none =>
        simp at h
        obtain ⟨rfl, rfl⟩ := h
        refine ⟨rfl, ?_⟩
        simp at e1
        have hrun := run_sliceOf (w := w) hu hs (A := some ⟨L.cb, L.co + o, none⟩) e1
        have hk := e5 rfl
        by_cases hki : cap' = i
        · rw [if_pos hki] at hrun
          refine .pure hR hrun ?_
          have h1 : hh - i = 0 := by omega
          have h2 : cap' - i = 0 := by omega
          rw [h1, h2]
          refine .sliceEnd hL (.inr ⟨rfl, ?_⟩)
          rw [← hki]; omega
        · rw [if_neg hki] at hrun
          refine .pure hR hrun ?_
          simp only [Option.map_some, add_mk, Nat.add_assoc]
          refine .sliceOpen hL ?_ hsz
          rw [hLs, Nat.sub_mul]
          have : i * s ≤ cap' * s := Nat.mul_le_mul_right _ (by omega)
          omega
      | some mxo =>
        simp at h
        obtain ⟨hkb, rfl, rfl⟩ := h
        refine ⟨rfl, ?_⟩
        simp at e1
        have hrun := run_sliceOf (w := w) hu hs (A := some ⟨L.cb, L.co + o, none⟩) e1
        refine .pure hR hrun ?_
        by_cases hki : k = i
        · simp only [hki, if_true]
          exact .slice hL (openCap_lt (by omega))
        · simp only [hki, if_false, Option.map_some, add_mk, Nat.add_assoc]
          exact .slice hL (openCap_lt (by omega))
    | @sliceEnd _ _ _ L a' hL hc =>
      obtain ⟨carr, frz, hB⟩ := hR.blk hL hm
      have hlen := hB.len
      have hcc : L.cc = o := by
        rcases hc with hc | hc
        · have : (0 : Nat) < openCap := openCap_lt (by omega)
          omega
        · exact hc.2
      have hz : (c.length - o) / s = 0 := by rw [show c.length - o = 0 by omega]; simp
      obtain ⟨e1, e2, e3, e4, e5⟩ := main L 0 hL (by omega)
      have hi0 : i = 0 := by omega
      have hh0 : hh = 0 := by omega
      have hk0 : k = 0 := by omega
      subst hi0 hh0 hk0
      have e1' : (Instr.sliceBounds true 0 0 (lo.map a.eval) (hi.map a.eval) (mx.map a.eval)).run P w = .ok (0, 0, 0) w := by rw [e1]; split <;> rfl
      have hrun := run_sliceOf (w := w) hu hs (A := some a') e1'
      simp at hrun
      cases mx' with
      | none =>
        simp at h
        obtain ⟨rfl, rfl⟩ := h
        exact ⟨rfl, .pure hR hrun (.sliceEnd hL (.inr ⟨rfl, hcc⟩))⟩
      | some mxo =>
        simp at h
        obtain ⟨rfl, rfl⟩ := h
        exact ⟨rfl, .pure hR hrun (.sliceEnd hL (.inl rfl))⟩
  · rename_i hcap
    split at h <;> try (simp at h; done)
    rename_i _ i hh k hcut
    obtain ⟨e1, e2, e3, e4, e5⟩ := cut_run (P := P) (w := w) hev c1 c2 c3 hmh (isSlice := true) hcut (Nat.le_refl _)
    have hk : (if mx'.isNone then c else k) = k := by
      split
      · exact (e5 ‹_›).symm
      · rfl
    rw [hk] at e1
    split at h <;> try (simp at h; done)
    · simp at h
      obtain ⟨rfl, rfl⟩ := h
      refine ⟨rfl, ?_⟩
      cases hx with
      | nilSlice =>
        have hrun := run_sliceOf (w := w) hu hs (A := none) e1
        refine .pure hR hrun ?_
        simp
        exact .nilSlice _ _
    · rename_i _ b o
      simp at h
      obtain ⟨rfl, rfl⟩ := h
      refine ⟨rfl, ?_⟩
      cases hx with
      | slice hL hc =>
        rename_i L
        have hrun := run_sliceOf (w := w) hu hs (A := some ⟨L.cb, L.co + o, none⟩) e1
        refine .pure hR hrun ?_
        by_cases hki : k = i
        · simp only [hki, if_true]
          exact .slice hL (by omega)
        · simp only [hki, if_false, Option.map_some, add_mk, Nat.add_assoc]
          exact .slice hL (by omega)
      | sliceOpen hL _ _ => exact absurd rfl hcap
      | @sliceEnd _ _ _ L a' hL hc =>
        have hc0 : c = 0 := by rcases hc with hc | hc; exact hc; exact absurd hc.1 hcap
        subst hc0
        have hi0 : i = 0 := by omega
        have hh0 : hh = 0 := by omega
        have hk0 : k = 0 := by omega
        subst hi0 hh0 hk0
        have hrun := run_sliceOf (w := w) hu hs (A := some a') e1
        simp at hrun
        refine .pure hR hrun ?_
        simp
        exact .sliceEnd hL (.inl rfl)

theorem sound_arrAt (hR : Rep G m ρ w) {t e : TypeId} {n : Nat} (hu : P.underlying t = some (.array n e)) {b o l c : Nat} {x' : Value} (hx : VRel ρ (.slice (some ⟨b, o, none⟩) l c) x') (h0 : 0 < n) (h : n ≤ l) :
    Sound P G m ρ w (Instr.arrayAt t x') (.pointer (some ⟨b, o, none⟩)) m := by
  have key : ∀ (L : Loc) (c' : Nat), ρ b = some L → Sound P G m ρ w (Instr.arrayAt t (.slice (some ⟨L.cb, L.co + o, none⟩) l c')) (.pointer (some ⟨b, o, none⟩)) m := fun L c' hL =>
    .pure hR (v' := .pointer (some ⟨L.cb, L.co + o, none⟩)) (by simp [Instr.arrayAt, run_underlying hu, show ¬ l < n by omega]) (.ptr hL)
  cases hx with
  | slice hL _ => exact key _ _ hL
  | sliceOpen hL _ _ => exact key _ _ hL
  | sliceEnd hL _ => omega

theorem sound_ext (hR : Rep G m ρ w) {x' : Value} {vs : Array Value} {i : Nat} {v : Value} (hx : VRel ρ (.tuple vs) x') (h : vs[i]? = some v) : Sound P G m ρ w (Instr.extract x' i) v m := by
  obtain ⟨ys, rfl, hA⟩ := hx.tuple_inv
  obtain ⟨v', h1, h2⟩ := hA.get? h
  exact .pure hR (by simp [Instr.extract, h1]) h2

theorem sound_mkI (hR : Rep G m ρ w) {t : TypeId} {d : TypeDesc} (hu : P.underlying t = some d) (hd : ∀ ms, d ≠ .interface ms) {x x' : Value} (hx : VRel ρ x x') :
    Sound P G m ρ w (Instr.makeInterface t x') (.iface t x) m := by
  refine .pure hR (v' := .iface t x') ?_ (.iface t hx)
  cases d <;> first | exact absurd rfl (hd _) | simp [Instr.makeInterface, run_underlying hu]

theorem alloc_old (ob : Obj) {i : Nat} (hi : i < w.heap.size) : (w.alloc ob).heap[i]? = w.heap[i]? := by
  show (w.heap.push ob)[i]? = _
  simp [Array.getElem?_push, show i ≠ w.heap.size by omega]
theorem alloc_new (ob : Obj) : (w.alloc ob).heap[w.heap.size]? = some ob := by
  show (w.heap.push ob)[w.heap.size]? = _
  simp

theorem Rep.newObj (hR : Rep G m ρ w) {ob : Obj} {o : AObj} (ho : ∀ ρ', ObjRel ρ' o ⟨w.heap.size, 0, 0, 0⟩ (w.alloc ob)) :
    Rep G (m.push o) (ρ.add m.size ⟨w.heap.size, 0, 0, 0⟩) (w.alloc ob) ∧ Ext m ρ w (m.push o) (ρ.add m.size ⟨w.heap.size, 0, 0, 0⟩) (w.alloc ob) := by
  have hold : ∀ i, i < w.heap.size → (w.alloc ob).heap[i]? = w.heap[i]? := fun i hi => alloc_old ob hi
  exact ⟨hR.new hold (Nat.le_refl _) (ho _), Ext.new hR hold (Nat.le_refl _) rfl rfl rfl (by simp)⟩

theorem sound_mkM (hR : Rep G m ρ w) {t : TypeId} : Sound P G m ρ w (Instr.makeMap t none) (.map (some m.size)) (m.push (.map #[] 0)) := by
  obtain ⟨h1, h2⟩ := hR.newObj (ob := .map #[] 0) (o := .map #[] 0) (fun ρ' => ⟨alloc_new _, by simp⟩)
  have hL : (ρ.add m.size ⟨w.heap.size, 0, 0, 0⟩) m.size = some ⟨w.heap.size, 0, 0, 0⟩ := by simp [Ren.add]
  exact ⟨_, _, .map (some w.heap.size), by simp [Instr.makeMap], .map hL, h1, h2⟩

theorem sound_rng (hR : Rep G m ρ w) {t : TypeId} (hu : P.underlying t = some .string) {s : ByteArray} {x' : Value} (hx : VRel ρ (.string s) x') :
    Sound P G m ρ w (Instr.range t x') (.pointer (some ⟨m.size, 0, none⟩)) (m.push (.iter s 0)) := by
  obtain rfl := hx.string_inv
  obtain ⟨h1, h2⟩ := hR.newObj (ob := .stringIter s 0) (o := .iter s 0) (fun ρ' => ⟨alloc_new _, rfl⟩)
  exact ⟨_, _, .pointer (some ⟨w.heap.size, 0, none⟩), by simp [Instr.range, run_underlying hu], newPtr _ rfl, h1, h2⟩

theorem sound_nxt (hR : Rep G m ρ w) {ty : TypeId} {r pos : Nat} {s : ByteArray} {x' v : Value} {m' : AMem} (hx : VRel ρ (.pointer (some ⟨r, 0, none⟩)) x') (hm : m.get r = .iter s pos)
    (h : (if pos < s.size then some (Value.tuple #[.bool true, .int .i64 pos, .int .i32 (Utf8.decode s pos).1], m.set r (.iter s (pos + (Utf8.decode s pos).2))) else some (.tuple #[.bool false], m)) = some (v, m')) :
    Sound P G m ρ w (Instr.next x' true ty) v m' := by
  obtain ⟨L, hL, rfl⟩ := hx.ptr_inv
  have hO := hR.obj r L hL
  rw [hm] at hO
  obtain ⟨hh, hco⟩ := hO
  split at h
  · rename_i hlt
    simp at h
    obtain ⟨rfl, rfl⟩ := h
    let w' : World := { w with heap := w.heap.setIfInBounds L.cb (.stringIter s (pos + (Utf8.decode s pos).2)) }
    have hlt' := lt_of_getElem?_some hh
    refine ⟨ρ, w', .tuple #[.bool true, .int .i64 pos, .int .i32 (Utf8.decode s pos).1], ?_, ?_, ?_, ?_⟩
    · simp only [Instr.next, hco, Nat.zero_add]
      simp [getObj, setObj, Sem.run, hh, hlt, goInt, w']
    · exact Plain.tuple (fun v hv => by simp at hv; rcases hv with rfl | rfl | rfl; exact .bool _; exact .int _ _; exact .int _ _) ρ
    · refine hR.set hL ⟨by simp [w', Array.getElem?_setIfInBounds, hlt'], hco⟩ (by rw [hm]; rfl) (by rw [hm]; rfl) (fun _ => by rw [hm]; rfl) (fun i hi _ => ?_)
      simp [w', Array.getElem?_setIfInBounds, Ne.symm hi]
    · refine Ext.set hR hL (by rw [hm]; rfl) (fun i hi _ => ?_) rfl rfl rfl (by simp [w'])
      simp [w', Array.getElem?_setIfInBounds, Ne.symm hi]
  · rename_i hlt
    simp at h
    obtain ⟨rfl, rfl⟩ := h
    refine .pure hR (v' := .tuple #[.bool false]) ?_ (Plain.tuple (fun v hv => by simp at hv; subst hv; exact .bool _) ρ)
    simp only [Instr.next, hco, Nat.zero_add]
    simp [getObj, Sem.run, hh, hlt]

end
end Go.AM
namespace Go.AM
set_option linter.unusedVariables false
set_option linter.unusedSimpArgs false

section
variable {P : Program} {G : Nat} {m : AMem} {ρ : Ren} {w : World}

theorem Rep.newCells (hR : Rep G m ρ w) {w' : World} {c : List Value} {e : TypeId} {sp : Spare} {carr : Array Value} {frz : Nat × Nat} {cc sz : Nat}
    (hold : ∀ i, i < w.heap.size → w'.heap[i]? = w.heap[i]?) (hos : w'.os = w.os) (htape : w'.tape = w.tape) (hout : w'.output = w.output) (hsize : w.heap.size ≤ w'.heap.size)
    (hB : BlkAt (ρ.add m.size ⟨w.heap.size, 0, cc, sz⟩) c e true sp ⟨w.heap.size, 0, cc, sz⟩ w' carr frz) :
    Rep G (m.push (.cells c e true sp)) (ρ.add m.size ⟨w.heap.size, 0, cc, sz⟩) w' ∧ Ext m ρ w (m.push (.cells c e true sp)) (ρ.add m.size ⟨w.heap.size, 0, cc, sz⟩) w' :=
  ⟨hR.new hold (Nat.le_refl _) hB.obj, Ext.new hR hold (Nat.le_refl _) hos htape hout hsize⟩

theorem add_self (L : Loc) : (ρ.add m.size L) m.size = some L := by simp [Ren.add]

theorem sound_s2b (hR : Rep G m ρ w) {s d e : TypeId} (hs : P.underlying s = some .string) (hd : P.underlying d = some (.slice e)) (he : intB P e = some .u8) {x : ByteArray} {x' : Value}
    (hx : VRel ρ (.string x) x') (hlen : x.size ≤ 9223372036854775807) :
    Sound P G m ρ w (convert s d x') (.slice (some ⟨m.size, 0, none⟩) x.size openCap) (m.push (.cells (x.data.toList.map byteV) e true (.room [.int .u8 0]))) := by
  obtain rfl := hx.string_inv
  have hu8 : P.underlying e = some (.int .u8) := by
    unfold intB at he; split at he <;> simp at he; subst he; assumption
  let cap := (Question.appendCap x.size 0 e).cut (w.tape w.drawn (.appendCap x.size 0 e))
  have hcap : x.size ≤ cap := by simp [cap, Question.cut]
  let carr : Array Value := (x.data.map fun b => Value.int .u8 b.toNat) ++ Array.replicate (cap - x.size) (.int .u8 0)
  have hcs : carr.size = cap := by
    have : x.data.size = x.size := rfl
    simp [carr, this]; omega
  let w' : World := { w with drawn := w.drawn + 1, heap := w.heap.push (.cells carr e (cap, cap + 1)) }
  have hold : ∀ i, i < w.heap.size → w'.heap[i]? = w.heap[i]? := fun i hi => by simp [w', Array.getElem?_push, show i ≠ w.heap.size by omega]
  have hrun : (convert s d (.string x)).run P w = .ok (.slice (some ⟨w.heap.size, 0, none⟩) x.size cap) w' := by
    simp only [convert, Sem.run_bind, run_underlying hs, run_underlying hd, run_underlying hu8, Result.andThen_ok, Conv.stringToBytes, run_choose, Question.forced, newRow, run_newObj, markStringish, run_shape]
    simp only [Bool.false_eq_true, if_false, Result.andThen_ok, Sem.run_pure]
    have hsh : ∀ (W : World), W.heap = w.heap.push (.cells carr e) → W.shape? w.heap.size = some (e, cap) := by
      intro W hW
      simp [World.shape?, hW, hcs]
    rw [hsh _ rfl]
    simp only [run_freeze, Result.andThen_ok, Sem.run_pure]
    congr 1
    simp only [World.freeze, w']
    simp
    have hm : ∀ (i : Nat), i < (w.heap.push (.cells carr e)).size → True := fun _ _ => trivial
    apply Array.ext (by simp)
    intro i h1 h2
    simp [Array.getElem_modify, Array.getElem_push]
    by_cases hi : i = w.heap.size
    · subst hi; simp; rfl
    · have : i < w.heap.size := by simp at h2; omega
      simp [this, Ne.symm hi]
  have hB : BlkAt (ρ.add m.size ⟨w.heap.size, 0, cap, 1⟩) (x.data.toList.map byteV) e true (.room [.int .u8 0]) ⟨w.heap.size, 0, cap, 1⟩ w' carr (cap, cap + 1) := by
    have hxl : x.data.toList.length = x.size := by simp
    refine ⟨(by simp [w']), (by simp [hcs]), (by simp only [List.length_map, hxl]; exact hcap), (fun h => by cases h), (fun k h => by cases h), fun j hj => ?_, fun z hz => ?_, (fun _ => ⟨fun j hj => by simp at hj ⊢; omega, fun h => absurd rfl h⟩)⟩
    · simp at hj
      have h2 : carr.getD (0 + j) undef = .int .u8 x.data[j].toNat := by
        simp [carr, Array.getD_eq_getD_getElem?, Array.getElem?_append, hj]
      rw [h2]
      simp [byteV]
      exact .int _ _
    · cases hz
      refine ⟨rfl, by simp, by simp [Nat.mod_one], by simp [Nat.mod_one], by simp; exact Plain.int _ _, fun j hj hj' => ?_⟩
      simp only [List.length_map, hxl] at hj
      simp at hj'
      have hds : x.data.size = x.size := rfl
      simp [carr, Array.getD_eq_getD_getElem?, Array.getElem?_append, hds, show ¬ j < x.size by omega, Nat.mod_one, Array.getElem?_replicate, show j - x.size < cap - x.size by omega]
  obtain ⟨h1, h2⟩ := hR.newCells (w' := w') hold rfl rfl rfl (by simp [w']) hB
  refine ⟨_, w', _, hrun, ?_, h1, h2⟩
  have := VRel.sliceOpen (o := 0) (l := x.size) (c := cap) (add_self (ρ := ρ) (m := m) ⟨w.heap.size, 0, cap, 1⟩) (by simp) (by simp)
  simpa using this

theorem bytes_of {c c' : List Value} : ∀ {l : List UInt8}, c.mapM byteOf = some l → LRel ρ c c' → ∃ xs : List Int, c' = xs.map (Value.int .u8) ∧ l = xs.map fun n => UInt8.ofNat n.toNat := by
  induction c generalizing c' with
  | nil =>
    intro l h hc
    simp at h; subst h
    have := hc.1
    cases c' <;> simp at this
    exact ⟨[], rfl, rfl⟩
  | cons v r ih =>
    intro l h hc
    simp only [List.mapM_cons, Option.bind_eq_bind, Option.pure_def] at h
    cases hv : byteOf v with
    | none => simp [hv] at h
    | some b =>
      cases hr : r.mapM byteOf with
      | none => simp [hv, hr] at h
      | some l' =>
        simp [hv, hr] at h
        subst h
        have hcl := hc.1
        cases c' with
        | nil => simp at hcl
        | cons v' r' =>
          obtain ⟨h1, h2⟩ := hc.uncons
          obtain ⟨xs, e1, e2⟩ := ih hr h2
          unfold byteOf at hv
          split at hv <;> simp at hv
          subst hv
          obtain rfl := h1.int_inv
          rename_i n
          exact ⟨n :: xs, by simp [e1], by simp [e2]⟩

theorem sound_b2s (hR : Rep G m ρ w) {s d e : TypeId} (hs : P.underlying s = some (.slice e)) (hd : P.underlying d = some .string) (he : intB P e = some .u8) {x x' : Value} (hx : VRel ρ x x')
    {t : Tmps} {xo : AOpd} (hxo : xo.ev t = x) {v : Value} {m' : AMem} (h : stepOp (.b2s xo) t m = some (v, m')) : m' = m ∧ Sound P G m ρ w (convert s d x') v m := by
  have hu8 : P.underlying e = some (.int .u8) := by
    unfold intB at he; split at he <;> simp at he; subst he; assumption
  simp only [stepOp, hxo] at h
  split at h <;> try (simp at h; done)
  · simp at h
    obtain ⟨rfl, rfl⟩ := h
    cases hx
    exact ⟨rfl, .pure hR (run_convert_bytes_nil w s e hs hu8 _ _ d hd) (.string _)⟩
  · rename_i _ b o l cp
    have zero : ∀ (A : Addr) (cap' : Nat), Sound P G m ρ w (convert s d (.slice (some A) 0 cap')) (.string .empty) m := fun A cap' => by
      refine .pure hR (v' := .string ⟨#[]⟩) ?_ (.string _)
      have := run_convert_bytes_string w s d e (some A) 0 cap' hs hu8 hd
      rw [this, run_bytesToString w _ 0 _ [] (by simp [loadCells, loadCellsFrom])]
      rfl
    split at h
    · rename_i h0
      subst h0
      simp at h
      obtain ⟨rfl, rfl⟩ := h
      refine ⟨rfl, ?_⟩
      cases hx with
      | slice hL _ => exact zero _ _
      | sliceOpen hL _ _ => exact zero _ _
      | sliceEnd hL _ => exact zero _ _
    split at h <;> try (simp at h; done)
    rename_i _ c hc
    simp at h
    obtain ⟨l', hl', rfl, rfl⟩ := h
    refine ⟨rfl, ?_⟩
    have main : ∀ (L : Loc) (cap' : Nat), ρ b = some L → Sound P G m ρ w (convert s d (.slice (some ⟨L.cb, L.co + o, none⟩) l cap')) (.string ⟨l'.toArray⟩) m := by
      intro L cap' hL
      obtain ⟨cs, h1, h2, h3, h4⟩ := hR.rd hL hc
      obtain ⟨xs, rfl, e2⟩ := bytes_of hl' h3
      refine .pure hR (v' := .string ⟨l'.toArray⟩) ?_ (.string _)
      have := run_convert_bytes_arg (P := P) w s e hs hu8 L.cb (L.co + o) l cap' xs (by simpa using h1) (fun i hi => by
        have := h4 i (.int .u8 (xs.getD i 0)) (by simp at h1; simp [show i < xs.length by omega, List.getD])
        rwa [add_mk] at this) d hd
      rw [this]
      simp [strOfNums, e2]
    cases hx with
    | slice hL _ => exact main _ _ hL
    | sliceOpen hL _ _ => exact main _ _ hL
    | sliceEnd hL _ =>
      unfold AM.rd at hc
      split at hc <;> try (simp at hc; done)
      split at hc <;> simp at hc
      subst hc
      simp at hl'
      subst hl'
      refine .pure hR (v' := .string ⟨#[]⟩) ?_ (.string _)
      have := run_convert_bytes_string w s d e (some ‹Addr›) 0 0 hs hu8 hd
      rw [this, run_bytesToString w _ 0 0 [] (by simp [loadCells, loadCellsFrom])]
      rfl

theorem sound_mkSl (hR : Rep G m ρ w) {ty e : TypeId} {sz bytes : Nat} {z : List Value} (hu : P.underlying ty = some (.slice e)) (hs : szOf P e = some sz) (hby : byOf P e = some bytes) (hz : zeroOf P e = some z)
    (h0 : 0 < sz) {l c : Int} {kl kc : IntKind} {l' c' : Value} (hl : VRel ρ (.int kl l) l') (hc : VRel ρ (.int kc c) c') (hb : 0 ≤ l ∧ l ≤ c ∧ bytes * c ≤ 281474976710656 ∧ c ≤ 281474976710656 ∧ z.length = sz) :
    Sound P G m ρ w (Instr.makeSlice ty l' c') (.slice (some ⟨m.size, 0, none⟩) l.toNat c.toNat) (m.push (.cells (rep z c.toNat) e true .exact)) := by
  obtain rfl := hl.int_inv
  obtain rfl := hc.int_inv
  obtain ⟨b1, b2, b3, b4, b5⟩ := hb
  obtain ⟨i, zv, hi, hzv, hcells, hzs, hpl⟩ := zeroOf_spec hz
  have hib : i.bytes = bytes := by unfold byOf at hby; simp [hi] at hby; exact hby
  have wl : IntKind.i64.wrap l = l := by simp [IntKind.wrap, IntKind.bits, IntKind.signed]; omega
  have wc : IntKind.i64.wrap c = c := by simp [IntKind.wrap, IntKind.bits, IntKind.signed]; omega
  have b3' : ¬ (281474976710656 < (bytes : Int) * c) := by omega
  obtain ⟨h3, h4⟩ := hR.row0 e (LRel.plain (ρ := ρ) (x := rep z c.toNat) fun v hv => plain_of (hpl v (rep_mem hv)))
  have hL := add_self (ρ := ρ) (m := m) ⟨w.heap.size, 0, (rep z c.toNat).length, 1⟩
  refine ⟨_, _, .slice (some ⟨w.heap.size, 0, none⟩) l.toNat c.toNat, ?_, by simpa using VRel.slice (o := 0) (l := l.toNat) hL (openCap_lt (c := c.toNat) (by omega)), h3, h4⟩
  have hrr := range_rep z c.toNat (.inl (by omega))
  have hn0 : (c.toNat * sz = 0) → rep z c.toNat = [] := fun h => by
    apply List.eq_nil_of_length_eq_zero
    rw [rep_length, b5, h]
  unfold Instr.makeSlice
  simp only [Sem.run_bind, run_underlying hu, Result.andThen_ok, asInt, asIntOf, Sem.run_pure, run_typeInfo w hi, hib, wl, wc]
  rw [if_neg (by simp; omega)]
  simp only [Sem.run_bind, run_askRoom, Result.andThen_ok, szOf_spec hs]
  by_cases hcz : c.toNat * sz = 0
  · have hr : ∀ f : Nat → Value, Array.map f (Array.range 0) = #[] := fun f => by apply Array.ext'; simp
    simp [hcz, hr, newRow, hn0 hcz]
  · simp only [hcz, if_false, Sem.run_bind, zero_run hi hzv, Result.andThen_ok, Sem.run_pure, hcells, newRow, run_newObj]
    congr 2
    rw [b5] at hrr
    show w.heap.push _ = w.heap.push _
    congr 2
    apply Array.ext'
    exact hrr

theorem sound_mnx (mx : Bool) : ∀ (xs xs' : List Value) (a a' v : Value), LRel ρ xs xs' → VRel ρ a a' → mnxs mx a xs = some v →
    ∃ v', (xs'.foldlM (if mx then Builtin.max2 else Builtin.min2) a').run P w = .ok v' w ∧ VRel ρ v v'
  | [], xs', a, a', v, hx, ha, h => by
    have := hx.1
    cases xs' <;> simp at this
    simp [mnxs] at h; subst h
    exact ⟨a', by simp, ha⟩
  | b :: r, xs', a, a', v, hx, ha, h => by
    have hl := hx.1
    cases xs' with
    | nil => simp at hl
    | cons b' r' =>
      obtain ⟨h1, h2⟩ := hx.uncons
      simp only [mnxs] at h
      split at h <;> try (simp at h; done)
      split at h <;> try (simp at h; done)
      rename_i _ _ k p k' q hk
      subst hk
      obtain rfl := ha.int_inv
      obtain rfl := h1.int_inv
      obtain ⟨v', e1, e2⟩ := sound_mnx mx r r' _ (.int k (if mx then (if q > p then q else p) else (if q < p then q else p))) v h2 (.int _ _) h
      refine ⟨v', ?_, e2⟩
      simp only [List.foldlM_cons, Sem.run_bind]
      rw [← e1]
      cases mx <;> simp [Builtin.max2, Builtin.min2]

theorem equal_unf (t : TypeId) (x y : Value) : Op.equal t x y = Op.equalIn (9998 + 1 + 1) t x y := rfl

theorem eqCells_run {e : TypeId} {k : IntKind} (he : P.underlying e = some (.int k)) (d : Nat) : ∀ (n : Nat) (xs ys : List Value) (b : Bool) (i : Nat) (X Y : Array Value),
    xs.length = n → eqCells xs ys = some b → (∀ j, j < n → X[i + j]? = xs[j]?) → (∀ j, j < n → Y[i + j]? = ys[j]?) →
    (Op.eqItems (d + 1) e 1 X Y (List.range' i n)).run P w = .ok b w
  | 0, xs, ys, b, i, X, Y, hx, h, _, _ => by
    cases xs <;> simp at hx
    cases ys <;> simp [eqCells] at h
    subst h
    simp [Op.eqItems]
  | n + 1, xs, ys, b, i, X, Y, hx, h, hX, hY => by
    cases xs with
    | nil => simp at hx
    | cons x r =>
      cases ys with
      | nil => cases x <;> simp [eqCells] at h
      | cons y r' =>
        obtain ⟨k1, p, rfl⟩ : ∃ k1 p, x = .int k1 p := by cases x <;> first | exact ⟨_, _, rfl⟩ | simp [eqCells] at h
        obtain ⟨k2, q, rfl⟩ : ∃ k2 q, y = .int k2 q := by cases y <;> first | exact ⟨_, _, rfl⟩ | simp [eqCells] at h
        simp only [eqCells] at h
        split at h <;> try (simp at h; done)
        rename_i hk
        subst hk
        have hx0 := hX 0 (by omega)
        have hy0 := hY 0 (by omega)
        simp at hx0 hy0
        have pX : (part e X (i * 1)).run P w = .ok (.int k1 p) w := by simp [part, isAgg, run_underlying he, hx0]
        have pY : (part e Y (i * 1)).run P w = .ok (.int k1 q) w := by simp [part, isAgg, run_underlying he, hy0]
        rw [show List.range' i (n + 1) = i :: List.range' (i + 1) n from rfl]
        simp only [Op.eqItems, Sem.run_bind, pX, pY, Result.andThen_ok, run_equalIn_int w d e k1 k p q he]
        split at h
        · rename_i hpq
          subst hpq
          simp only [beq_self_eq_true, Bool.not_true, Bool.false_eq_true, if_false]
          refine eqCells_run he d n r r' b (i + 1) X Y (by simpa using hx) h (fun j hj => ?_) (fun j hj => ?_)
          · have := hX (j + 1) (by omega)
            rw [show i + 1 + j = i + (j + 1) by omega, this]; simp
          · have := hY (j + 1) (by omega)
            rw [show i + 1 + j = i + (j + 1) by omega, this]; simp
        · rename_i hpq
          simp at h; subst h
          simp [show (p == q) = false by simpa using hpq]

theorem eqCells_rel : ∀ {x y x' y' : List Value} {b : Bool}, eqCells x y = some b → LRel ρ x x' → LRel ρ y y' → eqCells x' y' = some b
  | [], [], x', y', b, h, hx, hy => by
    have := hx.1; have := hy.1
    cases x' <;> cases y' <;> simp_all
  | [], _ :: _, _, _, _, h, _, _ => by simp [eqCells] at h
  | v :: _, [], _, _, _, h, _, _ => by cases v <;> simp [eqCells] at h
  | v :: x, u :: y, x', y', b, h, hx, hy => by
    have hl := hx.1; have hl' := hy.1
    cases x' with
    | nil => simp at hl
    | cons v' x' =>
      cases y' with
      | nil => simp at hl'
      | cons u' y' =>
        obtain ⟨h1, h2⟩ := hx.uncons
        obtain ⟨h3, h4⟩ := hy.uncons
        obtain ⟨k1, p, rfl⟩ : ∃ k1 p, v = .int k1 p := by cases v <;> first | exact ⟨_, _, rfl⟩ | simp [eqCells] at h
        obtain ⟨k2, q, rfl⟩ : ∃ k2 q, u = .int k2 q := by cases u <;> first | exact ⟨_, _, rfl⟩ | simp [eqCells] at h
        simp only [eqCells] at h
        obtain rfl := h1.int_inv
        obtain rfl := h3.int_inv
        split at h <;> try (simp at h; done)
        rename_i hk
        simp only [eqCells]
        rw [if_pos hk]
        split at h
        · rename_i hp
          rw [if_pos hp]
          exact eqCells_rel h h2 h4
        · rename_i hp
          rw [if_neg hp]
          exact h

end
end Go.AM
namespace Go.AM
set_option linter.unusedVariables false
set_option linter.unusedSimpArgs false

section
variable {P : Program} {G : Nat} {m : AMem} {ρ : Ren} {w : World}

def guardless : Value → Value → Bool
  | .nilIface, .nilIface => false
  | .agg _, .agg _ => false
  | _, _ => true

theorem ite_same {α : Sort _} {c : Prop} [Decidable c] {x y r : α} (hx : x = r) (hy : y = r) : (if c then x else y) = r := by split <;> assumption

theorem eqGuard_plain {op : BinOp} {xt : TypeId} {xo yo : Operand} {a b : Value} (h : guardless a b = true) : (eqGuard op xt xo yo a b).run P w = .ok () w := by
  unfold eqGuard
  rw [Sem.run_ite]
  refine ite_same rfl ?_
  split
  · simp [guardless] at h
  · simp [guardless] at h
  · rfl

theorem depth_two (P : Program) : ∃ d, P.depth = d + 1 + 1 := ⟨2 * (P.types.size + Made.depth), rfl⟩

theorem eqGuard_cells {op : BinOp} {xt e : TypeId} {n : Nat} {k : IntKind} {xo yo : Operand} {a b : Array Value} (hu : P.underlying xt = some (.array n e)) (he : P.underlying e = some (.int k)) :
    (eqGuard op xt xo yo (.agg a) (.agg b)).run P w = .ok () w := by
  obtain ⟨d, hd⟩ := depth_two P
  have : P.eqGuardType P.depth xt = false := by
    rw [hd]
    simp only [Program.eqGuardType, hu, he]
  unfold eqGuard
  rw [Sem.run_ite]
  refine ite_same rfl ?_
  simp only [Sem.run_bind, run_program, Result.andThen_ok, this, Bool.not_false, if_true, Sem.run_pure]

theorem eqGuard_nil {op : BinOp} {xt : TypeId} {xo yo : Operand} (h : (isNilC xo || isNilC yo) = true) :
    (eqGuard op xt xo yo .nilIface .nilIface).run P w = .ok () w := by
  unfold eqGuard
  rw [Sem.run_ite]
  refine ite_same rfl ?_
  have hh : (∃ v, xo = .const v) ∨ ∃ v, yo = .const v := by
    simp only [Bool.or_eq_true] at h
    rcases h with h | h
    · left; unfold isNilC at h; split at h <;> simp at h; exact ⟨_, rfl⟩
    · right; unfold isNilC at h; split at h <;> simp at h; exact ⟨_, rfl⟩
  rcases hh with ⟨v, rfl⟩ | ⟨v, rfl⟩
  · simp
  · cases xo <;> simp

theorem eqlRun {t : TypeId} {x y : Value} {b : Bool} (d : Nat) (hd : d = 9998) (h : (Op.equalIn (d + 1 + 1) t x y).run P w = .ok b w)
    (he : binOp .eql t x y = (do pure (.bool (← Op.equal t x y)))) (hn : binOp .neq t x y = (do pure (.bool (!(← Op.equal t x y))))) :
    (binOp .eql t x y).run P w = .ok (.bool b) w ∧ (binOp .neq t x y).run P w = .ok (.bool !b) w := by
  subst hd
  rw [he, hn]
  constructor <;> simp only [equal_unf, Sem.run_bind, h, Result.andThen_ok, Sem.run_pure]

theorem eq_ptr (d : Nat) {t e : TypeId} {s : Nat} (hu : P.underlying t = some (.pointer e)) (hs : szOf P e = some (s + 1)) {x y x' y' : Value} {b : Bool} (hx : VRel ρ x x') (hy : VRel ρ y y') (h : eqV .ptr x y = some b) :
    guardless x' y' = true ∧ (Op.equalIn (d + 1) t x' y').run P w = .ok b w ∧ binOp .eql t x' y' = (do pure (.bool (← Op.equal t x' y'))) ∧ binOp .neq t x' y' = (do pure (.bool (!(← Op.equal t x' y')))) := by
  have hsz := szOf_spec hs w
  cases x with
  | pointer a =>
    cases y with
    | pointer c =>
      cases a with
      | none =>
        simp [eqV] at h
        subst h
        cases hx
        cases hy <;> exact ⟨rfl, by simp [Op.equalIn, run_underlying hu], rfl, rfl⟩
      | some a =>
        cases c with
        | none =>
          simp [eqV] at h
          subst h
          cases hy
          cases hx
          exact ⟨rfl, by simp [Op.equalIn, run_underlying hu], rfl, rfl⟩
        | some c =>
          simp [eqV] at h
          obtain ⟨hbl, rfl⟩ := h
          cases hx with
          | @ptr b1 o1 L1 h1 =>
            cases hy with
            | @ptr b2 o2 L2 h2 =>
              simp at hbl
              subst hbl
              rw [h1] at h2
              cases h2
              refine ⟨rfl, ?_, rfl, rfl⟩
              simp only [Op.equalIn, Sem.run_bind, run_underlying hu, Result.andThen_ok, hsz]
              simp [sameAddr]
              by_cases ho : o1 = o2
              · subst ho; simp
              · have : (o1 == o2) = false := by simpa using ho
                rw [this]
                simp; omega
    | _ => simp [eqV] at h
  | _ => simp [eqV] at h

theorem eq_nilS (d : Nat) {t e : TypeId} (hu : P.underlying t = some (.slice e)) {x y x' y' : Value} {b : Bool} (hx : VRel ρ x x') (hy : VRel ρ y y') (h : eqV .nilS x y = some b) :
    guardless x' y' = true ∧ (Op.equalIn (d + 1) t x' y').run P w = .ok b w ∧ binOp .eql t x' y' = (do pure (.bool (← Op.equal t x' y'))) ∧ binOp .neq t x' y' = (do pure (.bool (!(← Op.equal t x' y')))) := by
  cases x <;> cases y <;> simp [eqV] at h
  rename_i a1 l1 c1 a2 l2 c2
  cases a1 with
  | none =>
    simp [eqV] at h; subst h
    cases hx
    cases hy <;> exact ⟨rfl, by simp [Op.equalIn, run_underlying hu], rfl, rfl⟩
  | some a1 =>
    cases a2 with
    | some _ => simp [eqV] at h
    | none =>
      simp [eqV] at h; subst h
      cases hy
      cases hx <;> exact ⟨rfl, by simp [Op.equalIn, run_underlying hu], rfl, rfl⟩

theorem eq_nilM (d : Nat) {t k e : TypeId} (hu : P.underlying t = some (.map k e)) {x y x' y' : Value} {b : Bool} (hx : VRel ρ x x') (hy : VRel ρ y y') (h : eqV .nilM x y = some b) :
    guardless x' y' = true ∧ (Op.equalIn (d + 1) t x' y').run P w = .ok b w ∧ binOp .eql t x' y' = (do pure (.bool (← Op.equal t x' y'))) ∧ binOp .neq t x' y' = (do pure (.bool (!(← Op.equal t x' y')))) := by
  cases x <;> cases y <;> simp [eqV] at h
  rename_i a1 a2
  cases a1 with
  | none =>
    simp [eqV] at h; subst h
    cases hx
    cases hy <;> exact ⟨rfl, by simp [Op.equalIn, run_underlying hu], rfl, rfl⟩
  | some a1 =>
    cases a2 with
    | some _ => simp [eqV] at h
    | none =>
      simp [eqV] at h; subst h
      cases hy
      cases hx
      exact ⟨rfl, by simp [Op.equalIn, run_underlying hu], rfl, rfl⟩

theorem eq_nilF (d : Nat) {t : TypeId} {p q : Array TypeId} {vr : Bool} (hu : P.underlying t = some (.func p q vr)) {x y x' y' : Value} {b : Bool} (hx : VRel ρ x x') (hy : VRel ρ y y') (h : eqV .nilF x y = some b) :
    guardless x' y' = true ∧ (Op.equalIn (d + 1) t x' y').run P w = .ok b w ∧ binOp .eql t x' y' = (do pure (.bool (← Op.equal t x' y'))) ∧ binOp .neq t x' y' = (do pure (.bool (!(← Op.equal t x' y')))) := by
  cases x <;> cases y <;> simp [eqV] at h
  · subst h
    cases hy
    cases hx <;> exact ⟨rfl, by simp [Op.equalIn, run_underlying hu], rfl, rfl⟩
  · subst h
    cases hx
    cases hy <;> exact ⟨rfl, by simp [Op.equalIn, run_underlying hu], rfl, rfl⟩
  · subst h
    cases hx
    cases hy
    exact ⟨rfl, by simp [Op.equalIn, run_underlying hu], rfl, rfl⟩

theorem eq_cells (d : Nat) {t e : TypeId} {n : Nat} {k : IntKind} (hu : P.underlying t = some (.array n e)) (he : P.underlying e = some (.int k)) (hs : szOf P e = some 1) {a c : Array Value} {x' y' : Value} {b : Bool}
    (hx : VRel ρ (.agg a) x') (hy : VRel ρ (.agg c) y') (h : eqV (.cells n) (.agg a) (.agg c) = some b) :
    ∃ a' c', x' = .agg a' ∧ y' = .agg c' ∧ (Op.equalIn (d + 1 + 1) t x' y').run P w = .ok b w := by
  obtain ⟨a', rfl, hA⟩ := hx.agg_inv
  obtain ⟨c', rfl, hC⟩ := hy.agg_inv
  refine ⟨a', c', rfl, rfl, ?_⟩
  simp only [eqV] at h
  split at h <;> try (simp at h; done)
  rename_i hn
  have h2 := eqCells_rel h hA.toList hC.toList
  unfold szOf at hs
  cases hi : P.info? e with
  | none => simp [hi] at hs
  | some i =>
    have hc1 : P.cellsOf e = 1 := by simp [Program.cellsOf, hi]; simpa [hi] using hs
    rw [run_equalIn_array w (d + 1) a' c' hu hi, hc1, List.range_eq_range']
    exact eqCells_run he d n a'.toList c'.toList b 0 a' c' (by have := hA.1; simp; omega) h2 (fun j _ => by simp) (fun j _ => by simp)

theorem eq_iface (d : Nat) {t : TypeId} {ms : Array (String × TypeId)} (hu : P.underlying t = some (.interface ms)) {x y x' y' : Value} {b : Bool} (hx : VRel ρ x x') (hy : VRel ρ y y') (h : eqV .iface x y = some b) :
    ((guardless x' y' = true) ∨ (x' = .nilIface ∧ y' = .nilIface)) ∧ (Op.equalIn (d + 1) t x' y').run P w = .ok b w ∧ binOp .eql t x' y' = (do pure (.bool (← Op.equal t x' y'))) ∧
      binOp .neq t x' y' = (do pure (.bool (!(← Op.equal t x' y')))) := by
  cases x with
  | nilIface =>
    cases y <;> simp [eqV] at h
    · subst h
      cases hx
      cases hy
      exact ⟨.inl rfl, by simp [Op.equalIn, run_underlying hu], rfl, rfl⟩
    · subst h
      cases hx
      cases hy
      exact ⟨.inr ⟨rfl, rfl⟩, by simp [Op.equalIn, run_underlying hu], rfl, rfl⟩
  | iface t v =>
    cases y <;> simp [eqV] at h
    subst h
    cases hx
    cases hy
    exact ⟨.inl rfl, by simp [Op.equalIn, run_underlying hu], rfl, rfl⟩
  | _ => simp [eqV] at h

end
end Go.AM
namespace Go.AM
set_option linter.unusedVariables false
set_option linter.unusedSimpArgs false

section
variable {P : Program} {G : Nat} {m : AMem} {ρ : Ren} {w : World}

theorem src_run (hR : Rep G m ρ w) {sz n : Nat} {v v' : Value} {cs : List Value} (hv : VRel ρ v v') (h : srcCells sz n v m = some cs) (hcs : cs.length = n * sz) (hone : cs.all oneCell = true) :
    ∃ cs', LRel ρ cs cs' ∧ (∀ u ∈ cs', u.oneCell' = true) ∧ ∀ k, (Builtin.firstCells sz n v').run P { w with drawn := k } = .ok cs'.toArray { w with drawn := k } := by
  have fin : ∀ cs', LRel ρ cs cs' → ∀ u ∈ cs', u.oneCell' = true := fun cs' hL u hu => by
    obtain ⟨i, hi, rfl⟩ := List.mem_iff_getElem.1 hu
    have := hL.2 i (by rw [hL.1]; exact hi) hi
    exact this.oneCell (List.all_eq_true.1 hone _ (List.getElem_mem _))
  unfold srcCells at h
  split at h <;> try (simp at h; done)
  · split at h <;> simp at h
    subst h
    cases hv
    exact ⟨[], LRel.nil ρ, by simp, fun k => by simp [Builtin.firstCells]⟩
  · rename_i _ b o l c
    split at h <;> try (simp at h; done)
    rename_i hnl
    have main : ∀ (L : Loc) (cap' : Nat), ρ b = some L → ∃ cs', LRel ρ cs cs' ∧ (∀ u ∈ cs', u.oneCell' = true) ∧
        ∀ k, (Builtin.firstCells sz n (.slice (some ⟨L.cb, L.co + o, none⟩) l cap')).run P { w with drawn := k } = .ok cs'.toArray { w with drawn := k } := by
      intro L cap' hL
      obtain ⟨cs', h1, h2, h3, h4⟩ := hR.rd hL h
      refine ⟨cs', h3, fin cs' h3, fun k => ?_⟩
      have := run_loadCells_list (P := P) { w with drawn := k } ⟨L.cb, L.co + o, none⟩ cs' (fun j v hj => h4 j v hj)
      rw [h1] at this
      simpa [Builtin.firstCells] using this
    cases hv with
    | slice hL _ => exact main _ _ hL
    | sliceOpen hL _ _ => exact main _ _ hL
    | sliceEnd hL _ =>
      have h0 : n * sz = 0 := by rw [show n = 0 by omega]; simp
      have : cs = [] := List.eq_nil_of_length_eq_zero (by rw [hcs, h0])
      subst this
      exact ⟨[], LRel.nil ρ, by simp, fun k => by simp [Builtin.firstCells, h0, loadCells, loadCellsFrom]⟩
  · split at h <;> simp at h
    rename_i _ s hcond
    obtain ⟨rfl, hn⟩ := hcond
    obtain rfl := hv.string_inv
    subst h
    have hL : LRel ρ ((s.data.toList.map byteV).take n) ((s.data.toList.map byteV).take n) := LRel.plain fun v hv => by
      obtain ⟨a, _, rfl⟩ := List.mem_map.1 (List.mem_of_mem_take hv)
      exact .int _ _
    refine ⟨_, hL, fin _ hL, fun k => ?_⟩
    simp only [Builtin.firstCells, Sem.run_pure]
    congr 1
    apply Array.ext'
    simp [List.map_take]
    rfl

def AppSrc (P : Program) (w : World) (u : TypeId) (sz bytes : Nat) (z : List Value) (x' : Value) (n : Nat) (news : List Value) : Prop :=
  (((∃ e', P.underlying u = some (.slice e')) ∨ P.underlying u = some .string) ∧ (Builtin.lenOf x').run P w = .ok n w ∧ ∀ k, (Builtin.firstCells sz n x').run P { w with drawn := k } = .ok news.toArray { w with drawn := k }) ∨
  (∃ k kk, P.underlying u = some (.int k) ∧ x' = .int kk (n : Int) ∧ news = rep z n ∧ n * bytes ≤ 281474976710656 ∧ n ≤ 9223372036854775807)

theorem zeroCells_rep (z : List Value) (n : Nat) : (Builtin.zeroCells z.toArray n).toList = rep z n := by
  unfold Builtin.zeroCells
  rcases Nat.eq_zero_or_pos z.length with h0 | h0
  · rw [List.size_toArray]
    exact range_rep z n (.inr (by simp [h0]))
  · rw [List.size_toArray]
    have := range_rep z n (.inl h0)
    rw [List.size_toArray] at this
    exact this

theorem wrap_nat {n : Nat} (h : n ≤ 9223372036854775807) : IntKind.i64.wrap (n : Int) = n := by
  simp [IntKind.wrap, IntKind.bits, IntKind.signed]; omega

theorem append_fit {t u ty e : TypeId} {sz bytes : Nat} {z : List Value} (hu : P.underlying t = some (.slice e)) (hs : szOf P e = some sz) (hby : byOf P e = some bytes) (hz : zeroOf P e = some z)
    {x' : Value} {n : Nat} {news : List Value} (hx : AppSrc P w u sz bytes z x' n news) {base : Option Addr} {l c : Nat} (hfit : l + n ≤ c) {w' : World}
    (hst : ∀ a, base = some a → (storeCells (a.add (l * sz)) news).run P w = .ok () w') (hno : base = none → w' = w) :
    (Builtin.append_ #[t, u] ty #[.slice base l c, x']).run P w = .ok (.slice base (l + n) c) w' := by
  obtain ⟨i, zv, hi, hzv, hcells, hzs, hpl⟩ := zeroOf_spec hz
  have hib : i.bytes = bytes := by unfold byOf at hby; simp [hi] at hby; exact hby
  have hsi : i.size = sz := by unfold szOf at hs; simp [hi] at hs; exact hs
  have hw0 : ({ w with drawn := w.drawn } : World) = w := rfl
  rcases hx with ⟨hd, hl, hA⟩ | ⟨k, kk, hd, rfl, rfl, hb1, hb2⟩
  · have hA0 := hA w.drawn
    rw [hw0] at hA0
    rcases hd with ⟨e', hd⟩ | hd
    all_goals
      cases base with
      | none => simp [Builtin.append_, run_underlying hu, run_underlying hd, szOf_spec hs, hl, hfit, hA0, hno rfl]
      | some a => simp [Builtin.append_, run_underlying hu, run_underlying hd, szOf_spec hs, hl, hfit, hA0, hst a rfl]
  · have hw := wrap_nat hb2
    have h48 : ¬ (281474976710656 < (n : Int) * (bytes : Int)) := by
      rw [← Int.natCast_mul]; omega
    have hneg : ¬ ((n : Int) < 0) := by omega
    by_cases h0 : n * sz = 0
    · have hn : rep z n = [] := List.eq_nil_of_length_eq_zero (by rw [rep_length, hzs, hsi, h0])
      rw [hn] at hst
      cases base with
      | none => simp [Builtin.append_, run_underlying hu, run_underlying hd, szOf_spec hs, asInt, asIntOf, hw, hneg, run_typeInfo w hi, hib, h48, hfit, h0, hno rfl]
      | some a => simp [Builtin.append_, run_underlying hu, run_underlying hd, szOf_spec hs, asInt, asIntOf, hw, hneg, run_typeInfo w hi, hib, h48, hfit, h0, hst a rfl]
    · cases base with
      | none => simp [Builtin.append_, run_underlying hu, run_underlying hd, szOf_spec hs, asInt, asIntOf, hw, hneg, run_typeInfo w hi, hib, h48, hfit, h0, zero_run hi hzv, hno rfl]
      | some a => simp [Builtin.append_, run_underlying hu, run_underlying hd, szOf_spec hs, asInt, asIntOf, hw, hneg, run_typeInfo w hi, hib, h48, hfit, h0, zero_run hi hzv, hcells, zeroCells_rep, hst a rfl]

theorem append_grow {t u ty e : TypeId} {sz bytes : Nat} {z : List Value} (hu : P.underlying t = some (.slice e)) (hs : szOf P e = some sz) (hby : byOf P e = some bytes) (hb0 : 0 < bytes) (hz : zeroOf P e = some z)
    {x' : Value} {n : Nat} {news : List Value} (hx : AppSrc P w u sz bytes z x' n news) {base : Option Addr} {l c : Nat} (hg : c < l + n) (hsz : 2 * (l + n) * bytes ≤ 281474976710656) {olds : List Value}
    (hO : ∀ k, (Builtin.firstCells sz l (.slice base l c)).run P { w with drawn := k } = .ok olds.toArray { w with drawn := k }) :
    ∃ cap, l + n ≤ cap ∧ (Builtin.append_ #[t, u] ty #[.slice base l c, x']).run P w = .ok (.slice (some ⟨w.heap.size, 0, none⟩) (l + n) cap)
      { w with drawn := w.drawn + 1, heap := w.heap.push (.cells ((olds ++ news).toArray ++ (rep z (cap - (l + n))).toArray) e (0, 0)) } := by
  obtain ⟨i, zv, hi, hzv, hcells, hzs, hpl⟩ := zeroOf_spec hz
  have hib : i.bytes = bytes := by unfold byOf at hby; simp [hi] at hby; exact hby
  have hsi : i.size = sz := by unfold szOf at hs; simp [hi] at hs; exact hs
  have hnf : ¬ (l + n ≤ c) := by omega
  have hcap48 : ¬ (281474976710656 < Builtin.nextslicecap (l + n) c * bytes) := by
    have := Nat.mul_le_mul_right bytes (nextslicecap_le hg)
    omega
  have hbne : bytes ≠ 0 := by omega
  have hbig : l + n ≤ 9223372036854775807 := by
    have : 2 * (l + n) * 1 ≤ 2 * (l + n) * bytes := Nat.mul_le_mul_left _ hb0
    omega
  let cap := (Question.appendCap (l + n) c e).cut (w.tape w.drawn (.appendCap (l + n) c e))
  refine ⟨cap, by simp [cap, Question.cut], ?_⟩
  have hO1 := hO (w.drawn + 1)
  have hO2 : (Builtin.firstCells sz l (.slice base l c)).run P w.drew = .ok olds.toArray w.drew := hO1
  have hzc : (Builtin.zeroCells z.toArray (cap - (l + n))) = (rep z (cap - (l + n))).toArray := by
    apply Array.ext'
    rw [zeroCells_rep]
  have hgoal : ({ w with drawn := w.drawn + 1, heap := w.heap.push (.cells ((olds ++ news).toArray ++ (rep z (cap - (l + n))).toArray) e (0, 0)) } : World) =
      w.drew.alloc (.cells (olds.toArray ++ news.toArray ++ (Builtin.zeroCells z.toArray (cap - (l + n)))) e) := by
    have hAr : (olds ++ news).toArray ++ (rep z (cap - (l + n))).toArray = olds.toArray ++ news.toArray ++ (Builtin.zeroCells z.toArray (cap - (l + n))) := by rw [hzc]; simp
    rw [hAr]; rfl
  rw [hgoal]
  rcases hx with ⟨hd, hl, hA⟩ | ⟨k, kk, hd, rfl, rfl, hb1, hb2⟩
  · have hA1 : (Builtin.firstCells sz n x').run P w.drew = .ok news.toArray w.drew := hA (w.drawn + 1)
    rcases hd with ⟨e', hd⟩ | hd
    all_goals
      simp [Builtin.append_, run_underlying hu, run_underlying hd, szOf_spec hs, hl, hnf, run_typeInfo _ hi, hib, hbne, hcap48, Question.forced, zero_run hi hzv, hcells, hO2, hA1, newRow]
      refine ⟨rfl, ?_⟩
      first | rfl | (refine congrArg (fun A => w.drew.alloc (.cells A e)) ?_; apply Array.ext'; simp; done) | (refine congrArg (fun A => w.drew.alloc (.cells A e)) ?_; apply Array.ext'; simp; rfl)
  · have hw := wrap_nat hb2
    have h48 : ¬ (281474976710656 < (n : Int) * (bytes : Int)) := by
      rw [← Int.natCast_mul]; omega
    have hneg : ¬ ((n : Int) < 0) := by omega
    have hbig' : ¬ (9223372036854775807 < (l : Int) + (n : Int)) := by omega
    by_cases h0 : n * sz = 0
    · have hn : rep z n = [] := List.eq_nil_of_length_eq_zero (by rw [rep_length, hzs, hsi, h0])
      simp [Builtin.append_, run_underlying hu, run_underlying hd, szOf_spec hs, asInt, asIntOf, hw, hneg, hnf, run_typeInfo _ hi, hib, h48, hbne, hcap48, hbig', h0, Question.forced, zero_run hi hzv, hcells, hO2, newRow, hn]
      refine ⟨rfl, ?_⟩
      first | rfl | (refine congrArg (fun A => w.drew.alloc (.cells A e)) ?_; apply Array.ext'; simp; done) | (refine congrArg (fun A => w.drew.alloc (.cells A e)) ?_; apply Array.ext'; simp; rfl)
    · have hzn : Builtin.zeroCells z.toArray n = (rep z n).toArray := by
        apply Array.ext'
        rw [zeroCells_rep]
      simp [Builtin.append_, run_underlying hu, run_underlying hd, szOf_spec hs, asInt, asIntOf, hw, hneg, hnf, run_typeInfo _ hi, hib, h48, hbne, hcap48, hbig', h0, Question.forced, zero_run hi hzv, hcells, hO2, newRow, hzn]
      refine ⟨rfl, ?_⟩
      first | rfl | (refine congrArg (fun A => w.drew.alloc (.cells A e)) ?_; apply Array.ext'; simp; done) | (refine congrArg (fun A => w.drew.alloc (.cells A e)) ?_; apply Array.ext'; simp; rfl)

end
end Go.AM
