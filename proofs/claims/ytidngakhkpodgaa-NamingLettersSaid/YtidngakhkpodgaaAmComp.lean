/-
  From the model's operations to those of the abstract machine.
-/
import Derived.Test.YtidngakhkpodgaaAmStep1
set_option linter.unusedVariables false
set_option linter.unusedSimpArgs false
set_option linter.unnecessarySimpa false
namespace Go.AM
set_option linter.unusedVariables false

def plainB : Value → Bool
  | .bool _ | .int _ _ | .string _ | .pointer none | .slice none _ _ | .map none | .nilFunc | .nilIface => true
  | .func (.func _) x y => x.size == 0 && y.size == 0
  | _ => false

/-- Plain, and of one cell each; or a row of such. -/
def plainB2 : Value → Bool
  | .agg c => c.toList.all plainB
  | .iface _ v => plainB v
  | v => plainB v

theorem plain_of {v : Value} (h : plainB v = true) : Plain v := by
  unfold plainB at h
  split at h <;> try (simp at h; done)
  · exact .bool _
  · exact .int _ _
  · exact .string _
  · exact .nilPtr
  · exact .nilSlice _ _
  · exact .nilMap
  · exact .nilFunc
  · exact .nilIface
  · rename_i f x y
    simp at h
    obtain ⟨rfl, rfl⟩ := h
    exact .func f

theorem plain_of2 {v : Value} (h : plainB2 v = true) : Plain v := by
  unfold plainB2 at h
  split at h
  · rename_i c
    refine .agg fun v hv => plain_of (List.all_eq_true.1 h v (by simpa using hv))
  · exact .iface (plain_of h)
  · exact plain_of h

theorem oneCell_of {v : Value} (h : plainB v = true) : oneCell v = true := by
  unfold plainB at h
  split at h <;> first | (simp at h; done) | rfl

def compOpd (G : Nat) : Operand → Option AOpd
  | .tmp t => some (.t t)
  | .const v => if plainB2 v then some (.c v) else none
  | .global g => if g < G then some (.c (.pointer (some ⟨g, 0, none⟩))) else none
  | .func f => some (.c (.func (.func f) #[] #[]))

def compOpdO (G : Nat) : Option Operand → Option (Option AOpd)
  | none => some none
  | some x => (compOpd G x).map some

def compOpds (G : Nat) : List Operand → Option (List AOpd)
  | [] => some []
  | x :: r => match compOpd G x, compOpds G r with | some a, some b => some (a :: b) | _, _ => none

/-- A value of a type with nothing in it, as cells: each plain, of one cell. -/
def zeroOf (P : Program) (t : TypeId) : Option (List Value) :=
  match P.info? t with
  | some i => match i.zero with
    | some z => if z.cells.toList.all plainB && z.cells.size == i.size then some z.cells.toList else none
    | none => none
  | none => none

def szOf (P : Program) (t : TypeId) : Option Nat := (P.info? t).map (·.size)
def byOf (P : Program) (t : TypeId) : Option Nat := (P.info? t).map (·.bytes)

def aggB : TypeDesc → Bool
  | .struct _ | .array _ _ => true
  | _ => false

/-- Where the parts of an aggregate lie. -/
def placesOf (P : Program) (t : TypeId) : Option (Nat → Option (Nat × Nat)) :=
  match P.underlying t with
  | some (.struct fs) => match fs.toList.mapM fun f => (szOf P f.type).map fun s => (f.offset, s) with
    | some l => some fun i => l[i]?
    | none => none
  | some (.array _ e) => (szOf P e).map fun s i => some (i * s, s)
  | _ => none

def compParts (G : Nat) (place : Nat → Option (Nat × Nat)) : List (Nat × Operand) → Option (List (Nat × Nat × AOpd))
  | [] => some []
  | (i, x) :: r => match place i, compOpd G x, compParts G place r with
    | some (o, s), some a, some b => some ((o, s, a) :: b)
    | _, _, _ => none

def intB (P : Program) (t : TypeId) : Option IntKind := match P.underlying t with | some (.int k) => some k | _ => none

def isNilC : Operand → Bool
  | .const .nilIface => true
  | _ => false

def eqTyOf (P : Program) (t : TypeId) (x y : Operand) : Option EqTy :=
  match P.underlying t with
  | some .bool => some .bool
  | some (.pointer e) => match szOf P e with | some (_ + 1) => some .ptr | _ => none
  | some (.slice _) => some .nilS
  | some (.map _ _) => some .nilM
  | some (.func _ _ _) => some .nilF
  | some (.array n e) => if (intB P e).isSome ∧ szOf P e = some 1 then some (.cells n) else none
  | some (.interface _) => if isNilC x || isNilC y then some .iface else none
  | _ => none

def compBuiltin (P : Program) (G : Nat) (b : Builtin) (tys : List TypeId) (args : List Operand) : Option AOp :=
  match b, tys, args with
  | .len, [t], [x] => match P.underlying t with
    | some .string => (compOpd G x).map .lenS
    | some (.slice _) => (compOpd G x).map .lenV
    | some (.array n _) => some (.lenN n)
    | some (.pointer a) => match P.underlying a with | some (.array n _) => some (.lenN n) | _ => none
    | _ => none
  | .append, [t, u], [x, y] => match P.underlying t, P.underlying u with
    | some (.slice e), some (.slice _) | some (.slice e), some .string => match szOf P e, byOf P e, zeroOf P e, compOpd G x, compOpd G y with
      | some sz, some by_, some z, some x, some y => if 0 < by_ then some (.app e sz by_ z x y) else none
      | _, _, _, _, _ => none
    | some (.slice e), some (.int _) => match szOf P e, byOf P e, zeroOf P e, compOpd G x, compOpd G y with
      | some sz, some by_, some z, some x, some y => if 0 < by_ then some (.appN e sz by_ z x y) else none
      | _, _, _, _, _ => none
    | _, _ => none
  | .copy, [t, _], [x, y] => match P.underlying t with
    | some (.slice e) => match szOf P e, compOpd G x, compOpd G y with
      | some sz, some x, some y => some (.cpy sz x y)
      | _, _, _ => none
    | _ => none
  | .unsafeSliceData, [_], [x] => (compOpd G x).map .sdat
  | .unsafeString, [pt, _], [p, n] => match P.underlying pt, compOpd G p, compOpd G n with
    | some (.pointer e), some p, some n => if szOf P e = some 1 then some (.ustr e p n) else none
    | _, _, _ => none
  | .min, _, x :: xs => match compOpd G x, compOpds G xs with | some x, some xs => some (.mnx false x xs) | _, _ => none
  | .max, _, x :: xs => match compOpd G x, compOpds G xs with | some x, some xs => some (.mnx true x xs) | _, _ => none
  | .clear, [t], [x] => match P.underlying t with
    | some (.slice e) => match szOf P e, zeroOf P e, compOpd G x with
      | some sz, some z, some x => if z.length = sz then some (.clr sz z x) else none
      | _, _, _ => none
    | _ => none
  | _, _, _ => none

def compOp (P : Program) (G : Nat) (o : Oper) : Option AOp :=
  match o.op with
  | .move x | .assign x => (compOpd G x).map .mov
  | .pick c a b => match compOpd G c, compOpd G a, compOpd G b with | some c, some a, some b => some (.pick c a b) | _, _, _ => none
  | .alloc e => (zeroOf P e).map (.new e)
  | .box e x => (compOpd G x).map (.box e)
  | .build t ps => match placesOf P t, zeroOf P t with
    | some pl, some z => (compParts G pl ps.toList).map (.bld z)
    | _, _ => none
  | .buildSlice t len ps => match P.underlying t with
    | some (.slice e) => match szOf P e, zeroOf P e with
      | some s, some z => if len * s ≤ 16777216 ∧ len ≤ 16777216 ∧ z.length = s then (compParts G (fun i => some (i * s, s)) ps.toList).map (.bldSl e len (rep z len)) else none
      | _, _ => none
    | _ => none
  | .load t a => match P.underlying t, szOf P t, compOpd G a with
    | some d, some n, some a => if aggB d then some (.ldn n a) else some (.ld1 a)
    | _, _, _ => none
  | .store t a x => match szOf P t, compOpd G a, compOpd G x, o.dst with
    | some n, some a, some x, none => some (.st n a x)
    | _, _, _, _ => none
  | .nilCheck x => (compOpd G x).map .nchk
  | .binOp op xt x y _ => match compOpd G x, compOpd G y with
    | some a, some b =>
      match op, P.underlying xt with
      | .eql, some (.int _) | .eql, some .string | .neq, some (.int _) | .neq, some .string => some (.bin op a b)
      | .eql, _ => (eqTyOf P xt x y).map fun k => .eql false k a b
      | .neq, _ => (eqTyOf P xt x y).map fun k => .eql true k a b
      | _, _ => some (.bin op a b)
    | _, _ => none
  | .unOp op _ x => (compOpd G x).map (.un op)
  | .convert s d x => match P.underlying s, P.underlying d, compOpd G x with
    | some (.int _), some (.int k), some x => some (.cvt k x)
    | some .string, some .string, some x => some (.idc x)
    | some .string, some (.slice e), some x => if intB P e = some .u8 then some (.s2b e x) else none
    | some (.slice e), some .string, some x => if intB P e = some .u8 then some (.b2s x) else none
    | some (.pointer e), some .unsafePointer, some x => match szOf P e with | some (_ + 1) => some (.toU x) | _ => none
    | some .unsafePointer, some (.pointer u), some x => match szOf P u with | some (k + 1) => some (.frU u (k + 1) x) | _ => none
    | _, _, _ => none
  | .sliceToArrayPointer t x => match P.underlying t with | some (.array n _) => if 0 < n then (compOpd G x).map (.arrAt n) else none | _ => none
  | .makeInterface t x => match P.underlying t with | some (.interface _) => none | some _ => (compOpd G x).map (.mkI t) | none => none
  | .makeFunc (.func f) first captured => match compOpds G first.toList, compOpds G captured.toList with | some a, some b => some (.mkF f a b) | _, _ => none
  | .makeMap _ none => some .mkM
  | .makeSlice t l c => match P.underlying t with
    | some (.slice e) => match szOf P e, byOf P e, zeroOf P e, compOpd G l, compOpd G c with
      | some s, some b, some z, some l, some c => if 0 < s then some (.mkSl e s z b l c) else none
      | _, _, _, _, _ => none
    | _ => none
  | .slice t x lo hi mx => match compOpd G x, compOpdO G lo, compOpdO G hi, compOpdO G mx with
    | some x, some lo, some hi, some mx => match P.underlying t with
      | some .string => if mx.isNone then some (.slS x lo hi) else none
      | some (.slice e) => match szOf P e with | some s => if 0 < s ∧ (mx.isNone ∨ hi.isSome) then some (.slV s x lo hi mx) else none | none => none
      | some (.array n e) => match szOf P e with | some s => if (mx.isNone ∨ hi.isSome) ∧ n ≤ 9223372036854775807 then some (.slA n s x lo hi mx) else none | none => none
      | _ => none
    | _, _, _, _ => none
  | .fieldAddr t x f => match P.underlying t with
    | some (.struct fs) => match fs[f]? with
      | some f => match szOf P f.type with | some (_ + 1) => (compOpd G x).map (.fad f.offset) | _ => none
      | none => none
    | _ => none
  | .field t x f => match P.underlying t with
    | some (.struct fs) => match fs[f]? with
      | some f => match P.underlying f.type, szOf P f.type with | some d, some s => (compOpd G x).map (.fld f.offset s (aggB d)) | _, _ => none
      | none => none
    | _ => none
  | .indexAddr t x i => match compOpd G x, compOpd G i, P.underlying t with
    | some x, some i, some (.array n e) => (szOf P e).map fun s => .iadA n s x i
    | some x, some i, some (.slice e) => (szOf P e).map fun s => .iadV s x i
    | _, _, _ => none
  | .index t x i => match compOpd G x, compOpd G i, P.underlying t with
    | some x, some i, some (.array n e) => match szOf P e, P.underlying e with | some s, some d => some (.ixA n s (aggB d) x i) | _, _ => none
    | some x, some i, some .string => some (.ixS x i)
    | _, _, _ => none
  | .extract x i => (compOpd G x).map (.ext i)
  | .range t x => match P.underlying t with | some .string => (compOpd G x).map .rng | _ => none
  | .next x true => (compOpd G x).map .nxt
  | .call { callee := .builtin b, args, argTypes } => compBuiltin P G b argTypes.toList args.toList
  | _ => none

end Go.AM
