/-
  The operations of the abstract machine, and what each makes of an operation of the model.
-/
import Derived.Test.YtidngakhkpodgaaAmCore
set_option linter.unusedVariables false
set_option linter.unusedSimpArgs false
set_option linter.unnecessarySimpa false
namespace Go.AM

abbrev Tmps := Nat → Value

def upd (t : Tmps) (d : Nat) (v : Value) : Tmps := fun i => if i = d then v else t i
def updO (t : Tmps) (d : Option Nat) (v : Value) : Tmps := match d with | some d => upd t d v | none => t

inductive AOpd where
  | t (i : Nat)
  | c (v : Value)
  deriving Inhabited

def AOpd.ev (x : AOpd) (t : Tmps) : Value := match x with | .t i => t i | .c v => v

/-- How two values are held against each other. -/
inductive EqTy where
  | bool | ptr | nilS | nilM | nilF | cells (n : Nat) | iface
  deriving DecidableEq, Inhabited

inductive AOp where
  | mov (x : AOpd)
  | pick (c a b : AOpd)
  | new (e : TypeId) (z : List Value)
  | box (e : TypeId) (x : AOpd)
  | bld (z : List Value) (ps : List (Nat × Nat × AOpd))
  | bldSl (e : TypeId) (len : Nat) (z : List Value) (ps : List (Nat × Nat × AOpd))
  | ld1 (a : AOpd)
  | ldn (n : Nat) (a : AOpd)
  | st (n : Nat) (a x : AOpd)
  | nchk (x : AOpd)
  | bin (op : BinOp) (x y : AOpd)
  | eql (neg : Bool) (k : EqTy) (x y : AOpd)
  | un (op : UnOp) (x : AOpd)
  | cvt (k : IntKind) (x : AOpd)
  | idc (x : AOpd)
  | s2b (e : TypeId) (x : AOpd)
  | b2s (x : AOpd)
  | mkI (t : TypeId) (x : AOpd)
  | mkF (f : FuncId) (first captured : List AOpd)
  | mkM
  | mkSl (e : TypeId) (sz : Nat) (z : List Value) (bytes : Nat) (l c : AOpd)
  | slS (x : AOpd) (lo hi : Option AOpd)
  | slV (sz : Nat) (x : AOpd) (lo hi mx : Option AOpd)
  | slA (n sz : Nat) (x : AOpd) (lo hi mx : Option AOpd)
  | fad (off : Nat) (x : AOpd)
  | fld (off sz : Nat) (agg : Bool) (x : AOpd)
  | iadA (len sz : Nat) (x i : AOpd)
  | iadV (sz : Nat) (x i : AOpd)
  | ixA (len sz : Nat) (agg : Bool) (x i : AOpd)
  | ixS (x i : AOpd)
  | ext (i : Nat) (x : AOpd)
  | arrAt (n : Nat) (x : AOpd)
  | rng (x : AOpd)
  | nxt (x : AOpd)
  | lenS (x : AOpd)
  | lenV (x : AOpd)
  | lenN (n : Nat)
  | app (e : TypeId) (sz bytes : Nat) (z : List Value) (x y : AOpd)
  | appN (e : TypeId) (sz bytes : Nat) (z : List Value) (x y : AOpd)
  | cpy (sz : Nat) (x y : AOpd)
  | mnx (mx : Bool) (x : AOpd) (xs : List AOpd)
  | clr (sz : Nat) (z : List Value) (x : AOpd)
  | toU (x : AOpd)
  | frU (u : TypeId) (s : Nat) (x : AOpd)
  | sdat (x : AOpd)
  | ustr (u : TypeId) (x n : AOpd)
  deriving Inhabited

/-! ### Pure parts -/

def ibits (op : BinOp) (k : IntKind) (x y : Int) : Int :=
  let a := BitVec.ofInt k.bits x
  let b := BitVec.ofInt k.bits y
  k.wrap (match op with
    | .and => (a &&& b).toNat
    | .or => (a ||| b).toNat
    | .xor => (a ^^^ b).toNat
    | _ => (a &&& ~~~b).toNat)

def ibin (op : BinOp) (k : IntKind) (x y : Int) : Option Value :=
  match op with
  | .add => some (.int k (k.wrap (x + y)))
  | .sub => some (.int k (k.wrap (x - y)))
  | .mul => some (.int k (k.wrap (x * y)))
  | .quo => if y = 0 then none else some (.int k (k.wrap (x.tdiv y)))
  | .rem => if y = 0 then none else some (.int k (x.tmod y))
  | .and => some (.int k (ibits .and k x y))
  | .or => some (.int k (ibits .or k x y))
  | .xor => some (.int k (ibits .xor k x y))
  | .andNot => some (.int k (ibits .andNot k x y))
  | .eql => some (.bool (x == y))
  | .neq => some (.bool (x != y))
  | .lss => some (.bool (decide (x < y)))
  | .leq => some (.bool (decide (x ≤ y)))
  | .gtr => some (.bool (decide (x > y)))
  | .geq => some (.bool (decide (x ≥ y)))
  | _ => none

def shl (k : IntKind) (x y : Int) : Int := k.wrap (x * 2 ^ (min y.toNat k.bits))
def shr (k : IntKind) (x y : Int) : Int := x.fdiv (2 ^ (min y.toNat k.bits))

def strEq (x y : ByteArray) : Bool := x.toList == y.toList
def strLt (x y : ByteArray) : Bool := Op.bytesLess x.toList y.toList

def sbin (op : BinOp) (x y : ByteArray) : Option Value :=
  match op with
  | .add => if x.size + y.size ≤ 9223372036854775807 then some (.string (x ++ y)) else none
  | .eql => some (.bool (strEq x y))
  | .neq => some (.bool (!strEq x y))
  | .lss => some (.bool (strLt x y))
  | .leq => some (.bool (strLt x y || strEq x y))
  | .gtr => some (.bool (!(strLt x y || strEq x y)))
  | .geq => some (.bool (!strLt x y))
  | _ => none

def binV (op : BinOp) (x y : Value) : Option Value :=
  match x, y with
  | .int k a, .int k' b =>
    match op with
    | .shl => if 0 ≤ b then some (.int k (shl k a b)) else none
    | .shr => if 0 ≤ b then some (.int k (shr k a b)) else none
    | _ => if k = k' then ibin op k a b else none
  | .string a, .string b => sbin op a b
  | _, _ => none

/-- Rows of whole numbers, texts, bools, one by one. -/
def eqCells : List Value → List Value → Option Bool
  | [], [] => some true
  | .int k a :: x, .int k' b :: y => if k = k' then (if a = b then eqCells x y else some false) else none
  | _, _ => none

def eqV (k : EqTy) (x y : Value) : Option Bool :=
  match k, x, y with
  | .bool, .bool a, .bool b => some (a == b)
  | .ptr, .pointer none, .pointer b => some b.isNone
  | .ptr, .pointer _, .pointer none => some false
  | .ptr, .pointer (some a), .pointer (some b) => if a.block = b.block then some (a.off == b.off) else none
  | .nilS, .slice none _ _, .slice b _ _ => some b.isNone
  | .nilS, .slice _ _ _, .slice none _ _ => some false
  | .nilM, .map none, .map b => some b.isNone
  | .nilM, .map _, .map none => some false
  | .nilF, .nilFunc, .nilFunc => some true
  | .nilF, .nilFunc, .func _ _ _ => some false
  | .nilF, .func _ _ _, .nilFunc => some false
  | .cells n, .agg a, .agg b => if a.size = n then eqCells a.toList b.toList else none
  | .iface, .nilIface, .iface _ _ => some false
  | .iface, .iface _ _, .nilIface => some false
  | .iface, .nilIface, .nilIface => some true
  | _, _, _ => none

def unV (op : UnOp) (x : Value) : Option Value :=
  match op, x with
  | .neg, .int k n => some (.int k (k.wrap (0 - n)))
  | .xor, .int k n => some (.int k (ibits .xor k (if k.signed then -1 else k.max) n))
  | .not, .bool b => some (.bool !b)
  | _, _ => none

/-! ### Memory -/

/-- Of how many cells is an element? (0: not told.) -/
def Spare.size : Spare → Nat
  | .exact => 0
  | .room z => z.length
  | .full k => k

def rd (m : AMem) (b o n : Nat) : Option (List Value) :=
  match m.get b with
  | .cells c _ _ _ => if o + n ≤ c.length then some ((c.drop o).take n) else none
  | _ => none

/-- Cells of a row, others put in their place from o on. -/
def splice (c : List Value) (o : Nat) (v : List Value) : List Value := c.take o ++ v ++ c.drop (o + v.length)

def wr (m : AMem) (b o : Nat) (v : List Value) : Option AMem :=
  match m.get b with
  | .cells c e true sp => if o + v.length ≤ c.length then some (m.set b (.cells (splice c o v) e true sp)) else none
  | _ => none

def oneCell (v : Value) : Bool := match v with | .agg _ | .tuple _ => false | _ => true

/-- A value's cells: each one cell. -/
def cellsOf (v : Value) : Option (List Value) :=
  match v with
  | .agg c => if c.toList.all oneCell then some c.toList else none
  | .tuple _ => none
  | v => some [v]

def fill (z : List Value) : List (Nat × Nat × Value) → Option (List Value)
  | [] => some z
  | (off, size, v) :: rest =>
    match cellsOf v with
    | none => none
    | some c => if c.length = size ∧ off + size ≤ z.length then fill (splice z off c) rest else none

def addr (v : Value) : Option (Nat × Nat) := match v with | .pointer (some ⟨b, o, none⟩) => some (b, o) | _ => none

def bnd (x : Option AOpd) (t : Tmps) (d : Nat) : Option Int :=
  match x with
  | none => some d
  | some x => match x.ev t with | .int _ i => some i | _ => none

/-- A byte as a cell. -/
def byteV (b : UInt8) : Value := .int .u8 b.toNat

/-- The cells of what is appended or copied. -/
def srcCells (sz n : Nat) (v : Value) (m : AMem) : Option (List Value) :=
  match v with
  | .slice none _ _ => if n = 0 then some [] else none
  | .slice (some ⟨b, o, none⟩) l _ => if n ≤ l then rd m b o (n * sz) else none
  | .string s => if sz = 1 ∧ n ≤ s.size then some ((s.data.toList.map byteV).take n) else none
  | _ => none

def srcLen (v : Value) : Option Nat := match v with | .slice _ n _ => some n | .string s => some s.size | _ => none

/-- Two simple values, held against each other. -/
def eqP : Value → Value → Bool
  | .bool a, .bool b => a == b
  | .int k a, .int k' b => decide (k = k') && a == b
  | .string a, .string b => decide (a = b)
  | .pointer none, .pointer none => true
  | .slice none a b, .slice none c d => a == c && b == d
  | .map none, .map none => true
  | .nilFunc, .nilFunc => true
  | .nilIface, .nilIface => true
  | _, _ => false

def eqPL : List Value → List Value → Bool
  | [], [] => true
  | a :: x, b :: y => eqP a b && eqPL x y
  | _, _ => false

theorem eqP_eq {a b : Value} (h : eqP a b = true) : a = b := by
  unfold eqP at h
  split at h <;> simp_all

theorem eqPL_eq : ∀ {x y : List Value}, eqPL x y = true → x = y
  | [], [], _ => rfl
  | a :: x, b :: y, h => by
    simp [eqPL] at h
    rw [eqP_eq h.1, eqPL_eq h.2]
  | [], _ :: _, h => by simp [eqPL] at h
  | _ :: _, [], h => by simp [eqPL] at h

/-- Cells 'news' (n elements) behind those of a slice. -/
def appendTo (e : TypeId) (sz bytes : Nat) (z : List Value) (s : Value) (n : Nat) (news : List Value) (m : AMem) : Option (Value × AMem) :=
  match s with
  | .slice none l c =>
    if l = 0 ∧ c = 0 then
      if n = 0 then some (s, m)
      else if 2 * n * bytes ≤ 281474976710656 ∧ n ≤ 9223372036854775807 then some (.slice (some ⟨m.size, 0, none⟩) n openCap, m.push (.cells news e true (.room z)))
      else none
    else none
  | .slice (some ⟨b, o, none⟩) l c =>
    if c = openCap then
      match m.get b with
      | .cells x e' w sp =>
        if sp.size = sz then
          if o + (l + n) * sz ≤ x.length then
            if n = 0 then some (s, m)
            else if w = true then some (.slice (some ⟨b, o, none⟩) (l + n) openCap, m.set b (.cells (splice x (o + l * sz) news) e' w sp)) else none
          else if o + l * sz ≤ x.length ∧ 2 * (l + n) * bytes ≤ 281474976710656 ∧ l + n ≤ 9223372036854775807 then
            match sp with
            | .room z' => if w = true ∧ o % sz = 0 ∧ e = e' ∧ eqPL z' z = true then
                some (.slice (some ⟨m.size, 0, none⟩) (l + n) openCap, (m.set b .dead).push (.cells ((x.drop o).take (l * sz) ++ news) e true (.room z))) else none
            | _ => some (.slice (some ⟨m.size, 0, none⟩) (l + n) openCap, m.push (.cells ((x.drop o).take (l * sz) ++ news) e true (.room z)))
          else none
        else none
      | _ => none
    else if l + n ≤ c then
      if n = 0 then some (s, m)
      else match wr m b (o + l * sz) news with
        | some m' => some (.slice (some ⟨b, o, none⟩) (l + n) c, m')
        | none => none
    else match rd m b o (l * sz) with
      | some olds =>
        if 2 * (l + n) * bytes ≤ 281474976710656 ∧ l + n ≤ 9223372036854775807 then
          some (.slice (some ⟨m.size, 0, none⟩) (l + n) openCap, m.push (.cells (olds ++ news) e true (.room z)))
        else none
      | none => none
  | _ => none

def byteOf (v : Value) : Option UInt8 := match v with | .int .u8 n => some (UInt8.ofNat n.toNat) | _ => none

def mnxs (mx : Bool) (a : Value) : List Value → Option Value
  | [] => some a
  | b :: rest => match a, b with
    | .int k p, .int k' q => if k = k' then mnxs mx (.int k (if mx then (if q > p then q else p) else (if q < p then q else p))) rest else none
    | _, _ => none

def rep (z : List Value) (n : Nat) : List Value := (List.replicate n z).flatten

/-- x[lo:hi:mx] of something of len and cap elements: (lo, hi, mx). Open: the capacity is not known. -/
def cut (len cap : Nat) (lo hi mx : Option AOpd) (t : Tmps) : Option (Nat × Nat × Nat) :=
  match bnd mx t cap, bnd hi t len, bnd lo t 0 with
  | some m, some h, some l => if 0 ≤ l ∧ l ≤ h ∧ h ≤ m ∧ m ≤ cap then some (l.toNat, h.toNat, m.toNat) else none
  | _, _, _ => none

def stepOp (op : AOp) (t : Tmps) (m : AMem) : Option (Value × AMem) :=
  match op with
  | .mov x => some (x.ev t, m)
  | .pick c a b => match c.ev t with | .bool c => some (if c then a.ev t else b.ev t, m) | _ => none
  | .new e z => some (.pointer (some ⟨m.size, 0, none⟩), m.push (.cells z e true .exact))
  | .box e x => match cellsOf (x.ev t) with
    | some c => some (.pointer (some ⟨m.size, 0, none⟩), m.push (.cells c e true .exact))
    | none => none
  | .bld z ps => match fill z (ps.map fun p => (p.1, p.2.1, p.2.2.ev t)) with
    | some c => some (.agg c.toArray, m)
    | none => none
  | .bldSl e len z ps => match fill z (ps.map fun p => (p.1, p.2.1, p.2.2.ev t)) with
    | some c => some (.slice (some ⟨m.size, 0, none⟩) len len, m.push (.cells c e true .exact))
    | none => none
  | .ld1 a => match addr (a.ev t) with
    | some (b, o) => match rd m b o 1 with
      | some [v] => some (v, m)
      | _ => none
    | none => none
  | .ldn n a => match addr (a.ev t) with
    | some (b, o) => match rd m b o n with
      | some c => some (.agg c.toArray, m)
      | none => none
    | none => none
  | .st n a x => match addr (a.ev t), cellsOf (x.ev t) with
    | some (b, o), some c => if c.length = n then (wr m b o c).map fun m' => (undef, m') else none
    | _, _ => none
  | .nchk x => match x.ev t with
    | .pointer none | .nilIface | .nilFunc => none
    | .func _ _ _ => none
    | v => some (v, m)
  | .bin op x y => (binV op (x.ev t) (y.ev t)).map fun v => (v, m)
  | .eql neg k x y => (eqV k (x.ev t) (y.ev t)).map fun b => (.bool (if neg then !b else b), m)
  | .un op x => (unV op (x.ev t)).map fun v => (v, m)
  | .cvt k x => match x.ev t with | .int _ n => some (.int k (k.wrap n), m) | _ => none
  | .idc x => match x.ev t with | .string s => some (.string s, m) | _ => none
  | .s2b e x => match x.ev t with
    | .string s => if s.size ≤ 9223372036854775807 then some (.slice (some ⟨m.size, 0, none⟩) s.size openCap, m.push (.cells (s.data.toList.map byteV) e true (.room [.int .u8 0]))) else none
    | _ => none
  | .b2s x => match x.ev t with
    | .slice none _ _ => some (.string .empty, m)
    | .slice (some ⟨b, o, none⟩) l _ => match rd m b o l with
      | some c => (c.mapM byteOf).map fun l => (.string ⟨l.toArray⟩, m)
      | none => none
    | _ => none
  | .mkI T x => some (.iface T (x.ev t), m)
  | .mkF f first captured => some (.func (.func f) (first.map (·.ev t)).toArray (captured.map (·.ev t)).toArray, m)
  | .mkM => some (.map (some m.size), m.push (.map #[] 0))
  | .mkSl e sz z bytes l c => match l.ev t, c.ev t with
    | .int _ l, .int _ c => if 0 ≤ l ∧ l ≤ c ∧ bytes * c ≤ 281474976710656 ∧ c ≤ 281474976710656 ∧ z.length = sz then
        some (.slice (some ⟨m.size, 0, none⟩) l.toNat c.toNat, m.push (.cells (rep z c.toNat) e true .exact)) else none
    | _, _ => none
  | .slS x lo hi => match x.ev t with
    | .string s => match cut s.size s.size lo hi none t with
      | some (l, h, _) => some (.string (s.extract l h), m)
      | none => none
    | _ => none
  | .slV sz x lo hi mx => match x.ev t with
    | .slice a l c =>
      if c = openCap then
        match a with
        | some ⟨b, o, none⟩ => match m.get b with
          | .cells x _ _ sp =>
            if sp.size = sz ∧ l ≤ (x.length - o) / sz then
              match cut l ((x.length - o) / sz) lo hi mx t with
              | some (i, h, k) =>
                match mx with
                | none => some (.slice (some ⟨b, o + i * sz, none⟩) (h - i) openCap, m)
                | some _ => if k ≤ 9223372036854775807 then some (.slice (some ⟨b, if k = i then o else o + i * sz, none⟩) (h - i) (k - i), m) else none
              | none => none
            else none
          | _ => none
        | _ => none
      else match cut l c lo hi mx t with
        | some (i, h, k) => match a with
          | none => some (.slice none (h - i) (k - i), m)
          | some ⟨b, o, none⟩ => some (.slice (some ⟨b, if k = i then o else o + i * sz, none⟩) (h - i) (k - i), m)
          | _ => none
        | none => none
    | _ => none
  | .slA n sz x lo hi mx => match addr (x.ev t) with
    | some (b, o) => match cut n n lo hi mx t with
      | some (i, h, k) => some (.slice (some ⟨b, if k = i then o else o + i * sz, none⟩) (h - i) (k - i), m)
      | none => none
    | none => none
  | .fad off x => match addr (x.ev t) with
    | some (b, o) => some (.pointer (some ⟨b, o + off, none⟩), m)
    | none => none
  | .fld off sz agg x => match x.ev t with
    | .agg c => if agg then some (.agg (c.extract off (off + sz)), m) else (c[off]?).map fun v => (v, m)
    | _ => none
  | .iadA len sz x i => match addr (x.ev t), i.ev t with
    | some (b, o), .int _ i => if 0 ≤ i ∧ i < len then some (.pointer (some ⟨b, o + i.toNat * sz, none⟩), m) else none
    | _, _ => none
  | .iadV sz x i => match x.ev t, i.ev t with
    | .slice (some ⟨b, o, none⟩) len _, .int _ i => if 0 ≤ i ∧ i < len then some (.pointer (some ⟨b, o + i.toNat * sz, none⟩), m) else none
    | _, _ => none
  | .ixA len sz agg x i => match x.ev t, i.ev t with
    | .agg c, .int _ i => if 0 ≤ i ∧ i < len then
        if agg then some (.agg (c.extract (i.toNat * sz) (i.toNat * sz + sz)), m) else (c[i.toNat * sz]?).map fun v => (v, m) else none
    | _, _ => none
  | .ixS x i => match x.ev t, i.ev t with
    | .string s, .int _ i => if 0 ≤ i then (s[i.toNat]?).map fun b => (.int .u8 b.toNat, m) else none
    | _, _ => none
  | .ext i x => match x.ev t with | .tuple v => (v[i]?).map fun v => (v, m) | _ => none
  | .arrAt n x => match x.ev t with
    | .slice (some ⟨b, o, none⟩) l _ => if n ≤ l then some (.pointer (some ⟨b, o, none⟩), m) else none
    | _ => none
  | .rng x => match x.ev t with
    | .string s => some (.pointer (some ⟨m.size, 0, none⟩), m.push (.iter s 0))
    | _ => none
  | .nxt x => match x.ev t with
    | .pointer (some ⟨r, 0, none⟩) => match m.get r with
      | .iter s pos => if pos < s.size then
          some (.tuple #[.bool true, .int .i64 pos, .int .i32 (Utf8.decode s pos).1], m.set r (.iter s (pos + (Utf8.decode s pos).2)))
        else some (.tuple #[.bool false], m)
      | _ => none
    | _ => none
  | .lenS x => match x.ev t with | .string s => some (.int .i64 s.size, m) | _ => none
  | .lenV x => match x.ev t with | .slice _ n _ => some (.int .i64 n, m) | _ => none
  | .lenN n => some (.int .i64 n, m)
  | .app e sz bytes z x y => match srcLen (y.ev t) with
    | some n => match srcCells sz n (y.ev t) m with
      | some news => if z.length = sz ∧ 0 < sz ∧ news.all oneCell = true ∧ news.length = n * sz then appendTo e sz bytes z (x.ev t) n news m else none
      | none => none
    | none => none
  | .appN e sz bytes z x y => match y.ev t with
    | .int _ n => if 0 ≤ n ∧ n * bytes ≤ 281474976710656 ∧ n ≤ 9223372036854775807 ∧ z.length = sz ∧ 0 < sz then appendTo e sz bytes z (x.ev t) n.toNat (rep z n.toNat) m else none
    | _ => none
  | .cpy sz x y => match x.ev t, srcLen (y.ev t) with
    | .slice a dl _, some n => match srcCells sz (min n dl) (y.ev t) m with
      | some c => if c.length = min n dl * sz ∧ c.all oneCell = true then
          match a with
          | none => if min n dl = 0 then some (.int .i64 0, m) else none
          | some ⟨b, o, none⟩ => if min n dl = 0 then some (.int .i64 0, m) else (wr m b o c).map fun m' => (.int .i64 (min n dl : Nat), m')
          | _ => none
        else none
      | none => none
    | _, _ => none
  | .mnx mx x xs => (mnxs mx (x.ev t) (xs.map (·.ev t))).map fun v => (v, m)
  | .clr sz z x => match x.ev t with
    | .slice none _ _ => some (.tuple #[], m)
    | .slice (some ⟨b, o, none⟩) n _ => if n = 0 then some (.tuple #[], m) else if z.length = sz then (wr m b o (rep z n)).map fun m' => (.tuple #[], m') else none
    | _ => none
  | .toU x => match x.ev t with
    | .pointer none => some (.pointer none, m)
    | .pointer (some ⟨b, o, none⟩) => match m.get b with
      | .cells c _ _ _ => if o < c.length then some (.pointer (some ⟨b, o, none⟩), m) else none
      | _ => none
    | _ => none
  | .frU u s x => match x.ev t with
    | .pointer none => some (.pointer none, m)
    | .pointer (some ⟨b, o, none⟩) => match m.get b with
      | .cells c e _ .exact => if o = 0 ∧ e = u ∧ s ≤ c.length then some (.pointer (some ⟨b, o, none⟩), m) else none
      | _ => none
    | _ => none
  | .sdat x => match x.ev t with
    | .slice none _ _ => some (.pointer none, m)
    | .slice (some ⟨b, o, none⟩) l c =>
      if l = 0 then none
      else if c = openCap then
        match m.get b with
        | .cells x _ _ _ => if o < x.length then some (.pointer (some ⟨b, o, none⟩), m) else none
        | _ => none
      else if 0 < c then some (.pointer (some ⟨b, o, none⟩), m) else none
    | _ => none
  | .ustr u x n => match x.ev t, n.ev t with
    | .pointer none, .int .i64 n => if n = 0 then some (.string .empty, m) else none
    | .pointer (some ⟨b, o, none⟩), .int .i64 n => if 0 < n ∧ n ≤ 9223372036854775807 then
        match m.get b with
        | .cells c e true sp => if e = u ∧ o + n.toNat ≤ c.length then
            ((((c.drop o).take n.toNat).mapM byteOf)).map fun l => (.string ⟨l.toArray⟩, m.set b (.cells c e false sp)) else none
        | _ => none
      else none
    | _, _ => none

end Go.AM
