/-
  The operations, one lemma each; printed by wip/tools/mkstep.py from AmOps.lean.
-/
import Derived.Test.YtidngakhkpodgaaAmRun
set_option linter.unusedVariables false
set_option linter.unusedSimpArgs false
set_option linter.unnecessarySimpa false
namespace Go.AM
set_option linter.unusedVariables false
theorem stepOp_mov (t : Tmps) (m : AMem) (x : AOpd) : stepOp (.mov x) t m = (some (x.ev t, m)) := (rfl)
theorem stepOp_pick (t : Tmps) (m : AMem) (c : AOpd) (a : AOpd) (b : AOpd) : stepOp (.pick c a b) t m = (match c.ev t with | .bool c => some (if c then a.ev t else b.ev t, m) | _ => none) := (rfl)
theorem stepOp_new (t : Tmps) (m : AMem) (e : TypeId) (z : List Value) : stepOp (.new e z) t m = (some (.pointer (some ⟨m.size, 0, none⟩), m.push (.cells z e true .exact))) := (rfl)
theorem stepOp_box (t : Tmps) (m : AMem) (e : TypeId) (x : AOpd) : stepOp (.box e x) t m = (match cellsOf (x.ev t) with
    | some c => some (.pointer (some ⟨m.size, 0, none⟩), m.push (.cells c e true .exact))
    | none => none) := (rfl)
theorem stepOp_bld (t : Tmps) (m : AMem) (z : List Value) (ps : List (Nat × Nat × AOpd)) : stepOp (.bld z ps) t m = (match fill z (ps.map fun p => (p.1, p.2.1, p.2.2.ev t)) with
    | some c => some (.agg c.toArray, m)
    | none => none) := (rfl)
theorem stepOp_bldSl (t : Tmps) (m : AMem) (e : TypeId) (len : Nat) (z : List Value) (ps : List (Nat × Nat × AOpd)) : stepOp (.bldSl e len z ps) t m = (match fill z (ps.map fun p => (p.1, p.2.1, p.2.2.ev t)) with
    | some c => some (.slice (some ⟨m.size, 0, none⟩) len len, m.push (.cells c e true .exact))
    | none => none) := (rfl)
theorem stepOp_ld1 (t : Tmps) (m : AMem) (a : AOpd) : stepOp (.ld1 a) t m = (match addr (a.ev t) with
    | some (b, o) => match rd m b o 1 with
      | some [v] => some (v, m)
      | _ => none
    | none => none) := (rfl)
theorem stepOp_ldn (t : Tmps) (m : AMem) (n : Nat) (a : AOpd) : stepOp (.ldn n a) t m = (match addr (a.ev t) with
    | some (b, o) => match rd m b o n with
      | some c => some (.agg c.toArray, m)
      | none => none
    | none => none) := (rfl)
theorem stepOp_st (t : Tmps) (m : AMem) (n : Nat) (a : AOpd) (x : AOpd) : stepOp (.st n a x) t m = (match addr (a.ev t), cellsOf (x.ev t) with
    | some (b, o), some c => if c.length = n then (wr m b o c).map fun m' => (undef, m') else none
    | _, _ => none) := (rfl)
theorem stepOp_nchk (t : Tmps) (m : AMem) (x : AOpd) : stepOp (.nchk x) t m = (match x.ev t with
    | .pointer none | .nilIface | .nilFunc => none
    | .func _ _ _ => none
    | v => some (v, m)) := (rfl)
theorem stepOp_bin (t : Tmps) (m : AMem) (op : BinOp) (x : AOpd) (y : AOpd) : stepOp (.bin op x y) t m = ((binV op (x.ev t) (y.ev t)).map fun v => (v, m)) := (rfl)
theorem stepOp_eql (t : Tmps) (m : AMem) (neg : Bool) (k : EqTy) (x : AOpd) (y : AOpd) : stepOp (.eql neg k x y) t m = ((eqV k (x.ev t) (y.ev t)).map fun b => (.bool (if neg then !b else b), m)) := (rfl)
theorem stepOp_un (t : Tmps) (m : AMem) (op : UnOp) (x : AOpd) : stepOp (.un op x) t m = ((unV op (x.ev t)).map fun v => (v, m)) := (rfl)
theorem stepOp_cvt (t : Tmps) (m : AMem) (k : IntKind) (x : AOpd) : stepOp (.cvt k x) t m = (match x.ev t with | .int _ n => some (.int k (k.wrap n), m) | _ => none) := (rfl)
theorem stepOp_idc (t : Tmps) (m : AMem) (x : AOpd) : stepOp (.idc x) t m = (match x.ev t with | .string s => some (.string s, m) | _ => none) := (rfl)
theorem stepOp_s2b (t : Tmps) (m : AMem) (e : TypeId) (x : AOpd) : stepOp (.s2b e x) t m = (match x.ev t with
    | .string s => if s.size ≤ 9223372036854775807 then some (.slice (some ⟨m.size, 0, none⟩) s.size openCap, m.push (.cells (s.data.toList.map byteV) e true (.room [.int .u8 0]))) else none
    | _ => none) := (rfl)
theorem stepOp_b2s (t : Tmps) (m : AMem) (x : AOpd) : stepOp (.b2s x) t m = (match x.ev t with
    | .slice none _ _ => some (.string .empty, m)
    | .slice (some ⟨b, o, none⟩) l _ => match rd m b o l with
      | some c => (c.mapM byteOf).map fun l => (.string ⟨l.toArray⟩, m)
      | none => none
    | _ => none) := (rfl)
theorem stepOp_mkI (t : Tmps) (m : AMem) (T : TypeId) (x : AOpd) : stepOp (.mkI T x) t m = (some (.iface T (x.ev t), m)) := (rfl)
theorem stepOp_mkF (t : Tmps) (m : AMem) (f : FuncId) (first : List AOpd) (captured : List AOpd) : stepOp (.mkF f first captured) t m = (some (.func (.func f) (first.map (·.ev t)).toArray (captured.map (·.ev t)).toArray, m)) := (rfl)
theorem stepOp_mkM (t : Tmps) (m : AMem)  : stepOp (.mkM ) t m = (some (.map (some m.size), m.push (.map #[] 0))) := (rfl)
theorem stepOp_mkSl (t : Tmps) (m : AMem) (e : TypeId) (sz : Nat) (z : List Value) (bytes : Nat) (l : AOpd) (c : AOpd) : stepOp (.mkSl e sz z bytes l c) t m = (match l.ev t, c.ev t with
    | .int _ l, .int _ c => if 0 ≤ l ∧ l ≤ c ∧ bytes * c ≤ 281474976710656 ∧ c ≤ 281474976710656 ∧ z.length = sz then
        some (.slice (some ⟨m.size, 0, none⟩) l.toNat c.toNat, m.push (.cells (rep z c.toNat) e true .exact)) else none
    | _, _ => none) := (rfl)
theorem stepOp_slS (t : Tmps) (m : AMem) (x : AOpd) (lo : Option AOpd) (hi : Option AOpd) : stepOp (.slS x lo hi) t m = (match x.ev t with
    | .string s => match cut s.size s.size lo hi none t with
      | some (l, h, _) => some (.string (s.extract l h), m)
      | none => none
    | _ => none) := (rfl)
theorem stepOp_slV (t : Tmps) (m : AMem) (sz : Nat) (x : AOpd) (lo : Option AOpd) (hi : Option AOpd) (mx : Option AOpd) : stepOp (.slV sz x lo hi mx) t m = (match x.ev t with
    | .slice a l c =>
      if c = openCap then
        match a with
        | some ⟨b, o, none⟩ => match m.get b with
          | .cells x _ _ sp =>
            if sp.size = sz ∧ l ≤ (x.length - o) / sz then
              match cut l ((x.length - o) / sz) lo hi mx t with
              | some (i, h, k) =>
                match mx with
                | none => some (.slice (some ⟨b, o + i * sz, none⟩) (h - i) openCap, m)
                | some _ => if k ≤ 9223372036854775807 then some (.slice (some ⟨b, if k = i then o else o + i * sz, none⟩) (h - i) (k - i), m) else none
              | none => none
            else none
          | _ => none
        | _ => none
      else match cut l c lo hi mx t with
        | some (i, h, k) => match a with
          | none => some (.slice none (h - i) (k - i), m)
          | some ⟨b, o, none⟩ => some (.slice (some ⟨b, if k = i then o else o + i * sz, none⟩) (h - i) (k - i), m)
          | _ => none
        | none => none
    | _ => none) := (rfl)
theorem stepOp_slA (t : Tmps) (m : AMem) (n : Nat) (sz : Nat) (x : AOpd) (lo : Option AOpd) (hi : Option AOpd) (mx : Option AOpd) : stepOp (.slA n sz x lo hi mx) t m = (match addr (x.ev t) with
    | some (b, o) => match cut n n lo hi mx t with
      | some (i, h, k) => some (.slice (some ⟨b, if k = i then o else o + i * sz, none⟩) (h - i) (k - i), m)
      | none => none
    | none => none) := (rfl)
theorem stepOp_fad (t : Tmps) (m : AMem) (off : Nat) (x : AOpd) : stepOp (.fad off x) t m = (match addr (x.ev t) with
    | some (b, o) => some (.pointer (some ⟨b, o + off, none⟩), m)
    | none => none) := (rfl)
theorem stepOp_fld (t : Tmps) (m : AMem) (off : Nat) (sz : Nat) (agg : Bool) (x : AOpd) : stepOp (.fld off sz agg x) t m = (match x.ev t with
    | .agg c => if agg then some (.agg (c.extract off (off + sz)), m) else (c[off]?).map fun v => (v, m)
    | _ => none) := (rfl)
theorem stepOp_iadA (t : Tmps) (m : AMem) (len : Nat) (sz : Nat) (x : AOpd) (i : AOpd) : stepOp (.iadA len sz x i) t m = (match addr (x.ev t), i.ev t with
    | some (b, o), .int _ i => if 0 ≤ i ∧ i < len then some (.pointer (some ⟨b, o + i.toNat * sz, none⟩), m) else none
    | _, _ => none) := (rfl)
theorem stepOp_iadV (t : Tmps) (m : AMem) (sz : Nat) (x : AOpd) (i : AOpd) : stepOp (.iadV sz x i) t m = (match x.ev t, i.ev t with
    | .slice (some ⟨b, o, none⟩) len _, .int _ i => if 0 ≤ i ∧ i < len then some (.pointer (some ⟨b, o + i.toNat * sz, none⟩), m) else none
    | _, _ => none) := (rfl)
theorem stepOp_ixA (t : Tmps) (m : AMem) (len : Nat) (sz : Nat) (agg : Bool) (x : AOpd) (i : AOpd) : stepOp (.ixA len sz agg x i) t m = (match x.ev t, i.ev t with
    | .agg c, .int _ i => if 0 ≤ i ∧ i < len then
        if agg then some (.agg (c.extract (i.toNat * sz) (i.toNat * sz + sz)), m) else (c[i.toNat * sz]?).map fun v => (v, m) else none
    | _, _ => none) := (rfl)
theorem stepOp_ixS (t : Tmps) (m : AMem) (x : AOpd) (i : AOpd) : stepOp (.ixS x i) t m = (match x.ev t, i.ev t with
    | .string s, .int _ i => if 0 ≤ i then (s[i.toNat]?).map fun b => (.int .u8 b.toNat, m) else none
    | _, _ => none) := (rfl)
theorem stepOp_ext (t : Tmps) (m : AMem) (i : Nat) (x : AOpd) : stepOp (.ext i x) t m = (match x.ev t with | .tuple v => (v[i]?).map fun v => (v, m) | _ => none) := (rfl)
theorem stepOp_arrAt (t : Tmps) (m : AMem) (n : Nat) (x : AOpd) : stepOp (.arrAt n x) t m = (match x.ev t with
    | .slice (some ⟨b, o, none⟩) l _ => if n ≤ l then some (.pointer (some ⟨b, o, none⟩), m) else none
    | _ => none) := (rfl)
theorem stepOp_rng (t : Tmps) (m : AMem) (x : AOpd) : stepOp (.rng x) t m = (match x.ev t with
    | .string s => some (.pointer (some ⟨m.size, 0, none⟩), m.push (.iter s 0))
    | _ => none) := (rfl)
theorem stepOp_nxt (t : Tmps) (m : AMem) (x : AOpd) : stepOp (.nxt x) t m = (match x.ev t with
    | .pointer (some ⟨r, 0, none⟩) => match m.get r with
      | .iter s pos => if pos < s.size then
          some (.tuple #[.bool true, .int .i64 pos, .int .i32 (Utf8.decode s pos).1], m.set r (.iter s (pos + (Utf8.decode s pos).2)))
        else some (.tuple #[.bool false], m)
      | _ => none
    | _ => none) := (rfl)
theorem stepOp_lenS (t : Tmps) (m : AMem) (x : AOpd) : stepOp (.lenS x) t m = (match x.ev t with | .string s => some (.int .i64 s.size, m) | _ => none) := (rfl)
theorem stepOp_lenV (t : Tmps) (m : AMem) (x : AOpd) : stepOp (.lenV x) t m = (match x.ev t with | .slice _ n _ => some (.int .i64 n, m) | _ => none) := (rfl)
theorem stepOp_lenN (t : Tmps) (m : AMem) (n : Nat) : stepOp (.lenN n) t m = (some (.int .i64 n, m)) := (rfl)
theorem stepOp_app (t : Tmps) (m : AMem) (e : TypeId) (sz : Nat) (bytes : Nat) (z : List Value) (x : AOpd) (y : AOpd) : stepOp (.app e sz bytes z x y) t m = (match srcLen (y.ev t) with
    | some n => match srcCells sz n (y.ev t) m with
      | some news => if z.length = sz ∧ 0 < sz ∧ news.all oneCell = true ∧ news.length = n * sz then appendTo e sz bytes z (x.ev t) n news m else none
      | none => none
    | none => none) := (rfl)
theorem stepOp_appN (t : Tmps) (m : AMem) (e : TypeId) (sz : Nat) (bytes : Nat) (z : List Value) (x : AOpd) (y : AOpd) : stepOp (.appN e sz bytes z x y) t m = (match y.ev t with
    | .int _ n => if 0 ≤ n ∧ n * bytes ≤ 281474976710656 ∧ n ≤ 9223372036854775807 ∧ z.length = sz ∧ 0 < sz then appendTo e sz bytes z (x.ev t) n.toNat (rep z n.toNat) m else none
    | _ => none) := (rfl)
theorem stepOp_cpy (t : Tmps) (m : AMem) (sz : Nat) (x : AOpd) (y : AOpd) : stepOp (.cpy sz x y) t m = (match x.ev t, srcLen (y.ev t) with
    | .slice a dl _, some n => match srcCells sz (min n dl) (y.ev t) m with
      | some c => if c.length = min n dl * sz ∧ c.all oneCell = true then
          match a with
          | none => if min n dl = 0 then some (.int .i64 0, m) else none
          | some ⟨b, o, none⟩ => if min n dl = 0 then some (.int .i64 0, m) else (wr m b o c).map fun m' => (.int .i64 (min n dl : Nat), m')
          | _ => none
        else none
      | none => none
    | _, _ => none) := (rfl)
theorem stepOp_mnx (t : Tmps) (m : AMem) (mx : Bool) (x : AOpd) (xs : List AOpd) : stepOp (.mnx mx x xs) t m = ((mnxs mx (x.ev t) (xs.map (·.ev t))).map fun v => (v, m)) := (rfl)
theorem stepOp_clr (t : Tmps) (m : AMem) (sz : Nat) (z : List Value) (x : AOpd) : stepOp (.clr sz z x) t m = (match x.ev t with
    | .slice none _ _ => some (.tuple #[], m)
    | .slice (some ⟨b, o, none⟩) n _ => if n = 0 then some (.tuple #[], m) else if z.length = sz then (wr m b o (rep z n)).map fun m' => (.tuple #[], m') else none
    | _ => none) := (rfl)
theorem stepOp_toU (t : Tmps) (m : AMem) (x : AOpd) : stepOp (.toU x) t m = (match x.ev t with
    | .pointer none => some (.pointer none, m)
    | .pointer (some ⟨b, o, none⟩) => match m.get b with
      | .cells c _ _ _ => if o < c.length then some (.pointer (some ⟨b, o, none⟩), m) else none
      | _ => none
    | _ => none) := (rfl)
theorem stepOp_frU (t : Tmps) (m : AMem) (u : TypeId) (s : Nat) (x : AOpd) : stepOp (.frU u s x) t m = (match x.ev t with
    | .pointer none => some (.pointer none, m)
    | .pointer (some ⟨b, o, none⟩) => match m.get b with
      | .cells c e _ .exact => if o = 0 ∧ e = u ∧ s ≤ c.length then some (.pointer (some ⟨b, o, none⟩), m) else none
      | _ => none
    | _ => none) := (rfl)
theorem stepOp_sdat (t : Tmps) (m : AMem) (x : AOpd) : stepOp (.sdat x) t m = (match x.ev t with
    | .slice none _ _ => some (.pointer none, m)
    | .slice (some ⟨b, o, none⟩) l c =>
      if l = 0 then none
      else if c = openCap then
        match m.get b with
        | .cells x _ _ _ => if o < x.length then some (.pointer (some ⟨b, o, none⟩), m) else none
        | _ => none
      else if 0 < c then some (.pointer (some ⟨b, o, none⟩), m) else none
    | _ => none) := (rfl)
theorem stepOp_ustr (t : Tmps) (m : AMem) (u : TypeId) (x : AOpd) (n : AOpd) : stepOp (.ustr u x n) t m = (match x.ev t, n.ev t with
    | .pointer none, .int .i64 n => if n = 0 then some (.string .empty, m) else none
    | .pointer (some ⟨b, o, none⟩), .int .i64 n => if 0 < n ∧ n ≤ 9223372036854775807 then
        match m.get b with
        | .cells c e true sp => if e = u ∧ o + n.toNat ≤ c.length then
            ((((c.drop o).take n.toNat).mapM byteOf)).map fun l => (.string ⟨l.toArray⟩, m.set b (.cells c e false sp)) else none
        | _ => none
      else none
    | _, _ => none) := (rfl)
end Go.AM
