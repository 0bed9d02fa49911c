/-
  Reading and writing, by the block that is meant.
-/
import Derived.Test.YtgkmlbkocgjmmaaDoorA3
import Derived.MakeChecks
import Derived.OpenShut
import Derived.LaidLaws
import Derived.ChangeSlices
import Derived.Deep.Slices
set_option linter.unusedVariables false
set_option linter.unusedSimpArgs false
set_option linter.unnecessarySimpa false
namespace Go.AM
set_option linter.unusedVariables false

def cutL (c : List Value) (o n : Nat) : Option (List Value) := if o + n ≤ c.length then some ((c.drop o).take n) else none
def rdO (b : AObj) (o n : Nat) : Option (List Value) := match b with | .cells c _ _ _ => cutL c o n | _ => none
def wrO (m : AMem) (b o : Nat) (v : List Value) (x : AObj) : Option AMem := match x with
  | .cells c e true sp => if o + v.length ≤ c.length then some (m.set b (.cells (splice c o v) e true sp)) else none
  | _ => none
theorem rd_def (m : AMem) (b o n : Nat) : rd m b o n = rdO (m.get b) o n := by
  unfold rd rdO cutL; cases m.get b <;> rfl
theorem wr_def (m : AMem) (b o : Nat) (v : List Value) : wr m b o v = wrO m b o v (m.get b) := by
  unfold wr wrO
  cases m.get b with
  | cells c e w sp => cases w <;> rfl
  | _ => rfl
theorem rdO_cells (c : List Value) (e : TypeId) (w : Bool) (sp : Spare) (o n : Nat) : rdO (.cells c e w sp) o n = cutL c o n := (rfl)
theorem wrO_cells {m : AMem} {b o : Nat} {v c : List Value} {e : TypeId} {sp : Spare} (h : o + v.length ≤ c.length) : wrO m b o v (.cells c e true sp) = some (m.set b (.cells (splice c o v) e true sp)) := by
  simp [wrO, h]
theorem cutL_one (c : List Value) (o : Nat) : cutL c o 1 = (c[o]?).map ([·]) := by
  unfold cutL
  split
  · rename_i hl
    rw [List.getElem?_eq_getElem (by omega), List.drop_eq_getElem_cons (show o < c.length by omega)]
    rfl
  · rename_i hl
    rw [List.getElem?_eq_none (by omega)]; rfl
theorem cutL_all {c : List Value} {n : Nat} (h : c.length = n) : cutL c 0 n = some c := by subst h; simp [cutL]
theorem splice_all {c v : List Value} (h : v.length = c.length) : splice c 0 v = v := by simp [splice, h]
theorem splice_one {c : List Value} {o : Nat} {v : Value} (h : o < c.length) : splice c o [v] = c.set o v := by
  rw [splice, List.set_eq_take_append_cons_drop, if_pos h]; simp
theorem bytes_get {l : List UInt8} {i : Nat} (h : i < l.length) : (l.map byteV)[i]? = some (byteV l[i]) := by simp [h]
theorem map_set_byte (l : List UInt8) (i : Nat) (b : UInt8) : (l.map byteV).set i (byteV b) = (l.set i b).map byteV := by simp [List.map_set]
theorem cutL_bytes {l : List UInt8} {o n : Nat} (h : o + n ≤ l.length) : cutL (l.map byteV) o n = some (((l.drop o).take n).map byteV) := by
  simp [cutL, h, List.map_take, List.map_drop]
theorem arr1_0 (a : Value) : #[a][0]? = some a := rfl
theorem arr2_0 (a b : Value) : #[a, b][0]? = some a := rfl
theorem arr2_1 (a b : Value) : #[a, b][1]? = some b := rfl
theorem arr3_0 (a b c : Value) : #[a, b, c][0]? = some a := rfl
theorem arr3_1 (a b c : Value) : #[a, b, c][1]? = some b := rfl
theorem arr3_2 (a b c : Value) : #[a, b, c][2]? = some c := rfl
theorem arr4_0 (a b c d : Value) : #[a, b, c, d][0]? = some a := rfl
theorem arr4_1 (a b c d : Value) : #[a, b, c, d][1]? = some b := rfl
theorem arr4_2 (a b c d : Value) : #[a, b, c, d][2]? = some c := rfl
theorem arr4_3 (a b c d : Value) : #[a, b, c, d][3]? = some d := rfl
theorem strEq_self (s : ByteArray) : strEq s s = true := by simp [strEq]
theorem mk_size (l : List UInt8) : (⟨l.toArray⟩ : ByteArray).size = l.length := by
  show l.toArray.size = _
  simp
theorem mk_get {l : List UInt8} {i : Nat} (h : i < l.length) : (⟨l.toArray⟩ : ByteArray)[i]? = some l[i] := by
  have hs : i < (⟨l.toArray⟩ : ByteArray).size := by rw [mk_size]; exact h
  rw [getElem?_pos (⟨l.toArray⟩ : ByteArray) i hs]
  rfl
theorem mk_extract (l : List UInt8) (a b : Nat) : (⟨l.toArray⟩ : ByteArray).extract a b = ⟨((l.take b).drop a).toArray⟩ := by
  apply ByteArray.ext
  simp [List.extract_eq_take_drop, List.drop_take]
theorem mk_app (a b : List UInt8) : (⟨a.toArray⟩ : ByteArray) ++ ⟨b.toArray⟩ = ⟨(a ++ b).toArray⟩ := by
  apply ByteArray.ext
  simp
theorem mk_data (l : List UInt8) : (⟨l.toArray⟩ : ByteArray).data.toList = l := by simp
theorem strEq_mk (a b : List UInt8) : strEq ⟨a.toArray⟩ ⟨b.toArray⟩ = decide (a = b) := by
  have h : ∀ l : List UInt8, (⟨l.toArray⟩ : ByteArray).toList = l := fun l => by simp
  simp only [strEq, h]
  by_cases e : a = b
  · subst e; simp
  · simp [e]
theorem mapM_byteOf (l : List UInt8) : (l.map byteV).mapM byteOf = some l := map_ofNat_byteOf l
theorem firstIdx_iff (l : List UInt8) (c : UInt8) (n : Nat) : firstIdx ⟨l.toArray⟩ c = (n : Int) ↔ l[n]? = some c ∧ ∀ j, j < n → l[j]? ≠ some c := by
  have hp : ∀ i, i < l.length → (((⟨l.toArray⟩ : ByteArray)[i]! == c) = true ↔ l[i]? = some c) := fun i hi => by
    have hs : i < (⟨l.toArray⟩ : ByteArray).size := by rw [mk_size]; exact hi
    rw [getElem!_pos (⟨l.toArray⟩ : ByteArray) i hs, List.getElem?_eq_getElem hi]
    simp only [beq_iff_eq, Option.some.injEq]
    exact Iff.rfl
  unfold firstIdx
  rw [mk_size]
  constructor
  · intro h
    split at h
    · rename_i i hi
      have : i = n := by omega
      subst this
      rw [List.find?_range_eq_some] at hi
      obtain ⟨h1, h2, h3⟩ := hi
      have hl : i < l.length := by simpa using h2
      refine ⟨(hp i hl).1 h1, fun j hj hc => ?_⟩
      have := h3 j hj
      rw [(hp j (by omega)).2 hc] at this
      cases this
    · omega
  · rintro ⟨h1, h2⟩
    have hl : n < l.length := by
      rcases Nat.lt_or_ge n l.length with h | h
      · exact h
      · rw [List.getElem?_eq_none h] at h1; cases h1
    have : (List.range l.length).find? (fun i => (⟨l.toArray⟩ : ByteArray)[i]! == c) = some n := by
      rw [List.find?_range_eq_some]
      refine ⟨(hp n hl).2 h1, by simpa using hl, fun j hj => ?_⟩
      have := h2 j hj
      cases hb : ((⟨l.toArray⟩ : ByteArray)[j]! == c) with
      | false => rfl
      | true => exact absurd ((hp j (by omega)).1 hb) this
    rw [this]
theorem FltG_true (o : Option Value) : FltG true o = o := rfl
theorem FltG_false (o : Option Value) : FltG false o = some undef := rfl
theorem fill_nil (z : List Value) : fill z [] = some z := (rfl)
theorem fill_one {z : List Value} {o : Nat} {v : Value} {r : List (Nat × Nat × Value)} (hv : cellsOf v = some [v]) (h : o < z.length) : fill z ((o, 1, v) :: r) = fill (z.set o v) r := by
  simp only [fill, hv]
  rw [if_pos ⟨rfl, by omega⟩, splice_one h]
theorem fill_int {z : List Value} {o : Nat} {r : List (Nat × Nat × Value)} (k : IntKind) (n : Int) (h : o < z.length) : fill z ((o, 1, .int k n) :: r) = fill (z.set o (.int k n)) r := fill_one rfl h
theorem fill_bool {z : List Value} {o : Nat} {r : List (Nat × Nat × Value)} (b : Bool) (h : o < z.length) : fill z ((o, 1, .bool b) :: r) = fill (z.set o (.bool b)) r := fill_one rfl h
theorem fill_string {z : List Value} {o : Nat} {r : List (Nat × Nat × Value)} (x : ByteArray) (h : o < z.length) : fill z ((o, 1, .string x) :: r) = fill (z.set o (.string x)) r := fill_one rfl h
theorem fill_ptr {z : List Value} {o : Nat} {r : List (Nat × Nat × Value)} (a : Option Addr) (h : o < z.length) : fill z ((o, 1, .pointer a) :: r) = fill (z.set o (.pointer a)) r := fill_one rfl h
theorem fill_slice {z : List Value} {o : Nat} {r : List (Nat × Nat × Value)} (a : Option Addr) (l c : Nat) (h : o < z.length) : fill z ((o, 1, .slice a l c) :: r) = fill (z.set o (.slice a l c)) r := fill_one rfl h
theorem fill_map {z : List Value} {o : Nat} {r : List (Nat × Nat × Value)} (a : Option Nat) (h : o < z.length) : fill z ((o, 1, .map a) :: r) = fill (z.set o (.map a)) r := fill_one rfl h
theorem fill_nilFunc {z : List Value} {o : Nat} {r : List (Nat × Nat × Value)}  (h : o < z.length) : fill z ((o, 1, .nilFunc) :: r) = fill (z.set o (.nilFunc)) r := fill_one rfl h
theorem fill_iface {z : List Value} {o : Nat} {r : List (Nat × Nat × Value)} (T : TypeId) (v : Value) (h : o < z.length) : fill z ((o, 1, .iface T v) :: r) = fill (z.set o (.iface T v)) r := fill_one rfl h
theorem fill_nilIface {z : List Value} {o : Nat} {r : List (Nat × Nat × Value)}  (h : o < z.length) : fill z ((o, 1, .nilIface) :: r) = fill (z.set o (.nilIface)) r := fill_one rfl h
theorem fill_bytes {z : List Value} {o n : Nat} {r : List (Nat × Nat × Value)} {l : List UInt8} (hl : l.length = n) (h : o + n ≤ z.length) : fill z ((o, n, .agg (l.map byteV).toArray) :: r) = fill (splice z o (l.map byteV)) r := by
  simp only [fill, cellsOf_bytes]
  rw [if_pos ⟨by simpa using hl, h⟩]
theorem getD_snoc {α : Type} (g : List α) (o d : α) : (g ++ [o]).getD g.length d = o := by simp
theorem set_snoc {α : Type} (g : List α) (o x : α) : (g ++ [o]).set g.length x = g ++ [x] := by simp
theorem byteOf_one {v : Nat} : ([.int .u8 (v : Int)] : List Value).mapM byteOf = some [UInt8.ofNat v] := by simp [byteOf]
theorem BarK_some {P : Program} {G : Nat} {c : AIns} {chk : List AIns} {r : List DItem} {Q : AExit → ASt → Prop} {t : Tmps} {m : AMem} {ds : List Deferred} {d : Nat} (hd : c.dst = some d) :
    BarK P G (c :: chk) r Q ⟨t, m, ds⟩ = (valF c t m = some (t d) ∧ BarK P G chk r Q ⟨t, m, ds⟩) := by
  simp only [BarK, chkOk, hd]
  exact propext ⟨fun ⟨⟨a, b⟩, c⟩ => ⟨a, b, c⟩, fun ⟨a, b, c⟩ => ⟨⟨a, b⟩, c⟩⟩
theorem BarK_op {P : Program} {G : Nat} {g : Option (Nat × Bool)} {d : Nat} {o : AOp} {chk : List AIns} {r : List DItem} {Q : AExit → ASt → Prop} {t : Tmps} {m : AMem} {ds : List Deferred} :
    BarK P G (.op g (some d) o :: chk) r Q ⟨t, m, ds⟩ = (valF (.op g (some d) o) t m = some (t d) ∧ BarK P G chk r Q ⟨t, m, ds⟩) := BarK_some rfl
theorem byteV_def (b : UInt8) : byteV b = .int .u8 b.toNat := (rfl)
end Go.AM
namespace Go.AM
set_option linter.unusedVariables false
set_option linter.unusedSimpArgs false

def deads : Nat → List AObj
  | 0 => []
  | k + 1 => .dead :: deads k
theorem deads_len (k : Nat) : (deads k).length = k := by induction k with | zero => rfl | succ k ih => simp [deads, ih]
theorem deads_get (k i : Nat) : (deads k).getD i .dead = .dead := by
  induction k generalizing i with
  | zero => simp [deads]
  | succ k ih => cases i with
    | zero => rfl
    | succ i => simpa [deads] using ih i
theorem mx_reserve (m : AMem) (l : List AObj) (k : Nat) : (mx m l).reserve k = mx m (l ++ deads k) := by
  refine AMem.ext' ?_ fun x => ?_
  · simp only [AMem.reserve, mx_size, List.length_append, deads_len]; omega
  · simp only [AMem.reserve, mx_get, mx_size]
    by_cases h1 : x < m.size
    · rw [if_pos (by omega), if_pos h1, if_pos h1]
    · rw [if_neg h1, if_neg h1]
      by_cases h2 : x < m.size + l.length
      · rw [if_pos h2]; simp only [List.getD]; rw [List.getElem?_append_left (by omega)]
      · rw [if_neg h2]
        have := deads_get k (x - m.size - l.length)
        simp only [List.getD] at this ⊢
        rw [List.getElem?_append_right (by omega)]; exact this.symm
theorem deads_1 : deads 1 = [.dead] := rfl
theorem deads_2 : deads 2 = [.dead, .dead] := rfl
theorem deads_3 : deads 3 = [.dead, .dead, .dead] := rfl
theorem deads_4 : deads 4 = [.dead, .dead, .dead, .dead] := rfl
theorem deads_5 : deads 5 = [.dead, .dead, .dead, .dead, .dead] := rfl
theorem deads_6 : deads 6 = [.dead, .dead, .dead, .dead, .dead, .dead] := rfl
theorem deads_7 : deads 7 = [.dead, .dead, .dead, .dead, .dead, .dead, .dead] := rfl
theorem deads_8 : deads 8 = [.dead, .dead, .dead, .dead, .dead, .dead, .dead, .dead] := rfl
theorem deads_9 : deads 9 = [.dead, .dead, .dead, .dead, .dead, .dead, .dead, .dead, .dead] := rfl
theorem deads_10 : deads 10 = [.dead, .dead, .dead, .dead, .dead, .dead, .dead, .dead, .dead, .dead] := rfl

def slotAt (base j : Nat) : Nat := base + j
theorem slotAt_add (x a j : Nat) : slotAt (x + a) j = x + (a + j) := Nat.add_assoc _ _ _
theorem slotAt_0 (m : AMem) (j : Nat) : slotAt m.size j = m.size + j := rfl

section
variable {P : Program} {G base : Nat} {Q : AExit → ASt → Prop} {K : ASt → Prop} {t : Tmps} {m : AMem} {ds : List Deferred} {s : ASt}

@[congr] theorem DWA_congr {c : List AItem} {b b' : Nat} {s s' : ASt} (hb : b = b') (h : s = s') : DWA P G b c Q s = DWA P G b' c Q s' := by rw [hb, h]
theorem W_drawA (k : Nat) (is : List AItem) : W P G (.drawA k is) Q ⟨t, m, ds⟩ = DWA P G m.size is Q ⟨t, m.reserve k, ds⟩ := rfl
theorem DWA_nil : DWA P G base [] Q s = Q .normal s := rfl
def FltA (P : Program) (G base : Nat) (o : Option Value) (d : Option Nat) (r : List AItem) (Q : AExit → ASt → Prop) (t : Tmps) (m : AMem) (ds : List Deferred) : Prop :=
  match o with | some v => DWA P G base r Q ⟨updO t d v, m, ds⟩ | none => False
@[congr] theorem FltA_congr {o o' : Option Value} {d : Option Nat} {r : List AItem} (h : o = o') : FltA P G base o d r Q t m ds = FltA P G base o' d r Q t m ds := by rw [h]
theorem FltA_some (v : Value) (d : Option Nat) (r : List AItem) : FltA P G base (some v) d r Q t m ds = DWA P G base r Q ⟨updO t d v, m, ds⟩ := rfl
theorem DWA_f (i : AIns) (r : List AItem) : DWA P G base (.f i :: r) Q ⟨t, m, ds⟩ = FltA P G base (valF i t m) i.dst r Q t m ds := by
  simp only [DWA, FltA]
  cases valF i t m <;> simp
def gob (b : Bool) (o : AObj) : AObj := if b then o else .dead
theorem gob_true (o : AObj) : gob true o = o := rfl
theorem gob_false (o : AObj) : gob false o = .dead := rfl
@[congr] theorem gob_congr {b b' : Bool} {o o' : AObj} (h : b = b') (ho : b' = true → o = o') : gob b o = gob b' o' := by
  subst h; cases b <;> simp_all [gob]
def NewA (P : Program) (G base : Nat) (b : Bool) (x : AObj) (j : Nat) (o : Option (Value × AObj)) (d : Option Nat) (r : List AItem) (Q : AExit → ASt → Prop) (t : Tmps) (m : AMem) (ds : List Deferred) : Prop :=
  x = .dead ∧ if b then (match o with | some (v, ob) => DWA P G base r Q ⟨updO t d v, m.set (slotAt base j) ob, ds⟩ | none => False) else DWA P G base r Q ⟨updO t d undef, m, ds⟩
@[congr] theorem NewA_congr {b b' : Bool} {x x' : AObj} {j : Nat} {o o' : Option (Value × AObj)} {d : Option Nat} {r : List AItem} (h : b = b') (hx : x = x') (ho : b' = true → o = o') : NewA P G base b x j o d r Q t m ds = NewA P G base b' x' j o' d r Q t m ds := by
  subst h hx; cases b <;> simp_all [NewA]
theorem DWA_a (d : Option Nat) (o : AOp) (j : Nat) (r : List AItem) : DWA P G base (.a (.op none d o) j :: r) Q ⟨t, m, ds⟩ = NewA P G base true (m.get (slotAt base j)) j (allocV o t (slotAt base j)) d r Q t m ds := by
  simp only [DWA, NewA, slotAt, wanted, AIns.guard, allocI, AIns.dst, if_true]
  rcases allocV o t (base + j) with _ | ⟨v, ob⟩
  · simp
  · simp
    try (intro _; constructor
         · rintro ⟨v', o', ⟨rfl, rfl⟩, h⟩; exact h
         · intro h; exact ⟨v, ob, ⟨rfl, rfl⟩, h⟩)
theorem DWA_ag (g : Nat × Bool) (d : Option Nat) (o : AOp) (j : Nat) (r : List AItem) : DWA P G base (.a (.op (some g) d o) j :: r) Q ⟨t, m, ds⟩ = NewA P G base (wanted (some g) t) (m.get (slotAt base j)) j (allocV o t (slotAt base j)) d r Q t m ds := by
  change (m.get (base + j) = .dead ∧ if wanted (some g) t = true then (∃ v ob, allocV o t (base + j) = some (v, ob) ∧ DWA P G base r Q ⟨updO t d v, m.set (base + j) ob, ds⟩) else DWA P G base r Q ⟨updO t d undef, m, ds⟩) =
    (m.get (base + j) = .dead ∧ if wanted (some g) t = true then (match allocV o t (base + j) with | some (v, ob) => DWA P G base r Q ⟨updO t d v, m.set (base + j) ob, ds⟩ | none => False) else DWA P G base r Q ⟨updO t d undef, m, ds⟩)
  rcases allocV o t (base + j) with _ | ⟨v, ob⟩
  · simp
  · by_cases h : wanted (some g) t = true
    · rw [if_pos h, if_pos h]
      refine propext (and_congr_right fun _ => ⟨?_, fun h => ⟨v, ob, rfl, h⟩⟩)
      rintro ⟨v', o', he, h⟩; cases he; exact h
    · rw [if_neg h, if_neg h]
theorem NewA_true (j : Nat) (v : Value) (ob : AObj) (d : Option Nat) (r : List AItem) : NewA P G base true .dead j (some (v, ob)) d r Q t m ds = DWA P G base r Q ⟨updO t d v, m.set (slotAt base j) ob, ds⟩ := by simp [NewA]
theorem NewA_false (j : Nat) (o : Option (Value × AObj)) (d : Option Nat) (r : List AItem) : NewA P G base false .dead j o d r Q t m ds = DWA P G base r Q ⟨updO t d undef, m, ds⟩ := by simp [NewA]
theorem allocV_new (b : Nat) (e : TypeId) (z : List Value) : allocV (.new e z) t b = some (.pointer (some ⟨b, 0, none⟩), .cells z e true .exact) := rfl
def boxO (e : TypeId) (b : Nat) (c : Option (List Value)) : Option (Value × AObj) := match c with | some c => some (.pointer (some ⟨b, 0, none⟩), .cells c e true .exact) | none => none
theorem boxO_some (e : TypeId) (b : Nat) (c : List Value) : boxO e b (some c) = some (.pointer (some ⟨b, 0, none⟩), .cells c e true .exact) := rfl
theorem allocV_box (b : Nat) (e : TypeId) (x : AOpd) : allocV (.box e x) t b = boxO e b (cellsOf (x.ev t)) := rfl
def rowO (e : TypeId) (len b : Nat) (c : Option (List Value)) : Option (Value × AObj) := match c with | some c => some (.slice (some ⟨b, 0, none⟩) len len, .cells c e true .exact) | none => none
theorem rowO_some (e : TypeId) (len b : Nat) (c : List Value) : rowO e len b (some c) = some (.slice (some ⟨b, 0, none⟩) len len, .cells c e true .exact) := rfl
theorem allocV_bldSl (b : Nat) (e : TypeId) (len : Nat) (z : List Value) (ps : List (Nat × Nat × AOpd)) : allocV (.bldSl e len z ps) t b = rowO e len b (fill z (ps.map fun p => (p.1, p.2.1, p.2.2.ev t))) := rfl
def s2bO (e : TypeId) (b : Nat) (v : Value) : Option (Value × AObj) := match v with
    | .string s => if s.size ≤ 9223372036854775807 then some (.slice (some ⟨b, 0, none⟩) s.size openCap, .cells (s.data.toList.map byteV) e true (.room [.int .u8 0])) else none
    | _ => none
theorem s2bO_some (e : TypeId) (b : Nat) {s : ByteArray} (h : s.size ≤ 9223372036854775807) : s2bO e b (.string s) = some (.slice (some ⟨b, 0, none⟩) s.size openCap, .cells (s.data.toList.map byteV) e true (.room [.int .u8 0])) := by simp [s2bO, h]
theorem allocV_s2b (b : Nat) (e : TypeId) (x : AOpd) : allocV (.s2b e x) t b = s2bO e b (x.ev t) := rfl
theorem allocV_mkM (b : Nat) : allocV .mkM t b = some (.map (some b), .map #[] 0) := rfl
def mkSlO (e : TypeId) (sz : Nat) (z : List Value) (bytes b : Nat) (l c : Value) : Option (Value × AObj) := match l, c with
    | .int _ l, .int _ c => if 0 ≤ l ∧ l ≤ c ∧ bytes * c ≤ 281474976710656 ∧ c ≤ 281474976710656 ∧ z.length = sz then
        some (.slice (some ⟨b, 0, none⟩) l.toNat c.toNat, .cells (rep z c.toNat) e true .exact) else none
    | _, _ => none
theorem mkSlO_some (e : TypeId) (sz : Nat) (z : List Value) (bytes b : Nat) (k k' : IntKind) {l c : Int} (h : 0 ≤ l ∧ l ≤ c ∧ bytes * c ≤ 281474976710656 ∧ c ≤ 281474976710656 ∧ z.length = sz) :
    mkSlO e sz z bytes b (.int k l) (.int k' c) = some (.slice (some ⟨b, 0, none⟩) l.toNat c.toNat, .cells (rep z c.toNat) e true .exact) := by simp only [mkSlO, if_pos h]
theorem allocV_mkSl (b : Nat) (e : TypeId) (sz : Nat) (z : List Value) (bytes : Nat) (l c : AOpd) : allocV (.mkSl e sz z bytes l c) t b = mkSlO e sz z bytes b (l.ev t) (c.ev t) := rfl

def BarA (P : Program) (G base : Nat) (m : AMem) (chk : List AIns) (sl : List Nat) (r : List AItem) (Q : AExit → ASt → Prop) : ASt → Prop := fun s' => slOk base m s'.m sl ∧ chkOk s' chk ∧ DWA P G base r Q s'
theorem BarA_nil (r : List AItem) : BarA P G base m [] [] r Q s = DWA P G base r Q s := by simp [BarA, chkOk, slOk]
theorem BarA_sl {m' : AMem} (j : Nat) (chk : List AIns) (sl : List Nat) (r : List AItem) : BarA P G base m chk (j :: sl) r Q ⟨t, m', ds⟩ = (m'.get (slotAt base j) = m.get (slotAt base j) ∧ BarA P G base m chk sl r Q ⟨t, m', ds⟩) := by
  simp only [BarA, slOk, slotAt, and_assoc]
theorem BarA_op {m' : AMem} {g : Option (Nat × Bool)} {d : Nat} {o : AOp} {chk : List AIns} {r : List AItem} : BarA P G base m (.op g (some d) o :: chk) [] r Q ⟨t, m', ds⟩ = (valF (.op g (some d) o) t m' = some (t d) ∧ BarA P G base m chk [] r Q ⟨t, m', ds⟩) := by
  simp only [BarA, slOk, true_and, chkOk, AIns.dst, and_assoc]
theorem DWA_bop (d : Option Nat) (o : AOp) (chk : List AIns) (sl : List Nat) (r : List AItem) : DWA P G base (.b (.op none d o) chk sl :: r) Q ⟨t, m, ds⟩ = OpB (stepOp o t m) d (BarA P G base m chk sl r Q) t ds := rfl
theorem DWA_bopg (g : Nat × Bool) (d : Option Nat) (o : AOp) (chk : List AIns) (sl : List Nat) (r : List AItem) : DWA P G base (.b (.op (some g) d o) chk sl :: r) Q ⟨t, m, ds⟩ =
    GrdW (wanted (some g) t) (OpB (stepOp o t m) d (BarA P G base m chk sl r Q) t ds) (BarA P G base m chk sl r Q ⟨updO t d undef, m, ds⟩) := rfl
theorem DWA_call (d : Option Nat) (f : FuncId) (as : List AOpd) (chk : List AIns) (sl : List Nat) (r : List AItem) : DWA P G base (.b (.call none d f as) chk sl :: r) Q ⟨t, m, ds⟩ =
    ACall P G f (as.map (·.ev t)) m (CallK d ⟨t, m, ds⟩ (BarA P G base m chk sl r Q) (PanAny Q)) := rfl
theorem DWA_callg (g : Nat × Bool) (d : Option Nat) (f : FuncId) (as : List AOpd) (chk : List AIns) (sl : List Nat) (r : List AItem) : DWA P G base (.b (.call (some g) d f as) chk sl :: r) Q ⟨t, m, ds⟩ =
    GrdW (wanted (some g) t) (ACall P G f (as.map (·.ev t)) m (CallK d ⟨t, m, ds⟩ (BarA P G base m chk sl r Q) (PanAny Q))) (BarA P G base m chk sl r Q ⟨updO t d undef, m, ds⟩) := rfl

def CallvW (P : Program) (G : Nat) (v : Value) (args : List Value) (m : AMem) (R : AEnd → AMem → Prop) : Prop :=
  match v with | .func (.func f) first captured => ACall P G f (first.toList ++ args ++ captured.toList) m R | _ => False
@[congr] theorem CallvW_congr {v v' : Value} {as as' : List Value} {m m' : AMem} {R : AEnd → AMem → Prop} (h : v = v') (k : as = as') (l : m = m') : CallvW P G v as m R = CallvW P G v' as' m' R := by rw [h, k, l]
theorem CallvW_func (f : FuncId) (a b : List Value) (as : List Value) (m : AMem) (R : AEnd → AMem → Prop) : CallvW P G (.func (.func f) a.toArray b.toArray) as m R = ACall P G f (a ++ as ++ b) m R := by
  simp only [CallvW]
theorem WI_callv (d : Option Nat) (x : AOpd) (as : List AOpd) (r : List AIns) : WI P G (.callv none d x as :: r) Q ⟨t, m, ds⟩ =
    CallvW P G (x.ev t) (as.map (·.ev t)) m (CallK d ⟨t, m, ds⟩ (WI P G r Q) Q) := rfl
theorem WI_callvg (g : Nat × Bool) (d : Option Nat) (x : AOpd) (as : List AOpd) (r : List AIns) : WI P G (.callv (some g) d x as :: r) Q ⟨t, m, ds⟩ =
    GrdW (wanted (some g) t) (CallvW P G (x.ev t) (as.map (·.ev t)) m (CallK d ⟨t, m, ds⟩ (WI P G r Q) Q)) (WI P G r Q ⟨updO t d undef, m, ds⟩) := rfl
theorem DW_callv (d : Option Nat) (x : AOpd) (as : List AOpd) (chk : List AIns) (r : List DItem) : DW P G (.b (.callv none d x as) chk :: r) Q ⟨t, m, ds⟩ =
    CallvW P G (x.ev t) (as.map (·.ev t)) m (CallK d ⟨t, m, ds⟩ (BarK P G chk r Q) (PanAny Q)) := rfl
theorem DW_callvg (g : Nat × Bool) (d : Option Nat) (x : AOpd) (as : List AOpd) (chk : List AIns) (r : List DItem) : DW P G (.b (.callv (some g) d x as) chk :: r) Q ⟨t, m, ds⟩ =
    GrdW (wanted (some g) t) (CallvW P G (x.ev t) (as.map (·.ev t)) m (CallK d ⟨t, m, ds⟩ (BarK P G chk r Q) (PanAny Q))) (BarK P G chk r Q ⟨updO t d undef, m, ds⟩) := rfl
theorem DWA_callv (d : Option Nat) (x : AOpd) (as : List AOpd) (chk : List AIns) (sl : List Nat) (r : List AItem) : DWA P G base (.b (.callv none d x as) chk sl :: r) Q ⟨t, m, ds⟩ =
    CallvW P G (x.ev t) (as.map (·.ev t)) m (CallK d ⟨t, m, ds⟩ (BarA P G base m chk sl r Q) (PanAny Q)) := rfl
theorem DWA_callvg (g : Nat × Bool) (d : Option Nat) (x : AOpd) (as : List AOpd) (chk : List AIns) (sl : List Nat) (r : List AItem) : DWA P G base (.b (.callv (some g) d x as) chk sl :: r) Q ⟨t, m, ds⟩ =
    GrdW (wanted (some g) t) (CallvW P G (x.ev t) (as.map (·.ev t)) m (CallK d ⟨t, m, ds⟩ (BarA P G base m chk sl r Q) (PanAny Q))) (BarA P G base m chk sl r Q ⟨updO t d undef, m, ds⟩) := rfl

@[congr] theorem capW_congr {sz : Nat} {v v' : Value} {m m' : AMem} {K : Value → AMem → Prop} (h : v = v') (k : m = m') : capW sz v m K = capW sz v' m' K := by rw [h, k]
theorem WI_cap (d : Option Nat) (sz : Nat) (x : AOpd) (r : List AIns) : WI P G (.cap none d sz x :: r) Q ⟨t, m, ds⟩ = capW sz (x.ev t) m fun v m' => WI P G r Q ⟨updO t d v, m', ds⟩ := rfl
theorem capW_nil0 (sz : Nat) (m : AMem) (K : Value → AMem → Prop) : capW sz (.slice none 0 0) m K = K (.int .i64 0) m := by
  simp only [capW, eq_iff_iff]
  exact ⟨fun h => h.2, fun h => ⟨Nat.ne_of_lt (openCap_lt (by omega)), h⟩⟩
end
end Go.AM
namespace Go.AM
set_option maxRecDepth 100000
theorem amT : type_of% @W_skip ∧ type_of% @W_seq ∧ type_of% @W_reg ∧ type_of% @W_block ∧ type_of% @W_exit ∧ type_of% @W_ret ∧ type_of% @W_cond ∧ type_of% @W_draw ∧ type_of% @WI_nil ∧ type_of% @WI_op ∧ type_of% @WI_opg ∧ type_of% @WI_call ∧ type_of% @WI_callg ∧ type_of% @DW_call ∧ type_of% @DW_callg ∧ type_of% @OpI_some ∧ type_of% @OpG_some ∧ type_of% @OpG_true ∧ type_of% @OpG_false ∧ type_of% @BoolW_true ∧ type_of% @BoolW_false ∧ type_of% @GrdW_true ∧ type_of% @GrdW_false ∧ type_of% @SeqK_normal ∧ type_of% @SeqK_exit ∧ type_of% @SeqK_ret ∧ type_of% @SeqK_pan ∧ type_of% @BlockK_normal ∧ type_of% @BlockK_exit ∧ type_of% @BlockK_ret ∧ type_of% @BlockK_pan ∧ type_of% @LoopK_exit ∧ type_of% @LoopK_ret ∧ type_of% @LoopK_pan ∧ type_of% @CallK_ret ∧ type_of% @CallK_pan ∧ type_of% @RetK_ret ∧ type_of% @RetK_normal ∧ type_of% @RetK_pan ∧ type_of% @ResW_some ∧ type_of% @DW_nil ∧ type_of% @DW_f ∧ type_of% @DW_bop ∧ type_of% @FltW_some ∧ type_of% @FltG_some ∧ type_of% @fstO_some ∧ type_of% @valF_op ∧ type_of% @valF_opg ∧ type_of% @dst_op ∧ type_of% @dst_call ∧ type_of% @BarK_nil ∧ type_of% @OpB_some ∧ type_of% @gv_true ∧ type_of% @gv_false ∧ type_of% @sel2_true ∧ type_of% @sel2_false ∧ type_of% @sel2_and ∧ type_of% @sel2_or ∧ type_of% @beq_true ∧ type_of% @beq_false ∧ type_of% @updO_some ∧ type_of% @updO_none ∧ type_of% @upd_apply ∧ type_of% @sel_true ∧ type_of% @sel_false ∧ type_of% @ev_t ∧ type_of% @ev_c ∧ type_of% @wanted_some ∧ type_of% @List.getD_cons_zero.{0} ∧ type_of% @List.getD_cons_succ.{0} ∧ type_of% @stepOp_mov ∧ type_of% @stepOp_pick' ∧ type_of% @pickV_bool ∧ type_of% @stepOp_new ∧ type_of% @stepOp_box ∧ type_of% @stepOp_ld1 ∧ type_of% @stepOp_ldn ∧ type_of% @stepOp_st ∧ type_of% @stepOp_nchk ∧ type_of% @stepOp_bin ∧ type_of% @stepOp_eql ∧ type_of% @stepOp_un ∧ type_of% @stepOp_cvt ∧ type_of% @stepOp_idc ∧ type_of% @stepOp_slA ∧ type_of% @stepOp_fad ∧ type_of% @stepOp_iadA ∧ type_of% @stepOp_iadV ∧ type_of% @stepOp_ixS ∧ type_of% @stepOp_ext ∧ type_of% @stepOp_lenS ∧ type_of% @stepOp_lenV ∧ type_of% @stepOp_lenN ∧ type_of% @stepOp_toU ∧ type_of% @stepOp_frU ∧ type_of% @binV_add ∧ type_of% @binV_sub ∧ type_of% @binV_mul ∧ type_of% @binV_and ∧ type_of% @binV_or ∧ type_of% @binV_xor ∧ type_of% @binV_andNot ∧ type_of% @binV_eql ∧ type_of% @binV_neq ∧ type_of% @binV_lss ∧ type_of% @binV_leq ∧ type_of% @binV_gtr ∧ type_of% @binV_geq ∧ type_of% @binV_quo ∧ type_of% @binV_rem ∧ type_of% @binV_shl ∧ type_of% @binV_shr ∧ type_of% @binV_seql ∧ type_of% @binV_sneq ∧ type_of% @binV_sadd ∧ type_of% @unV_neg ∧ type_of% @unV_not ∧ type_of% @eqV_bool ∧ type_of% @addr_ptr ∧ type_of% @cellsOf_int ∧ type_of% @cellsOf_bool ∧ type_of% @cellsOf_string ∧ type_of% @cellsOf_ptr ∧ type_of% @cellsOf_slice ∧ type_of% @cellsOf_bytes ∧ type_of% @AMem.size_set ∧ type_of% @ifp.{1} ∧ type_of% @ifn.{1} ∧ type_of% @wrap_i64 ∧ type_of% @wrap_u64 ∧ type_of% @wrap_u8 ∧ type_of% @wrap_i32 ∧ type_of% @Option.map_some.{0, 0} ∧ type_of% @Option.some.injEq.{0} ∧ type_of% @if_true.{1} ∧ type_of% @if_false.{1} ∧ type_of% @eq_self.{1} ∧ type_of% @true_and ∧ type_of% @and_true ∧ type_of% @Bool.true_and ∧ type_of% @Bool.and_true ∧ type_of% @Bool.false_or ∧ type_of% @Bool.or_false ∧ type_of% @Bool.not_true ∧ type_of% @Bool.not_false ∧ type_of% @beq_self_eq_true.{0} ∧ type_of% @Bool.false_and ∧ type_of% @Bool.and_false ∧ type_of% @Bool.true_or ∧ type_of% @Bool.or_true ∧ type_of% @Nat.mul_one ∧ type_of% @Nat.add_zero ∧ type_of% @Nat.zero_add ∧ type_of% @Nat.zero_mul ∧ type_of% @Int.toNat_natCast ∧ type_of% @ne_eq.{1} ∧ type_of% @not_false_eq_true ∧ type_of% @List.map_cons.{0, 0} ∧ type_of% @List.map_nil.{0, 0} ∧ type_of% @decide_true ∧ type_of% @decide_false ∧ type_of% @decide_eq_true_eq ∧ type_of% @W_label ∧ type_of% @W_goto ∧ type_of% @SeqK_goto ∧ type_of% @BlockK_goto ∧ type_of% @LoopK_goto ∧ type_of% @JumpK_normal ∧ type_of% @JumpK_exit ∧ type_of% @JumpK_ret ∧ type_of% @JumpK_pan ∧ type_of% @JumpK_goto ∧ type_of% @mx_reserve ∧ type_of% @deads_1 ∧ type_of% @deads_2 ∧ type_of% @deads_3 ∧ type_of% @deads_4 ∧ type_of% @deads_5 ∧ type_of% @deads_6 ∧ type_of% @deads_7 ∧ type_of% @deads_8 ∧ type_of% @deads_9 ∧ type_of% @deads_10 ∧ type_of% @Option.map_none.{0, 0} ∧ type_of% @slotAt_add ∧ type_of% @slotAt_0 ∧ type_of% @W_drawA ∧ type_of% @DWA_nil ∧ type_of% @FltA_some ∧ type_of% @DWA_f ∧ type_of% @gob_true ∧ type_of% @gob_false ∧ type_of% @DWA_a ∧ type_of% @DWA_ag ∧ type_of% @NewA_true ∧ type_of% @NewA_false ∧ type_of% @allocV_new ∧ type_of% @boxO_some ∧ type_of% @allocV_box ∧ type_of% @rowO_some ∧ type_of% @allocV_bldSl ∧ type_of% @s2bO_some ∧ type_of% @allocV_s2b ∧ type_of% @allocV_mkM ∧ type_of% @mkSlO_some ∧ type_of% @allocV_mkSl ∧ type_of% @BarA_nil ∧ type_of% @BarA_sl ∧ type_of% @BarA_op ∧ type_of% @DWA_bop ∧ type_of% @DWA_bopg ∧ type_of% @DW_bopg ∧ type_of% @DWA_call ∧ type_of% @DWA_callg ∧ type_of% @CallvW_func ∧ type_of% @WI_callv ∧ type_of% @WI_callvg ∧ type_of% @DW_callv ∧ type_of% @DW_callvg ∧ type_of% @DWA_callv ∧ type_of% @DWA_callvg ∧ type_of% @stepOp_mkF ∧ type_of% @List.toList_toArray.{0} ∧ type_of% @WI_cap ∧ type_of% @capW_nil0 ∧ type_of% @stepOp_s2s ∧ type_of% @stepOp_mkSl ∧ type_of% @stepOp_s2b ∧ type_of% @getD_snoc ∧ type_of% @set_snoc ∧ type_of% @AMem.set_set ∧ type_of% @AMem.get_set_self ∧ type_of% @AMem.get_set_ne ∧ type_of% @wrap_u32 ∧ type_of% @stepOp_ixA ∧ type_of% @List.getElem?_toArray.{0} ∧ type_of% @byteOf_one ∧ type_of% @mapM_byteOf ∧ type_of% @List.length_replicate.{0} ∧ type_of% @FltG_true ∧ type_of% @FltG_false ∧ type_of% @Int.cast_ofNat_Int ∧ type_of% @old_mx ∧ type_of% @mx_mx ∧ type_of% @List.append_nil.{0} ∧ type_of% @mx_frame ∧ type_of% @BarK_op ∧ type_of% @mx_push ∧ type_of% @mx_size ∧ type_of% @mx_new ∧ type_of% @mx_new0 ∧ type_of% @mx_set ∧ type_of% @mx_set0 ∧ type_of% @mx_old ∧ type_of% @mx_set_old ∧ type_of% @rd_def ∧ type_of% @wr_def ∧ type_of% @rdO_cells ∧ type_of% @wrO_cells ∧ type_of% @cutL_one ∧ type_of% @cutL_bytes ∧ type_of% @List.cons_append.{0} ∧ type_of% @List.nil_append.{0} ∧ type_of% @List.set_cons_zero.{0} ∧ type_of% @List.set_cons_succ.{0} ∧ type_of% @List.getElem?_cons_zero.{0} ∧ type_of% @List.getElem?_cons_succ.{0} ∧ type_of% @List.length_cons.{0} ∧ type_of% @List.length_nil.{0} ∧ type_of% @List.length_map.{0, 0} ∧ type_of% @List.length_set.{0} ∧ type_of% @List.length_append.{0} ∧ type_of% @List.take_length.{0} ∧ type_of% @List.take_of_length_le.{0} ∧ type_of% @List.drop_zero.{0} ∧ type_of% @arr1_0 ∧ type_of% @arr2_0 ∧ type_of% @arr2_1 ∧ type_of% @arr3_0 ∧ type_of% @arr3_1 ∧ type_of% @arr3_2 ∧ type_of% @arr4_0 ∧ type_of% @arr4_1 ∧ type_of% @arr4_2 ∧ type_of% @arr4_3 ∧ type_of% @strEq_self ∧ type_of% @OrW_true ∧ type_of% @stepOp_slS ∧ type_of% @stepOp_bld ∧ type_of% @fill_nil ∧ type_of% @fill_int ∧ type_of% @fill_bool ∧ type_of% @fill_string ∧ type_of% @fill_ptr ∧ type_of% @fill_slice ∧ type_of% @fill_map ∧ type_of% @fill_nilFunc ∧ type_of% @fill_iface ∧ type_of% @fill_nilIface ∧ type_of% @fill_bytes ∧ type_of% @stepOp_arrAt ∧ type_of% @stepOp_bldSl ∧ type_of% @splice_one ∧ type_of% @splice_all ∧ type_of% @bytes_get ∧ type_of% @mk_size ∧ type_of% @mk_get ∧ type_of% @mk_extract ∧ type_of% @mk_app ∧ type_of% @mk_data ∧ type_of% @srcLen_slice ∧ type_of% @srcLen_string :=
  ⟨@W_skip, @W_seq, @W_reg, @W_block, @W_exit, @W_ret, @W_cond, @W_draw, @WI_nil, @WI_op, @WI_opg, @WI_call, @WI_callg, @DW_call, @DW_callg, @OpI_some, @OpG_some, @OpG_true, @OpG_false, @BoolW_true, @BoolW_false, @GrdW_true, @GrdW_false, @SeqK_normal, @SeqK_exit, @SeqK_ret, @SeqK_pan, @BlockK_normal, @BlockK_exit, @BlockK_ret, @BlockK_pan, @LoopK_exit, @LoopK_ret, @LoopK_pan, @CallK_ret, @CallK_pan, @RetK_ret, @RetK_normal, @RetK_pan, @ResW_some, @DW_nil, @DW_f, @DW_bop, @FltW_some, @FltG_some, @fstO_some, @valF_op, @valF_opg, @dst_op, @dst_call, @BarK_nil, @OpB_some, @gv_true, @gv_false, @sel2_true, @sel2_false, @sel2_and, @sel2_or, @beq_true, @beq_false, @updO_some, @updO_none, @upd_apply, @sel_true, @sel_false, @ev_t, @ev_c, @wanted_some, @List.getD_cons_zero.{0}, @List.getD_cons_succ.{0}, @stepOp_mov, @stepOp_pick', @pickV_bool, @stepOp_new, @stepOp_box, @stepOp_ld1, @stepOp_ldn, @stepOp_st, @stepOp_nchk, @stepOp_bin, @stepOp_eql, @stepOp_un, @stepOp_cvt, @stepOp_idc, @stepOp_slA, @stepOp_fad, @stepOp_iadA, @stepOp_iadV, @stepOp_ixS, @stepOp_ext, @stepOp_lenS, @stepOp_lenV, @stepOp_lenN, @stepOp_toU, @stepOp_frU, @binV_add, @binV_sub, @binV_mul, @binV_and, @binV_or, @binV_xor, @binV_andNot, @binV_eql, @binV_neq, @binV_lss, @binV_leq, @binV_gtr, @binV_geq, @binV_quo, @binV_rem, @binV_shl, @binV_shr, @binV_seql, @binV_sneq, @binV_sadd, @unV_neg, @unV_not, @eqV_bool, @addr_ptr, @cellsOf_int, @cellsOf_bool, @cellsOf_string, @cellsOf_ptr, @cellsOf_slice, @cellsOf_bytes, @AMem.size_set, @ifp.{1}, @ifn.{1}, @wrap_i64, @wrap_u64, @wrap_u8, @wrap_i32, @Option.map_some.{0, 0}, @Option.some.injEq.{0}, @if_true.{1}, @if_false.{1}, @eq_self.{1}, @true_and, @and_true, @Bool.true_and, @Bool.and_true, @Bool.false_or, @Bool.or_false, @Bool.not_true, @Bool.not_false, @beq_self_eq_true.{0}, @Bool.false_and, @Bool.and_false, @Bool.true_or, @Bool.or_true, @Nat.mul_one, @Nat.add_zero, @Nat.zero_add, @Nat.zero_mul, @Int.toNat_natCast, @ne_eq.{1}, @not_false_eq_true, @List.map_cons.{0, 0}, @List.map_nil.{0, 0}, @decide_true, @decide_false, @decide_eq_true_eq, @W_label, @W_goto, @SeqK_goto, @BlockK_goto, @LoopK_goto, @JumpK_normal, @JumpK_exit, @JumpK_ret, @JumpK_pan, @JumpK_goto, @mx_reserve, @deads_1, @deads_2, @deads_3, @deads_4, @deads_5, @deads_6, @deads_7, @deads_8, @deads_9, @deads_10, @Option.map_none.{0, 0}, @slotAt_add, @slotAt_0, @W_drawA, @DWA_nil, @FltA_some, @DWA_f, @gob_true, @gob_false, @DWA_a, @DWA_ag, @NewA_true, @NewA_false, @allocV_new, @boxO_some, @allocV_box, @rowO_some, @allocV_bldSl, @s2bO_some, @allocV_s2b, @allocV_mkM, @mkSlO_some, @allocV_mkSl, @BarA_nil, @BarA_sl, @BarA_op, @DWA_bop, @DWA_bopg, @DW_bopg, @DWA_call, @DWA_callg, @CallvW_func, @WI_callv, @WI_callvg, @DW_callv, @DW_callvg, @DWA_callv, @DWA_callvg, @stepOp_mkF, @List.toList_toArray.{0}, @WI_cap, @capW_nil0, @stepOp_s2s, @stepOp_mkSl, @stepOp_s2b, @getD_snoc, @set_snoc, @AMem.set_set, @AMem.get_set_self, @AMem.get_set_ne, @wrap_u32, @stepOp_ixA, @List.getElem?_toArray.{0}, @byteOf_one, @mapM_byteOf, @List.length_replicate.{0}, @FltG_true, @FltG_false, @Int.cast_ofNat_Int, @old_mx, @mx_mx, @List.append_nil.{0}, @mx_frame, @BarK_op, @mx_push, @mx_size, @mx_new, @mx_new0, @mx_set, @mx_set0, @mx_old, @mx_set_old, @rd_def, @wr_def, @rdO_cells, @wrO_cells, @cutL_one, @cutL_bytes, @List.cons_append.{0}, @List.nil_append.{0}, @List.set_cons_zero.{0}, @List.set_cons_succ.{0}, @List.getElem?_cons_zero.{0}, @List.getElem?_cons_succ.{0}, @List.length_cons.{0}, @List.length_nil.{0}, @List.length_map.{0, 0}, @List.length_set.{0}, @List.length_append.{0}, @List.take_length.{0}, @List.take_of_length_le.{0}, @List.drop_zero.{0}, @arr1_0, @arr2_0, @arr2_1, @arr3_0, @arr3_1, @arr3_2, @arr4_0, @arr4_1, @arr4_2, @arr4_3, @strEq_self, @OrW_true, @stepOp_slS, @stepOp_bld, @fill_nil, @fill_int, @fill_bool, @fill_string, @fill_ptr, @fill_slice, @fill_map, @fill_nilFunc, @fill_iface, @fill_nilIface, @fill_bytes, @stepOp_arrAt, @stepOp_bldSl, @splice_one, @splice_all, @bytes_get, @mk_size, @mk_get, @mk_extract, @mk_app, @mk_data, @srcLen_slice, @srcLen_string⟩
theorem zU : type_of% @List.length_map.{0,0} ∧ type_of% @List.length_cons.{0} ∧ type_of% @List.length_nil.{0} ∧ type_of% @List.length_set.{0} ∧ type_of% @List.length_append.{0} ∧ type_of% @List.length_replicate.{0} ∧ type_of% @List.length_take.{0} ∧ type_of% @List.length_drop.{0} ∧ type_of% @mk_size ∧ type_of% @AMem.size_set :=
  ⟨@List.length_map.{0,0}, @List.length_cons.{0}, @List.length_nil.{0}, @List.length_set.{0}, @List.length_append.{0}, @List.length_replicate.{0}, @List.length_take.{0}, @List.length_drop.{0}, @mk_size, @AMem.size_set⟩
end Go.AM

open Go.AM in
theorem Go.AM.zT : type_of% amT ∧ type_of% zS := ⟨amT, zS⟩
namespace Go.AM
set_option linter.unusedVariables false

def cutV (len cap : Nat) (lo hi mx : Option Value) : Option (Nat × Nat × Nat) :=
  let f := fun (x : Option Value) (d : Nat) => match x with | none => some (d : Int) | some (.int _ i) => some i | _ => none
  match f mx cap, f hi len, f lo 0 with
  | some m, some h, some l => if 0 ≤ l ∧ l ≤ h ∧ h ≤ m ∧ m ≤ cap then some (l.toNat, h.toNat, m.toNat) else none
  | _, _, _ => none
theorem cut_v (len cap : Nat) (lo hi mx : Option AOpd) (t : Tmps) : cut len cap lo hi mx t = cutV len cap (lo.map (·.ev t)) (hi.map (·.ev t)) (mx.map (·.ev t)) := by
  have hb : ∀ (x : Option AOpd) (d : Nat), bnd x t d = (fun (x : Option Value) (d : Nat) => match x with | none => some (d : Int) | some (.int _ i) => some i | _ => none) (x.map (·.ev t)) d := by
    intro x d
    cases x with
    | none => rfl
    | some x => simp only [bnd, Option.map_some]; split <;> simp_all
  simp only [cut, cutV, hb]
  rfl

def slVv (sz : Nat) (x : Value) (lo hi mx : Option Value) (m : AMem) : Option (Value × AMem) :=
  match x with
  | .slice a l c =>
    if c = openCap then
      match a with
      | some ⟨b, o, none⟩ => match m.get b with
        | .cells x _ _ sp =>
          if sp.size = sz ∧ l ≤ (x.length - o) / sz then
            match cutV l ((x.length - o) / sz) lo hi mx with
            | some (i, h, k) =>
              match mx with
              | none => some (.slice (some ⟨b, o + i * sz, none⟩) (h - i) openCap, m)
              | some _ => if k ≤ 9223372036854775807 then some (.slice (some ⟨b, if k = i then o else o + i * sz, none⟩) (h - i) (k - i), m) else none
            | none => none
          else none
        | _ => none
      | _ => none
    else match cutV l c lo hi mx with
      | some (i, h, k) => match a with
        | none => some (.slice none (h - i) (k - i), m)
        | some ⟨b, o, none⟩ => some (.slice (some ⟨b, if k = i then o else o + i * sz, none⟩) (h - i) (k - i), m)
        | _ => none
      | none => none
  | _ => none
theorem stepOp_slV_v (sz : Nat) (x : AOpd) (lo hi mx : Option AOpd) (t : Tmps) (m : AMem) : stepOp (.slV sz x lo hi mx) t m = slVv sz (x.ev t) (lo.map (·.ev t)) (hi.map (·.ev t)) (mx.map (·.ev t)) m := by
  simp only [stepOp, slVv, cut_v]
  cases mx <;> rfl
def cpyV (sz : Nat) (x y : Value) (m : AMem) : Option (Value × AMem) := match x, srcLen y with
  | .slice a dl _, some n => match srcCells sz (min n dl) y m with
    | some c => if c.length = min n dl * sz ∧ c.all oneCell = true then
        match a with
        | none => if min n dl = 0 then some (.int .i64 0, m) else none
        | some ⟨b, o, none⟩ => if min n dl = 0 then some (.int .i64 0, m) else (wr m b o c).map fun m' => (.int .i64 (min n dl : Nat), m')
        | _ => none
      else none
    | none => none
  | _, _ => none
theorem stepOp_cpy_v (sz : Nat) (x y : AOpd) (t : Tmps) (m : AMem) : stepOp (.cpy sz x y) t m = cpyV sz (x.ev t) (y.ev t) m := (rfl)
def appV (e : TypeId) (sz bytes : Nat) (z : List Value) (x y : Value) (m : AMem) : Option (Value × AMem) := match srcLen y with
  | some n => match srcCells sz n y m with
    | some news => if z.length = sz ∧ 0 < sz ∧ news.all oneCell = true ∧ news.length = n * sz then appendTo e sz bytes z x n news m else none
    | none => none
  | none => none
theorem stepOp_app_v (e : TypeId) (sz bytes : Nat) (z : List Value) (x y : AOpd) (t : Tmps) (m : AMem) : stepOp (.app e sz bytes z x y) t m = appV e sz bytes z (x.ev t) (y.ev t) m := (rfl)
def b2sV (x : Value) (m : AMem) : Option (Value × AMem) := match x with
  | .slice none _ _ => some (.string .empty, m)
  | .slice (some ⟨b, o, none⟩) l _ => match rd m b o l with
    | some c => (c.mapM byteOf).map fun l => (.string ⟨l.toArray⟩, m)
    | none => none
  | _ => none
theorem stepOp_b2s_v (x : AOpd) (t : Tmps) (m : AMem) : stepOp (.b2s x) t m = b2sV (x.ev t) m := (rfl)

theorem zeroCap_lt : (0 : Nat) < openCap := openCap_lt (by omega)
theorem cutL_take {X : List Value} {o n k : Nat} {c : List Value} (h : cutL X o n = some c) (hk : k ≤ n) : cutL X o k = some (c.take k) := by
  unfold cutL at h ⊢
  split at h <;> simp at h
  rw [if_pos (by omega), ← h, List.take_take, Nat.min_eq_left hk]
theorem cutL_drop {X : List Value} {o n k : Nat} {c : List Value} (h : cutL X o n = some c) (hk : k ≤ n) : cutL X (o + k) (n - k) = some (c.drop k) := by
  unfold cutL at h ⊢
  split at h <;> simp at h
  rw [if_pos (by omega), ← h, List.drop_take, List.drop_drop]
theorem cutL_le {X : List Value} {o n : Nat} {c : List Value} (h : cutL X o n = some c) : o + n ≤ X.length := by
  unfold cutL at h; split at h <;> simp at h; assumption
theorem cutL_zero {X : List Value} {o : Nat} (h : o ≤ X.length) : cutL X o 0 = some [] := by unfold cutL; rw [if_pos (by omega)]; simp

def BSl (m : AMem) (a : Option Addr) (cap : Nat) (c : List UInt8) : Prop :=
  (a = none ∧ cap = 0 ∧ c = []) ∨ ∃ b o X e w sp, a = some ⟨b, o, none⟩ ∧ b < m.size ∧ m.get b = .cells X e w sp ∧ cutL X o c.length = some (c.map byteV) ∧ (cap = openCap ∧ sp.size = 1 ∨ cap < openCap ∧ c.length ≤ cap)
def Off (a : Option Addr) (b : Nat) : Prop := ∀ x o, a = some ⟨x, o, none⟩ → x ≠ b

theorem BSl.old {m M : AMem} {a : Option Addr} {cap : Nat} {c : List UInt8} (h : BSl m a cap c) (ho : Old m M) : BSl M a cap c := by
  rcases h with h | ⟨b, o, X, e, w, sp, h1, h2, h3, h4⟩
  · exact .inl h
  · exact .inr ⟨b, o, X, e, w, sp, h1, by have := ho.1; omega, by rw [ho.2 b h2]; exact h3, h4⟩
theorem BSl.set {m : AMem} {a : Option Addr} {cap : Nat} {c : List UInt8} (h : BSl m a cap c) {b : Nat} (hb : Off a b) (o : AObj) : BSl (m.set b o) a cap c := by
  rcases h with h | ⟨x, o', X, e, w, sp, h1, h2, h3, h4⟩
  · exact .inl h
  · exact .inr ⟨x, o', X, e, w, sp, h1, by rw [AMem.size_set]; exact h2, by rw [AMem.get_set_ne _ _ (hb x o' h1)]; exact h3, h4⟩
theorem srcCells_b {n l cap b o : Nat} {m : AMem} {X : List Value} {e : TypeId} {w : Bool} {sp : Spare} (h : n ≤ l) (hm : m.get b = .cells X e w sp) : srcCells 1 n (.slice (some ⟨b, o, none⟩) l cap) m = cutL X o n := by
  rw [srcCells_slice h, rd_def, hm, rdO_cells, Nat.mul_one]
theorem BSl.src {m : AMem} {a : Option Addr} {cap : Nat} {c : List UInt8} (h : BSl m a cap c) {n : Nat} (hn : n ≤ c.length) : srcCells 1 n (.slice a c.length cap) m = some ((c.take n).map byteV) := by
  rcases h with ⟨rfl, rfl, rfl⟩ | ⟨b, o, X, e, w, sp, rfl, h2, h3, h4, h5⟩
  · have : n = 0 := by simpa using hn
    subst this; rw [List.length_nil, srcCells_nil]; rfl
  · rw [srcCells_b hn h3, cutL_take h4 hn, List.map_take]
def tailA (a : Option Addr) (cap k : Nat) : Option Addr := match a with
  | some ⟨x, o, n⟩ => if cap = k then some ⟨x, o, n⟩ else some ⟨x, o + k, n⟩
  | none => none
def tailC (cap k : Nat) : Nat := if cap = openCap then openCap else cap - k
theorem Off.tail {a : Option Addr} {b : Nat} (h : Off a b) (cap k : Nat) : Off (tailA a cap k) b := by
  intro x o hx
  match a, h with
  | none, _ => simp [tailA] at hx
  | some ⟨y, p, none⟩, h =>
    simp only [tailA] at hx
    split at hx <;> cases hx <;> exact h _ _ rfl
  | some ⟨y, p, some q⟩, h =>
    simp only [tailA] at hx
    split at hx <;> cases hx
theorem BSl.tail {m : AMem} {a : Option Addr} {cap : Nat} {c : List UInt8} (h : BSl m a cap c) (hcl : c.length < openCap) {k : Nat} (hk : k ≤ c.length) :
    slVv 1 (.slice a c.length cap) (some (.int .i64 (k : Int))) none none m = some (.slice (tailA a cap k) (c.drop k).length (tailC cap k), m) ∧ BSl m (tailA a cap k) (tailC cap k) (c.drop k) := by
  have hc : ∀ len cap : Nat, k ≤ len → len ≤ cap → cutV len cap (some (.int .i64 (k : Int))) none none = some (k, len, cap) := fun len cap h1 h2 => by
    simp only [cutV]; rw [if_pos (by omega)]; simp
  rcases h with ⟨rfl, rfl, rfl⟩ | ⟨x, o, X, e, w, sp, rfl, h2, h3, h4, h5⟩
  · have : k = 0 := by simpa using hk
    subst this
    have h0 : ¬ (0 : Nat) = openCap := Nat.ne_of_lt zeroCap_lt
    refine ⟨?_, .inl ⟨rfl, by simp [tailC, h0], rfl⟩⟩
    simp only [slVv]
    rw [if_neg h0, hc _ _ (by simp) (by simp)]; simp [tailA, tailC, h0]
  · have hle := cutL_le h4
    rcases h5 with ⟨rfl, hs⟩ | ⟨hlt, hle2⟩
    · have hne : ¬ openCap = k := by omega
      refine ⟨?_, .inr ⟨x, o + k, X, e, w, sp, by simp [tailA, hne], h2, h3, ?_, .inl ⟨by simp [tailC], hs⟩⟩⟩
      · simp only [slVv, if_true, h3]
        rw [if_pos ⟨hs, by simp; omega⟩, hc _ _ hk (by simp; omega)]
        simp [tailA, tailC, hne]
      · rw [List.length_drop, cutL_drop h4 hk, List.map_drop]
    · have hne : ¬ cap = openCap := Nat.ne_of_lt hlt
      by_cases hkc : cap = k
      · refine ⟨?_, .inr ⟨x, o, X, e, w, sp, by simp [tailA, hkc], h2, h3, ?_, .inr ⟨by simp only [tailC, if_neg hne]; omega, by simp only [tailC, if_neg hne]; simp; omega⟩⟩⟩
        · simp only [slVv]
          rw [if_neg hne, hc _ _ hk hle2]
          simp [hkc, tailA, tailC]; omega
        · have : c.length = k := by omega
          rw [List.length_drop, this, Nat.sub_self, cutL_zero (by omega)]
          rw [List.drop_of_length_le (by omega)]; rfl
      · refine ⟨?_, .inr ⟨x, o + k, X, e, w, sp, by simp [tailA, hkc], h2, h3, ?_, .inr ⟨by simp only [tailC, if_neg hne]; omega, by simp only [tailC, if_neg hne]; simp; omega⟩⟩⟩
        · simp only [slVv]
          rw [if_neg hne, hc _ _ hk hle2]
          simp [hkc, tailA, tailC, hne]
        · rw [List.length_drop, cutL_drop h4 hk, List.map_drop]
theorem BSl.cpy {m : AMem} {a : Option Addr} {cap : Nat} {c : List UInt8} (h : BSl m a cap c) {b o dl dc : Nat} {X : List Value} {e : TypeId} {sp : Spare} (hm : m.get b = .cells X e true sp) (hk : 0 < min c.length dl) (ho : o + min c.length dl ≤ X.length) :
    cpyV 1 (.slice (some ⟨b, o, none⟩) dl dc) (.slice a c.length cap) m = some (.int .i64 (min c.length dl : Nat), m.set b (.cells (splice X o ((c.take (min c.length dl)).map byteV)) e true sp)) := by
  simp only [cpyV, srcLen_slice]
  rw [h.src (Nat.min_le_left _ _)]
  simp only
  rw [if_pos ⟨by simp, all_bytes _⟩, if_neg (by omega), wr_at hm (by simp; omega)]
  rfl
/-! Maps of strings. -/
def lkV (z : Value) (ok : Bool) (x i : Value) (m : AMem) : Option (Value × AMem) := match x, i with
  | .map none, .string _ => some (lkRes z ok none, m)
  | .map (some r), .string s => match m.get r with
    | .map es _ => match Instr.findNow .string (.string s) es.toList 0 with
      | some o => some (lkRes z ok (o.map (·.2)), m)
      | none => none
    | _ => none
  | _, _ => none
theorem stepOp_lkp_v (z : Value) (ok : Bool) (x i : AOpd) (t : Tmps) (m : AMem) : stepOp (.lkp z ok x i) t m = lkV z ok (x.ev t) (i.ev t) m := (rfl)
def mupV (x k v : Value) (m : AMem) : Option (Value × AMem) := match x, k with
  | .map (some r), .string s => if simpleB v = true then
      match m.get r with
      | .map es c => match Instr.findNow .string (.string s) es.toList 0 with
        | some (some (i, _)) => some (undef, m.set r (.map (es.modify i fun e => { e with key := .string s, val := v }) c))
        | some none => some (undef, m.set r (.map (es.push { key := .string s, val := v, born := c }) (c + 1)))
        | none => none
      | _ => none
    else none
  | _, _ => none
theorem stepOp_mup_v (x k v : AOpd) (t : Tmps) (m : AMem) : stepOp (.mup x k v) t m = mupV (x.ev t) (k.ev t) (v.ev t) m := (rfl)
theorem lkRes_ok (z : Value) (o : Option Value) : lkRes z true o = .tuple #[o.getD z, .bool o.isSome] := rfl
def keyIs (s : List UInt8) (e : MapEntry) : Bool := match e.key with | .string k => k.data.toList == s | _ => false
theorem keyIs_of {e : MapEntry} {k : ByteArray} (h : e.key = .string k) (s : List UInt8) : keyIs s e = (k.data.toList == s) := by simp only [keyIs, h]
def MapAt (m : AMem) (r : Nat) (f : List UInt8 → Option Value) : Prop := r < m.size ∧ ∃ es c, m.get r = .map es c ∧ (∀ e ∈ es.toList, ∃ k : ByteArray, e.key = .string k) ∧ ∀ s : List UInt8, ((es.toList.find? (keyIs s)).map (·.val)) = f s
theorem bytes_beq (k : ByteArray) (s : List UInt8) : ((⟨s.toArray⟩ : ByteArray) == k) = (k.data.toList == s) := by
  rw [ba_beq]
  rw [Bool.eq_iff_iff]
  simp only [beq_iff_eq]
  constructor
  · intro h; rw [← h]
  · intro h; rw [← h]
theorem find_now (s : List UInt8) : ∀ (es : List MapEntry) (j : Nat), (∀ e ∈ es, ∃ k : ByteArray, e.key = .string k) →
    ∃ o, Instr.findNow .string (.string ⟨s.toArray⟩) es j = some o ∧ o.map (·.2) = (es.find? (keyIs s)).map (·.val)
  | [], j, _ => ⟨none, rfl, rfl⟩
  | e :: es, j, h => by
    obtain ⟨k, hk⟩ := h e (by simp)
    simp only [Instr.findNow, hk, Instr.sameNow, bytes_beq]
    cases hb : (k.data.toList == s) with
    | true => exact ⟨some (j, e.val), rfl, by simp [List.find?_cons, keyIs_of hk, hb]⟩
    | false =>
      obtain ⟨o, h1, h2⟩ := find_now s es (j + 1) (fun e he => h e (by simp [he]))
      exact ⟨o, h1, by rw [h2]; simp [List.find?_cons, keyIs_of hk, hb]⟩
theorem MapAt.look {m : AMem} {r : Nat} {f : List UInt8 → Option Value} (h : MapAt m r f) (z : Value) (ok : Bool) (s : List UInt8) : lkV z ok (.map (some r)) (.string ⟨s.toArray⟩) m = some (lkRes z ok (f s), m) := by
  obtain ⟨_, es, c, h1, h2, h3⟩ := h
  obtain ⟨o, h4, h5⟩ := find_now s es.toList 0 h2
  simp only [lkV, h1, h4]
  rw [h5, h3]
theorem find_append (s : List UInt8) (es : List MapEntry) (k : List UInt8) (v : Value) (c : Nat) :
    ((es ++ [({ key := .string ⟨k.toArray⟩, val := v, born := c } : MapEntry)]).find? (keyIs s)).map (·.val) = ((es.find? (keyIs s)).map (·.val)).or (if k = s then some v else none) := by
  rw [List.find?_append]
  cases es.find? (keyIs s) with
  | some e => rfl
  | none => by_cases h : k = s <;> simp [h, List.find?_cons, keyIs]
theorem find_modify {s : List UInt8} {v : Value} : ∀ (es : List MapEntry) (j i : Nat) (u : Value), (∀ e ∈ es, ∃ k : ByteArray, e.key = .string k) → Instr.findNow .string (.string ⟨s.toArray⟩) es j = some (some (i, u)) → ∀ x : List UInt8,
    ((es.modify (i - j) fun e => { e with key := .string ⟨s.toArray⟩, val := v }).find? (keyIs x)).map (·.val) = if x = s then some v else (es.find? (keyIs x)).map (·.val)
  | [], j, i, u, _, hf, x => by simp [Instr.findNow] at hf
  | e :: es, j, i, u, h, hf, x => by
    obtain ⟨k, hk⟩ := h e (by simp)
    simp only [Instr.findNow, hk, Instr.sameNow, bytes_beq] at hf
    cases hb : (k.data.toList == s) with
    | true =>
      rw [hb] at hf
      simp at hf
      obtain ⟨rfl, rfl⟩ := hf
      have hks : k.data.toList = s := by simpa using hb
      rw [Nat.sub_self, List.modify_zero_cons]
      by_cases hx : x = s
      · subst hx; simp [List.find?_cons, keyIs]
      · have hx2 : ¬ s = x := fun e => hx e.symm
        simp [List.find?_cons, keyIs, hx, hk, hks, hx2]
    | false =>
      rw [hb] at hf
      simp only at hf
      have hj : j + 1 ≤ i := by obtain ⟨_, h1, _⟩ := findNow_at _ _ hf; exact h1
      rw [show i - j = (i - (j + 1)) + 1 by omega, List.modify_succ_cons]
      have ih := find_modify (v := v) es (j + 1) i u (fun e he => h e (by simp [he])) hf x
      simp only [List.find?_cons, keyIs_of hk]
      cases hx : (k.data.toList == x) with
      | true =>
        have : ¬ x = s := fun e => by subst e; rw [hb] at hx; cases hx
        simp [this]
      | false => simpa using ih
theorem find_none {s : List UInt8} {es : List MapEntry} {j : Nat} (h : ∀ e ∈ es, ∃ k : ByteArray, e.key = .string k) (hf : Instr.findNow .string (.string ⟨s.toArray⟩) es j = some none) : (es.find? (keyIs s)).map (·.val) = none := by
  obtain ⟨o, h1, h2⟩ := find_now s es j h
  rw [hf] at h1; cases h1
  exact h2.symm
theorem MapAt.put {m : AMem} {r : Nat} {f : List UInt8 → Option Value} (h : MapAt m r f) (s : List UInt8) {v : Value} (hv : simpleB v = true) :
    ∃ o, mupV (.map (some r)) (.string ⟨s.toArray⟩) v m = some (undef, m.set r o) ∧ MapAt (m.set r o) r fun x => if x = s then some v else f x := by
  obtain ⟨h0, es, c, h1, h2, h3⟩ := h
  obtain ⟨o, h4, h5⟩ := find_now s es.toList 0 h2
  cases o with
  | some q =>
    obtain ⟨i, u⟩ := q
    refine ⟨.map (es.modify i fun e => { e with key := .string ⟨s.toArray⟩, val := v }) c, by simp only [mupV, hv, if_true, h1, h4], h0, _, _, AMem.get_set_self _ _ _, ?_, fun x => ?_⟩
    · intro e he
      rw [Array.toList_modify] at he
      obtain ⟨j, hj, rfl⟩ := List.mem_iff_getElem.1 he
      rw [List.getElem_modify]
      split
      · exact ⟨_, rfl⟩
      · exact h2 _ (List.getElem_mem _)
    · have := find_modify es.toList 0 i u (v := v) h2 h4 x
      rw [Nat.sub_zero] at this
      rw [Array.toList_modify, this, h3]
  | none =>
    refine ⟨.map (es.push { key := .string ⟨s.toArray⟩, val := v, born := c }) (c + 1), by simp only [mupV, hv, if_true, h1, h4], h0, _, _, AMem.get_set_self _ _ _, ?_, fun x => ?_⟩
    · intro e he
      rw [Array.toList_push] at he
      rcases List.mem_append.1 he with h | h
      · exact h2 e h
      · rw [List.mem_singleton] at h; subst h; exact ⟨_, rfl⟩
    · rw [Array.toList_push, find_append, h3]
      by_cases hx : x = s
      · subst hx
        have := find_none h2 h4
        rw [h3] at this
        simp [this]
      · have hx2 : ¬ s = x := fun e => hx e.symm
        show (f x).or (if s = x then some v else none) = if x = s then some v else f x
        rw [if_neg hx, if_neg hx2]
        cases f x <;> rfl
theorem MapAt.keep {m m' : AMem} {r : Nat} {f : List UInt8 → Option Value} (h : MapAt m r f) (hs : m.size ≤ m'.size) (hg : m'.get r = m.get r) : MapAt m' r f := by
  obtain ⟨h0, es, c, h1, h2⟩ := h
  exact ⟨Nat.lt_of_lt_of_le h0 hs, es, c, hg.trans h1, h2⟩
theorem MapAt.old {m m' : AMem} {r : Nat} {f : List UInt8 → Option Value} (h : MapAt m r f) (ho : Old m m') : MapAt m' r f := h.keep ho.1 (ho.2 r h.1)
theorem MapAt.new {m : AMem} {r : Nat} (hr : r < m.size) (h : m.get r = .map #[] 0) : MapAt m r fun _ => none := ⟨hr, _, _, h, by simp, by simp⟩
end Go.AM
namespace Go.AM
set_option linter.unusedVariables false

def Buf (m M : AMem) (v : Value) (c : List Value) (e : TypeId) (z : Value) : Prop :=
  (c = [] ∧ v = .slice none 0 0) ∨ ∃ b, m.size ≤ b ∧ b < M.size ∧ v = .slice (some ⟨b, 0, none⟩) c.length openCap ∧ M.get b = .cells c e true (.room [z])
def Fr (v : Value) (M M' : AMem) : Prop := M.size ≤ M'.size ∧ ∀ x, x < M.size → (∀ o l c, v ≠ .slice (some ⟨x, o, none⟩) l c) → M'.get x = M.get x

theorem Buf.nil (m M : AMem) (e : TypeId) (z : Value) : Buf m M (.slice none 0 0) [] e z := .inl ⟨rfl, rfl⟩
theorem Buf.len {m M : AMem} {v : Value} {c : List Value} {e : TypeId} {z : Value} (h : Buf m M v c e z) : ∃ a cap, v = .slice a c.length cap := by
  rcases h with ⟨rfl, rfl⟩ | ⟨b, _, _, rfl, _⟩
  · exact ⟨_, _, rfl⟩
  · exact ⟨_, _, rfl⟩
theorem Old.fr {m M M' : AMem} {v : Value} (h : Old m M) (hf : Fr v M M') (hv : ∀ x o l c, x < m.size → v ≠ .slice (some ⟨x, o, none⟩) l c) : Old m M' :=
  ⟨Nat.le_trans h.1 hf.1, fun b hb => (hf.2 b (Nat.lt_of_lt_of_le hb h.1) fun o l c => hv b o l c hb).trans (h.2 b hb)⟩

theorem Buf.app1 {m M : AMem} {v : Value} {c : List Value} {e e2 : TypeId} {z x : Value} {bytes : Nat} (h : Buf m M v c e z) (hm : m.size ≤ M.size) (ho : oneCell x = true) (hz : eqPL [z] [z] = true)
    (hb : 2 * (c.length + 1) * bytes ≤ 281474976710656) (hn : c.length + 1 ≤ 9223372036854775807) :
    ∃ v' M', appV e 1 bytes [z] v (.slice (some ⟨M.size, 0, none⟩) 1 1) (mx M [.cells [x] e2 true .exact]) = some (v', mx M' []) ∧ Buf m M' v' (c ++ [x]) e z ∧ Fr v M M' := by
  have hs : srcCells 1 1 (.slice (some ⟨M.size, 0, none⟩) 1 1) (mx M [.cells [x] e2 true .exact]) = some [x] := by
    rw [srcCells_b (Nat.le_refl _) (mx_new0 M _)]; rfl
  have hv : appV e 1 bytes [z] v (.slice (some ⟨M.size, 0, none⟩) 1 1) (mx M [.cells [x] e2 true .exact]) = appendTo e 1 bytes [z] v 1 [x] (mx M [.cells [x] e2 true .exact]) := by
    simp only [appV, srcLen_slice, hs]
    rw [if_pos ⟨rfl, by omega, by simp [ho], rfl⟩]
  rw [hv]
  rcases h with ⟨rfl, rfl⟩ | ⟨b, h1, h2, rfl, h4⟩
  · refine ⟨_, mx M [.cells [x] e2 true .exact, .cells [x] e true (.room [z])], ?_, .inr ⟨M.size + 1, by omega, by simp [mx_size], rfl, mx_new M _ 1⟩, by rw [mx_size]; omega, fun y hy _ => mx_old hy⟩
    rw [appendTo_nil (by omega) (by simpa using hb) (by omega), mx_push, mx_mx, mx_size]; rfl
  · refine ⟨.slice (some ⟨M.size + 1, 0, none⟩) (c ++ [x]).length openCap, mx (M.set b .dead) [.cells [x] e2 true .exact, .cells (c ++ [x]) e true (.room [z])], ?_, .inr ⟨M.size + 1, by omega, by simp only [mx_size, AMem.size_set, List.length_cons, List.length_nil]; omega, rfl, mx_new (M.set b .dead) _ 1⟩, by simp only [mx_size, AMem.size_set, List.length_cons, List.length_nil]; omega, fun y hy hne => ?_⟩
    · rw [appendTo_open (sz := 1) (z' := [z]) ((mx_old h2).trans h4) hz rfl (by omega) (show c.length = c.length * 1 by omega) (by omega) hb hn, mx_set_old h2, mx_push, mx_mx, mx_size, List.length_append]; rfl
    · have : y ≠ b := fun e => hne 0 c.length openCap (by rw [e])
      rw [mx_old (by rw [AMem.size_set]; exact hy), AMem.get_set_ne _ _ this]
theorem Buf.new {m M : AMem} {v : Value} {c : List Value} {e : TypeId} {z : Value} (h : Buf m M v c e z) : ∀ x o l k, x < m.size → v ≠ .slice (some ⟨x, o, none⟩) l k := by
  intro x o l k hx hv
  rcases h with ⟨rfl, rfl⟩ | ⟨b, h1, h2, rfl, h4⟩
  · cases hv
  · cases hv; omega
theorem BSl.off {m : AMem} {a : Option Addr} {cap : Nat} {c : List UInt8} (h : BSl m a cap c) {b : Nat} (hb : m.size ≤ b) : Off a b := by
  intro x o hx
  rcases h with ⟨rfl, _⟩ | ⟨y, p, X, e, w, sp, rfl, h2, _⟩
  · cases hx
  · cases hx; omega
theorem Buf.kept {m M : AMem} {a : Option Addr} {n cap : Nat} {c : List Value} {e : TypeId} {z : Value} (h : Buf m M (.slice a n cap) c e z) (ho : Old m M) (hc : c ≠ []) (hp : ∀ v ∈ c, Plain v) :
    ∃ v ks m0 objs, AEnd.ret (.slice a n cap) = .ret v ∧ Kept m (mx M []) m0 ks objs ∧ RenV (keepS m ks) (.slice (some ⟨m.size, 0, none⟩) c.length openCap) v ∧ mx m [.cells c e true (.room [z])] = mx m0 objs := by
  rcases h with ⟨h, _⟩ | ⟨b, h1, h2, h3, h4⟩
  · exact absurd h hc
  · cases h3
    exact ⟨_, [b], m, _, rfl, Kept.one h1 ((mx_old h2).trans h4) hp rfl (fun x hx => ⟨rfl, (mx_old (Nat.lt_of_lt_of_le hx ho.1)).trans (ho.2 x hx)⟩), .slice keepS_new0, rfl⟩
theorem Buf.blk {m M : AMem} {a : Option Addr} {n cap : Nat} {c : List Value} {e : TypeId} {z : Value} (h : Buf m M (.slice a n cap) c e z) (hc : c ≠ []) : ∃ b, m.size ≤ b ∧ b < M.size ∧ a = some ⟨b, 0, none⟩ ∧ n = c.length ∧ cap = openCap ∧ M.get b = .cells c e true (.room [z]) := by
  rcases h with ⟨h, _⟩ | ⟨b, h1, h2, h3, h4⟩
  · exact absurd h hc
  · cases h3; exact ⟨b, h1, h2, rfl, rfl, rfl, h4⟩

theorem BSl.str {m : AMem} {a : Option Addr} {cap : Nat} {c : List UInt8} (h : BSl m a cap c) : b2sV (.slice a c.length cap) m = some (.string ⟨c.toArray⟩, m) := by
  rcases h with ⟨rfl, rfl, rfl⟩ | ⟨b, o, X, e, w, sp, rfl, h2, h3, h4, h5⟩
  · rfl
  · simp only [b2sV]; rw [rd_def, h3, rdO_cells, h4]; simp only [mapM_byteOf]; rfl
theorem BSl.get {m : AMem} {a : Option Addr} {cap : Nat} {c : List UInt8} (h : BSl m a cap c) {i : Nat} (hi : i < c.length) : ∃ b o, a = some ⟨b, o, none⟩ ∧ rd m b (o + i) 1 = some [byteV c[i]] := by
  rcases h with ⟨rfl, rfl, rfl⟩ | ⟨b, o, X, e, w, sp, rfl, h2, h3, h4, h5⟩
  · simp at hi
  · refine ⟨b, o, rfl, ?_⟩
    rw [rd_def, h3, rdO_cells]
    have := cutL_take (cutL_drop h4 (Nat.le_of_lt hi)) (k := 1) (by omega)
    rw [this, ← List.map_drop, ← List.map_take, List.drop_eq_getElem_cons hi]; rfl
theorem slV_open {M : AMem} {b o L i h : Nat} {X : List Value} {e : TypeId} {w : Bool} {sp : Spare} (hm : M.get b = .cells X e w sp) (hs : sp.size = 1) (hL : L ≤ X.length - o) (h1 : i ≤ h) (h2 : h ≤ X.length - o) :
    slVv 1 (.slice (some ⟨b, o, none⟩) L openCap) (some (.int .i64 (i : Int))) (some (.int .i64 (h : Int))) none M = some (.slice (some ⟨b, o + i, none⟩) (h - i) openCap, M) := by
  have hc : cutV L ((X.length - o) / 1) (some (.int .i64 (i : Int))) (some (.int .i64 (h : Int))) none = some (i, h, X.length - o) := by
    simp only [cutV]; rw [if_pos (by omega)]; simp
  simp only [slVv, if_true, hm]
  rw [if_pos ⟨hs, by simp; omega⟩, hc]
  simp
theorem Buf.bsl {m M : AMem} {a : Option Addr} {n cap : Nat} {c : List UInt8} {e : TypeId} {z : Value} (h : Buf m M (.slice a n cap) (c.map byteV) e z) : n = c.length ∧ BSl M a cap c := by
  rcases h with ⟨h, h2⟩ | ⟨b, h1, h2, h3, h4⟩
  · cases h2
    obtain rfl : c = [] := by simpa using h
    exact ⟨rfl, .inl ⟨rfl, rfl, rfl⟩⟩
  · rw [List.length_map] at h3
    cases h3
    exact ⟨rfl, .inr ⟨b, 0, _, _, _, _, rfl, h2, h4, by rw [← List.length_map (f := byteV)]; exact cutL_all rfl, .inl ⟨rfl, rfl⟩⟩⟩
def BSS (m : AMem) (a : Option Addr) (ls : List (List UInt8)) : Prop :=
  (a = none ∧ ls = []) ∨ ∃ b o X e w sp, a = some ⟨b, o, none⟩ ∧ b < m.size ∧ m.get b = .cells X e w sp ∧ ∀ i (h : i < ls.length), ∃ a' cap', X[o + i]? = some (.slice a' ls[i].length cap') ∧ BSl m a' cap' ls[i]
theorem BSS.old {m M : AMem} {a : Option Addr} {ls : List (List UInt8)} (h : BSS m a ls) (ho : Old m M) : BSS M a ls := by
  rcases h with h | ⟨b, o, X, e, w, sp, h1, h2, h3, h4⟩
  · exact .inl h
  · refine .inr ⟨b, o, X, e, w, sp, h1, Nat.lt_of_lt_of_le h2 ho.1, by rw [ho.2 b h2]; exact h3, fun i hi => ?_⟩
    obtain ⟨a', cap', h5, h6⟩ := h4 i hi
    exact ⟨a', cap', h5, h6.old ho⟩
theorem BSS.get {m : AMem} {a : Option Addr} {ls : List (List UInt8)} (h : BSS m a ls) {i : Nat} (hi : i < ls.length) :
    ∃ b o a' cap', a = some ⟨b, o, none⟩ ∧ b < m.size ∧ rd m b (o + i) 1 = some [.slice a' ls[i].length cap'] ∧ BSl m a' cap' ls[i] := by
  rcases h with ⟨_, rfl⟩ | ⟨b, o, X, e, w, sp, h1, h2, h3, h4⟩
  · simp at hi
  · obtain ⟨a', cap', h5, h6⟩ := h4 i hi
    exact ⟨b, o, a', cap', h1, h2, by rw [rd_def, h3, rdO_cells, cutL_one, h5]; rfl, h6⟩
end Go.AM
namespace Go.AM
set_option linter.unusedVariables false

def ACode.hd : ACode → ACode
  | .seq a _ => a
  | _ => .skip
def ACode.tl : ACode → ACode
  | .seq _ b => b
  | _ => .skip
theorem hd_seq (a b : ACode) : (ACode.seq a b).hd = a := rfl
theorem tl_seq (a b : ACode) : (ACode.seq a b).tl = b := rfl

section
variable {P : Program} {G : Nat}

def RelC (P : Program) (G : Nat) (f : FuncId) (args : List Value) (m : AMem) (R : Value → AMem → Prop) : Prop :=
  ACall P G f args m fun r m' => ∃ v, r = .ret v ∧ R v m'

theorem RelC.mono {f : FuncId} {args : List Value} {m : AMem} {R R' : Value → AMem → Prop} (h : RelC P G f args m R) (k : ∀ v m', R v m' → R' v m') : RelC P G f args m R' :=
  ACall.mono h fun r m' ⟨v, h1, h2⟩ => ⟨v, h1, k v m' h2⟩

theorem mx_nil_get (m : AMem) {b : Nat} (h : b < m.size) : (mx m []).get b = m.get b := mx_old h
theorem mx_nil_size (m : AMem) : (mx m []).size = m.size := by rw [mx_size]; rfl

theorem Rep.agree {m m2 : AMem} {ρ : Ren} {w : World} (hR : Rep G m ρ w) (hs : m2.size = m.size) (hg : ∀ b, b < m.size → m2.get b = m.get b) : Rep G m2 ρ w := by
  have e : ∀ {b L}, ρ b = some L → m2.get b = m.get b := fun {b L} h => hg b (hR.dom b L h)
  refine ⟨fun b L h => by rw [hs]; exact hR.dom b L h, fun b L h => by rw [e h]; exact hR.obj b L h, fun b b' L L' h1 h2 hne k1 k2 k3 => ?_, hR.glob⟩
  rw [e h1] at k1 k3; rw [e h2] at k2
  exact hR.sep b b' L L' h1 h2 hne k1 k2 k3
theorem Ext.agree {m m2 m0 : AMem} {ρ ρ0 : Ren} {w w0 : World} (hE : Ext m0 ρ0 w0 m ρ w) (hR : Rep G m ρ w) (hs : m2.size = m.size) (hg : ∀ b, b < m.size → m2.get b = m.get b) : Ext m0 ρ0 w0 m2 ρ w := by
  refine ⟨hE.ren, hE.os, hE.tape, hE.output, hE.size, hE.keep, fun i hi ⟨b, L, h1, h2, h3⟩ => hE.img i hi ⟨b, L, h1, ?_, h3⟩, hE.late, by rw [hs]; exact hE.grow⟩
  rw [hg b (hR.dom b L h1)] at h2; exact h2

theorem ACall.norm {f : FuncId} {args : List Value} {m : AMem} {Q : AEnd → AMem → Prop} (h : ACall P G f args m Q) : ACall P G f args m fun r m' => ∃ M, m' = mx M [] ∧ Q r M := by
  intro ρ w args' hR hA
  have main : ∀ {e w'}, (∃ ρ' m' r, Q r m' ∧ EndRel ρ' r e ∧ Rep G m' ρ' w' ∧ Ext m ρ w m' ρ' w') → ∃ ρ' m' r, (∃ M, m' = mx M [] ∧ Q r M) ∧ EndRel ρ' r e ∧ Rep G m' ρ' w' ∧ Ext m ρ w m' ρ' w' := by
    rintro e w' ⟨ρ', m', r, h1, h2, h3, h4⟩
    exact ⟨ρ', mx m' [], r, ⟨m', rfl, h1⟩, h2, h3.agree (mx_nil_size m') (fun b hb => mx_nil_get m' hb), h4.agree h3 (mx_nil_size m') (fun b hb => mx_nil_get m' hb)⟩
  have := h ρ w args' hR hA
  split at this
  · exact this.mono fun e w' h => main h
  · exact main this
  · exact this

theorem RelC.call {f : FuncId} {args : List Value} {m : AMem} {R : Value → AMem → Prop} (h : RelC P G f args m R) {d : Option Nat} {t : Tmps} {ds : List Deferred} {K : ASt → Prop} {Q : AExit → ASt → Prop}
    (hK : ∀ v M, R v M → K ⟨updO t d v, mx M [], ds⟩) : ACall P G f args m (CallK d ⟨t, m, ds⟩ K Q) := by
  refine ACall.mono (ACall.norm h) ?_
  rintro r m' ⟨M, rfl, v, rfl, hR⟩
  exact hK v M hR

theorem RelC.at {f : FuncId} {args : List Value} {m : AMem} {R : Value → AMem → Prop} (h : RelC P G f args m R) : RelC P G f args (mx m []) R :=
  ACall.eqv (mx_nil_size m).symm (fun b hb => (mx_nil_get m (by rwa [mx_nil_size] at hb)).symm) h

theorem rel_of_W {f : FuncId} {fn : Func} {A : AFun} (hf : P.funcs[f]? = some fn) (hn : (fn.name == "runtime.NumGoroutine") = false) (hA : compFun P G fn = some A) {args : List Value} (hlen : args.length ≤ A.n) {m : AMem} {R : Value → AMem → Prop}
    (h : W P G A.code (RetK A.res fun r m' => ∃ v, r = .ret v ∧ (m.size ≤ m'.size → R v m')) ⟨initT args, mx m [], []⟩) : RelC P G f args m R := by
  refine ACall.mono (ACall.grow (ACall.eqv (m1 := mx m []) (mx_nil_size m) (fun b hb => mx_old hb) (ACall_of_W hf hn hA hlen h))) ?_
  rintro r m' ⟨⟨v, rfl, h1⟩, h2⟩
  exact ⟨v, rfl, h1 h2⟩

theorem DetC.rel {f : FuncId} {args : List Value} {m : AMem} {v : Value} {m2 : AMem} (h : DetC P G f args m v m2) : RelC P G f args m fun v' m' => v' = v ∧ m' = m2 :=
  ACall.mono h fun r m' ⟨h1, h2⟩ => ⟨v, h1, rfl, h2⟩
end

/-! ### What may change -/
def Keep (O : Nat → Prop) (m m' : AMem) : Prop := m.size ≤ m'.size ∧ ∀ x, x < m.size → ¬ O x → m'.get x = m.get x

theorem Keep.refl (O : Nat → Prop) (m : AMem) : Keep O m m := ⟨Nat.le_refl _, fun _ _ _ => rfl⟩
theorem Old.keep {m m' : AMem} (h : Old m m') (O : Nat → Prop) : Keep O m m' := ⟨h.1, fun x hx _ => h.2 x hx⟩
theorem Keep.old {m m' : AMem} (h : Keep (fun _ => False) m m') : Old m m' := ⟨h.1, fun x hx => h.2 x hx id⟩
theorem Keep.trans {O O1 : Nat → Prop} {m m1 m2 : AMem} (h : Keep O m m1) (k : Keep O1 m1 m2) (ho : ∀ x, x < m.size → O1 x → O x) : Keep O m m2 :=
  ⟨Nat.le_trans h.1 k.1, fun x hx hn => (k.2 x (Nat.lt_of_lt_of_le hx h.1) fun hc => hn (ho x hx hc)).trans (h.2 x hx hn)⟩
theorem Keep.set {O : Nat → Prop} {m m' : AMem} (h : Keep O m m') {b : Nat} (hb : b < m.size → O b) (o : AObj) : Keep O m (m'.set b o) :=
  ⟨h.1, fun x hx hn => by
    have : x ≠ b := fun e => hn (e ▸ hb (e ▸ hx))
    rw [AMem.get_set_ne _ _ this]; exact h.2 x hx hn⟩
theorem Keep.mx {O : Nat → Prop} {m m' : AMem} (h : Keep O m m') (l : List AObj) : Keep O m (mx m' l) := ⟨by rw [mx_size]; have := h.1; omega, fun x hx hn => by rw [mx_old (Nat.lt_of_lt_of_le hx h.1)]; exact h.2 x hx hn⟩
class Ex where
  x : Nat

def ByV [Ex] (e : TypeId) (m : AMem) (v : Value) (c : List UInt8) : Prop :=
  (c = [] ∧ v = .slice none 0 0) ∨ ∃ b o cap X w sp, v = .slice (some ⟨b, o, none⟩) c.length cap ∧ b < m.size ∧ m.get b = .cells X e w sp ∧ cutL X o c.length = some (c.map byteV) ∧ (cap = openCap ∧ sp.size = 1 ∨ cap < openCap ∧ c.length ≤ cap) ∧ b ≠ Ex.x

theorem ByV.nil [Ex] (e : TypeId) (m : AMem) : ByV e m (.slice none 0 0) [] := .inl ⟨rfl, rfl⟩
theorem ByV.bsl [Ex] {e : TypeId} {m : AMem} {v : Value} {c : List UInt8} (h : ByV e m v c) : ∃ a cap, v = .slice a c.length cap ∧ BSl m a cap c := by
  rcases h with ⟨rfl, rfl⟩ | ⟨b, o, cap, X, w, sp, rfl, h1, h2, h3, h4, -⟩
  · exact ⟨none, 0, rfl, .inl ⟨rfl, rfl, rfl⟩⟩
  · exact ⟨_, _, rfl, .inr ⟨b, o, X, e, w, sp, rfl, h1, h2, h3, h4⟩⟩
theorem ByV.keep [Ex] {e : TypeId} {m m' : AMem} {v : Value} {c : List UInt8} (h : ByV e m v c) {O : Nat → Prop} (hk : Keep O m m') (ho : ∀ x X w sp, m.get x = .cells X e w sp → ¬ O x) : ByV e m' v c := by
  rcases h with h | ⟨b, o, cap, X, w, sp, h0, h1, h2, h3, h4⟩
  · exact .inl h
  · exact .inr ⟨b, o, cap, X, w, sp, h0, Nat.lt_of_lt_of_le h1 hk.1, by rw [hk.2 b h1 (ho b X w sp h2)]; exact h2, h3, h4⟩
theorem ByV.old [Ex] {e : TypeId} {m m' : AMem} {v : Value} {c : List UInt8} (h : ByV e m v c) (hk : Old m m') : ByV e m' v c := h.keep (hk.keep fun _ => False) fun _ _ _ _ _ h => h
theorem ByV.len [Ex] {e : TypeId} {m : AMem} {v : Value} {c : List UInt8} (h : ByV e m v c) : ∃ a cap, v = .slice a c.length cap := by
  obtain ⟨a, cap, h, _⟩ := h.bsl; exact ⟨a, cap, h⟩
end Go.AM
namespace Go.AM
set_option linter.unusedVariables false

section
variable {P : Program} {G : Nat}

theorem calls_of_ACall_mem {f : FuncId} {fn : Func} {c : Code} (hf : P.funcs[f]? = some fn) (hname : (fn.name == "runtime.NumGoroutine") = false) (hb : fn.body = some c) {args : List Value} {args' : Array Value} {m : AMem} {ρ : Ren} {w : World}
    (hR : Rep G m ρ w) (hL : LRel ρ args args'.toList) (hw : ∀ b, (m.get b).wrt = false)
    (h : ACall P G f args m fun r _ => r = .ret (.bool true)) : Calls P f args' w fun e w' => e = .returned (.bool true) ∧ RowKit.Below w.heap.size w w' := by
  have := h _ w args' hR hL
  rw [run_enter hf hname hb args' w] at this
  refine this.mono fun e w' hh => ?_
  obtain ⟨ρ', m', r, rfl, h2, h3, h4⟩ := hh
  cases h2 with
  | ret hv =>
    cases hv
    refine ⟨rfl, h4.os, h4.tape, h4.output, h4.size, fun k hk => h4.keep k hk ?_⟩
    rintro ⟨b, L, _, hwr, _⟩
    rw [hw b] at hwr; cases hwr

def memOf (os : List (AObj × Loc)) : AMem := ⟨os.length, fun b => match os[b]? with | some x => x.1 | none => .dead⟩
def renOf (os : List (AObj × Loc)) : Ren := fun b => os[b]?.map (·.2)
theorem Rep.of {w : World} (os : List (AObj × Loc)) (hG : ∀ g, g < G → ∃ x, os[g]? = some x ∧ x.2.cb = g ∧ x.2.co = 0)
    (ho : ∀ x ∈ os, ObjRel (renOf os) x.1 x.2 w) (hw : ∀ x ∈ os, x.1.wrt = false) : Rep G (memOf os) (renOf os) w where
  dom := fun b L hb => by
    simp only [renOf, Option.map_eq_some_iff] at hb
    obtain ⟨x, hx, _⟩ := hb
    exact (List.getElem?_eq_some_iff.1 hx).1
  obj := fun b L hb => by
    simp only [renOf, Option.map_eq_some_iff] at hb
    obtain ⟨x, hx, rfl⟩ := hb
    simp only [memOf, hx]
    exact ho x (List.mem_of_getElem? hx)
  sep := fun b b' L L' hb hb' hne h1 h2 h3 => by
    simp only [renOf, Option.map_eq_some_iff] at hb
    obtain ⟨x, hx, rfl⟩ := hb
    simp only [memOf, hx, hw x (List.mem_of_getElem? hx)] at h3
    cases h3
  glob := fun g hg => by
    obtain ⟨x, hx, h1, h2⟩ := hG g hg
    exact ⟨x.2, by simp only [renOf, hx, Option.map_some], h1, h2⟩
theorem memOf_wrt {os : List (AObj × Loc)} (hw : ∀ x ∈ os, x.1.wrt = false) (b : Nat) : ((memOf os).get b).wrt = false := by
  simp only [memOf]
  split
  · rename_i x hx; exact hw x (List.mem_of_getElem? hx)
  · rfl

theorem ObjRel.plain {w : World} {ρ : Ren} {c : List Value} {e : TypeId} {b o : Nat} {carr : Array Value} {frz : Nat × Nat} (h : w.heap[b]? = some (.cells carr e frz)) (hl : o + c.length ≤ carr.size)
    (hc : ∀ j (h : j < c.length), carr.getD (o + j) undef = c[j]) (hp : ∀ v ∈ c, Plain v) (sz : Nat) (hsz : 0 < sz) : ObjRel ρ (.cells c e false (.full sz)) ⟨b, o, c.length, sz⟩ w :=
  ⟨carr, frz, h, hl, Nat.le_refl _, (fun h => by cases h), (fun k h => by cases h; exact ⟨rfl, rfl, hsz⟩), (fun j hj => by rw [hc j hj]; exact hp _ (List.getElem_mem hj) ρ), (fun z h => by cases h), fun h => by cases h⟩

end
end Go.AM
namespace Go.AM
set_option linter.unusedVariables false

inductive SlP (w : World) (c : List Value) : Value → Prop
  | nil (h : c = []) : SlP w c (.slice none 0 0)
  | none (a : Addr) (h : c = []) : SlP w c (.slice (some a) 0 0)
  | some (b o cap : Nat) (carr : Array Value) (ty : TypeId) (frz : Nat × Nat) (hh : w.heap[b]? = some (.cells carr ty frz)) (hl : o + c.length ≤ carr.size)
      (hc : ∀ j (h : j < c.length), carr.getD (o + j) undef = c[j]) (hcap : cap ≤ 9223372036854775807) (hle : c.length ≤ cap) : SlP w c (.slice (some ⟨b, o, Option.none⟩) c.length cap)

end Go.AM
