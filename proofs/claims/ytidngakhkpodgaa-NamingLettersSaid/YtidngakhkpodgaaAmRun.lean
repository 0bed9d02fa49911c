/-
  Running the abstract machine by rewriting.
-/
import Derived.Test.YtidngakhkpodgaaAmSound3
set_option linter.unusedVariables false
set_option linter.unusedSimpArgs false
set_option linter.unnecessarySimpa false
namespace Go.AM
set_option linter.unusedVariables false
set_option linter.unusedSimpArgs false

section
variable {P : Program} {G : Nat} {Q : AExit → ASt → Prop} {K : ASt → Prop} {t : Tmps} {m : AMem} {ds : List Deferred} {s : ASt}

/-! What rewriting does not enter: the continuations. -/
@[congr] theorem W_congr {c c' : ACode} {s s' : ASt} (h : s = s') : W P G c Q s = W P G c Q s' := by rw [h]
@[congr] theorem WI_congr {is : List AIns} {s s' : ASt} (h : s = s') : WI P G is Q s = WI P G is Q s' := by rw [h]
@[congr] theorem ACall_congr {f : FuncId} {as as' : List Value} {m m' : AMem} {R : AEnd → AMem → Prop} (h : as = as') (k : m = m') : ACall P G f as m R = ACall P G f as' m' R := by rw [h, k]

theorem W_skip : W P G .skip Q s = Q .normal s := (rfl)
theorem W_reg (is : List AIns) : W P G (.reg is) Q s = WI P G is Q s := (rfl)
theorem W_seq (a b : ACode) : W P G (.seq a b) Q s = W P G a (SeqK (W P G b Q) Q) s := (rfl)
theorem W_block (id : Nat) (a : ACode) : W P G (.block id a) Q s = W P G a (BlockK id Q) s := (rfl)
theorem W_exit (id : Nat) : W P G (.exit id) Q s = Q (.exit id) s := (rfl)
theorem W_ret : W P G .ret Q s = Q .ret s := (rfl)
theorem W_true {c : AOpd} {a b : ACode} (h : c.ev t = .bool true) : W P G (.cond c a b) Q ⟨t, m, ds⟩ = W P G a Q ⟨t, m, ds⟩ := by simp [W, h]
theorem W_false {c : AOpd} {a b : ACode} (h : c.ev t = .bool false) : W P G (.cond c a b) Q ⟨t, m, ds⟩ = W P G b Q ⟨t, m, ds⟩ := by simp [W, h]

theorem SeqK_normal : SeqK K Q .normal s = K s := (rfl)
theorem SeqK_exit (id : Nat) : SeqK K Q (.exit id) s = Q (.exit id) s := (rfl)
theorem SeqK_ret : SeqK K Q .ret s = Q .ret s := (rfl)
theorem SeqK_pan (c : List PanicEntry) : SeqK K Q (.pan c) s = Q (.pan c) s := (rfl)
theorem BlockK_normal (id : Nat) : BlockK id Q .normal s = Q .normal s := (rfl)
theorem BlockK_exit (id i : Nat) : BlockK id Q (.exit i) s = if i = id then Q .normal s else Q (.exit i) s := (rfl)
theorem BlockK_ret (id : Nat) : BlockK id Q .ret s = Q .ret s := (rfl)
theorem BlockK_pan (id : Nat) (c : List PanicEntry) : BlockK id Q (.pan c) s = Q (.pan c) s := (rfl)
theorem LoopK_normal (I : Nat → ASt → Prop) (n : Nat) : LoopK I n Q .normal s = ∃ k, k < n ∧ I k s := (rfl)
theorem LoopK_exit (I : Nat → ASt → Prop) (n id : Nat) : LoopK I n Q (.exit id) s = Q (.exit id) s := (rfl)
theorem LoopK_ret (I : Nat → ASt → Prop) (n : Nat) : LoopK I n Q .ret s = Q .ret s := (rfl)
theorem LoopK_pan (I : Nat → ASt → Prop) (n : Nat) (c : List PanicEntry) : LoopK I n Q (.pan c) s = Q (.pan c) s := (rfl)

set_option linter.unusedVariables false in
theorem WI_nil : WI P G [] Q s = Q .normal s := (rfl)
/-- What an operation gives, given on. -/
def OpW (o : Option (Value × AMem)) (K : Value → AMem → Prop) : Prop := match o with | some (v, m') => K v m' | none => False
@[congr] theorem OpW_congr {o o' : Option (Value × AMem)} {K : Value → AMem → Prop} (h : o = o') : OpW o K = OpW o' K := by rw [h]
theorem OpW_some (v : Value) (m' : AMem) (K : Value → AMem → Prop) : OpW (some (v, m')) K = K v m' := (rfl)
theorem OpW_none (K : Value → AMem → Prop) : OpW none K = False := (rfl)
/-- One of two, by a value. -/
def BoolW (v : Value) (A B : Prop) : Prop := match v with | .bool c => if c then A else B | _ => False
@[congr] theorem BoolW_congr {v v' : Value} {A B : Prop} (h : v = v') : BoolW v A B = BoolW v' A B := by rw [h]
theorem BoolW_true (A B : Prop) : BoolW (.bool true) A B = A := (rfl)
theorem BoolW_false (A B : Prop) : BoolW (.bool false) A B = B := (rfl)
theorem BoolW_of {c : Bool} {A B : Prop} (h : c = true → A) (k : c = false → B) : BoolW (.bool c) A B := by cases c <;> simp_all [BoolW]
theorem BoolW_dec {p : Prop} [Decidable p] {A B : Prop} (h : p → A) (k : ¬ p → B) : BoolW (.bool (decide p)) A B := by
  by_cases hp : p <;> simp_all [BoolW]
theorem W_cond (c : AOpd) (a b : ACode) : W P G (.cond c a b) Q ⟨t, m, ds⟩ = BoolW (c.ev t) (W P G a Q ⟨t, m, ds⟩) (W P G b Q ⟨t, m, ds⟩) := (rfl)
/-- One of two, by a test. -/
def GrdW (c : Bool) (A B : Prop) : Prop := if c then A else B
@[congr] theorem GrdW_congr {v v' : Bool} {A B : Prop} (h : v = v') : GrdW v A B = GrdW v' A B := by rw [h]
theorem GrdW_true (A B : Prop) : GrdW true A B = A := (rfl)
theorem GrdW_false (A B : Prop) : GrdW false A B = B := (rfl)
theorem GrdW_of {c : Bool} {A B : Prop} (h : c = true → A) (k : c = false → B) : GrdW c A B := by cases c <;> simp_all [GrdW]

/-- What an operation gives, put into its slot; then the rest. -/
def OpI (P : Program) (G : Nat) (o : Option (Value × AMem)) (d : Option Nat) (r : List AIns) (Q : AExit → ASt → Prop) (t : Tmps) (ds : List Deferred) : Prop :=
  match o with | some (v, m') => WI P G r Q ⟨updO t d v, m', ds⟩ | none => False
@[congr] theorem OpI_congr {o o' : Option (Value × AMem)} {d : Option Nat} {r : List AIns} (h : o = o') : OpI P G o d r Q t ds = OpI P G o' d r Q t ds := by rw [h]
theorem OpI_some (v : Value) (m' : AMem) (d : Option Nat) (r : List AIns) : OpI P G (some (v, m')) d r Q t ds = WI P G r Q ⟨updO t d v, m', ds⟩ := (rfl)
theorem WI_op (d : Option Nat) (o : AOp) (r : List AIns) : WI P G (.op none d o :: r) Q ⟨t, m, ds⟩ = OpI P G (stepOp o t m) d r Q t ds := (rfl)
/-- A value under a guard. -/
def gv (b : Bool) (v : Value) : Value := if b then v else undef
theorem gv_true (v : Value) : gv true v = v := rfl
theorem gv_false (v : Value) : gv false v = undef := rfl
@[congr] theorem gv_congr {b b' : Bool} {v v' : Value} (h : b = b') (hv : b' = true → v = v') : gv b v = gv b' v' := by
  subst h; cases b <;> simp_all [gv]
/-- One of two values. -/
def sel2 (b : Bool) (x y : Value) : Value := if b then x else y
@[congr] theorem sel2_congr {b b' : Bool} {x x' y y' : Value} (h : b = b') (hx : b' = true → x = x') (hy : b' = false → y = y') : sel2 b x y = sel2 b' x' y' := by
  subst h; cases b <;> simp_all [sel2]
theorem sel2_true (x y : Value) : sel2 true x y = x := rfl
theorem sel2_false (x y : Value) : sel2 false x y = y := rfl
theorem sel2_and (b x : Bool) : sel2 b (.bool x) (.bool false) = .bool (b && x) := by cases b <;> rfl
theorem sel2_or (b y : Bool) : sel2 b (.bool true) (.bool y) = .bool (b || y) := by cases b <;> rfl
theorem sel2_bool (b x y : Bool) : sel2 b (.bool x) (.bool y) = .bool (if b then x else y) := by cases b <;> rfl
/-- An operation under a guard. -/
def OpG (P : Program) (G : Nat) (b : Bool) (o : Option (Value × AMem)) (d : Option Nat) (r : List AIns) (Q : AExit → ASt → Prop) (t : Tmps) (m : AMem) (ds : List Deferred) : Prop :=
  if b then OpI P G o d r Q t ds else WI P G r Q ⟨updO t d undef, m, ds⟩
@[congr] theorem OpG_congr {b b' : Bool} {o o' : Option (Value × AMem)} {d : Option Nat} {r : List AIns} (h : b = b') (ho : b' = true → o = o') : OpG P G b o d r Q t m ds = OpG P G b' o' d r Q t m ds := by
  subst h; cases b <;> simp_all [OpG]
theorem OpG_some (b : Bool) (v : Value) (d : Option Nat) (r : List AIns) : OpG P G b (some (v, m)) d r Q t m ds = WI P G r Q ⟨updO t d (gv b v), m, ds⟩ := by cases b <;> rfl
theorem OpG_true (o : Option (Value × AMem)) (d : Option Nat) (r : List AIns) : OpG P G true o d r Q t m ds = OpI P G o d r Q t ds := rfl
theorem OpG_false (o : Option (Value × AMem)) (d : Option Nat) (r : List AIns) : OpG P G false o d r Q t m ds = WI P G r Q ⟨updO t d undef, m, ds⟩ := rfl
theorem WI_opg (g : Nat × Bool) (d : Option Nat) (o : AOp) (r : List AIns) : WI P G (.op (some g) d o :: r) Q ⟨t, m, ds⟩ =
    OpG P G (wanted (some g) t) (stepOp o t m) d r Q t m ds := (rfl)
def pickV (c x y : Value) (m : AMem) : Option (Value × AMem) := match c with | .bool k => some (sel2 k x y, m) | _ => none
theorem pickV_bool (k : Bool) (x y : Value) : pickV (.bool k) x y m = some (sel2 k x y, m) := rfl
theorem stepOp_pick' (t : Tmps) (m : AMem) (c a b : AOpd) : stepOp (.pick c a b) t m = pickV (c.ev t) (a.ev t) (b.ev t) m := (rfl)

/-! What may be done in any order. -/
/-- A value that a float gives. -/
def FltW (P : Program) (G : Nat) (o : Option Value) (d : Option Nat) (r : List DItem) (Q : AExit → ASt → Prop) (t : Tmps) (m : AMem) (ds : List Deferred) : Prop :=
  match o with | some v => DW P G r Q ⟨updO t d v, m, ds⟩ | none => False
@[congr] theorem FltW_congr {o o' : Option Value} {d : Option Nat} {r : List DItem} (h : o = o') : FltW P G o d r Q t m ds = FltW P G o' d r Q t m ds := by rw [h]
theorem FltW_some (v : Value) (d : Option Nat) (r : List DItem) : FltW P G (some v) d r Q t m ds = DW P G r Q ⟨updO t d v, m, ds⟩ := rfl
theorem W_draw (is : List DItem) : W P G (.draw is) Q s = DW P G is Q s := (rfl)
theorem DW_nil : DW P G [] Q s = Q .normal s := (rfl)
theorem DW_f (i : AIns) (r : List DItem) : DW P G (.f i :: r) Q ⟨t, m, ds⟩ = FltW P G (valF i t m) i.dst r Q t m ds := by
  simp only [DW, FltW]
  cases valF i t m <;> simp
/-- The value, by what the operation gives. -/
def fstO (o : Option (Value × AMem)) : Option Value := o.map (·.1)
theorem fstO_some (v : Value) (m : AMem) : fstO (some (v, m)) = some v := rfl
def FltG (b : Bool) (o : Option Value) : Option Value := if b then o else some undef
@[congr] theorem FltG_congr {b b' : Bool} {o o' : Option Value} (h : b = b') (ho : b' = true → o = o') : FltG b o = FltG b' o' := by
  subst h; cases b <;> simp_all [FltG]
theorem FltG_some (b : Bool) (v : Value) : FltG b (some v) = some (gv b v) := by cases b <;> rfl
theorem valF_op (d : Option Nat) (o : AOp) : valF (.op none d o) t m = fstO (stepOp o t m) := (rfl)
theorem valF_opg (g : Nat × Bool) (d : Option Nat) (o : AOp) : valF (.op (some g) d o) t m = FltG (wanted (some g) t) (fstO (stepOp o t m)) := (rfl)
theorem dst_op (g : Option (Nat × Bool)) (d : Option Nat) (o : AOp) : (AIns.op g d o).dst = d := (rfl)
theorem dst_call (g : Option (Nat × Bool)) (d : Option Nat) (f : FuncId) (as : List AOpd) : (AIns.call g d f as).dst = d := (rfl)
/-- Behind a bar. -/
def BarK (P : Program) (G : Nat) (chk : List AIns) (r : List DItem) (Q : AExit → ASt → Prop) : ASt → Prop := fun s' => chkOk s' chk ∧ DW P G r Q s'
theorem BarK_nil (r : List DItem) : BarK P G [] r Q s = DW P G r Q s := by simp [BarK, chkOk]
theorem BarK_cons (c : AIns) (chk : List AIns) (r : List DItem) (v : Value) (d : Nat) (hd : c.dst = some d) (h : valF c s.t s.m = some (s.t d)) : BarK P G (c :: chk) r Q s = BarK P G chk r Q s := by
  simp [BarK, chkOk, hd, h]
/-- An operation that is a bar. -/
def OpB (o : Option (Value × AMem)) (d : Option Nat) (K : ASt → Prop) (t : Tmps) (ds : List Deferred) : Prop :=
  match o with | some (v, m') => K ⟨updO t d v, m', ds⟩ | none => False
@[congr] theorem OpB_congr {o o' : Option (Value × AMem)} {d : Option Nat} (h : o = o') : OpB o d K t ds = OpB o' d K t ds := by rw [h]
theorem OpB_some (v : Value) (m' : AMem) (d : Option Nat) : OpB (some (v, m')) d K t ds = K ⟨updO t d v, m', ds⟩ := rfl
theorem DW_bop (d : Option Nat) (o : AOp) (chk : List AIns) (r : List DItem) : DW P G (.b (.op none d o) chk :: r) Q ⟨t, m, ds⟩ = OpB (stepOp o t m) d (BarK P G chk r Q) t ds := (rfl)
theorem DW_bopg (g : Nat × Bool) (d : Option Nat) (o : AOp) (chk : List AIns) (r : List DItem) : DW P G (.b (.op (some g) d o) chk :: r) Q ⟨t, m, ds⟩ =
    GrdW (wanted (some g) t) (OpB (stepOp o t m) d (BarK P G chk r Q) t ds) (BarK P G chk r Q ⟨updO t d undef, m, ds⟩) := (rfl)
theorem DW_call (d : Option Nat) (f : FuncId) (as : List AOpd) (chk : List AIns) (r : List DItem) : DW P G (.b (.call none d f as) chk :: r) Q ⟨t, m, ds⟩ =
    ACall P G f (as.map (·.ev t)) m (CallK d ⟨t, m, ds⟩ (BarK P G chk r Q) (PanAny Q)) := (rfl)
theorem DW_callg (g : Nat × Bool) (d : Option Nat) (f : FuncId) (as : List AOpd) (chk : List AIns) (r : List DItem) : DW P G (.b (.call (some g) d f as) chk :: r) Q ⟨t, m, ds⟩ =
    GrdW (wanted (some g) t) (ACall P G f (as.map (·.ev t)) m (CallK d ⟨t, m, ds⟩ (BarK P G chk r Q) (PanAny Q))) (BarK P G chk r Q ⟨updO t d undef, m, ds⟩) := (rfl)
theorem WI_call (d : Option Nat) (f : FuncId) (as : List AOpd) (r : List AIns) : WI P G (.call none d f as :: r) Q ⟨t, m, ds⟩ =
    ACall P G f (as.map (·.ev t)) m (CallK d ⟨t, m, ds⟩ (WI P G r Q) Q) := (rfl)
theorem WI_callg (g : Nat × Bool) (d : Option Nat) (f : FuncId) (as : List AOpd) (r : List AIns) : WI P G (.call (some g) d f as :: r) Q ⟨t, m, ds⟩ =
    GrdW (wanted (some g) t) (ACall P G f (as.map (·.ev t)) m (CallK d ⟨t, m, ds⟩ (WI P G r Q) Q)) (WI P G r Q ⟨updO t d undef, m, ds⟩) := (rfl)

theorem CallK_ret (d : Option Nat) (v : Value) (m' : AMem) : CallK d ⟨t, m, ds⟩ K Q (.ret v) m' = K ⟨updO t d v, m', ds⟩ := (rfl)
theorem CallK_pan (d : Option Nat) (c : List PanicEntry) (m' : AMem) : CallK d ⟨t, m, ds⟩ K Q (.pan c) m' = Q (.pan c) ⟨t, m', ds⟩ := (rfl)

theorem updO_some (d : Nat) (v : Value) : updO t (some d) v = upd t d v := (rfl)
theorem updO_none (v : Value) : updO t none v = t := (rfl)
def sel (c : Bool) (v : Value) (t : Tmps) (i : Nat) : Value := if c then v else t i
@[congr] theorem sel_congr {c c' : Bool} {v : Value} {i : Nat} (h : c = c') : sel c v t i = sel c' v t i := by rw [h]
theorem sel_true (v : Value) (i : Nat) : sel true v t i = v := (rfl)
theorem sel_false (v : Value) (i : Nat) : sel false v t i = t i := (rfl)
theorem upd_apply (d : Nat) (v : Value) (i : Nat) : upd t d v i = sel (i == d) v t i := by simp [upd, sel]
theorem upd_eq (d : Nat) (v : Value) : upd t d v d = v := by simp [upd]
theorem ev_t (i : Nat) : (AOpd.t i).ev t = t i := (rfl)
theorem ev_c (v : Value) : (AOpd.c v).ev t = v := (rfl)
theorem wanted_some (d : Nat) (b : Bool) : wanted (some (d, b)) t = (match t d with | .bool c => c == b | _ => false) := (rfl)
theorem wanted_bool {d : Nat} {b c : Bool} (h : t d = .bool c) : wanted (some (d, b)) t = (c == b) := by simp [wanted, h]

/-- What is given back. -/
def ResW (o : Option (List Value)) (K : List Value → Prop) : Prop := match o with | some l => K l | none => False
@[congr] theorem ResW_congr {o o' : Option (List Value)} {K : List Value → Prop} (h : o = o') : ResW o K = ResW o' K := by rw [h]
theorem ResW_some (l : List Value) (K : List Value → Prop) : ResW (some l) K = K l := (rfl)
theorem RetK_ret (res : List ARes) (R : AEnd → AMem → Prop) : RetK res R .ret ⟨t, m, ds⟩ = (ds = [] ∧ ResW (resVs res t m) (fun l => R (.ret (packV l)) m)) := (rfl)
theorem RetK_normal (res : List ARes) (R : AEnd → AMem → Prop) : RetK res R .normal ⟨t, m, ds⟩ = (ds = [] ∧ ResW (resVs res t m) (fun l => R (.ret (packV l)) m)) := (rfl)
theorem RetK_pan (res : List ARes) (R : AEnd → AMem → Prop) (c : List PanicEntry) : RetK res R (.pan c) ⟨t, m, ds⟩ = (ds = [] ∧ R (.pan c) m) := (rfl)

/-- A loop: what holds at its head, with a number that goes down. -/
theorem W_loop {a : ACode} (I : Nat → ASt → Prop) (n : Nat) (h0 : I n s) (h : ∀ n t m ds, I n ⟨t, m, ds⟩ → W P G a (LoopK I n Q) ⟨t, m, ds⟩) : W P G (.loop a) Q s :=
  ⟨I, ⟨n, h0⟩, fun n s hI => h n s.t s.m s.ds hI⟩

end

/-! Numbers. -/
theorem wrap_i64 {n : Int} (h0 : -9223372036854775808 ≤ n) (h1 : n ≤ 9223372036854775807) : IntKind.i64.wrap n = n := by
  simp [IntKind.wrap, IntKind.bits, IntKind.signed]; omega
theorem wrap_u64 {n : Int} (h0 : 0 ≤ n) (h1 : n ≤ 18446744073709551615) : IntKind.u64.wrap n = n := by
  simp [IntKind.wrap, IntKind.bits, IntKind.signed]; omega
theorem wrap_u32 {n : Int} (h0 : 0 ≤ n) (h1 : n ≤ 4294967295) : IntKind.u32.wrap n = n := by
  simp [IntKind.wrap, IntKind.bits, IntKind.signed]; omega
theorem wrap_u8 {n : Int} (h0 : 0 ≤ n) (h1 : n ≤ 255) : IntKind.u8.wrap n = n := by
  simp [IntKind.wrap, IntKind.bits, IntKind.signed]; omega

/-! Memory, by what may be read. -/
theorem rd_one {m : AMem} {b o : Nat} {c : List Value} {e : TypeId} {w : Bool} {sp : Spare} (h : m.get b = .cells c e w sp) {v : Value} (hv : c[o]? = some v) : rd m b o 1 = some [v] := by
  have hlt : o < c.length := by
    rcases Nat.lt_or_ge o c.length with h' | h'
    · exact h'
    · rw [List.getElem?_eq_none h'] at hv; cases hv
  rw [List.getElem?_eq_getElem hlt] at hv
  simp at hv
  simp [rd, h, show o + 1 ≤ c.length by omega, List.take_one, List.drop_eq_getElem_cons hlt, hv]

/-- Bytes lie there. -/
def BytesAt (m : AMem) (b o : Nat) (l : List UInt8) : Prop := rd m b o l.length = some (l.map byteV)

theorem BytesAt.get {m : AMem} {b o : Nat} {l : List UInt8} (h : BytesAt m b o l) {i : Nat} (hi : i < l.length) : rd m b (o + i) 1 = some [byteV l[i]] := by
  unfold BytesAt rd at h
  unfold rd
  split at h <;> try (simp at h; done)
  rename_i c e w sp hm
  split at h <;> simp at h
  rename_i hle
  rw [if_pos (by omega)]
  have h2 : ((c.drop o).take l.length)[i]? = (l.map byteV)[i]? := by rw [h]
  simp [hi, show o + i < c.length by omega] at h2
  simp [List.take_one, List.drop_eq_getElem_cons (show o + i < c.length by omega), h2]

end Go.AM
