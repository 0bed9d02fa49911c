/-
  Running the abstract machine by rewriting.
-/
import Derived.Test.YtfjgpeoblnpelaaDoorA3
import Derived.Laws.Externs
import Derived.Recover
set_option linter.unusedVariables false
set_option linter.unusedSimpArgs false
set_option linter.unnecessarySimpa false
namespace Go.AM
set_option linter.unusedVariables false
set_option linter.unusedSimpArgs false

section
variable {P : Program} {G : Nat} {Q : AExit → ASt → Prop} {K : ASt → Prop} {t : Tmps} {m : AMem} {ds : List Deferred} {s : ASt}

/-! What rewriting does not enter: the continuations. -/
@[congr] theorem W_congr {c c' : ACode} {s s' : ASt} (h : s = s') : W P G c Q s = W P G c Q s' := by rw [h]
@[congr] theorem WI_congr {is : List AIns} {s s' : ASt} (h : s = s') : WI P G is Q s = WI P G is Q s' := by rw [h]
@[congr] theorem ACall_congr {f : FuncId} {as as' : List Value} {m m' : AMem} {R : AEnd → AMem → Prop} (h : as = as') (k : m = m') : ACall P G f as m R = ACall P G f as' m' R := by rw [h, k]

theorem W_skip : W P G .skip Q s = Q .normal s := (rfl)
theorem W_reg (is : List AIns) : W P G (.reg is) Q s = WI P G is Q s := (rfl)
theorem W_seq (a b : ACode) : W P G (.seq a b) Q s = W P G a (SeqK (W P G b Q) Q) s := (rfl)
theorem W_block (id : Nat) (a : ACode) : W P G (.block id a) Q s = W P G a (BlockK id Q) s := (rfl)
theorem W_exit (id : Nat) : W P G (.exit id) Q s = Q (.exit id) s := (rfl)
theorem W_ret : W P G .ret Q s = Q .ret s := (rfl)
theorem SeqK_normal : SeqK K Q .normal s = K s := (rfl)
theorem SeqK_exit (id : Nat) : SeqK K Q (.exit id) s = Q (.exit id) s := (rfl)
theorem SeqK_ret : SeqK K Q .ret s = Q .ret s := (rfl)
theorem SeqK_pan (c : List PanicEntry) : SeqK K Q (.pan c) s = Q (.pan c) s := (rfl)
theorem BlockK_normal (id : Nat) : BlockK id Q .normal s = Q .normal s := (rfl)
theorem BlockK_exit (id i : Nat) : BlockK id Q (.exit i) s = if i = id then Q .normal s else Q (.exit i) s := (rfl)
theorem BlockK_ret (id : Nat) : BlockK id Q .ret s = Q .ret s := (rfl)
theorem BlockK_pan (id : Nat) (c : List PanicEntry) : BlockK id Q (.pan c) s = Q (.pan c) s := (rfl)
theorem LoopK_normal (I : Nat → ASt → Prop) (n : Nat) : LoopK I n Q .normal s = ∃ k, k < n ∧ I k s := (rfl)
theorem SeqK_goto (l : Nat) : SeqK K Q (.goto l) s = Q (.goto l) s := (rfl)
theorem BlockK_goto (id l : Nat) : BlockK id Q (.goto l) s = Q (.goto l) s := (rfl)
theorem LoopK_goto (I : Nat → ASt → Prop) (n l : Nat) : LoopK I n Q (.goto l) s = Q (.goto l) s := (rfl)
theorem JumpK_normal (l : Nat) (J : ASt → Prop) : JumpK l J Q .normal s = Q .normal s := (rfl)
theorem JumpK_exit (l : Nat) (J : ASt → Prop) (id : Nat) : JumpK l J Q (.exit id) s = Q (.exit id) s := (rfl)
theorem JumpK_ret (l : Nat) (J : ASt → Prop) : JumpK l J Q .ret s = Q .ret s := (rfl)
theorem JumpK_pan (l : Nat) (J : ASt → Prop) (c : List PanicEntry) : JumpK l J Q (.pan c) s = Q (.pan c) s := (rfl)
theorem JumpK_goto (l l' : Nat) (J : ASt → Prop) : JumpK l J Q (.goto l') s = (l' = l ∧ J s) := (rfl)
theorem W_label (l : Nat) : W P G (.label l) Q s = Q .normal s := (rfl)
theorem W_goto (l : Nat) : W P G (.goto l) Q s = Q (.goto l) s := (rfl)
def DfrV (v : Value) (as : List Value) (Q : AExit → ASt → Prop) (t : Tmps) (m : AMem) (ds : List Deferred) : Prop := match v with
  | .func (.func f) first captured => Q .normal ⟨t, m, { target := .fn (.func f) captured, args := first ++ as.toArray } :: ds⟩
  | _ => False
@[congr] theorem DfrV_congr {v v' : Value} {as as' : List Value} (h : v = v') (k : as = as') : DfrV v as Q t m ds = DfrV v' as' Q t m ds := by rw [h, k]
theorem W_dfr (is : List AIns) (x : AOpd) (args : List AOpd) : W P G (.dfr is x args) Q s = WI P G is (SeqK (DfrK x args Q) Q) s := (rfl)
theorem DfrK_v (x : AOpd) (args : List AOpd) : DfrK x args Q ⟨t, m, ds⟩ = DfrV (x.ev t) (args.map (·.ev t)) Q t m ds := (rfl)
theorem DfrV_func (f : FuncId) (first captured : Array Value) (as : List Value) : DfrV (.func (.func f) first captured) as Q t m ds = Q .normal ⟨t, m, { target := .fn (.func f) captured, args := first ++ as.toArray } :: ds⟩ := (rfl)
theorem W_scope {l : Nat} {a r : ACode} (J : Nat → ASt → Prop) (h : W P G a (JumpK l (fun s => ∃ n, J n s) Q) s) (p : ∀ n t m ds, J n ⟨t, m, ds⟩ → W P G r (JumpK l (fun s => ∃ k, k < n ∧ J k s) Q) ⟨t, m, ds⟩) : W P G (.scope l a r) Q s :=
  ⟨J, h, fun n s hJ => p n s.t s.m s.ds hJ⟩
theorem LoopK_exit (I : Nat → ASt → Prop) (n id : Nat) : LoopK I n Q (.exit id) s = Q (.exit id) s := (rfl)
theorem LoopK_ret (I : Nat → ASt → Prop) (n : Nat) : LoopK I n Q .ret s = Q .ret s := (rfl)
theorem LoopK_pan (I : Nat → ASt → Prop) (n : Nat) (c : List PanicEntry) : LoopK I n Q (.pan c) s = Q (.pan c) s := (rfl)

set_option linter.unusedVariables false in
theorem WI_nil : WI P G [] Q s = Q .normal s := (rfl)
def OpW (o : Option (Value × AMem)) (K : Value → AMem → Prop) : Prop := match o with | some (v, m') => K v m' | none => False
@[congr] theorem OpW_congr {o o' : Option (Value × AMem)} {K : Value → AMem → Prop} (h : o = o') : OpW o K = OpW o' K := by rw [h]
def BoolW (v : Value) (A B : Prop) : Prop := match v with | .bool c => if c then A else B | _ => False
@[congr] theorem BoolW_congr {v v' : Value} {A B : Prop} (h : v = v') : BoolW v A B = BoolW v' A B := by rw [h]
theorem BoolW_true (A B : Prop) : BoolW (.bool true) A B = A := (rfl)
theorem BoolW_false (A B : Prop) : BoolW (.bool false) A B = B := (rfl)
theorem BoolW_dec {p : Prop} [Decidable p] {A B : Prop} (h : p → A) (k : ¬ p → B) : BoolW (.bool (decide p)) A B := by
  by_cases hp : p <;> simp_all [BoolW]
theorem W_cond (c : AOpd) (a b : ACode) : W P G (.cond c a b) Q ⟨t, m, ds⟩ = BoolW (c.ev t) (W P G a Q ⟨t, m, ds⟩) (W P G b Q ⟨t, m, ds⟩) := (rfl)
def GrdW (c : Bool) (A B : Prop) : Prop := if c then A else B
@[congr] theorem GrdW_congr {v v' : Bool} {A B : Prop} (h : v = v') : GrdW v A B = GrdW v' A B := by rw [h]
theorem GrdW_true (A B : Prop) : GrdW true A B = A := (rfl)
theorem GrdW_false (A B : Prop) : GrdW false A B = B := (rfl)
def OpI (P : Program) (G : Nat) (o : Option (Value × AMem)) (d : Option Nat) (r : List AIns) (Q : AExit → ASt → Prop) (t : Tmps) (ds : List Deferred) : Prop :=
  match o with | some (v, m') => WI P G r Q ⟨updO t d v, m', ds⟩ | none => False
@[congr] theorem OpI_congr {o o' : Option (Value × AMem)} {d : Option Nat} {r : List AIns} (h : o = o') : OpI P G o d r Q t ds = OpI P G o' d r Q t ds := by rw [h]
theorem OpI_some (v : Value) (m' : AMem) (d : Option Nat) (r : List AIns) : OpI P G (some (v, m')) d r Q t ds = WI P G r Q ⟨updO t d v, m', ds⟩ := (rfl)
theorem WI_op (d : Option Nat) (o : AOp) (r : List AIns) : WI P G (.op none d o :: r) Q ⟨t, m, ds⟩ = OpI P G (stepOp o t m) d r Q t ds := (rfl)
def gv (b : Bool) (v : Value) : Value := if b then v else undef
theorem gv_true (v : Value) : gv true v = v := rfl
theorem gv_false (v : Value) : gv false v = undef := rfl
@[congr] theorem gv_congr {b b' : Bool} {v v' : Value} (h : b = b') (hv : b' = true → v = v') : gv b v = gv b' v' := by
  subst h; cases b <;> simp_all [gv]
def sel2 (b : Bool) (x y : Value) : Value := if b then x else y
@[congr] theorem sel2_congr {b b' : Bool} {x x' y y' : Value} (h : b = b') (hx : b' = true → x = x') (hy : b' = false → y = y') : sel2 b x y = sel2 b' x' y' := by
  subst h; cases b <;> simp_all [sel2]
theorem sel2_true (x y : Value) : sel2 true x y = x := rfl
theorem sel2_false (x y : Value) : sel2 false x y = y := rfl
theorem sel2_and (b x : Bool) : sel2 b (.bool x) (.bool false) = .bool (b && x) := by cases b <;> rfl
theorem sel2_or (b y : Bool) : sel2 b (.bool true) (.bool y) = .bool (b || y) := by cases b <;> rfl
def OpG (P : Program) (G : Nat) (b : Bool) (o : Option (Value × AMem)) (d : Option Nat) (r : List AIns) (Q : AExit → ASt → Prop) (t : Tmps) (m : AMem) (ds : List Deferred) : Prop :=
  if b then OpI P G o d r Q t ds else WI P G r Q ⟨updO t d undef, m, ds⟩
@[congr] theorem OpG_congr {b b' : Bool} {o o' : Option (Value × AMem)} {d : Option Nat} {r : List AIns} (h : b = b') (ho : b' = true → o = o') : OpG P G b o d r Q t m ds = OpG P G b' o' d r Q t m ds := by
  subst h; cases b <;> simp_all [OpG]
theorem OpG_some (b : Bool) (v : Value) (d : Option Nat) (r : List AIns) : OpG P G b (some (v, m)) d r Q t m ds = WI P G r Q ⟨updO t d (gv b v), m, ds⟩ := by cases b <;> rfl
theorem OpG_true (o : Option (Value × AMem)) (d : Option Nat) (r : List AIns) : OpG P G true o d r Q t m ds = OpI P G o d r Q t ds := rfl
theorem OpG_false (o : Option (Value × AMem)) (d : Option Nat) (r : List AIns) : OpG P G false o d r Q t m ds = WI P G r Q ⟨updO t d undef, m, ds⟩ := rfl
theorem WI_opg (g : Nat × Bool) (d : Option Nat) (o : AOp) (r : List AIns) : WI P G (.op (some g) d o :: r) Q ⟨t, m, ds⟩ =
    OpG P G (wanted (some g) t) (stepOp o t m) d r Q t m ds := (rfl)
def pickV (c x y : Value) (m : AMem) : Option (Value × AMem) := match c with | .bool k => some (sel2 k x y, m) | _ => none
theorem pickV_bool (k : Bool) (x y : Value) : pickV (.bool k) x y m = some (sel2 k x y, m) := rfl
theorem stepOp_pick' (t : Tmps) (m : AMem) (c a b : AOpd) : stepOp (.pick c a b) t m = pickV (c.ev t) (a.ev t) (b.ev t) m := (rfl)

/-! What may be done in any order. -/
def FltW (P : Program) (G : Nat) (o : Option Value) (d : Option Nat) (r : List DItem) (Q : AExit → ASt → Prop) (t : Tmps) (m : AMem) (ds : List Deferred) : Prop :=
  match o with | some v => DW P G r Q ⟨updO t d v, m, ds⟩ | none => False
@[congr] theorem FltW_congr {o o' : Option Value} {d : Option Nat} {r : List DItem} (h : o = o') : FltW P G o d r Q t m ds = FltW P G o' d r Q t m ds := by rw [h]
theorem FltW_some (v : Value) (d : Option Nat) (r : List DItem) : FltW P G (some v) d r Q t m ds = DW P G r Q ⟨updO t d v, m, ds⟩ := rfl
theorem W_draw (is : List DItem) : W P G (.draw is) Q ⟨t, m, ds⟩ = DW P G is (QD t (dstsD is) Q) ⟨t, m, ds⟩ := (rfl)
theorem QD_normal (t0 : Tmps) (E : List Nat) : QD t0 E Q .normal s = Q .normal s := (rfl)
theorem PanAny_QD (t0 : Tmps) (E : List Nat) (c : List PanicEntry) : PanAny (QD t0 E Q) (.pan c) ⟨t, m, ds⟩ = ∀ t', (∀ i, E.contains i = false → t' i = t0 i) → Q (.pan c) ⟨t', m, ds⟩ := (rfl)
theorem DW_nil : DW P G [] Q s = Q .normal s := (rfl)
theorem DW_f (i : AIns) (r : List DItem) : DW P G (.f i :: r) Q ⟨t, m, ds⟩ = FltW P G (valF i t m) i.dst r Q t m ds := by
  simp only [DW, FltW]
  cases valF i t m <;> simp
def fstO (o : Option (Value × AMem)) : Option Value := o.map (·.1)
theorem fstO_some (v : Value) (m : AMem) : fstO (some (v, m)) = some v := rfl
def FltG (b : Bool) (o : Option Value) : Option Value := if b then o else some undef
@[congr] theorem FltG_congr {b b' : Bool} {o o' : Option Value} (h : b = b') (ho : b' = true → o = o') : FltG b o = FltG b' o' := by
  subst h; cases b <;> simp_all [FltG]
theorem FltG_some (b : Bool) (v : Value) : FltG b (some v) = some (gv b v) := by cases b <;> rfl
theorem valF_op (d : Option Nat) (o : AOp) : valF (.op none d o) t m = fstO (stepOp o t m) := (rfl)
theorem valF_opg (g : Nat × Bool) (d : Option Nat) (o : AOp) : valF (.op (some g) d o) t m = FltG (wanted (some g) t) (fstO (stepOp o t m)) := (rfl)
theorem dst_op (g : Option (Nat × Bool)) (d : Option Nat) (o : AOp) : (AIns.op g d o).dst = d := (rfl)
theorem dst_call (g : Option (Nat × Bool)) (d : Option Nat) (f : FuncId) (as : List AOpd) : (AIns.call g d f as).dst = d := (rfl)
def BarK (P : Program) (G : Nat) (chk : List AIns) (r : List DItem) (Q : AExit → ASt → Prop) : ASt → Prop := fun s' => chkOk s' chk ∧ DW P G r Q s'
theorem BarK_nil (r : List DItem) : BarK P G [] r Q s = DW P G r Q s := by simp [BarK, chkOk]
def OpB (o : Option (Value × AMem)) (d : Option Nat) (K : ASt → Prop) (t : Tmps) (ds : List Deferred) : Prop :=
  match o with | some (v, m') => K ⟨updO t d v, m', ds⟩ | none => False
@[congr] theorem OpB_congr {o o' : Option (Value × AMem)} {d : Option Nat} (h : o = o') : OpB o d K t ds = OpB o' d K t ds := by rw [h]
theorem OpB_some (v : Value) (m' : AMem) (d : Option Nat) : OpB (some (v, m')) d K t ds = K ⟨updO t d v, m', ds⟩ := rfl
theorem DW_bop (d : Option Nat) (o : AOp) (chk : List AIns) (r : List DItem) : DW P G (.b (.op none d o) chk :: r) Q ⟨t, m, ds⟩ = OpB (stepOp o t m) d (BarK P G chk r Q) t ds := (rfl)
theorem DW_bopg (g : Nat × Bool) (d : Option Nat) (o : AOp) (chk : List AIns) (r : List DItem) : DW P G (.b (.op (some g) d o) chk :: r) Q ⟨t, m, ds⟩ =
    GrdW (wanted (some g) t) (OpB (stepOp o t m) d (BarK P G chk r Q) t ds) (BarK P G chk r Q ⟨updO t d undef, m, ds⟩) := (rfl)
theorem DW_call (d : Option Nat) (f : FuncId) (as : List AOpd) (chk : List AIns) (r : List DItem) : DW P G (.b (.call none d f as) chk :: r) Q ⟨t, m, ds⟩ =
    ACall P G f (as.map (·.ev t)) m (CallK d ⟨t, m, ds⟩ (BarK P G chk r Q) (PanAny Q)) := (rfl)
theorem DW_callg (g : Nat × Bool) (d : Option Nat) (f : FuncId) (as : List AOpd) (chk : List AIns) (r : List DItem) : DW P G (.b (.call (some g) d f as) chk :: r) Q ⟨t, m, ds⟩ =
    GrdW (wanted (some g) t) (ACall P G f (as.map (·.ev t)) m (CallK d ⟨t, m, ds⟩ (BarK P G chk r Q) (PanAny Q))) (BarK P G chk r Q ⟨updO t d undef, m, ds⟩) := (rfl)
theorem WI_call (d : Option Nat) (f : FuncId) (as : List AOpd) (r : List AIns) : WI P G (.call none d f as :: r) Q ⟨t, m, ds⟩ =
    ACall P G f (as.map (·.ev t)) m (CallK d ⟨t, m, ds⟩ (WI P G r Q) Q) := (rfl)
theorem WI_callg (g : Nat × Bool) (d : Option Nat) (f : FuncId) (as : List AOpd) (r : List AIns) : WI P G (.call (some g) d f as :: r) Q ⟨t, m, ds⟩ =
    GrdW (wanted (some g) t) (ACall P G f (as.map (·.ev t)) m (CallK d ⟨t, m, ds⟩ (WI P G r Q) Q)) (WI P G r Q ⟨updO t d undef, m, ds⟩) := (rfl)

theorem CallK_ret (d : Option Nat) (v : Value) (m' : AMem) : CallK d ⟨t, m, ds⟩ K Q (.ret v) m' = K ⟨updO t d v, m', ds⟩ := (rfl)
theorem CallK_pan (d : Option Nat) (c : List PanicEntry) (m' : AMem) : CallK d ⟨t, m, ds⟩ K Q (.pan c) m' = Q (.pan c) ⟨t, m', ds⟩ := (rfl)

theorem updO_some (d : Nat) (v : Value) : updO t (some d) v = upd t d v := (rfl)
theorem updO_none (v : Value) : updO t none v = t := (rfl)
def sel (c : Bool) (v : Value) (t : Tmps) (i : Nat) : Value := if c then v else t i
@[congr] theorem sel_congr {c c' : Bool} {v : Value} {i : Nat} (h : c = c') : sel c v t i = sel c' v t i := by rw [h]
theorem sel_true (v : Value) (i : Nat) : sel true v t i = v := (rfl)
theorem sel_false (v : Value) (i : Nat) : sel false v t i = t i := (rfl)
theorem upd_apply (d : Nat) (v : Value) (i : Nat) : upd t d v i = sel (i == d) v t i := by simp [upd, sel]
theorem ev_t (i : Nat) : (AOpd.t i).ev t = t i := (rfl)
theorem ev_c (v : Value) : (AOpd.c v).ev t = v := (rfl)
theorem wanted_some (d : Nat) (b : Bool) : wanted (some (d, b)) t = (match t d with | .bool c => c == b | _ => false) := (rfl)
def ResW (o : Option (List Value)) (K : List Value → Prop) : Prop := match o with | some l => K l | none => False
@[congr] theorem ResW_congr {o o' : Option (List Value)} {K : List Value → Prop} (h : o = o') : ResW o K = ResW o' K := by rw [h]
theorem ResW_some (l : List Value) (K : List Value → Prop) : ResW (some l) K = K l := (rfl)
theorem RetK_ret (res : List ARes) (R : AEnd → AMem → Prop) : RetK res R .ret ⟨t, m, ds⟩ = (ds = [] ∧ ResW (resVs res t m) (fun l => R (.ret (packV l)) m)) := (rfl)
theorem RetK_normal (res : List ARes) (R : AEnd → AMem → Prop) : RetK res R .normal ⟨t, m, ds⟩ = (ds = [] ∧ ResW (resVs res t m) (fun l => R (.ret (packV l)) m)) := (rfl)
theorem RetK_pan (res : List ARes) (R : AEnd → AMem → Prop) (c : List PanicEntry) : RetK res R (.pan c) ⟨t, m, ds⟩ = (ds = [] ∧ R (.pan c) m) := (rfl)

theorem W_loop {a : ACode} (I : Nat → ASt → Prop) (n : Nat) (h0 : I n s) (h : ∀ n t m ds, I n ⟨t, m, ds⟩ → W P G a (LoopK I n Q) ⟨t, m, ds⟩) : W P G (.loop a) Q s :=
  ⟨I, ⟨n, h0⟩, fun n s hI => h n s.t s.m s.ds hI⟩

end

/-! Numbers. -/
theorem wrap_i64 {n : Int} (h0 : -9223372036854775808 ≤ n) (h1 : n ≤ 9223372036854775807) : IntKind.i64.wrap n = n := by
  simp [IntKind.wrap, IntKind.bits, IntKind.signed]; omega
theorem wrap_u64 {n : Int} (h0 : 0 ≤ n) (h1 : n ≤ 18446744073709551615) : IntKind.u64.wrap n = n := by
  simp [IntKind.wrap, IntKind.bits, IntKind.signed]; omega
theorem wrap_u32 {n : Int} (h0 : 0 ≤ n) (h1 : n ≤ 4294967295) : IntKind.u32.wrap n = n := by
  simp [IntKind.wrap, IntKind.bits, IntKind.signed]; omega
theorem wrap_u8 {n : Int} (h0 : 0 ≤ n) (h1 : n ≤ 255) : IntKind.u8.wrap n = n := by
  simp [IntKind.wrap, IntKind.bits, IntKind.signed]; omega

/-! Memory, by what may be read. -/
def BytesAt (m : AMem) (b o : Nat) (l : List UInt8) : Prop := rd m b o l.length = some (l.map byteV)

theorem BytesAt.get {m : AMem} {b o : Nat} {l : List UInt8} (h : BytesAt m b o l) {i : Nat} (hi : i < l.length) : rd m b (o + i) 1 = some [byteV l[i]] := by
  unfold BytesAt rd at h
  unfold rd
  split at h <;> try (simp at h; done)
  rename_i c e w sp hm
  split at h <;> simp at h
  rename_i hle
  rw [if_pos (by omega)]
  have h2 : ((c.drop o).take l.length)[i]? = (l.map byteV)[i]? := by rw [h]
  simp [hi, show o + i < c.length by omega] at h2
  simp [List.take_one, List.drop_eq_getElem_cons (show o + i < c.length by omega), h2]

end Go.AM
namespace Go.AM
set_option linter.unusedVariables false
theorem stepOp_mov (t : Tmps) (m : AMem) (x : AOpd) : stepOp (.mov x) t m = (some (x.ev t, m)) := (rfl)
theorem stepOp_new (t : Tmps) (m : AMem) (e : TypeId) (z : List Value) : stepOp (.new e z) t m = (some (.pointer (some ⟨m.size, 0, none⟩), m.push (.cells z e true .exact))) := (rfl)
theorem stepOp_box (t : Tmps) (m : AMem) (e : TypeId) (x : AOpd) : stepOp (.box e x) t m = (match cellsOf (x.ev t) with
    | some c => some (.pointer (some ⟨m.size, 0, none⟩), m.push (.cells c e true .exact))
    | none => none) := (rfl)
theorem stepOp_bld (t : Tmps) (m : AMem) (z : List Value) (ps : List (Nat × Nat × AOpd)) : stepOp (.bld z ps) t m = (match fill z (ps.map fun p => (p.1, p.2.1, p.2.2.ev t)) with
    | some c => some (.agg c.toArray, m)
    | none => none) := (rfl)
theorem stepOp_bldSl (t : Tmps) (m : AMem) (e : TypeId) (len : Nat) (z : List Value) (ps : List (Nat × Nat × AOpd)) : stepOp (.bldSl e len z ps) t m = (match fill z (ps.map fun p => (p.1, p.2.1, p.2.2.ev t)) with
    | some c => some (.slice (some ⟨m.size, 0, none⟩) len len, m.push (.cells c e true .exact))
    | none => none) := (rfl)
theorem stepOp_ld1 (t : Tmps) (m : AMem) (a : AOpd) : stepOp (.ld1 a) t m = (match addr (a.ev t) with
    | some (b, o) => match rd m b o 1 with
      | some [v] => some (v, m)
      | _ => none
    | none => none) := (rfl)
theorem stepOp_ldn (t : Tmps) (m : AMem) (n : Nat) (a : AOpd) : stepOp (.ldn n a) t m = (match addr (a.ev t) with
    | some (b, o) => match rd m b o n with
      | some c => some (.agg c.toArray, m)
      | none => none
    | none => none) := (rfl)
theorem stepOp_st (t : Tmps) (m : AMem) (n : Nat) (a : AOpd) (x : AOpd) : stepOp (.st n a x) t m = (match addr (a.ev t), cellsOf (x.ev t) with
    | some (b, o), some c => if c.length = n then (wr m b o c).map fun m' => (undef, m') else none
    | _, _ => none) := (rfl)
theorem stepOp_nchk (t : Tmps) (m : AMem) (x : AOpd) : stepOp (.nchk x) t m = (match x.ev t with
    | .pointer none | .nilIface | .nilFunc => none
    | .func _ _ _ => none
    | v => some (v, m)) := (rfl)
theorem stepOp_bin (t : Tmps) (m : AMem) (op : BinOp) (x : AOpd) (y : AOpd) : stepOp (.bin op x y) t m = ((binV op (x.ev t) (y.ev t)).map fun v => (v, m)) := (rfl)
theorem stepOp_eql (t : Tmps) (m : AMem) (neg : Bool) (k : EqTy) (x : AOpd) (y : AOpd) : stepOp (.eql neg k x y) t m = ((eqV k (x.ev t) (y.ev t)).map fun b => (.bool (if neg then !b else b), m)) := (rfl)
theorem stepOp_un (t : Tmps) (m : AMem) (op : UnOp) (x : AOpd) : stepOp (.un op x) t m = ((unV op (x.ev t)).map fun v => (v, m)) := (rfl)
theorem stepOp_cvt (t : Tmps) (m : AMem) (k : IntKind) (x : AOpd) : stepOp (.cvt k x) t m = (match x.ev t with | .int _ n => some (.int k (k.wrap n), m) | _ => none) := (rfl)
theorem stepOp_idc (t : Tmps) (m : AMem) (x : AOpd) : stepOp (.idc x) t m = (match x.ev t with | .string s => some (.string s, m) | _ => none) := (rfl)
theorem stepOp_s2b (t : Tmps) (m : AMem) (e : TypeId) (x : AOpd) : stepOp (.s2b e x) t m = (match x.ev t with
    | .string s => if s.size ≤ 9223372036854775807 then some (.slice (some ⟨m.size, 0, none⟩) s.size openCap, m.push (.cells (s.data.toList.map byteV) e true (.room [.int .u8 0]))) else none
    | _ => none) := (rfl)
theorem stepOp_mkF (t : Tmps) (m : AMem) (f : FuncId) (first : List AOpd) (captured : List AOpd) : stepOp (.mkF f first captured) t m = (some (.func (.func f) (first.map (·.ev t)).toArray (captured.map (·.ev t)).toArray, m)) := (rfl)
theorem stepOp_mkSl (t : Tmps) (m : AMem) (e : TypeId) (sz : Nat) (z : List Value) (bytes : Nat) (l : AOpd) (c : AOpd) : stepOp (.mkSl e sz z bytes l c) t m = (match l.ev t, c.ev t with
    | .int _ l, .int _ c => if 0 ≤ l ∧ l ≤ c ∧ bytes * c ≤ 281474976710656 ∧ c ≤ 281474976710656 ∧ z.length = sz then
        some (.slice (some ⟨m.size, 0, none⟩) l.toNat c.toNat, m.push (.cells (rep z c.toNat) e true .exact)) else none
    | _, _ => none) := (rfl)
theorem stepOp_slS (t : Tmps) (m : AMem) (x : AOpd) (lo : Option AOpd) (hi : Option AOpd) : stepOp (.slS x lo hi) t m = (match x.ev t with
    | .string s => match cut s.size s.size lo hi none t with
      | some (l, h, _) => some (.string (s.extract l h), m)
      | none => none
    | _ => none) := (rfl)
theorem stepOp_slA (t : Tmps) (m : AMem) (n : Nat) (sz : Nat) (x : AOpd) (lo : Option AOpd) (hi : Option AOpd) (mx : Option AOpd) : stepOp (.slA n sz x lo hi mx) t m = (match addr (x.ev t) with
    | some (b, o) => match cut n n lo hi mx t with
      | some (i, h, k) => some (.slice (some ⟨b, if k = i then o else o + i * sz, none⟩) (h - i) (k - i), m)
      | none => none
    | none => none) := (rfl)
theorem stepOp_fad (t : Tmps) (m : AMem) (off : Nat) (x : AOpd) : stepOp (.fad off x) t m = (match addr (x.ev t) with
    | some (b, o) => some (.pointer (some ⟨b, o + off, none⟩), m)
    | none => none) := (rfl)
theorem stepOp_iadA (t : Tmps) (m : AMem) (len : Nat) (sz : Nat) (x : AOpd) (i : AOpd) : stepOp (.iadA len sz x i) t m = (match addr (x.ev t), i.ev t with
    | some (b, o), .int _ i => if 0 ≤ i ∧ i < len then some (.pointer (some ⟨b, o + i.toNat * sz, none⟩), m) else none
    | _, _ => none) := (rfl)
theorem stepOp_iadV (t : Tmps) (m : AMem) (sz : Nat) (x : AOpd) (i : AOpd) : stepOp (.iadV sz x i) t m = (match x.ev t, i.ev t with
    | .slice (some ⟨b, o, none⟩) len _, .int _ i => if 0 ≤ i ∧ i < len then some (.pointer (some ⟨b, o + i.toNat * sz, none⟩), m) else none
    | _, _ => none) := (rfl)
theorem stepOp_ixA (t : Tmps) (m : AMem) (len : Nat) (sz : Nat) (agg : Bool) (x : AOpd) (i : AOpd) : stepOp (.ixA len sz agg x i) t m = (match x.ev t, i.ev t with
    | .agg c, .int _ i => if 0 ≤ i ∧ i < len then
        if agg then some (.agg (c.extract (i.toNat * sz) (i.toNat * sz + sz)), m) else (c[i.toNat * sz]?).map fun v => (v, m) else none
    | _, _ => none) := (rfl)
theorem stepOp_ixS (t : Tmps) (m : AMem) (x : AOpd) (i : AOpd) : stepOp (.ixS x i) t m = (match x.ev t, i.ev t with
    | .string s, .int _ i => if 0 ≤ i then (s[i.toNat]?).map fun b => (.int .u8 b.toNat, m) else none
    | _, _ => none) := (rfl)
theorem stepOp_ext (t : Tmps) (m : AMem) (i : Nat) (x : AOpd) : stepOp (.ext i x) t m = (match x.ev t with | .tuple v => (v[i]?).map fun v => (v, m) | _ => none) := (rfl)
theorem stepOp_arrAt (t : Tmps) (m : AMem) (n : Nat) (x : AOpd) : stepOp (.arrAt n x) t m = (match x.ev t with
    | .slice (some ⟨b, o, none⟩) l _ => if n ≤ l then some (.pointer (some ⟨b, o, none⟩), m) else none
    | _ => none) := (rfl)
theorem stepOp_rng (t : Tmps) (m : AMem) (x : AOpd) : stepOp (.rng x) t m = (match x.ev t with
    | .string s => some (.pointer (some ⟨m.size, 0, none⟩), m.push (.iter s 0))
    | _ => none) := (rfl)
theorem stepOp_nxt (t : Tmps) (m : AMem) (x : AOpd) : stepOp (.nxt x) t m = (match x.ev t with
    | .pointer (some ⟨r, 0, none⟩) => match m.get r with
      | .iter s pos => if pos < s.size then
          some (.tuple #[.bool true, .int .i64 pos, .int .i32 (Utf8.decode s pos).1], m.set r (.iter s (pos + (Utf8.decode s pos).2)))
        else some (.tuple #[.bool false], m)
      | _ => none
    | _ => none) := (rfl)
theorem stepOp_lenS (t : Tmps) (m : AMem) (x : AOpd) : stepOp (.lenS x) t m = (match x.ev t with | .string s => some (.int .i64 s.size, m) | _ => none) := (rfl)
theorem stepOp_lenV (t : Tmps) (m : AMem) (x : AOpd) : stepOp (.lenV x) t m = (match x.ev t with | .slice _ n _ => some (.int .i64 n, m) | _ => none) := (rfl)
theorem stepOp_lenN (t : Tmps) (m : AMem) (n : Nat) : stepOp (.lenN n) t m = (some (.int .i64 n, m)) := (rfl)
theorem stepOp_appN (t : Tmps) (m : AMem) (e : TypeId) (sz : Nat) (bytes : Nat) (z : List Value) (x : AOpd) (y : AOpd) : stepOp (.appN e sz bytes z x y) t m = (match y.ev t with
    | .int _ n => if 0 ≤ n ∧ n * bytes ≤ 281474976710656 ∧ n ≤ 9223372036854775807 ∧ z.length = sz ∧ 0 < sz then appendTo e sz bytes z (x.ev t) n.toNat (rep z n.toNat) m else none
    | _ => none) := (rfl)
theorem stepOp_mnx (t : Tmps) (m : AMem) (mx : Bool) (x : AOpd) (xs : List AOpd) : stepOp (.mnx mx x xs) t m = ((mnxs mx (x.ev t) (xs.map (·.ev t))).map fun v => (v, m)) := (rfl)
theorem stepOp_toU (t : Tmps) (m : AMem) (x : AOpd) : stepOp (.toU x) t m = (match x.ev t with
    | .pointer none => some (.pointer none, m)
    | .pointer (some ⟨b, o, none⟩) => match m.get b with
      | .cells c _ _ _ => if o < c.length then some (.pointer (some ⟨b, o, none⟩), m) else none
      | _ => none
    | _ => none) := (rfl)
theorem stepOp_frU (t : Tmps) (m : AMem) (u : TypeId) (s : Nat) (x : AOpd) : stepOp (.frU u s x) t m = (match x.ev t with
    | .pointer none => some (.pointer none, m)
    | .pointer (some ⟨b, o, none⟩) => match m.get b with
      | .cells c e _ .exact => if o = 0 ∧ e = u ∧ s ≤ c.length then some (.pointer (some ⟨b, o, none⟩), m) else none
      | _ => none
    | _ => none) := (rfl)
theorem stepOp_s2s (t : Tmps) (m : AMem) (x : AOpd) : stepOp (.s2s x) t m = (match x.ev t with
    | .slice (some ⟨b, o, none⟩) l c => if 0 < l ∧ c ≠ openCap then
        match m.get b with
        | .cells cs e true sp => some (.slice (some ⟨b, o, none⟩) l c, m.set b (.cells cs e false sp))
        | _ => none
      else none
    | _ => none) := (rfl)
theorem stepOp_tas (t : Tmps) (m : AMem) (T : TypeId) (z : Value) (x : AOpd) : stepOp (.tas T z x) t m = (match x.ev t with
    | .nilIface => some (.tuple #[z, .bool false], m)
    | .iface u v => some (if u = T then .tuple #[v, .bool true] else .tuple #[z, .bool false], m)
    | _ => none) := (rfl)
theorem stepOp_i2s (t : Tmps) (m : AMem) (x : AOpd) : stepOp (.i2s x) t m = (match x.ev t with | .int _ n => some (.string (Utf8.encode n), m) | _ => none) := (rfl)
end Go.AM
namespace Go.AM
set_option linter.unusedVariables false

theorem ifp {α : Sort _} {p : Prop} [Decidable p] {a b : α} (h : p) : (if p then a else b) = a := if_pos h
theorem ifn {α : Sort _} {p : Prop} [Decidable p] {a b : α} (h : ¬ p) : (if p then a else b) = b := if_neg h

section
variable (k : IntKind) (a b : Int)
theorem binV_add : binV .add (.int k a) (.int k b) = some (.int k (k.wrap (a + b))) := by simp [binV, ibin]
theorem binV_sub : binV .sub (.int k a) (.int k b) = some (.int k (k.wrap (a - b))) := by simp [binV, ibin]
theorem binV_mul : binV .mul (.int k a) (.int k b) = some (.int k (k.wrap (a * b))) := by simp [binV, ibin]
theorem binV_and : binV .and (.int k a) (.int k b) = some (.int k (ibits .and k a b)) := by simp [binV, ibin]
theorem binV_or : binV .or (.int k a) (.int k b) = some (.int k (ibits .or k a b)) := by simp [binV, ibin]
theorem binV_xor : binV .xor (.int k a) (.int k b) = some (.int k (ibits .xor k a b)) := by simp [binV, ibin]
theorem binV_andNot : binV .andNot (.int k a) (.int k b) = some (.int k (ibits .andNot k a b)) := by simp [binV, ibin]
theorem binV_eql : binV .eql (.int k a) (.int k b) = some (.bool (decide (a = b))) := by simp [binV, ibin]; rfl
theorem binV_neq : binV .neq (.int k a) (.int k b) = some (.bool (!decide (a = b))) := by simp [binV, ibin]; rfl
theorem binV_lss : binV .lss (.int k a) (.int k b) = some (.bool (decide (a < b))) := by simp [binV, ibin]
theorem binV_leq : binV .leq (.int k a) (.int k b) = some (.bool (decide (a ≤ b))) := by simp [binV, ibin]
theorem binV_gtr : binV .gtr (.int k a) (.int k b) = some (.bool (decide (b < a))) := by simp [binV, ibin]
theorem binV_geq : binV .geq (.int k a) (.int k b) = some (.bool (decide (b ≤ a))) := by simp [binV, ibin]
theorem binV_quo {a b : Int} (h : b ≠ 0) : binV .quo (.int k a) (.int k b) = some (.int k (k.wrap (a.tdiv b))) := by simp [binV, ibin, h]
theorem binV_rem {a b : Int} (h : b ≠ 0) : binV .rem (.int k a) (.int k b) = some (.int k (a.tmod b)) := by simp [binV, ibin, h]
theorem binV_shl (k' : IntKind) {a b : Int} (h : 0 ≤ b) : binV .shl (.int k a) (.int k' b) = some (.int k (shl k a b)) := by simp [binV, h]
theorem binV_shr (k' : IntKind) {a b : Int} (h : 0 ≤ b) : binV .shr (.int k a) (.int k' b) = some (.int k (shr k a b)) := by simp [binV, h]
end
section
variable (x y : ByteArray)
theorem binV_sadd {x y : ByteArray} (h : x.size + y.size ≤ 9223372036854775807) : binV .add (.string x) (.string y) = some (.string (x ++ y)) := by simp [binV, sbin, h]
theorem binV_seql : binV .eql (.string x) (.string y) = some (.bool (strEq x y)) := by simp [binV, sbin]
theorem binV_sneq : binV .neq (.string x) (.string y) = some (.bool (!strEq x y)) := by simp [binV, sbin]
end
theorem unV_neg (k : IntKind) (n : Int) : unV .neg (.int k n) = some (.int k (k.wrap (0 - n))) := (rfl)
theorem unV_not (b : Bool) : unV .not (.bool b) = some (.bool !b) := (rfl)
theorem eqV_bool (a b : Bool) : eqV .bool (.bool a) (.bool b) = some (a == b) := (rfl)
theorem addr_ptr (b o : Nat) : addr (.pointer (some ⟨b, o, none⟩)) = some (b, o) := (rfl)

theorem shr_nat (k : IntKind) (a b : Nat) (h : b ≤ k.bits) : shr k a b = ((a >>> b : Nat) : Int) := by
  simp only [shr, Int.toNat_natCast, Nat.min_eq_left h, Nat.shiftRight_eq_div_pow]
  rw [Int.fdiv_eq_ediv_of_nonneg _ (by exact_mod_cast Nat.zero_le _)]
  norm_cast

theorem wrap_i32 {n : Int} (h0 : -2147483648 ≤ n) (h1 : n ≤ 2147483647) : IntKind.i32.wrap n = n := by
  simp [IntKind.wrap, IntKind.bits, IntKind.signed]; omega

/-! Memory. -/
theorem wr_at {m : AMem} {b o : Nat} {v : List Value} {c : List Value} {e : TypeId} {sp : Spare} (h : m.get b = .cells c e true sp) (hl : o + v.length ≤ c.length) : wr m b o v = some (m.set b (.cells (splice c o v) e true sp)) := by
  simp only [wr, h]; rw [if_pos hl]
theorem cellsOf_int (k : IntKind) (n : Int) : cellsOf (.int k n) = some [.int k n] := rfl
theorem cellsOf_bool (b : Bool) : cellsOf (.bool b) = some [.bool b] := rfl
theorem cellsOf_string (s : ByteArray) : cellsOf (.string s) = some [.string s] := rfl
theorem cellsOf_ptr (p : Option Addr) : cellsOf (.pointer p) = some [.pointer p] := rfl
theorem cellsOf_slice (p : Option Addr) (l c : Nat) : cellsOf (.slice p l c) = some [.slice p l c] := rfl
theorem cellsOf_bytes (l : List UInt8) : cellsOf (.agg (l.map byteV).toArray) = some (l.map byteV) := by
  simp [cellsOf, oneCell, byteV]
theorem map_ofNat_byteOf (l : List UInt8) : (l.map byteV).mapM byteOf = some l := by
  induction l with
  | nil => rfl
  | cons x r ih => simp [byteOf, byteV, ih]

def Old (m m' : AMem) : Prop := m.size ≤ m'.size ∧ ∀ b, b < m.size → m'.get b = m.get b
theorem Old.refl (m : AMem) : Old m m := ⟨Nat.le_refl _, fun _ _ => rfl⟩
theorem Old.trans {a b c : AMem} (h : Old a b) (k : Old b c) : Old a c := ⟨Nat.le_trans h.1 k.1, fun i hi => (k.2 i (Nat.lt_of_lt_of_le hi h.1)).trans (h.2 i hi)⟩
theorem Old.push (m : AMem) (o : AObj) : Old m (m.push o) := ⟨by simp [AMem.push], fun b hb => AMem.get_push_ne m o (by omega)⟩

/-! What append makes. -/
theorem srcLen_slice (a : Option Addr) (n c : Nat) : srcLen (.slice a n c) = some n := rfl
theorem srcLen_string (s : ByteArray) : srcLen (.string s) = some s.size := rfl
theorem srcCells_slice {sz n l c b o : Nat} {m : AMem} (h : n ≤ l) : srcCells sz n (.slice (some ⟨b, o, none⟩) l c) m = rd m b o (n * sz) := by simp [srcCells, h]
theorem srcCells_nil {sz c : Nat} {m : AMem} (l : Nat) : srcCells sz 0 (.slice none l c) m = some [] := by simp [srcCells]
theorem appendTo_nil {e : TypeId} {sz bytes : Nat} {z : List Value} {n : Nat} {news : List Value} {m : AMem} (h0 : 0 < n) (hb : 2 * n * bytes ≤ 281474976710656) (hn : n ≤ 9223372036854775807) :
    appendTo e sz bytes z (.slice none 0 0) n news m = some (.slice (some ⟨m.size, 0, none⟩) n openCap, m.push (.cells news e true (.room z))) := by
  have : n ≠ 0 := by omega
  simp [appendTo, this, hb, hn]
theorem appendTo_open {e : TypeId} {sz bytes : Nat} {z z' : List Value} {b l n : Nat} {x news : List Value} {m : AMem} (hm : m.get b = .cells x e true (.room z')) (hz : eqPL z' z = true) (hs : z'.length = sz) (h1 : 0 < sz) (hl : x.length = l * sz) (h0 : 0 < n)
    (hb : 2 * (l + n) * bytes ≤ 281474976710656) (hn : l + n ≤ 9223372036854775807) :
    appendTo e sz bytes z (.slice (some ⟨b, 0, none⟩) l openCap) n news m = some (.slice (some ⟨m.size, 0, none⟩) (l + n) openCap, (m.set b .dead).push (.cells (x ++ news) e true (.room z))) := by
  have h2 : ¬ 0 + (l + n) * sz ≤ x.length := by
    rw [hl, Nat.add_mul, Nat.zero_add]
    have : 0 < n * sz := Nat.mul_pos h0 h1
    omega
  have h3 : (x.drop 0).take (l * sz) = x := by simp [← hl]
  have h4 : 0 + l * sz ≤ x.length := by omega
  simp only [appendTo, if_true, hm, Spare.size, hs, if_neg h2, if_pos (show 0 + l * sz ≤ x.length ∧ 2 * (l + n) * bytes ≤ 281474976710656 ∧ l + n ≤ 9223372036854775807 from ⟨h4, hb, hn⟩), if_pos (show True ∧ 0 % sz = 0 ∧ True ∧ eqPL z' z = true from ⟨trivial, by simp, trivial, hz⟩), h3]
theorem all_bytes (l : List UInt8) : (l.map byteV).all oneCell = true := by simp [byteV, oneCell]
end Go.AM
namespace Go.AM
set_option linter.unusedVariables false

section
variable {P : Program} {G : Nat} {m : AMem} {ρ ρ' : Ren} {w w' : World}

theorem ACall.forget {f : FuncId} {args : List Value} {Q Q' : AEnd → AMem → Prop} (h : ACall P G f args m Q)
    (hq : ∀ r m', Q r m' → (∃ v, r = .ret v ∧ Plain v) ∧ (∀ b, b < m.size → m'.get b = m.get b) ∧ Q' r m) : ACall P G f args m Q' := by
  intro ρ w args' hR hA
  have main : ∀ e w', (∃ ρ' m' r, Q r m' ∧ EndRel ρ' r e ∧ Rep G m' ρ' w' ∧ Ext m ρ w m' ρ' w') → ∃ ρ' m' r, Q' r m' ∧ EndRel ρ' r e ∧ Rep G m' ρ' w' ∧ Ext m ρ w m' ρ' w' := by
    rintro e w' ⟨ρ', m', r, h1, h2, h3, h4⟩
    obtain ⟨⟨v, rfl, hv⟩, h5, h6⟩ := hq r m' h1
    refine ⟨ρ, m, .ret v, h6, ?_, ⟨hR.dom, fun b L hb => ?_, hR.sep, hR.glob⟩, ⟨.refl ρ, h4.os, h4.tape, h4.output, h4.size, h4.keep, fun _ _ h => h, fun _ _ => rfl, Nat.le_refl _⟩⟩
    · cases h2 with
      | ret h => exact .ret ((hv ρ).back h4.ren h)
    · have := h3.obj b L (h4.ren b L hb)
      rw [h5 b (hR.dom b L hb)] at this
      exact (hR.obj b L hb).back h4.ren this
  have := h ρ w args' hR hA
  split at this
  · exact this.mono fun e w' h => main e w' h
  · exact main _ _ this
  · exact this

theorem ACall_ext {f : FuncId} {fn : Func} {e : Array Value → Sem Value} (hf : P.funcs[f]? = some fn) (hname : (fn.name == "runtime.NumGoroutine") = false)
    (hb : fn.body.isNone = true) (hn : Extern.findNext fn = none) (he : Extern.find fn = some e) {args : List Value} {Q : AEnd → AMem → Prop}
    (h : ∀ ρ w args', Rep G m ρ w → LRel ρ args args'.toList → ∃ v v', (e args').run P w = .ok v' w ∧ VRel ρ v v' ∧ Q (.ret v) m) : ACall P G f args m Q := by
  intro ρ w args' hR hA
  obtain ⟨v, v', h1, h2, h3⟩ := h ρ w args' hR hA
  rw [run_callFunc_extern hf hname hb hn he args' w, h1]
  exact ⟨ρ, m, .ret v, h3, .ret h2, hR, Ext.refl _ _ _⟩

end
end Go.AM
namespace Go.AM
set_option linter.unusedVariables false

section
variable {P : Program} {G : Nat} {m : AMem} {ρ ρ' : Ren} {w w' : World}

theorem Plain.of_rel {v c : Value} (hv : Plain v) (h : VRel ρ v c) (ρ'' : Ren) : VRel ρ'' v c := by
  have h0 : VRel (fun _ => none) v v := hv _
  exact (h0.back (ρ' := ρ) (fun b L h => by cases h) h).mono (fun b L h => by cases h)

/-! ### Blocks under other names -/
abbrev Sig := Nat → Option Nat
def Sig.comp (σ : Sig) (ρ : Ren) : Ren := fun b => (σ b).bind ρ
theorem Sig.comp_some {σ : Sig} {ρ : Ren} {b x : Nat} {L : Loc} (h : σ b = some x) (k : ρ x = some L) : σ.comp ρ b = some L := by simp [Sig.comp, h, k]

def RenV (σ : Sig) (v2 v : Value) : Prop := ∀ ρ c, VRel ρ v c → VRel (σ.comp ρ) v2 c

theorem RenV.plain {σ : Sig} {v : Value} (h : Plain v) : RenV σ v v := fun ρ c k => h.of_rel k _
theorem RenV.int {σ : Sig} (k : IntKind) (n : Int) : RenV σ (.int k n) (.int k n) := .plain (.int _ _)
theorem RenV.bool {σ : Sig} (b : Bool) : RenV σ (.bool b) (.bool b) := .plain (.bool _)
theorem RenV.string {σ : Sig} (b : ByteArray) : RenV σ (.string b) (.string b) := .plain (.string _)
theorem RenV.nilSlice {σ : Sig} (l c : Nat) : RenV σ (.slice none l c) (.slice none l c) := .plain (.nilSlice _ _)
theorem RenV.ptr {σ : Sig} {b2 b o : Nat} (h : σ b2 = some b) : RenV σ (.pointer (some ⟨b2, o, none⟩)) (.pointer (some ⟨b, o, none⟩)) := by
  intro ρ c k
  cases k with
  | ptr hb => exact .ptr (Sig.comp_some h hb)
theorem RenV.slice {σ : Sig} {b2 b o l c : Nat} (h : σ b2 = some b) : RenV σ (.slice (some ⟨b2, o, none⟩) l c) (.slice (some ⟨b, o, none⟩) l c) := by
  intro ρ x k
  cases k with
  | slice hb hc => exact .slice (Sig.comp_some h hb) hc
  | sliceOpen hb hc hs => exact .sliceOpen (Sig.comp_some h hb) hc hs
  | sliceEnd hb hc => exact .sliceEnd (Sig.comp_some h hb) hc
theorem RenV.map {σ : Sig} {b2 b : Nat} (h : σ b2 = some b) : RenV σ (.map (some b2)) (.map (some b)) := by
  intro ρ c k
  cases k with
  | map hb => exact .map (Sig.comp_some h hb)
theorem RenV.iface {σ : Sig} {t : TypeId} {v2 v : Value} (h : RenV σ v2 v) : RenV σ (.iface t v2) (.iface t v) := by
  intro ρ c k
  cases k with
  | iface _ k => exact .iface t (h _ _ k)
theorem RenV.agg {σ : Sig} {x y : Array Value} (hs : x.size = y.size) (h : ∀ i (h : i < x.size) (h' : i < y.size), RenV σ x[i] y[i]) : RenV σ (.agg x) (.agg y) := by
  intro ρ c k
  cases k with
  | agg _ z hz k => exact .agg _ _ (hs.trans hz) fun i a b => h i a (by omega) _ _ (k i (by omega) b)
theorem RenV.tuple {σ : Sig} {x y : Array Value} (hs : x.size = y.size) (h : ∀ i (h : i < x.size) (h' : i < y.size), RenV σ x[i] y[i]) : RenV σ (.tuple x) (.tuple y) := by
  intro ρ c k
  cases k with
  | tuple _ z hz k => exact .tuple _ _ (hs.trans hz) fun i a b => h i a (by omega) _ _ (k i (by omega) b)
theorem RenV.tuple2 {σ : Sig} {a a' b b' : Value} (h : RenV σ a a') (k : RenV σ b b') : RenV σ (.tuple #[a, b]) (.tuple #[a', b']) :=
  .tuple rfl fun i h1 h2 => by
    have : i = 0 ∨ i = 1 := by simp at h1; omega
    rcases this with rfl | rfl
    · exact h
    · exact k
inductive RenObj (σ : Sig) : AObj → AObj → Prop
  | forget (o : AObj) : RenObj σ .dead o
  | cells {c2 c : List Value} {e : TypeId} {wr : Bool} {sp : Spare} (hl : c2.length = c.length) (h : ∀ i (h : i < c2.length) (h' : i < c.length), RenV σ c2[i] c[i]) : RenObj σ (.cells c2 e wr sp) (.cells c e wr sp)
  | iter (s : ByteArray) (pos : Nat) : RenObj σ (.iter s pos) (.iter s pos)
  | map (es : Array MapEntry) (clock : Nat) : RenObj σ (.map es clock) (.map es clock)

theorem RenObj.plain {σ : Sig} {c : List Value} {e : TypeId} {wr : Bool} {sp : Spare} (h : ∀ v ∈ c, Plain v) : RenObj σ (.cells c e wr sp) (.cells c e wr sp) :=
  .cells rfl fun i a b => .plain (h _ (List.getElem_mem a))

theorem RenObj.rel {σ : Sig} {o2 o : AObj} (h : RenObj σ o2 o) {L : Loc} (k : ObjRel ρ o L w) : ObjRel (σ.comp ρ) o2 L w := by
  cases h with
  | forget => trivial
  | cells hl h =>
    obtain ⟨carr, frz, h1, h2, h3, h4, h8, h5, h6, h7⟩ := k
    refine ⟨carr, frz, h1, h2, by omega, fun z => ?_, fun z hz => ?_, fun j hj => h j hj (by omega) _ _ (h5 j (by omega)), fun z hz => ?_, h7⟩
    · have := h4 z; exact ⟨by omega, this.2⟩
    · have := h8 z hz; exact ⟨by omega, this.2⟩
    · have := h6 z hz; rw [hl]; exact this
  | iter => exact k
  | map => exact k

theorem RenObj.wrt {σ : Sig} {o2 o : AObj} (h : RenObj σ o2 o) (k : o2.wrt = true) : o.wrt = true := by
  cases h <;> simp_all [AObj.wrt]
theorem RenObj.alive {σ : Sig} {o2 o : AObj} (h : RenObj σ o2 o) (k : o2.alive = true) : o.alive = true := by
  cases h <;> simp_all [AObj.alive]

structure Gather (m m' m2 : AMem) (σ : Sig) : Prop where
  old : ∀ b, b < m.size → σ b = some b
  new : ∀ b x, σ b = some x → m.size ≤ b → m.size ≤ x
  dom : ∀ b x, σ b = some x → b < m2.size
  inj : ∀ b b' x, σ b = some x → σ b' = some x → b = b'
  obj : ∀ b x, σ b = some x → (b < m.size ∧ m2.get b = m.get b ∧ m'.get b = m.get b) ∨ RenObj σ (m2.get b) (m'.get x)
  grow : m.size ≤ m2.size

theorem ACall.gather {f : FuncId} {args : List Value} {Q Q' : AEnd → AMem → Prop} (h : ACall P G f args m Q)
    (hq : ∀ r m', Q r m' → m.size ≤ m'.size → ∃ v v2 m2 σ, r = .ret v ∧ Gather m m' m2 σ ∧ RenV σ v2 v ∧ Q' (.ret v2) m2) : ACall P G f args m Q' := by
  intro ρ w args' hR hA
  have main : ∀ e w', (∃ ρ' m' r, Q r m' ∧ EndRel ρ' r e ∧ Rep G m' ρ' w' ∧ Ext m ρ w m' ρ' w') → ∃ ρ' m' r, Q' r m' ∧ EndRel ρ' r e ∧ Rep G m' ρ' w' ∧ Ext m ρ w m' ρ' w' := by
    rintro e w' ⟨ρ', m', r, h1, h2, h3, h4⟩
    obtain ⟨v, v2, m2, σ, rfl, hg, hv, h6⟩ := hq r m' h1 h4.grow
    have hcomp : ∀ b L, σ.comp ρ' b = some L → ∃ x, σ b = some x ∧ ρ' x = some L := fun b L h => by
      simp only [Sig.comp, Option.bind_eq_some_iff] at h; exact h
    have hren : ρ.le (σ.comp ρ') := fun b L hb => Sig.comp_some (hg.old b (hR.dom b L hb)) (h4.ren b L hb)
    have hlate : ∀ b, b < m.size → σ.comp ρ' b = ρ b := fun b hb => by
      simp only [Sig.comp, hg.old b hb, Option.bind_some]; exact h4.late b hb
    -- an old block that stayed as it was
    have hold : ∀ b L x, σ b = some x → b < m.size → ρ' x = some L → m'.get b = m.get b → ObjRel (σ.comp ρ') (m.get b) L w' := fun b L x hx hb hL hm => by
      have hxb : x = b := by have := hg.old b hb; rw [hx] at this; exact Option.some.inj this
      subst hxb
      have h0 : ρ x = some L := by rw [← h4.late x hb]; exact hL
      have h1 := h3.obj x L hL
      rw [hm] at h1
      exact ((hR.obj x L h0).back h4.ren h1).mono hren
    have halive : ∀ b x, σ b = some x → ((m2.get b).alive = true → (m'.get x).alive = true) ∧ ((m2.get b).wrt = true → (m'.get x).wrt = true) := fun b x hx => by
      rcases hg.obj b x hx with ⟨hb, e1, e2⟩ | h
      · have hxb : x = b := by have := hg.old b hb; rw [hx] at this; exact Option.some.inj this
        subst hxb
        rw [e1, e2]; exact ⟨id, id⟩
      · exact ⟨h.alive, h.wrt⟩
    refine ⟨σ.comp ρ', m2, .ret v2, h6, ?_, ⟨fun b L hb => ?_, fun b L hb => ?_, fun b b' L L' hb hb' hne h1 h2 h3' => ?_, fun g hgG => ?_⟩, ⟨hren, h4.os, h4.tape, h4.output, h4.size, h4.keep, fun i hi hI => ?_, hlate, hg.grow⟩⟩
    · cases h2 with
      | ret h => exact .ret (hv _ _ h)
    · obtain ⟨x, hx, _⟩ := hcomp b L hb; exact hg.dom b x hx
    · obtain ⟨x, hx, hL⟩ := hcomp b L hb
      rcases hg.obj b x hx with ⟨hb, e1, e2⟩ | h
      · rw [e1]; exact hold b L x hx hb hL e2
      · exact h.rel (h3.obj x L hL)
    · obtain ⟨x, hx, hL⟩ := hcomp b L hb
      obtain ⟨x', hx', hL'⟩ := hcomp b' L' hb'
      exact h3.sep x x' L L' hL hL' (fun e => hne (hg.inj b b' x hx (e ▸ hx'))) ((halive b x hx).1 h1) ((halive b' x' hx').1 h2) ((halive b x hx).2 h3')
    · obtain ⟨L, hL, k⟩ := hR.glob g hgG
      exact ⟨L, hren g L hL, k⟩
    · obtain ⟨b, L, hb, hw, hc⟩ := hI
      obtain ⟨x, hx, hL⟩ := hcomp b L hb
      exact h4.img i hi ⟨x, L, hL, (halive b x hx).2 hw, hc⟩
  have := h ρ w args' hR hA
  split at this
  · exact this.mono fun e w' h => main e w' h
  · exact main _ _ this
  · exact this

/-! ### Memory: a base, and new blocks behind it -/
def mx (m : AMem) (l : List AObj) : AMem := ⟨m.size + l.length, fun x => if x < m.size then m.get x else l.getD (x - m.size) .dead⟩
theorem mx_size (m : AMem) (l : List AObj) : (mx m l).size = m.size + l.length := (rfl)
theorem mx_get (m : AMem) (l : List AObj) (x : Nat) : (mx m l).get x = if x < m.size then m.get x else l.getD (x - m.size) .dead := (rfl)
theorem mx_old {m : AMem} {l : List AObj} {x : Nat} (h : x < m.size) : (mx m l).get x = m.get x := by rw [mx_get, if_pos h]
theorem mx_new (m : AMem) (l : List AObj) (k : Nat) : (mx m l).get (m.size + k) = l.getD k .dead := by
  rw [mx_get, if_neg (by omega)]; congr 1; omega
theorem mx_new0 (m : AMem) (l : List AObj) : (mx m l).get m.size = l.getD 0 .dead := mx_new m l 0
theorem mx_push (m : AMem) (l : List AObj) (o : AObj) : (mx m l).push o = mx m (l ++ [o]) := by
  refine AMem.ext' ?_ fun x => ?_
  · rw [AMem.size_push, mx_size, mx_size]; simp; omega
  · rw [AMem.get_push, mx_get, mx_get, mx_size]
    by_cases h1 : x < m.size
    · simp only [h1, if_true]; rw [if_neg (by omega)]
    · simp only [h1, if_false]
      by_cases h2 : x = m.size + l.length
      · subst h2; simp
      · rw [if_neg h2]
        by_cases h3 : x - m.size < l.length
        · simp [List.getD, List.getElem?_append_left h3]
        · simp only [List.getD]
          rw [List.getElem?_eq_none (by omega), List.getElem?_eq_none (by simp; omega)]
theorem mx_set (m : AMem) (l : List AObj) (k : Nat) (o : AObj) (hk : k < l.length) : (mx m l).set (m.size + k) o = mx m (l.set k o) := by
  refine AMem.ext' ?_ fun x => ?_
  · rw [AMem.size_set, mx_size, mx_size]; simp
  · rw [AMem.get_set, mx_get, mx_get]
    by_cases h1 : x < m.size
    · simp only [h1, if_true]; rw [if_neg (by omega)]
    · simp only [h1, if_false]
      by_cases h2 : x = m.size + k
      · subst h2; simp [List.getD, hk]
      · rw [if_neg h2]; simp only [List.getD]; rw [List.getElem?_set_ne (by omega)]
theorem mx_set0 (m : AMem) (l : List AObj) (o : AObj) (hk : 0 < l.length) : (mx m l).set m.size o = mx m (l.set 0 o) := mx_set m l 0 o hk
theorem mx_set_old {m : AMem} {l : List AObj} {b : Nat} {o : AObj} (h : b < m.size) : (mx m l).set b o = mx (m.set b o) l := by
  refine AMem.ext' rfl fun x => ?_
  rw [AMem.get_set, mx_get, mx_get, AMem.get_set, AMem.size_set]
  by_cases h2 : x = b
  · subst h2; simp [h]
  · simp [h2]
theorem mx_mx (m : AMem) (l l' : List AObj) : mx (mx m l) l' = mx m (l ++ l') := by
  refine AMem.ext' ?_ fun x => ?_
  · simp only [mx_size, List.length_append]; omega
  · rw [mx_get, mx_get, mx_get, mx_size]
    by_cases h1 : x < m.size
    · rw [if_pos (by omega), if_pos h1, if_pos h1]
    · rw [if_neg h1, if_neg h1]
      by_cases h2 : x < m.size + l.length
      · rw [if_pos h2]; simp only [List.getD]; rw [List.getElem?_append_left (by omega)]
      · rw [if_neg h2]; simp only [List.getD]; rw [List.getElem?_append_right (by omega)]; congr 2; omega

theorem ACall.eqv {f : FuncId} {args : List Value} {m1 m : AMem} {Q : AEnd → AMem → Prop} (hs : m1.size = m.size) (hg : ∀ b, b < m.size → m1.get b = m.get b) (h : ACall P G f args m1 Q) : ACall P G f args m Q := by
  intro ρ w args' hR hL
  have hE : ∀ b L, ρ b = some L → m1.get b = m.get b := fun b L hb => hg b (hR.dom b L hb)
  have hR' : Rep G m1 ρ w := ⟨fun b L hb => by rw [hs]; exact hR.dom b L hb, fun b L hb => by rw [hE b L hb]; exact hR.obj b L hb,
    fun b b' L L' hb hb' hne h1 h2 h3 => by rw [hE b L hb] at h1 h3; rw [hE b' L' hb'] at h2; exact hR.sep b b' L L' hb hb' hne h1 h2 h3, hR.glob⟩
  have himg : ∀ i, Img m1 ρ i ↔ Img m ρ i := fun i => ⟨fun ⟨b, L, hb, hw, hc⟩ => ⟨b, L, hb, by rw [hE b L hb] at hw; exact hw, hc⟩, fun ⟨b, L, hb, hw, hc⟩ => ⟨b, L, hb, by rw [hE b L hb]; exact hw, hc⟩⟩
  have main : ∀ {ρ' : Ren} {m' : AMem} {w' : World}, Ext m1 ρ w m' ρ' w' → Ext m ρ w m' ρ' w' := fun h4 =>
    ⟨h4.ren, h4.os, h4.tape, h4.output, h4.size, fun i hi hn => h4.keep i hi (fun k => hn ((himg i).1 k)), fun i hi k => (himg i).1 (h4.img i hi k), fun b hb => h4.late b (by omega), by have := h4.grow; omega⟩
  have := h ρ w args' hR' hL
  split at this
  · exact this.mono fun e w' ⟨ρ', m', r, h1, h2, h3, h4⟩ => ⟨ρ', m', r, h1, h2, h3, main h4⟩
  · obtain ⟨ρ', m', r, h1, h2, h3, h4⟩ := this
    exact ⟨ρ', m', r, h1, h2, h3, main h4⟩
  · exact this

theorem ACall.grow {f : FuncId} {args : List Value} {m : AMem} {Q : AEnd → AMem → Prop} (h : ACall P G f args m Q) : ACall P G f args m fun r m' => Q r m' ∧ m.size ≤ m'.size := by
  intro ρ w args' hR hL
  have := h ρ w args' hR hL
  split at this
  · exact this.mono fun e w' ⟨ρ', m', r, h1, h2, h3, h4⟩ => ⟨ρ', m', r, ⟨h1, h4.grow⟩, h2, h3, h4⟩
  · obtain ⟨ρ', m', r, h1, h2, h3, h4⟩ := this
    exact ⟨ρ', m', r, ⟨h1, h4.grow⟩, h2, h3, h4⟩
  · exact this

/-! ### Known answers -/
def DetC (P : Program) (G : Nat) (f : FuncId) (args : List Value) (m : AMem) (v : Value) (m2 : AMem) : Prop :=
  ACall P G f args m fun r m' => r = .ret v ∧ m' = m2
abbrev PureC (P : Program) (G : Nat) (f : FuncId) (args : List Value) (m : AMem) (v : Value) : Prop := DetC P G f args m v m

theorem DetC.mono {f : FuncId} {args : List Value} {m : AMem} {v : Value} {m2 : AMem} (h : DetC P G f args m v m2) {Q : AEnd → AMem → Prop} (hq : Q (.ret v) m2) : ACall P G f args m Q :=
  ACall.mono h fun r m' ⟨h1, h2⟩ => by subst h1 h2; exact hq

class Box where
  p : Prop
def OrW (A : Prop) [b : Box] : Prop := A ∨ b.p
theorem OrW.go {A : Prop} {b : Box} (h : A) : @OrW A b := .inl h
theorem OrW_true (b : Box) : @OrW True b = True := by simp [OrW]
theorem DetC.call {f : FuncId} {args : List Value} {m : AMem} {v : Value} {m2 : AMem} (h : DetC P G f args m v m2) {d : Option Nat} {t : Tmps} {ds : List Deferred} {K : ASt → Prop} {Q : AExit → ASt → Prop} :
    ACall P G f args m (CallK d ⟨t, m, ds⟩ K Q) = @OrW (K ⟨updO t d v, m2, ds⟩) ⟨ACall P G f args m (CallK d ⟨t, m, ds⟩ K Q)⟩ :=
  propext ⟨fun k => .inr k, fun k => k.elim (fun k => DetC.mono h k) id⟩

abbrev Known (P : Program) (G : Nat) (f : FuncId) (args : List Value) (m : AMem) (v : Value) (m2 : AMem) : Prop :=
  ∀ (d : Option Nat) (t : Tmps) (ds : List Deferred) (K : ASt → Prop) (Q : AExit → ASt → Prop),
    ACall P G f args m (CallK d ⟨t, m, ds⟩ K Q) = @OrW (K ⟨updO t d v, m2, ds⟩) ⟨ACall P G f args m (CallK d ⟨t, m, ds⟩ K Q)⟩
theorem DetC.known {f : FuncId} {args : List Value} {m : AMem} {v : Value} {m2 : AMem} (h : DetC P G f args m v m2) : Known P G f args m v m2 := fun _ _ _ _ _ => h.call
def keepS (m : AMem) (ks : List Nat) : Sig := fun b => if b < m.size then some b else ks[b - m.size]?
theorem keepS_old {m : AMem} {ks : List Nat} {b : Nat} (h : b < m.size) : keepS m ks b = some b := if_pos h
structure Kept (m m' m0 : AMem) (ks : List Nat) (objs : List AObj) : Prop where
  len : objs.length = ks.length
  size : m0.size = m.size
  old : ∀ b, b < m.size → (m0.get b = m.get b ∧ m'.get b = m.get b) ∨ RenObj (keepS m ks) (m0.get b) (m'.get b)
  fresh : ∀ x ∈ ks, m.size ≤ x
  nodup : ks.Nodup
  obj : ∀ i (h : i < ks.length) (h' : i < objs.length), RenObj (keepS m ks) objs[i] (m'.get ks[i])

theorem Kept.gather {m m' m0 : AMem} {ks : List Nat} {objs : List AObj} (h : Kept m m' m0 ks objs) : Gather m m' (mx m0 objs) (keepS m ks) where
  old := fun b hb => keepS_old hb
  new := fun b x hx hb => by
    simp only [keepS] at hx; rw [if_neg (by omega)] at hx
    exact h.fresh x (List.mem_of_getElem? hx)
  dom := fun b x hx => by
    rw [mx_size, h.size]
    simp only [keepS] at hx
    split at hx
    · omega
    · have := (List.getElem?_eq_some_iff.1 hx).1
      have := h.len
      omega
  inj := fun b b' x h1 h2 => by
    simp only [keepS] at h1 h2
    split at h1 <;> split at h2
    · simp at h1 h2; omega
    · simp at h1; subst h1
      have := h.fresh b (List.mem_of_getElem? h2); omega
    · simp at h2; subst h2
      have := h.fresh b' (List.mem_of_getElem? h1); omega
    · obtain ⟨a1, a2⟩ := List.getElem?_eq_some_iff.1 h1
      obtain ⟨b1, b2⟩ := List.getElem?_eq_some_iff.1 h2
      have hp := List.pairwise_iff_getElem.1 h.nodup
      rcases Nat.lt_trichotomy (b - m.size) (b' - m.size) with hlt | heq | hgt
      · exact absurd (a2.trans b2.symm) (hp _ _ a1 b1 hlt)
      · omega
      · exact absurd (b2.trans a2.symm) (hp _ _ b1 a1 hgt)
  obj := fun b x hx => by
    simp only [keepS] at hx
    split at hx
    · rename_i hb
      simp at hx; subst hx
      rw [mx_old (by rw [h.size]; exact hb)]
      rcases h.old b hb with ⟨h1, h2⟩ | h1
      · exact .inl ⟨hb, h1, h2⟩
      · exact .inr h1
    · rename_i hb
      obtain ⟨a1, a2⟩ := List.getElem?_eq_some_iff.1 hx
      subst a2
      have hl := h.len
      have := h.obj (b - m.size) a1 (by omega)
      refine .inr ?_
      have hget : (mx m0 objs).get b = objs[b - m.size]'(by omega) := by
        rw [mx_get, if_neg (by rw [h.size]; exact hb), h.size]
        simp [List.getD, show b - m.size < objs.length by omega]
      rw [hget]; exact this
  grow := by rw [mx_size, h.size]; omega

theorem pure_of_W {f : FuncId} {fn : Func} {A : AFun} (hf : P.funcs[f]? = some fn) (hn : (fn.name == "runtime.NumGoroutine") = false) (hA : compFun P G fn = some A) {args : List Value} (hlen : args.length ≤ A.n) {m : AMem} {v : Value}
    (hv : Plain v) (h : W P G A.code (RetK A.res fun r m' => r = .ret v ∧ Old m m') ⟨initT args, mx m [], []⟩) : PureC P G f args m v := by
  refine ACall.gather (Q := fun r m' => r = .ret v ∧ Old m m') (ACall.eqv (m1 := mx m []) rfl (fun b hb => mx_old hb) (ACall_of_W hf hn hA hlen h)) ?_
  rintro r m' ⟨rfl, _, ho⟩ hg
  refine ⟨v, v, m, fun b => if b < m.size then some b else none, rfl, ⟨fun b hb => if_pos hb, fun b x hx hb => ?_, fun b x hx => ?_, fun b b' x h1 h2 => ?_, fun b x hx => ?_, Nat.le_refl _⟩, .plain hv, rfl, rfl⟩
  · rw [if_neg (by omega)] at hx; cases hx
  · by_cases hb : b < m.size
    · exact hb
    · rw [if_neg hb] at hx; cases hx
  · split at h1 <;> simp at h1
    split at h2 <;> simp at h2
    omega
  · split at hx <;> simp at hx
    subst hx
    rename_i hb
    exact .inl ⟨hb, rfl, ho b hb⟩

theorem Old.set {m M : AMem} (h : Old m M) {b : Nat} (hb : m.size ≤ b) (o : AObj) : Old m (M.set b o) :=
  ⟨h.1, fun x hx => by rw [AMem.get_set_ne _ _ (by omega)]; exact h.2 x hx⟩
theorem Old.here (m : AMem) (l : List AObj) : Old m (Go.AM.mx m l) := ⟨by rw [mx_size]; omega, fun b hb => mx_old hb⟩
theorem old_mx (m : AMem) (l : List AObj) : Old m (mx m l) = True := by
  simp only [eq_iff_iff, iff_true]; exact ⟨by rw [mx_size]; omega, fun b hb => mx_old hb⟩
theorem Old.mx {m M : AMem} (h : Old m M) (l : List AObj) : Old m (mx M l) := ⟨by rw [mx_size]; have := h.1; omega, fun b hb => by rw [mx_old (by have := h.1; omega)]; exact h.2 b hb⟩
def Gb (m X : AMem) : Prop := ∃ M l, X = mx M l ∧ Old m (mx M l)
theorem Gb.mk {m M : AMem} (h : Old m M) (l : List AObj) : Gb m (mx M l) := ⟨M, l, rfl, h.mx l⟩
theorem Gb.start (m : AMem) (l : List AObj) : Gb m (mx m l) := .mk (.refl m) l
theorem Gb.base {m X : AMem} (h : Gb m X) : ∃ M, X = mx M [] ∧ Old m M := by
  obtain ⟨M, l, rfl, h⟩ := h
  exact ⟨mx M l, by rw [mx_mx, List.append_nil], h⟩
theorem mx_frame (m : AMem) (l : List AObj) : (∀ x, x < m.size → (mx m l).get x = m.get x) = True := by
  simp only [eq_iff_iff, iff_true]; exact fun x hx => mx_old hx
theorem Plain.tuple2 {a b : Value} (ha : Plain a) (hb : Plain b) : Plain (.tuple #[a, b]) := .tuple fun v hv => by
  simp at hv; rcases hv with rfl | rfl <;> assumption
theorem Plain.bytes (l : List UInt8) : Plain (.agg (l.map byteV).toArray) := .agg fun v hv => by
  simp at hv; obtain ⟨x, _, rfl⟩ := hv; exact .int _ _
theorem AMem.set_set (m : AMem) (b : Nat) (o o' : AObj) : (m.set b o).set b o' = m.set b o' := by
  refine AMem.ext' rfl fun x => ?_
  simp only [AMem.get_set]; split <;> rfl
theorem Kept.one {m m' m0 : AMem} {b : Nat} {c : List Value} {e : TypeId} {wr : Bool} {sp : Spare} (hb : m.size ≤ b) (hm : m'.get b = .cells c e wr sp) (hc : ∀ v ∈ c, Plain v)
    (h0 : m0.size = m.size) (ho : ∀ x, x < m.size → m0.get x = m.get x ∧ m'.get x = m.get x) : Kept m m' m0 [b] [.cells c e wr sp] where
  len := rfl
  size := h0
  old := fun x hx => .inl (ho x hx)
  fresh := fun x hx => by simp at hx; omega
  nodup := by simp
  obj := fun i h h' => by
    have : i = 0 := by simp at h; omega
    subst this
    simp only [List.getElem_cons_zero]
    rw [hm]; exact .plain hc
theorem Kept.none {m m' : AMem} (ho : ∀ x, x < m.size → m'.get x = m.get x) : Kept m m' m [] [] where
  len := rfl
  size := rfl
  old := fun x hx => .inl ⟨rfl, ho x hx⟩
  fresh := fun x hx => by simp at hx
  nodup := by simp
  obj := fun i h h' => by simp at h
end
end Go.AM
namespace Go.AM
set_option linter.unusedVariables false

def cutL (c : List Value) (o n : Nat) : Option (List Value) := if o + n ≤ c.length then some ((c.drop o).take n) else none
def rdO (b : AObj) (o n : Nat) : Option (List Value) := match b with | .cells c _ _ _ => cutL c o n | _ => none
def wrO (m : AMem) (b o : Nat) (v : List Value) (x : AObj) : Option AMem := match x with
  | .cells c e true sp => if o + v.length ≤ c.length then some (m.set b (.cells (splice c o v) e true sp)) else none
  | _ => none
theorem rd_def (m : AMem) (b o n : Nat) : rd m b o n = rdO (m.get b) o n := by
  unfold rd rdO cutL; cases m.get b <;> rfl
theorem wr_def (m : AMem) (b o : Nat) (v : List Value) : wr m b o v = wrO m b o v (m.get b) := by
  unfold wr wrO
  cases m.get b with
  | cells c e w sp => cases w <;> rfl
  | _ => rfl
theorem rdO_cells (c : List Value) (e : TypeId) (w : Bool) (sp : Spare) (o n : Nat) : rdO (.cells c e w sp) o n = cutL c o n := (rfl)
theorem wrO_cells {m : AMem} {b o : Nat} {v c : List Value} {e : TypeId} {sp : Spare} (h : o + v.length ≤ c.length) : wrO m b o v (.cells c e true sp) = some (m.set b (.cells (splice c o v) e true sp)) := by
  simp [wrO, h]
theorem cutL_one (c : List Value) (o : Nat) : cutL c o 1 = (c[o]?).map ([·]) := by
  unfold cutL
  split
  · rename_i hl
    rw [List.getElem?_eq_getElem (by omega), List.drop_eq_getElem_cons (show o < c.length by omega)]
    rfl
  · rename_i hl
    rw [List.getElem?_eq_none (by omega)]; rfl
theorem cutL_all {c : List Value} {n : Nat} (h : c.length = n) : cutL c 0 n = some c := by subst h; simp [cutL]
theorem splice_all {c v : List Value} (h : v.length = c.length) : splice c 0 v = v := by simp [splice, h]
theorem splice_one {c : List Value} {o : Nat} {v : Value} (h : o < c.length) : splice c o [v] = c.set o v := by
  rw [splice, List.set_eq_take_append_cons_drop, if_pos h]; simp
theorem bytes_get {l : List UInt8} {i : Nat} (h : i < l.length) : (l.map byteV)[i]? = some (byteV l[i]) := by simp [h]
theorem cutL_bytes {l : List UInt8} {o n : Nat} (h : o + n ≤ l.length) : cutL (l.map byteV) o n = some (((l.drop o).take n).map byteV) := by
  simp [cutL, h, List.map_take, List.map_drop]
theorem arr1_0 (a : Value) : #[a][0]? = some a := rfl
theorem arr2_0 (a b : Value) : #[a, b][0]? = some a := rfl
theorem arr2_1 (a b : Value) : #[a, b][1]? = some b := rfl
theorem arr3_0 (a b c : Value) : #[a, b, c][0]? = some a := rfl
theorem arr3_1 (a b c : Value) : #[a, b, c][1]? = some b := rfl
theorem arr3_2 (a b c : Value) : #[a, b, c][2]? = some c := rfl
theorem arr4_0 (a b c d : Value) : #[a, b, c, d][0]? = some a := rfl
theorem arr4_1 (a b c d : Value) : #[a, b, c, d][1]? = some b := rfl
theorem arr4_2 (a b c d : Value) : #[a, b, c, d][2]? = some c := rfl
theorem arr4_3 (a b c d : Value) : #[a, b, c, d][3]? = some d := rfl
theorem strEq_self (s : ByteArray) : strEq s s = true := by simp [strEq]
theorem mk_size (l : List UInt8) : (⟨l.toArray⟩ : ByteArray).size = l.length := by
  show l.toArray.size = _
  simp
theorem mk_get {l : List UInt8} {i : Nat} (h : i < l.length) : (⟨l.toArray⟩ : ByteArray)[i]? = some l[i] := by
  have hs : i < (⟨l.toArray⟩ : ByteArray).size := by rw [mk_size]; exact h
  rw [getElem?_pos (⟨l.toArray⟩ : ByteArray) i hs]
  rfl
theorem mk_extract (l : List UInt8) (a b : Nat) : (⟨l.toArray⟩ : ByteArray).extract a b = ⟨((l.take b).drop a).toArray⟩ := by
  apply ByteArray.ext
  simp [List.extract_eq_take_drop, List.drop_take]
theorem mk_app (a b : List UInt8) : (⟨a.toArray⟩ : ByteArray) ++ ⟨b.toArray⟩ = ⟨(a ++ b).toArray⟩ := by
  apply ByteArray.ext
  simp
theorem mk_data (l : List UInt8) : (⟨l.toArray⟩ : ByteArray).data.toList = l := by simp
theorem strEq_mk (a b : List UInt8) : strEq ⟨a.toArray⟩ ⟨b.toArray⟩ = decide (a = b) := by
  have h : ∀ l : List UInt8, (⟨l.toArray⟩ : ByteArray).toList = l := fun l => by simp
  simp only [strEq, h]
  by_cases e : a = b
  · subst e; simp
  · simp [e]
theorem mapM_byteOf (l : List UInt8) : (l.map byteV).mapM byteOf = some l := map_ofNat_byteOf l
theorem firstIdx_iff (l : List UInt8) (c : UInt8) (n : Nat) : firstIdx ⟨l.toArray⟩ c = (n : Int) ↔ l[n]? = some c ∧ ∀ j, j < n → l[j]? ≠ some c := by
  have hp : ∀ i, i < l.length → (((⟨l.toArray⟩ : ByteArray)[i]! == c) = true ↔ l[i]? = some c) := fun i hi => by
    have hs : i < (⟨l.toArray⟩ : ByteArray).size := by rw [mk_size]; exact hi
    rw [getElem!_pos (⟨l.toArray⟩ : ByteArray) i hs, List.getElem?_eq_getElem hi]
    simp only [beq_iff_eq, Option.some.injEq]
    exact Iff.rfl
  unfold firstIdx
  rw [mk_size]
  constructor
  · intro h
    split at h
    · rename_i i hi
      have : i = n := by omega
      subst this
      rw [List.find?_range_eq_some] at hi
      obtain ⟨h1, h2, h3⟩ := hi
      have hl : i < l.length := by simpa using h2
      refine ⟨(hp i hl).1 h1, fun j hj hc => ?_⟩
      have := h3 j hj
      rw [(hp j (by omega)).2 hc] at this
      cases this
    · omega
  · rintro ⟨h1, h2⟩
    have hl : n < l.length := by
      rcases Nat.lt_or_ge n l.length with h | h
      · exact h
      · rw [List.getElem?_eq_none h] at h1; cases h1
    have : (List.range l.length).find? (fun i => (⟨l.toArray⟩ : ByteArray)[i]! == c) = some n := by
      rw [List.find?_range_eq_some]
      refine ⟨(hp n hl).2 h1, by simpa using hl, fun j hj => ?_⟩
      have := h2 j hj
      cases hb : ((⟨l.toArray⟩ : ByteArray)[j]! == c) with
      | false => rfl
      | true => exact absurd ((hp j (by omega)).1 hb) this
    rw [this]
theorem FltG_true (o : Option Value) : FltG true o = o := rfl
theorem FltG_false (o : Option Value) : FltG false o = some undef := rfl
theorem fill_nil (z : List Value) : fill z [] = some z := (rfl)
theorem fill_one {z : List Value} {o : Nat} {v : Value} {r : List (Nat × Nat × Value)} (hv : cellsOf v = some [v]) (h : o < z.length) : fill z ((o, 1, v) :: r) = fill (z.set o v) r := by
  simp only [fill, hv]
  rw [if_pos ⟨rfl, by omega⟩, splice_one h]
theorem fill_int {z : List Value} {o : Nat} {r : List (Nat × Nat × Value)} (k : IntKind) (n : Int) (h : o < z.length) : fill z ((o, 1, .int k n) :: r) = fill (z.set o (.int k n)) r := fill_one rfl h
theorem fill_bool {z : List Value} {o : Nat} {r : List (Nat × Nat × Value)} (b : Bool) (h : o < z.length) : fill z ((o, 1, .bool b) :: r) = fill (z.set o (.bool b)) r := fill_one rfl h
theorem fill_string {z : List Value} {o : Nat} {r : List (Nat × Nat × Value)} (x : ByteArray) (h : o < z.length) : fill z ((o, 1, .string x) :: r) = fill (z.set o (.string x)) r := fill_one rfl h
theorem fill_ptr {z : List Value} {o : Nat} {r : List (Nat × Nat × Value)} (a : Option Addr) (h : o < z.length) : fill z ((o, 1, .pointer a) :: r) = fill (z.set o (.pointer a)) r := fill_one rfl h
theorem fill_slice {z : List Value} {o : Nat} {r : List (Nat × Nat × Value)} (a : Option Addr) (l c : Nat) (h : o < z.length) : fill z ((o, 1, .slice a l c) :: r) = fill (z.set o (.slice a l c)) r := fill_one rfl h
theorem fill_map {z : List Value} {o : Nat} {r : List (Nat × Nat × Value)} (a : Option Nat) (h : o < z.length) : fill z ((o, 1, .map a) :: r) = fill (z.set o (.map a)) r := fill_one rfl h
theorem fill_nilFunc {z : List Value} {o : Nat} {r : List (Nat × Nat × Value)}  (h : o < z.length) : fill z ((o, 1, .nilFunc) :: r) = fill (z.set o (.nilFunc)) r := fill_one rfl h
theorem fill_iface {z : List Value} {o : Nat} {r : List (Nat × Nat × Value)} (T : TypeId) (v : Value) (h : o < z.length) : fill z ((o, 1, .iface T v) :: r) = fill (z.set o (.iface T v)) r := fill_one rfl h
theorem fill_nilIface {z : List Value} {o : Nat} {r : List (Nat × Nat × Value)}  (h : o < z.length) : fill z ((o, 1, .nilIface) :: r) = fill (z.set o (.nilIface)) r := fill_one rfl h
theorem fill_bytes {z : List Value} {o n : Nat} {r : List (Nat × Nat × Value)} {l : List UInt8} (hl : l.length = n) (h : o + n ≤ z.length) : fill z ((o, n, .agg (l.map byteV).toArray) :: r) = fill (splice z o (l.map byteV)) r := by
  simp only [fill, cellsOf_bytes]
  rw [if_pos ⟨by simpa using hl, h⟩]
theorem getD_snoc {α : Type} (g : List α) (o d : α) : (g ++ [o]).getD g.length d = o := by simp
theorem set_snoc {α : Type} (g : List α) (o x : α) : (g ++ [o]).set g.length x = g ++ [x] := by simp
theorem byteOf_one {v : Nat} : ([.int .u8 (v : Int)] : List Value).mapM byteOf = some [UInt8.ofNat v] := by simp [byteOf]
theorem BarK_some {P : Program} {G : Nat} {c : AIns} {chk : List AIns} {r : List DItem} {Q : AExit → ASt → Prop} {t : Tmps} {m : AMem} {ds : List Deferred} {d : Nat} (hd : c.dst = some d) :
    BarK P G (c :: chk) r Q ⟨t, m, ds⟩ = (valF c t m = some (t d) ∧ BarK P G chk r Q ⟨t, m, ds⟩) := by
  simp only [BarK, chkOk, hd]
  exact propext ⟨fun ⟨⟨a, b⟩, c⟩ => ⟨a, b, c⟩, fun ⟨a, b, c⟩ => ⟨⟨a, b⟩, c⟩⟩
theorem BarK_op {P : Program} {G : Nat} {g : Option (Nat × Bool)} {d : Nat} {o : AOp} {chk : List AIns} {r : List DItem} {Q : AExit → ASt → Prop} {t : Tmps} {m : AMem} {ds : List Deferred} :
    BarK P G (.op g (some d) o :: chk) r Q ⟨t, m, ds⟩ = (valF (.op g (some d) o) t m = some (t d) ∧ BarK P G chk r Q ⟨t, m, ds⟩) := BarK_some rfl
end Go.AM
namespace Go.AM
set_option linter.unusedVariables false
set_option linter.unusedSimpArgs false

def deads : Nat → List AObj
  | 0 => []
  | k + 1 => .dead :: deads k
theorem deads_len (k : Nat) : (deads k).length = k := by induction k with | zero => rfl | succ k ih => simp [deads, ih]
theorem deads_get (k i : Nat) : (deads k).getD i .dead = .dead := by
  induction k generalizing i with
  | zero => simp [deads]
  | succ k ih => cases i with
    | zero => rfl
    | succ i => simpa [deads] using ih i
theorem mx_reserve (m : AMem) (l : List AObj) (k : Nat) : (mx m l).reserve k = mx m (l ++ deads k) := by
  refine AMem.ext' ?_ fun x => ?_
  · simp only [AMem.reserve, mx_size, List.length_append, deads_len]; omega
  · simp only [AMem.reserve, mx_get, mx_size]
    by_cases h1 : x < m.size
    · rw [if_pos (by omega), if_pos h1, if_pos h1]
    · rw [if_neg h1, if_neg h1]
      by_cases h2 : x < m.size + l.length
      · rw [if_pos h2]; simp only [List.getD]; rw [List.getElem?_append_left (by omega)]
      · rw [if_neg h2]
        have := deads_get k (x - m.size - l.length)
        simp only [List.getD] at this ⊢
        rw [List.getElem?_append_right (by omega)]; exact this.symm
theorem deads_1 : deads 1 = [.dead] := rfl
theorem deads_2 : deads 2 = [.dead, .dead] := rfl
theorem deads_3 : deads 3 = [.dead, .dead, .dead] := rfl
theorem deads_4 : deads 4 = [.dead, .dead, .dead, .dead] := rfl
theorem deads_5 : deads 5 = [.dead, .dead, .dead, .dead, .dead] := rfl
theorem deads_6 : deads 6 = [.dead, .dead, .dead, .dead, .dead, .dead] := rfl
theorem deads_7 : deads 7 = [.dead, .dead, .dead, .dead, .dead, .dead, .dead] := rfl
theorem deads_8 : deads 8 = [.dead, .dead, .dead, .dead, .dead, .dead, .dead, .dead] := rfl
theorem deads_9 : deads 9 = [.dead, .dead, .dead, .dead, .dead, .dead, .dead, .dead, .dead] := rfl
theorem deads_10 : deads 10 = [.dead, .dead, .dead, .dead, .dead, .dead, .dead, .dead, .dead, .dead] := rfl

def slotAt (base j : Nat) : Nat := base + j
theorem slotAt_add (x a j : Nat) : slotAt (x + a) j = x + (a + j) := Nat.add_assoc _ _ _
theorem slotAt_0 (m : AMem) (j : Nat) : slotAt m.size j = m.size + j := rfl

section
variable {P : Program} {G base : Nat} {Q : AExit → ASt → Prop} {K : ASt → Prop} {t : Tmps} {m : AMem} {ds : List Deferred} {s : ASt}

@[congr] theorem DWA_congr {c : List AItem} {b b' : Nat} {s s' : ASt} (hb : b = b') (h : s = s') : DWA P G b c Q s = DWA P G b' c Q s' := by rw [hb, h]
theorem W_drawA (k : Nat) (is : List AItem) : W P G (.drawA k is) Q ⟨t, m, ds⟩ = DWA P G m.size is Q ⟨t, m.reserve k, ds⟩ := rfl
theorem DWA_nil : DWA P G base [] Q s = Q .normal s := rfl
def FltA (P : Program) (G base : Nat) (o : Option Value) (d : Option Nat) (r : List AItem) (Q : AExit → ASt → Prop) (t : Tmps) (m : AMem) (ds : List Deferred) : Prop :=
  match o with | some v => DWA P G base r Q ⟨updO t d v, m, ds⟩ | none => False
@[congr] theorem FltA_congr {o o' : Option Value} {d : Option Nat} {r : List AItem} (h : o = o') : FltA P G base o d r Q t m ds = FltA P G base o' d r Q t m ds := by rw [h]
theorem FltA_some (v : Value) (d : Option Nat) (r : List AItem) : FltA P G base (some v) d r Q t m ds = DWA P G base r Q ⟨updO t d v, m, ds⟩ := rfl
theorem DWA_f (i : AIns) (r : List AItem) : DWA P G base (.f i :: r) Q ⟨t, m, ds⟩ = FltA P G base (valF i t m) i.dst r Q t m ds := by
  simp only [DWA, FltA]
  cases valF i t m <;> simp
def gob (b : Bool) (o : AObj) : AObj := if b then o else .dead
theorem gob_true (o : AObj) : gob true o = o := rfl
theorem gob_false (o : AObj) : gob false o = .dead := rfl
@[congr] theorem gob_congr {b b' : Bool} {o o' : AObj} (h : b = b') (ho : b' = true → o = o') : gob b o = gob b' o' := by
  subst h; cases b <;> simp_all [gob]
def NewA (P : Program) (G base : Nat) (b : Bool) (x : AObj) (j : Nat) (o : Option (Value × AObj)) (d : Option Nat) (r : List AItem) (Q : AExit → ASt → Prop) (t : Tmps) (m : AMem) (ds : List Deferred) : Prop :=
  x = .dead ∧ if b then (match o with | some (v, ob) => DWA P G base r Q ⟨updO t d v, m.set (slotAt base j) ob, ds⟩ | none => False) else DWA P G base r Q ⟨updO t d undef, m, ds⟩
@[congr] theorem NewA_congr {b b' : Bool} {x x' : AObj} {j : Nat} {o o' : Option (Value × AObj)} {d : Option Nat} {r : List AItem} (h : b = b') (hx : x = x') (ho : b' = true → o = o') : NewA P G base b x j o d r Q t m ds = NewA P G base b' x' j o' d r Q t m ds := by
  subst h hx; cases b <;> simp_all [NewA]
theorem DWA_a (d : Option Nat) (o : AOp) (j : Nat) (r : List AItem) : DWA P G base (.a (.op none d o) j :: r) Q ⟨t, m, ds⟩ = NewA P G base true (m.get (slotAt base j)) j (allocV o t (slotAt base j)) d r Q t m ds := by
  simp only [DWA, NewA, slotAt, wanted, AIns.guard, allocI, AIns.dst, if_true]
  rcases allocV o t (base + j) with _ | ⟨v, ob⟩
  · simp
  · simp
    try (intro _; constructor
         · rintro ⟨v', o', ⟨rfl, rfl⟩, h⟩; exact h
         · intro h; exact ⟨v, ob, ⟨rfl, rfl⟩, h⟩)
theorem DWA_ag (g : Nat × Bool) (d : Option Nat) (o : AOp) (j : Nat) (r : List AItem) : DWA P G base (.a (.op (some g) d o) j :: r) Q ⟨t, m, ds⟩ = NewA P G base (wanted (some g) t) (m.get (slotAt base j)) j (allocV o t (slotAt base j)) d r Q t m ds := by
  change (m.get (base + j) = .dead ∧ if wanted (some g) t = true then (∃ v ob, allocV o t (base + j) = some (v, ob) ∧ DWA P G base r Q ⟨updO t d v, m.set (base + j) ob, ds⟩) else DWA P G base r Q ⟨updO t d undef, m, ds⟩) =
    (m.get (base + j) = .dead ∧ if wanted (some g) t = true then (match allocV o t (base + j) with | some (v, ob) => DWA P G base r Q ⟨updO t d v, m.set (base + j) ob, ds⟩ | none => False) else DWA P G base r Q ⟨updO t d undef, m, ds⟩)
  rcases allocV o t (base + j) with _ | ⟨v, ob⟩
  · simp
  · by_cases h : wanted (some g) t = true
    · rw [if_pos h, if_pos h]
      refine propext (and_congr_right fun _ => ⟨?_, fun h => ⟨v, ob, rfl, h⟩⟩)
      rintro ⟨v', o', he, h⟩; cases he; exact h
    · rw [if_neg h, if_neg h]
theorem NewA_true (j : Nat) (v : Value) (ob : AObj) (d : Option Nat) (r : List AItem) : NewA P G base true .dead j (some (v, ob)) d r Q t m ds = DWA P G base r Q ⟨updO t d v, m.set (slotAt base j) ob, ds⟩ := by simp [NewA]
theorem NewA_false (j : Nat) (o : Option (Value × AObj)) (d : Option Nat) (r : List AItem) : NewA P G base false .dead j o d r Q t m ds = DWA P G base r Q ⟨updO t d undef, m, ds⟩ := by simp [NewA]
theorem allocV_new (b : Nat) (e : TypeId) (z : List Value) : allocV (.new e z) t b = some (.pointer (some ⟨b, 0, none⟩), .cells z e true .exact) := rfl
def boxO (e : TypeId) (b : Nat) (c : Option (List Value)) : Option (Value × AObj) := match c with | some c => some (.pointer (some ⟨b, 0, none⟩), .cells c e true .exact) | none => none
theorem boxO_some (e : TypeId) (b : Nat) (c : List Value) : boxO e b (some c) = some (.pointer (some ⟨b, 0, none⟩), .cells c e true .exact) := rfl
theorem allocV_box (b : Nat) (e : TypeId) (x : AOpd) : allocV (.box e x) t b = boxO e b (cellsOf (x.ev t)) := rfl
def rowO (e : TypeId) (len b : Nat) (c : Option (List Value)) : Option (Value × AObj) := match c with | some c => some (.slice (some ⟨b, 0, none⟩) len len, .cells c e true .exact) | none => none
theorem rowO_some (e : TypeId) (len b : Nat) (c : List Value) : rowO e len b (some c) = some (.slice (some ⟨b, 0, none⟩) len len, .cells c e true .exact) := rfl
theorem allocV_bldSl (b : Nat) (e : TypeId) (len : Nat) (z : List Value) (ps : List (Nat × Nat × AOpd)) : allocV (.bldSl e len z ps) t b = rowO e len b (fill z (ps.map fun p => (p.1, p.2.1, p.2.2.ev t))) := rfl
def s2bO (e : TypeId) (b : Nat) (v : Value) : Option (Value × AObj) := match v with
    | .string s => if s.size ≤ 9223372036854775807 then some (.slice (some ⟨b, 0, none⟩) s.size openCap, .cells (s.data.toList.map byteV) e true (.room [.int .u8 0])) else none
    | _ => none
theorem s2bO_some (e : TypeId) (b : Nat) {s : ByteArray} (h : s.size ≤ 9223372036854775807) : s2bO e b (.string s) = some (.slice (some ⟨b, 0, none⟩) s.size openCap, .cells (s.data.toList.map byteV) e true (.room [.int .u8 0])) := by simp [s2bO, h]
theorem allocV_s2b (b : Nat) (e : TypeId) (x : AOpd) : allocV (.s2b e x) t b = s2bO e b (x.ev t) := rfl
theorem allocV_mkM (b : Nat) : allocV .mkM t b = some (.map (some b), .map #[] 0) := rfl
def mkSlO (e : TypeId) (sz : Nat) (z : List Value) (bytes b : Nat) (l c : Value) : Option (Value × AObj) := match l, c with
    | .int _ l, .int _ c => if 0 ≤ l ∧ l ≤ c ∧ bytes * c ≤ 281474976710656 ∧ c ≤ 281474976710656 ∧ z.length = sz then
        some (.slice (some ⟨b, 0, none⟩) l.toNat c.toNat, .cells (rep z c.toNat) e true .exact) else none
    | _, _ => none
theorem mkSlO_some (e : TypeId) (sz : Nat) (z : List Value) (bytes b : Nat) (k k' : IntKind) {l c : Int} (h : 0 ≤ l ∧ l ≤ c ∧ bytes * c ≤ 281474976710656 ∧ c ≤ 281474976710656 ∧ z.length = sz) :
    mkSlO e sz z bytes b (.int k l) (.int k' c) = some (.slice (some ⟨b, 0, none⟩) l.toNat c.toNat, .cells (rep z c.toNat) e true .exact) := by simp only [mkSlO, if_pos h]
theorem allocV_mkSl (b : Nat) (e : TypeId) (sz : Nat) (z : List Value) (bytes : Nat) (l c : AOpd) : allocV (.mkSl e sz z bytes l c) t b = mkSlO e sz z bytes b (l.ev t) (c.ev t) := rfl

def BarA (P : Program) (G base : Nat) (m : AMem) (chk : List AIns) (sl : List Nat) (r : List AItem) (Q : AExit → ASt → Prop) : ASt → Prop := fun s' => slOk base m s'.m sl ∧ chkOk s' chk ∧ DWA P G base r Q s'
theorem BarA_nil (r : List AItem) : BarA P G base m [] [] r Q s = DWA P G base r Q s := by simp [BarA, chkOk, slOk]
theorem BarA_sl {m' : AMem} (j : Nat) (chk : List AIns) (sl : List Nat) (r : List AItem) : BarA P G base m chk (j :: sl) r Q ⟨t, m', ds⟩ = (m'.get (slotAt base j) = m.get (slotAt base j) ∧ BarA P G base m chk sl r Q ⟨t, m', ds⟩) := by
  simp only [BarA, slOk, slotAt, and_assoc]
theorem BarA_op {m' : AMem} {g : Option (Nat × Bool)} {d : Nat} {o : AOp} {chk : List AIns} {r : List AItem} : BarA P G base m (.op g (some d) o :: chk) [] r Q ⟨t, m', ds⟩ = (valF (.op g (some d) o) t m' = some (t d) ∧ BarA P G base m chk [] r Q ⟨t, m', ds⟩) := by
  simp only [BarA, slOk, true_and, chkOk, AIns.dst, and_assoc]
theorem DWA_bop (d : Option Nat) (o : AOp) (chk : List AIns) (sl : List Nat) (r : List AItem) : DWA P G base (.b (.op none d o) chk sl :: r) Q ⟨t, m, ds⟩ = OpB (stepOp o t m) d (BarA P G base m chk sl r Q) t ds := rfl
theorem DWA_bopg (g : Nat × Bool) (d : Option Nat) (o : AOp) (chk : List AIns) (sl : List Nat) (r : List AItem) : DWA P G base (.b (.op (some g) d o) chk sl :: r) Q ⟨t, m, ds⟩ =
    GrdW (wanted (some g) t) (OpB (stepOp o t m) d (BarA P G base m chk sl r Q) t ds) (BarA P G base m chk sl r Q ⟨updO t d undef, m, ds⟩) := rfl
theorem DWA_call (d : Option Nat) (f : FuncId) (as : List AOpd) (chk : List AIns) (sl : List Nat) (r : List AItem) : DWA P G base (.b (.call none d f as) chk sl :: r) Q ⟨t, m, ds⟩ =
    ACall P G f (as.map (·.ev t)) m (CallK d ⟨t, m, ds⟩ (BarA P G base m chk sl r Q) (PanAny Q)) := rfl
theorem DWA_callg (g : Nat × Bool) (d : Option Nat) (f : FuncId) (as : List AOpd) (chk : List AIns) (sl : List Nat) (r : List AItem) : DWA P G base (.b (.call (some g) d f as) chk sl :: r) Q ⟨t, m, ds⟩ =
    GrdW (wanted (some g) t) (ACall P G f (as.map (·.ev t)) m (CallK d ⟨t, m, ds⟩ (BarA P G base m chk sl r Q) (PanAny Q))) (BarA P G base m chk sl r Q ⟨updO t d undef, m, ds⟩) := rfl

def CallvW (P : Program) (G : Nat) (v : Value) (args : List Value) (m : AMem) (R : AEnd → AMem → Prop) : Prop :=
  match v with | .func (.func f) first captured => ACall P G f (first.toList ++ args ++ captured.toList) m R | .func (.yield l) _ _ => AYield P G l args m R | _ => False
@[congr] theorem CallvW_congr {v v' : Value} {as as' : List Value} {m m' : AMem} {R : AEnd → AMem → Prop} (h : v = v') (k : as = as') (l : m = m') : CallvW P G v as m R = CallvW P G v' as' m' R := by rw [h, k, l]
theorem CallvW_func (f : FuncId) (a b : List Value) (as : List Value) (m : AMem) (R : AEnd → AMem → Prop) : CallvW P G (.func (.func f) a.toArray b.toArray) as m R = ACall P G f (a ++ as ++ b) m R := by
  simp only [CallvW]
theorem CallvW_yield (l : Nat) (a b : Array Value) (as : List Value) (m : AMem) (R : AEnd → AMem → Prop) : CallvW P G (.func (.yield l) a b) as m R = AYield P G l as m R := rfl
theorem WI_callv (d : Option Nat) (x : AOpd) (as : List AOpd) (r : List AIns) : WI P G (.callv none d x as :: r) Q ⟨t, m, ds⟩ =
    CallvW P G (x.ev t) (as.map (·.ev t)) m (CallK d ⟨t, m, ds⟩ (WI P G r Q) Q) := rfl
theorem WI_callvg (g : Nat × Bool) (d : Option Nat) (x : AOpd) (as : List AOpd) (r : List AIns) : WI P G (.callv (some g) d x as :: r) Q ⟨t, m, ds⟩ =
    GrdW (wanted (some g) t) (CallvW P G (x.ev t) (as.map (·.ev t)) m (CallK d ⟨t, m, ds⟩ (WI P G r Q) Q)) (WI P G r Q ⟨updO t d undef, m, ds⟩) := rfl
theorem DW_callv (d : Option Nat) (x : AOpd) (as : List AOpd) (chk : List AIns) (r : List DItem) : DW P G (.b (.callv none d x as) chk :: r) Q ⟨t, m, ds⟩ =
    CallvW P G (x.ev t) (as.map (·.ev t)) m (CallK d ⟨t, m, ds⟩ (BarK P G chk r Q) (PanAny Q)) := rfl
theorem DW_callvg (g : Nat × Bool) (d : Option Nat) (x : AOpd) (as : List AOpd) (chk : List AIns) (r : List DItem) : DW P G (.b (.callv (some g) d x as) chk :: r) Q ⟨t, m, ds⟩ =
    GrdW (wanted (some g) t) (CallvW P G (x.ev t) (as.map (·.ev t)) m (CallK d ⟨t, m, ds⟩ (BarK P G chk r Q) (PanAny Q))) (BarK P G chk r Q ⟨updO t d undef, m, ds⟩) := rfl
theorem DWA_callv (d : Option Nat) (x : AOpd) (as : List AOpd) (chk : List AIns) (sl : List Nat) (r : List AItem) : DWA P G base (.b (.callv none d x as) chk sl :: r) Q ⟨t, m, ds⟩ =
    CallvW P G (x.ev t) (as.map (·.ev t)) m (CallK d ⟨t, m, ds⟩ (BarA P G base m chk sl r Q) (PanAny Q)) := rfl
theorem DWA_callvg (g : Nat × Bool) (d : Option Nat) (x : AOpd) (as : List AOpd) (chk : List AIns) (sl : List Nat) (r : List AItem) : DWA P G base (.b (.callv (some g) d x as) chk sl :: r) Q ⟨t, m, ds⟩ =
    GrdW (wanted (some g) t) (CallvW P G (x.ev t) (as.map (·.ev t)) m (CallK d ⟨t, m, ds⟩ (BarA P G base m chk sl r Q) (PanAny Q))) (BarA P G base m chk sl r Q ⟨updO t d undef, m, ds⟩) := rfl

@[congr] theorem capW_congr {sz : Nat} {v v' : Value} {m m' : AMem} {K : Value → AMem → Prop} (h : v = v') (k : m = m') : capW sz v m K = capW sz v' m' K := by rw [h, k]
theorem WI_cap (d : Option Nat) (sz : Nat) (x : AOpd) (r : List AIns) : WI P G (.cap none d sz x :: r) Q ⟨t, m, ds⟩ = capW sz (x.ev t) m fun v m' => WI P G r Q ⟨updO t d v, m', ds⟩ := rfl
theorem capW_nil0 (sz : Nat) (m : AMem) (K : Value → AMem → Prop) : capW sz (.slice none 0 0) m K = K (.int .i64 0) m := by
  simp only [capW, eq_iff_iff]
  exact ⟨fun h => h.2, fun h => ⟨Nat.ne_of_lt (openCap_lt (by omega)), h⟩⟩
end
end Go.AM
namespace Go.AM
end Go.AM

open Go Go.AM in
theorem Go.AM.qS : type_of% @cut.eq_1 ∧ type_of% @bnd.eq_1 ∧ type_of% @bnd.eq_2 ∧ type_of% @resVs.eq_1 ∧ type_of% @resVs.eq_2 ∧ type_of% @resV.eq_1 ∧ type_of% @resV.eq_2 ∧ type_of% @resV.eq_3 ∧ type_of% @packV.eq_1 ∧ type_of% @initT.eq_1 ∧ type_of% @addr.eq_1 ∧ packV [] = .tuple #[] ∧ (∀ a b l, packV (a :: b :: l) = .tuple (a :: b :: l).toArray) ∧ addr (.pointer none) = none := ⟨@cut.eq_1, @bnd.eq_1, @bnd.eq_2, @resVs.eq_1, @resVs.eq_2, @resV.eq_1, @resV.eq_2, @resV.eq_3, @packV.eq_1, @initT.eq_1, @addr.eq_1, rfl, fun _ _ _ => rfl, rfl⟩
namespace Go.AM
set_option maxRecDepth 100000
theorem amT : type_of% @W_skip ∧ type_of% @W_seq ∧ type_of% @W_reg ∧ type_of% @W_block ∧ type_of% @W_exit ∧ type_of% @W_ret ∧ type_of% @W_cond ∧ type_of% @W_draw ∧ type_of% @WI_nil ∧ type_of% @WI_op ∧ type_of% @WI_opg ∧ type_of% @WI_call ∧ type_of% @WI_callg ∧ type_of% @DW_call ∧ type_of% @DW_callg ∧ type_of% @OpI_some ∧ type_of% @OpG_some ∧ type_of% @OpG_true ∧ type_of% @OpG_false ∧ type_of% @BoolW_true ∧ type_of% @BoolW_false ∧ type_of% @GrdW_true ∧ type_of% @GrdW_false ∧ type_of% @SeqK_normal ∧ type_of% @SeqK_exit ∧ type_of% @SeqK_ret ∧ type_of% @SeqK_pan ∧ type_of% @BlockK_normal ∧ type_of% @BlockK_exit ∧ type_of% @BlockK_ret ∧ type_of% @BlockK_pan ∧ type_of% @LoopK_exit ∧ type_of% @LoopK_ret ∧ type_of% @LoopK_pan ∧ type_of% @CallK_ret ∧ type_of% @CallK_pan ∧ type_of% @RetK_ret ∧ type_of% @RetK_normal ∧ type_of% @RetK_pan ∧ type_of% @ResW_some ∧ type_of% @DW_nil ∧ type_of% @QD_normal ∧ type_of% @DW_f ∧ type_of% @DW_bop ∧ type_of% @FltW_some ∧ type_of% @FltG_some ∧ type_of% @fstO_some ∧ type_of% @valF_op ∧ type_of% @valF_opg ∧ type_of% @dst_op ∧ type_of% @dst_call ∧ type_of% @BarK_nil ∧ type_of% @OpB_some ∧ type_of% @gv_true ∧ type_of% @gv_false ∧ type_of% @sel2_true ∧ type_of% @sel2_false ∧ type_of% @sel2_and ∧ type_of% @sel2_or ∧ type_of% @beq_true ∧ type_of% @beq_false ∧ type_of% @updO_some ∧ type_of% @updO_none ∧ type_of% @upd_apply ∧ type_of% @sel_true ∧ type_of% @sel_false ∧ type_of% @ev_t ∧ type_of% @ev_c ∧ type_of% @wanted_some ∧ type_of% @List.getD_cons_zero.{0} ∧ type_of% @List.getD_cons_succ.{0} ∧ type_of% @stepOp_mov ∧ type_of% @stepOp_pick' ∧ type_of% @pickV_bool ∧ type_of% @stepOp_new ∧ type_of% @stepOp_box ∧ type_of% @stepOp_ld1 ∧ type_of% @stepOp_ldn ∧ type_of% @stepOp_st ∧ type_of% @stepOp_nchk ∧ type_of% @stepOp_bin ∧ type_of% @stepOp_eql ∧ type_of% @stepOp_un ∧ type_of% @stepOp_cvt ∧ type_of% @stepOp_idc ∧ type_of% @stepOp_slA ∧ type_of% @stepOp_fad ∧ type_of% @stepOp_iadA ∧ type_of% @stepOp_iadV ∧ type_of% @stepOp_ixS ∧ type_of% @stepOp_ext ∧ type_of% @stepOp_lenS ∧ type_of% @stepOp_lenV ∧ type_of% @stepOp_lenN ∧ type_of% @stepOp_toU ∧ type_of% @stepOp_frU ∧ type_of% @binV_add ∧ type_of% @binV_sub ∧ type_of% @binV_mul ∧ type_of% @binV_and ∧ type_of% @binV_or ∧ type_of% @binV_xor ∧ type_of% @binV_andNot ∧ type_of% @binV_eql ∧ type_of% @binV_neq ∧ type_of% @binV_lss ∧ type_of% @binV_leq ∧ type_of% @binV_gtr ∧ type_of% @binV_geq ∧ type_of% @binV_quo ∧ type_of% @binV_rem ∧ type_of% @binV_shl ∧ type_of% @binV_shr ∧ type_of% @binV_seql ∧ type_of% @binV_sneq ∧ type_of% @binV_sadd ∧ type_of% @unV_neg ∧ type_of% @unV_not ∧ type_of% @eqV_bool ∧ type_of% @addr_ptr ∧ type_of% @cellsOf_int ∧ type_of% @cellsOf_bool ∧ type_of% @cellsOf_string ∧ type_of% @cellsOf_ptr ∧ type_of% @cellsOf_slice ∧ type_of% @cellsOf_bytes ∧ type_of% @AMem.size_set ∧ type_of% @ifp.{1} ∧ type_of% @ifn.{1} ∧ type_of% @wrap_i64 ∧ type_of% @wrap_u64 ∧ type_of% @wrap_u8 ∧ type_of% @wrap_i32 ∧ type_of% @Option.map_some.{0, 0} ∧ type_of% @Option.some.injEq.{0} ∧ type_of% @if_true.{1} ∧ type_of% @if_false.{1} ∧ type_of% @eq_self.{1} ∧ type_of% @true_and ∧ type_of% @and_true ∧ type_of% @Bool.true_and ∧ type_of% @Bool.and_true ∧ type_of% @Bool.false_or ∧ type_of% @Bool.or_false ∧ type_of% @Bool.not_true ∧ type_of% @Bool.not_false ∧ type_of% @beq_self_eq_true.{0} ∧ type_of% @Bool.false_and ∧ type_of% @Bool.and_false ∧ type_of% @Bool.true_or ∧ type_of% @Bool.or_true ∧ type_of% @Nat.mul_one ∧ type_of% @Nat.add_zero ∧ type_of% @Nat.zero_add ∧ type_of% @Nat.zero_mul ∧ type_of% @Int.toNat_natCast ∧ type_of% @ne_eq.{1} ∧ type_of% @not_false_eq_true ∧ type_of% @List.map_cons.{0, 0} ∧ type_of% @List.map_nil.{0, 0} ∧ type_of% @decide_true ∧ type_of% @decide_false ∧ type_of% @decide_eq_true_eq ∧ type_of% @W_label ∧ type_of% @W_goto ∧ type_of% @SeqK_goto ∧ type_of% @BlockK_goto ∧ type_of% @LoopK_goto ∧ type_of% @JumpK_normal ∧ type_of% @JumpK_exit ∧ type_of% @JumpK_ret ∧ type_of% @JumpK_pan ∧ type_of% @JumpK_goto ∧ type_of% @mx_reserve ∧ type_of% @deads_1 ∧ type_of% @deads_2 ∧ type_of% @deads_3 ∧ type_of% @deads_4 ∧ type_of% @deads_5 ∧ type_of% @deads_6 ∧ type_of% @deads_7 ∧ type_of% @deads_8 ∧ type_of% @deads_9 ∧ type_of% @deads_10 ∧ type_of% @Option.map_none.{0, 0} ∧ type_of% @slotAt_add ∧ type_of% @slotAt_0 ∧ type_of% @W_drawA ∧ type_of% @DWA_nil ∧ type_of% @FltA_some ∧ type_of% @DWA_f ∧ type_of% @gob_true ∧ type_of% @gob_false ∧ type_of% @DWA_a ∧ type_of% @DWA_ag ∧ type_of% @NewA_true ∧ type_of% @NewA_false ∧ type_of% @allocV_new ∧ type_of% @boxO_some ∧ type_of% @allocV_box ∧ type_of% @rowO_some ∧ type_of% @allocV_bldSl ∧ type_of% @s2bO_some ∧ type_of% @allocV_s2b ∧ type_of% @allocV_mkM ∧ type_of% @mkSlO_some ∧ type_of% @allocV_mkSl ∧ type_of% @BarA_nil ∧ type_of% @BarA_sl ∧ type_of% @BarA_op ∧ type_of% @DWA_bop ∧ type_of% @DWA_bopg ∧ type_of% @DW_bopg ∧ type_of% @DWA_call ∧ type_of% @DWA_callg ∧ type_of% @CallvW_func ∧ type_of% @WI_callv ∧ type_of% @WI_callvg ∧ type_of% @DW_callv ∧ type_of% @DW_callvg ∧ type_of% @DWA_callv ∧ type_of% @DWA_callvg ∧ type_of% @stepOp_mkF ∧ type_of% @List.toList_toArray.{0} ∧ type_of% @WI_cap ∧ type_of% @capW_nil0 ∧ type_of% @stepOp_s2s ∧ type_of% @stepOp_mkSl ∧ type_of% @stepOp_s2b ∧ type_of% @getD_snoc ∧ type_of% @set_snoc ∧ type_of% @AMem.set_set ∧ type_of% @AMem.get_set_self ∧ type_of% @AMem.get_set_ne ∧ type_of% @wrap_u32 ∧ type_of% @stepOp_ixA ∧ type_of% @List.getElem?_toArray.{0} ∧ type_of% @byteOf_one ∧ type_of% @mapM_byteOf ∧ type_of% @List.length_replicate.{0} ∧ type_of% @FltG_true ∧ type_of% @FltG_false ∧ type_of% @Int.cast_ofNat_Int ∧ type_of% @old_mx ∧ type_of% @mx_mx ∧ type_of% @List.append_nil.{0} ∧ type_of% @mx_frame ∧ type_of% @BarK_op ∧ type_of% @mx_push ∧ type_of% @mx_size ∧ type_of% @mx_new ∧ type_of% @mx_new0 ∧ type_of% @mx_set ∧ type_of% @mx_set0 ∧ type_of% @mx_old ∧ type_of% @mx_set_old ∧ type_of% @rd_def ∧ type_of% @wr_def ∧ type_of% @rdO_cells ∧ type_of% @wrO_cells ∧ type_of% @cutL_one ∧ type_of% @cutL_bytes ∧ type_of% @List.cons_append.{0} ∧ type_of% @List.nil_append.{0} ∧ type_of% @List.set_cons_zero.{0} ∧ type_of% @List.set_cons_succ.{0} ∧ type_of% @List.getElem?_cons_zero.{0} ∧ type_of% @List.getElem?_cons_succ.{0} ∧ type_of% @List.length_cons.{0} ∧ type_of% @List.length_nil.{0} ∧ type_of% @List.length_map.{0, 0} ∧ type_of% @List.length_set.{0} ∧ type_of% @List.length_append.{0} ∧ type_of% @List.take_length.{0} ∧ type_of% @List.take_of_length_le.{0} ∧ type_of% @List.drop_zero.{0} ∧ type_of% @arr1_0 ∧ type_of% @arr2_0 ∧ type_of% @arr2_1 ∧ type_of% @arr3_0 ∧ type_of% @arr3_1 ∧ type_of% @arr3_2 ∧ type_of% @arr4_0 ∧ type_of% @arr4_1 ∧ type_of% @arr4_2 ∧ type_of% @arr4_3 ∧ type_of% @strEq_self ∧ type_of% @OrW_true ∧ type_of% @stepOp_slS ∧ type_of% @stepOp_bld ∧ type_of% @fill_nil ∧ type_of% @fill_int ∧ type_of% @fill_bool ∧ type_of% @fill_string ∧ type_of% @fill_ptr ∧ type_of% @fill_slice ∧ type_of% @fill_map ∧ type_of% @fill_nilFunc ∧ type_of% @fill_iface ∧ type_of% @fill_nilIface ∧ type_of% @fill_bytes ∧ type_of% @stepOp_arrAt ∧ type_of% @stepOp_bldSl ∧ type_of% @splice_one ∧ type_of% @splice_all ∧ type_of% @bytes_get ∧ type_of% @mk_size ∧ type_of% @mk_get ∧ type_of% @mk_extract ∧ type_of% @mk_app ∧ type_of% @mk_data ∧ type_of% @srcLen_slice ∧ type_of% @srcLen_string :=
  ⟨@W_skip, @W_seq, @W_reg, @W_block, @W_exit, @W_ret, @W_cond, @W_draw, @WI_nil, @WI_op, @WI_opg, @WI_call, @WI_callg, @DW_call, @DW_callg, @OpI_some, @OpG_some, @OpG_true, @OpG_false, @BoolW_true, @BoolW_false, @GrdW_true, @GrdW_false, @SeqK_normal, @SeqK_exit, @SeqK_ret, @SeqK_pan, @BlockK_normal, @BlockK_exit, @BlockK_ret, @BlockK_pan, @LoopK_exit, @LoopK_ret, @LoopK_pan, @CallK_ret, @CallK_pan, @RetK_ret, @RetK_normal, @RetK_pan, @ResW_some, @DW_nil, @QD_normal, @DW_f, @DW_bop, @FltW_some, @FltG_some, @fstO_some, @valF_op, @valF_opg, @dst_op, @dst_call, @BarK_nil, @OpB_some, @gv_true, @gv_false, @sel2_true, @sel2_false, @sel2_and, @sel2_or, @beq_true, @beq_false, @updO_some, @updO_none, @upd_apply, @sel_true, @sel_false, @ev_t, @ev_c, @wanted_some, @List.getD_cons_zero.{0}, @List.getD_cons_succ.{0}, @stepOp_mov, @stepOp_pick', @pickV_bool, @stepOp_new, @stepOp_box, @stepOp_ld1, @stepOp_ldn, @stepOp_st, @stepOp_nchk, @stepOp_bin, @stepOp_eql, @stepOp_un, @stepOp_cvt, @stepOp_idc, @stepOp_slA, @stepOp_fad, @stepOp_iadA, @stepOp_iadV, @stepOp_ixS, @stepOp_ext, @stepOp_lenS, @stepOp_lenV, @stepOp_lenN, @stepOp_toU, @stepOp_frU, @binV_add, @binV_sub, @binV_mul, @binV_and, @binV_or, @binV_xor, @binV_andNot, @binV_eql, @binV_neq, @binV_lss, @binV_leq, @binV_gtr, @binV_geq, @binV_quo, @binV_rem, @binV_shl, @binV_shr, @binV_seql, @binV_sneq, @binV_sadd, @unV_neg, @unV_not, @eqV_bool, @addr_ptr, @cellsOf_int, @cellsOf_bool, @cellsOf_string, @cellsOf_ptr, @cellsOf_slice, @cellsOf_bytes, @AMem.size_set, @ifp.{1}, @ifn.{1}, @wrap_i64, @wrap_u64, @wrap_u8, @wrap_i32, @Option.map_some.{0, 0}, @Option.some.injEq.{0}, @if_true.{1}, @if_false.{1}, @eq_self.{1}, @true_and, @and_true, @Bool.true_and, @Bool.and_true, @Bool.false_or, @Bool.or_false, @Bool.not_true, @Bool.not_false, @beq_self_eq_true.{0}, @Bool.false_and, @Bool.and_false, @Bool.true_or, @Bool.or_true, @Nat.mul_one, @Nat.add_zero, @Nat.zero_add, @Nat.zero_mul, @Int.toNat_natCast, @ne_eq.{1}, @not_false_eq_true, @List.map_cons.{0, 0}, @List.map_nil.{0, 0}, @decide_true, @decide_false, @decide_eq_true_eq, @W_label, @W_goto, @SeqK_goto, @BlockK_goto, @LoopK_goto, @JumpK_normal, @JumpK_exit, @JumpK_ret, @JumpK_pan, @JumpK_goto, @mx_reserve, @deads_1, @deads_2, @deads_3, @deads_4, @deads_5, @deads_6, @deads_7, @deads_8, @deads_9, @deads_10, @Option.map_none.{0, 0}, @slotAt_add, @slotAt_0, @W_drawA, @DWA_nil, @FltA_some, @DWA_f, @gob_true, @gob_false, @DWA_a, @DWA_ag, @NewA_true, @NewA_false, @allocV_new, @boxO_some, @allocV_box, @rowO_some, @allocV_bldSl, @s2bO_some, @allocV_s2b, @allocV_mkM, @mkSlO_some, @allocV_mkSl, @BarA_nil, @BarA_sl, @BarA_op, @DWA_bop, @DWA_bopg, @DW_bopg, @DWA_call, @DWA_callg, @CallvW_func, @WI_callv, @WI_callvg, @DW_callv, @DW_callvg, @DWA_callv, @DWA_callvg, @stepOp_mkF, @List.toList_toArray.{0}, @WI_cap, @capW_nil0, @stepOp_s2s, @stepOp_mkSl, @stepOp_s2b, @getD_snoc, @set_snoc, @AMem.set_set, @AMem.get_set_self, @AMem.get_set_ne, @wrap_u32, @stepOp_ixA, @List.getElem?_toArray.{0}, @byteOf_one, @mapM_byteOf, @List.length_replicate.{0}, @FltG_true, @FltG_false, @Int.cast_ofNat_Int, @old_mx, @mx_mx, @List.append_nil.{0}, @mx_frame, @BarK_op, @mx_push, @mx_size, @mx_new, @mx_new0, @mx_set, @mx_set0, @mx_old, @mx_set_old, @rd_def, @wr_def, @rdO_cells, @wrO_cells, @cutL_one, @cutL_bytes, @List.cons_append.{0}, @List.nil_append.{0}, @List.set_cons_zero.{0}, @List.set_cons_succ.{0}, @List.getElem?_cons_zero.{0}, @List.getElem?_cons_succ.{0}, @List.length_cons.{0}, @List.length_nil.{0}, @List.length_map.{0, 0}, @List.length_set.{0}, @List.length_append.{0}, @List.take_length.{0}, @List.take_of_length_le.{0}, @List.drop_zero.{0}, @arr1_0, @arr2_0, @arr2_1, @arr3_0, @arr3_1, @arr3_2, @arr4_0, @arr4_1, @arr4_2, @arr4_3, @strEq_self, @OrW_true, @stepOp_slS, @stepOp_bld, @fill_nil, @fill_int, @fill_bool, @fill_string, @fill_ptr, @fill_slice, @fill_map, @fill_nilFunc, @fill_iface, @fill_nilIface, @fill_bytes, @stepOp_arrAt, @stepOp_bldSl, @splice_one, @splice_all, @bytes_get, @mk_size, @mk_get, @mk_extract, @mk_app, @mk_data, @srcLen_slice, @srcLen_string⟩
theorem qU : type_of% @List.length_map.{0,0} ∧ type_of% @List.length_cons.{0} ∧ type_of% @List.length_nil.{0} ∧ type_of% @List.length_set.{0} ∧ type_of% @List.length_append.{0} ∧ type_of% @List.length_replicate.{0} ∧ type_of% @List.length_take.{0} ∧ type_of% @List.length_drop.{0} ∧ type_of% @mk_size ∧ type_of% @AMem.size_set :=
  ⟨@List.length_map.{0,0}, @List.length_cons.{0}, @List.length_nil.{0}, @List.length_set.{0}, @List.length_append.{0}, @List.length_replicate.{0}, @List.length_take.{0}, @List.length_drop.{0}, @mk_size, @AMem.size_set⟩
end Go.AM

open Go.AM in
theorem Go.AM.qT : type_of% amT ∧ type_of% qS := ⟨amT, qS⟩
namespace Go.AM
set_option linter.unusedVariables false

def cutV (len cap : Nat) (lo hi mx : Option Value) : Option (Nat × Nat × Nat) :=
  let f := fun (x : Option Value) (d : Nat) => match x with | none => some (d : Int) | some (.int _ i) => some i | _ => none
  match f mx cap, f hi len, f lo 0 with
  | some m, some h, some l => if 0 ≤ l ∧ l ≤ h ∧ h ≤ m ∧ m ≤ cap then some (l.toNat, h.toNat, m.toNat) else none
  | _, _, _ => none
theorem cut_v (len cap : Nat) (lo hi mx : Option AOpd) (t : Tmps) : cut len cap lo hi mx t = cutV len cap (lo.map (·.ev t)) (hi.map (·.ev t)) (mx.map (·.ev t)) := by
  have hb : ∀ (x : Option AOpd) (d : Nat), bnd x t d = (fun (x : Option Value) (d : Nat) => match x with | none => some (d : Int) | some (.int _ i) => some i | _ => none) (x.map (·.ev t)) d := by
    intro x d
    cases x with
    | none => rfl
    | some x => simp only [bnd, Option.map_some]; split <;> simp_all
  simp only [cut, cutV, hb]
  rfl

def slVv (sz : Nat) (x : Value) (lo hi mx : Option Value) (m : AMem) : Option (Value × AMem) :=
  match x with
  | .slice a l c =>
    if c = openCap then
      match a with
      | some ⟨b, o, none⟩ => match m.get b with
        | .cells x _ _ sp =>
          if sp.size = sz ∧ l ≤ (x.length - o) / sz then
            match cutV l ((x.length - o) / sz) lo hi mx with
            | some (i, h, k) =>
              match mx with
              | none => some (.slice (some ⟨b, o + i * sz, none⟩) (h - i) openCap, m)
              | some _ => if k ≤ 9223372036854775807 then some (.slice (some ⟨b, if k = i then o else o + i * sz, none⟩) (h - i) (k - i), m) else none
            | none => none
          else none
        | _ => none
      | _ => none
    else match cutV l c lo hi mx with
      | some (i, h, k) => match a with
        | none => some (.slice none (h - i) (k - i), m)
        | some ⟨b, o, none⟩ => some (.slice (some ⟨b, if k = i then o else o + i * sz, none⟩) (h - i) (k - i), m)
        | _ => none
      | none => none
  | _ => none
theorem stepOp_slV_v (sz : Nat) (x : AOpd) (lo hi mx : Option AOpd) (t : Tmps) (m : AMem) : stepOp (.slV sz x lo hi mx) t m = slVv sz (x.ev t) (lo.map (·.ev t)) (hi.map (·.ev t)) (mx.map (·.ev t)) m := by
  simp only [stepOp, slVv, cut_v]
  cases mx <;> rfl
def cpyV (sz : Nat) (x y : Value) (m : AMem) : Option (Value × AMem) := match x, srcLen y with
  | .slice a dl _, some n => match srcCells sz (min n dl) y m with
    | some c => if c.length = min n dl * sz ∧ c.all oneCell = true then
        match a with
        | none => if min n dl = 0 then some (.int .i64 0, m) else none
        | some ⟨b, o, none⟩ => if min n dl = 0 then some (.int .i64 0, m) else (wr m b o c).map fun m' => (.int .i64 (min n dl : Nat), m')
        | _ => none
      else none
    | none => none
  | _, _ => none
def appV (e : TypeId) (sz bytes : Nat) (z : List Value) (x y : Value) (m : AMem) : Option (Value × AMem) := match srcLen y with
  | some n => match srcCells sz n y m with
    | some news => if z.length = sz ∧ 0 < sz ∧ news.all oneCell = true ∧ news.length = n * sz then appendTo e sz bytes z x n news m else none
    | none => none
  | none => none
theorem stepOp_app_v (e : TypeId) (sz bytes : Nat) (z : List Value) (x y : AOpd) (t : Tmps) (m : AMem) : stepOp (.app e sz bytes z x y) t m = appV e sz bytes z (x.ev t) (y.ev t) m := (rfl)
def b2sV (x : Value) (m : AMem) : Option (Value × AMem) := match x with
  | .slice none _ _ => some (.string .empty, m)
  | .slice (some ⟨b, o, none⟩) l _ => if l = 0 then some (.string .empty, m) else match rd m b o l with
    | some c => (c.mapM byteOf).map fun l => (.string ⟨l.toArray⟩, m)
    | none => none
  | _ => none
theorem stepOp_b2s_v (x : AOpd) (t : Tmps) (m : AMem) : stepOp (.b2s x) t m = b2sV (x.ev t) m := (rfl)

theorem zeroCap_lt : (0 : Nat) < openCap := openCap_lt (by omega)
theorem cutL_take {X : List Value} {o n k : Nat} {c : List Value} (h : cutL X o n = some c) (hk : k ≤ n) : cutL X o k = some (c.take k) := by
  unfold cutL at h ⊢
  split at h <;> simp at h
  rw [if_pos (by omega), ← h, List.take_take, Nat.min_eq_left hk]
theorem cutL_drop {X : List Value} {o n k : Nat} {c : List Value} (h : cutL X o n = some c) (hk : k ≤ n) : cutL X (o + k) (n - k) = some (c.drop k) := by
  unfold cutL at h ⊢
  split at h <;> simp at h
  rw [if_pos (by omega), ← h, List.drop_take, List.drop_drop]
theorem cutL_le {X : List Value} {o n : Nat} {c : List Value} (h : cutL X o n = some c) : o + n ≤ X.length := by
  unfold cutL at h; split at h <;> simp at h; assumption
theorem cutL_zero {X : List Value} {o : Nat} (h : o ≤ X.length) : cutL X o 0 = some [] := by unfold cutL; rw [if_pos (by omega)]; simp

def BSl (m : AMem) (a : Option Addr) (cap : Nat) (c : List UInt8) : Prop :=
  (a = none ∧ cap = 0 ∧ c = []) ∨ ∃ b o X e w sp, a = some ⟨b, o, none⟩ ∧ b < m.size ∧ m.get b = .cells X e w sp ∧ cutL X o c.length = some (c.map byteV) ∧ (cap = openCap ∧ sp.size = 1 ∨ cap < openCap ∧ c.length ≤ cap)
def Off (a : Option Addr) (b : Nat) : Prop := ∀ x o, a = some ⟨x, o, none⟩ → x ≠ b

theorem BSl.old {m M : AMem} {a : Option Addr} {cap : Nat} {c : List UInt8} (h : BSl m a cap c) (ho : Old m M) : BSl M a cap c := by
  rcases h with h | ⟨b, o, X, e, w, sp, h1, h2, h3, h4⟩
  · exact .inl h
  · exact .inr ⟨b, o, X, e, w, sp, h1, by have := ho.1; omega, by rw [ho.2 b h2]; exact h3, h4⟩
theorem BSl.set {m : AMem} {a : Option Addr} {cap : Nat} {c : List UInt8} (h : BSl m a cap c) {b : Nat} (hb : Off a b) (o : AObj) : BSl (m.set b o) a cap c := by
  rcases h with h | ⟨x, o', X, e, w, sp, h1, h2, h3, h4⟩
  · exact .inl h
  · exact .inr ⟨x, o', X, e, w, sp, h1, by rw [AMem.size_set]; exact h2, by rw [AMem.get_set_ne _ _ (hb x o' h1)]; exact h3, h4⟩
theorem srcCells_b {n l cap b o : Nat} {m : AMem} {X : List Value} {e : TypeId} {w : Bool} {sp : Spare} (h : n ≤ l) (hm : m.get b = .cells X e w sp) : srcCells 1 n (.slice (some ⟨b, o, none⟩) l cap) m = cutL X o n := by
  rw [srcCells_slice h, rd_def, hm, rdO_cells, Nat.mul_one]
theorem BSl.src {m : AMem} {a : Option Addr} {cap : Nat} {c : List UInt8} (h : BSl m a cap c) {n : Nat} (hn : n ≤ c.length) : srcCells 1 n (.slice a c.length cap) m = some ((c.take n).map byteV) := by
  rcases h with ⟨rfl, rfl, rfl⟩ | ⟨b, o, X, e, w, sp, rfl, h2, h3, h4, h5⟩
  · have : n = 0 := by simpa using hn
    subst this; rw [List.length_nil, srcCells_nil]; rfl
  · rw [srcCells_b hn h3, cutL_take h4 hn, List.map_take]
def tailA (a : Option Addr) (cap k : Nat) : Option Addr := match a with
  | some ⟨x, o, n⟩ => if cap = k then some ⟨x, o, n⟩ else some ⟨x, o + k, n⟩
  | none => none
def tailC (cap k : Nat) : Nat := if cap = openCap then openCap else cap - k
theorem Off.tail {a : Option Addr} {b : Nat} (h : Off a b) (cap k : Nat) : Off (tailA a cap k) b := by
  intro x o hx
  match a, h with
  | none, _ => simp [tailA] at hx
  | some ⟨y, p, none⟩, h =>
    simp only [tailA] at hx
    split at hx <;> cases hx <;> exact h _ _ rfl
  | some ⟨y, p, some q⟩, h =>
    simp only [tailA] at hx
    split at hx <;> cases hx
theorem BSl.tail {m : AMem} {a : Option Addr} {cap : Nat} {c : List UInt8} (h : BSl m a cap c) (hcl : c.length < openCap) {k : Nat} (hk : k ≤ c.length) :
    slVv 1 (.slice a c.length cap) (some (.int .i64 (k : Int))) none none m = some (.slice (tailA a cap k) (c.drop k).length (tailC cap k), m) ∧ BSl m (tailA a cap k) (tailC cap k) (c.drop k) := by
  have hc : ∀ len cap : Nat, k ≤ len → len ≤ cap → cutV len cap (some (.int .i64 (k : Int))) none none = some (k, len, cap) := fun len cap h1 h2 => by
    simp only [cutV]; rw [if_pos (by omega)]; simp
  rcases h with ⟨rfl, rfl, rfl⟩ | ⟨x, o, X, e, w, sp, rfl, h2, h3, h4, h5⟩
  · have : k = 0 := by simpa using hk
    subst this
    have h0 : ¬ (0 : Nat) = openCap := Nat.ne_of_lt zeroCap_lt
    refine ⟨?_, .inl ⟨rfl, by simp [tailC, h0], rfl⟩⟩
    simp only [slVv]
    rw [if_neg h0, hc _ _ (by simp) (by simp)]; simp [tailA, tailC, h0]
  · have hle := cutL_le h4
    rcases h5 with ⟨rfl, hs⟩ | ⟨hlt, hle2⟩
    · have hne : ¬ openCap = k := by omega
      refine ⟨?_, .inr ⟨x, o + k, X, e, w, sp, by simp [tailA, hne], h2, h3, ?_, .inl ⟨by simp [tailC], hs⟩⟩⟩
      · simp only [slVv, if_true, h3]
        rw [if_pos ⟨hs, by simp; omega⟩, hc _ _ hk (by simp; omega)]
        simp [tailA, tailC, hne]
      · rw [List.length_drop, cutL_drop h4 hk, List.map_drop]
    · have hne : ¬ cap = openCap := Nat.ne_of_lt hlt
      by_cases hkc : cap = k
      · refine ⟨?_, .inr ⟨x, o, X, e, w, sp, by simp [tailA, hkc], h2, h3, ?_, .inr ⟨by simp only [tailC, if_neg hne]; omega, by simp only [tailC, if_neg hne]; simp; omega⟩⟩⟩
        · simp only [slVv]
          rw [if_neg hne, hc _ _ hk hle2]
          simp [hkc, tailA, tailC]; omega
        · have : c.length = k := by omega
          rw [List.length_drop, this, Nat.sub_self, cutL_zero (by omega)]
          rw [List.drop_of_length_le (by omega)]; rfl
      · refine ⟨?_, .inr ⟨x, o + k, X, e, w, sp, by simp [tailA, hkc], h2, h3, ?_, .inr ⟨by simp only [tailC, if_neg hne]; omega, by simp only [tailC, if_neg hne]; simp; omega⟩⟩⟩
        · simp only [slVv]
          rw [if_neg hne, hc _ _ hk hle2]
          simp [hkc, tailA, tailC, hne]
        · rw [List.length_drop, cutL_drop h4 hk, List.map_drop]
theorem BSl.cpy {m : AMem} {a : Option Addr} {cap : Nat} {c : List UInt8} (h : BSl m a cap c) {b o dl dc : Nat} {X : List Value} {e : TypeId} {sp : Spare} (hm : m.get b = .cells X e true sp) (hk : 0 < min c.length dl) (ho : o + min c.length dl ≤ X.length) :
    cpyV 1 (.slice (some ⟨b, o, none⟩) dl dc) (.slice a c.length cap) m = some (.int .i64 (min c.length dl : Nat), m.set b (.cells (splice X o ((c.take (min c.length dl)).map byteV)) e true sp)) := by
  simp only [cpyV, srcLen_slice]
  rw [h.src (Nat.min_le_left _ _)]
  simp only
  rw [if_pos ⟨by simp, all_bytes _⟩, if_neg (by omega), wr_at hm (by simp; omega)]
  rfl
/-! Maps of strings. -/
def mupV (x k v : Value) (m : AMem) : Option (Value × AMem) := match x, k with
  | .map (some r), .string s => if simpleB v = true then
      match m.get r with
      | .map es c => match Instr.findNow .string (.string s) es.toList 0 with
        | some (some (i, _)) => some (undef, m.set r (.map (es.modify i fun e => { e with key := .string s, val := v }) c))
        | some none => some (undef, m.set r (.map (es.push { key := .string s, val := v, born := c }) (c + 1)))
        | none => none
      | _ => none
    else none
  | _, _ => none
def keyIs (s : List UInt8) (e : MapEntry) : Bool := match e.key with | .string k => k.data.toList == s | _ => false
theorem keyIs_of {e : MapEntry} {k : ByteArray} (h : e.key = .string k) (s : List UInt8) : keyIs s e = (k.data.toList == s) := by simp only [keyIs, h]
def MapAt (m : AMem) (r : Nat) (f : List UInt8 → Option Value) : Prop := r < m.size ∧ ∃ es c, m.get r = .map es c ∧ (∀ e ∈ es.toList, ∃ k : ByteArray, e.key = .string k) ∧ ∀ s : List UInt8, ((es.toList.find? (keyIs s)).map (·.val)) = f s
theorem bytes_beq (k : ByteArray) (s : List UInt8) : ((⟨s.toArray⟩ : ByteArray) == k) = (k.data.toList == s) := by
  rw [ba_beq]
  rw [Bool.eq_iff_iff]
  simp only [beq_iff_eq]
  constructor
  · intro h; rw [← h]
  · intro h; rw [← h]
theorem find_now (s : List UInt8) : ∀ (es : List MapEntry) (j : Nat), (∀ e ∈ es, ∃ k : ByteArray, e.key = .string k) →
    ∃ o, Instr.findNow .string (.string ⟨s.toArray⟩) es j = some o ∧ o.map (·.2) = (es.find? (keyIs s)).map (·.val)
  | [], j, _ => ⟨none, rfl, rfl⟩
  | e :: es, j, h => by
    obtain ⟨k, hk⟩ := h e (by simp)
    simp only [Instr.findNow, hk, Instr.sameNow, bytes_beq]
    cases hb : (k.data.toList == s) with
    | true => exact ⟨some (j, e.val), rfl, by simp [List.find?_cons, keyIs_of hk, hb]⟩
    | false =>
      obtain ⟨o, h1, h2⟩ := find_now s es (j + 1) (fun e he => h e (by simp [he]))
      exact ⟨o, h1, by rw [h2]; simp [List.find?_cons, keyIs_of hk, hb]⟩
theorem find_append (s : List UInt8) (es : List MapEntry) (k : List UInt8) (v : Value) (c : Nat) :
    ((es ++ [({ key := .string ⟨k.toArray⟩, val := v, born := c } : MapEntry)]).find? (keyIs s)).map (·.val) = ((es.find? (keyIs s)).map (·.val)).or (if k = s then some v else none) := by
  rw [List.find?_append]
  cases es.find? (keyIs s) with
  | some e => rfl
  | none => by_cases h : k = s <;> simp [h, List.find?_cons, keyIs]
theorem find_modify {s : List UInt8} {v : Value} : ∀ (es : List MapEntry) (j i : Nat) (u : Value), (∀ e ∈ es, ∃ k : ByteArray, e.key = .string k) → Instr.findNow .string (.string ⟨s.toArray⟩) es j = some (some (i, u)) → ∀ x : List UInt8,
    ((es.modify (i - j) fun e => { e with key := .string ⟨s.toArray⟩, val := v }).find? (keyIs x)).map (·.val) = if x = s then some v else (es.find? (keyIs x)).map (·.val)
  | [], j, i, u, _, hf, x => by simp [Instr.findNow] at hf
  | e :: es, j, i, u, h, hf, x => by
    obtain ⟨k, hk⟩ := h e (by simp)
    simp only [Instr.findNow, hk, Instr.sameNow, bytes_beq] at hf
    cases hb : (k.data.toList == s) with
    | true =>
      rw [hb] at hf
      simp at hf
      obtain ⟨rfl, rfl⟩ := hf
      have hks : k.data.toList = s := by simpa using hb
      rw [Nat.sub_self, List.modify_zero_cons]
      by_cases hx : x = s
      · subst hx; simp [List.find?_cons, keyIs]
      · have hx2 : ¬ s = x := fun e => hx e.symm
        simp [List.find?_cons, keyIs, hx, hk, hks, hx2]
    | false =>
      rw [hb] at hf
      simp only at hf
      have hj : j + 1 ≤ i := by obtain ⟨_, h1, _⟩ := findNow_at _ _ hf; exact h1
      rw [show i - j = (i - (j + 1)) + 1 by omega, List.modify_succ_cons]
      have ih := find_modify (v := v) es (j + 1) i u (fun e he => h e (by simp [he])) hf x
      simp only [List.find?_cons, keyIs_of hk]
      cases hx : (k.data.toList == x) with
      | true =>
        have : ¬ x = s := fun e => by subst e; rw [hb] at hx; cases hx
        simp [this]
      | false => simpa using ih
theorem find_none {s : List UInt8} {es : List MapEntry} {j : Nat} (h : ∀ e ∈ es, ∃ k : ByteArray, e.key = .string k) (hf : Instr.findNow .string (.string ⟨s.toArray⟩) es j = some none) : (es.find? (keyIs s)).map (·.val) = none := by
  obtain ⟨o, h1, h2⟩ := find_now s es j h
  rw [hf] at h1; cases h1
  exact h2.symm
theorem MapAt.put {m : AMem} {r : Nat} {f : List UInt8 → Option Value} (h : MapAt m r f) (s : List UInt8) {v : Value} (hv : simpleB v = true) :
    ∃ o, mupV (.map (some r)) (.string ⟨s.toArray⟩) v m = some (undef, m.set r o) ∧ MapAt (m.set r o) r fun x => if x = s then some v else f x := by
  obtain ⟨h0, es, c, h1, h2, h3⟩ := h
  obtain ⟨o, h4, h5⟩ := find_now s es.toList 0 h2
  cases o with
  | some q =>
    obtain ⟨i, u⟩ := q
    refine ⟨.map (es.modify i fun e => { e with key := .string ⟨s.toArray⟩, val := v }) c, by simp only [mupV, hv, if_true, h1, h4], h0, _, _, AMem.get_set_self _ _ _, ?_, fun x => ?_⟩
    · intro e he
      rw [Array.toList_modify] at he
      obtain ⟨j, hj, rfl⟩ := List.mem_iff_getElem.1 he
      rw [List.getElem_modify]
      split
      · exact ⟨_, rfl⟩
      · exact h2 _ (List.getElem_mem _)
    · have := find_modify es.toList 0 i u (v := v) h2 h4 x
      rw [Nat.sub_zero] at this
      rw [Array.toList_modify, this, h3]
  | none =>
    refine ⟨.map (es.push { key := .string ⟨s.toArray⟩, val := v, born := c }) (c + 1), by simp only [mupV, hv, if_true, h1, h4], h0, _, _, AMem.get_set_self _ _ _, ?_, fun x => ?_⟩
    · intro e he
      rw [Array.toList_push] at he
      rcases List.mem_append.1 he with h | h
      · exact h2 e h
      · rw [List.mem_singleton] at h; subst h; exact ⟨_, rfl⟩
    · rw [Array.toList_push, find_append, h3]
      by_cases hx : x = s
      · subst hx
        have := find_none h2 h4
        rw [h3] at this
        simp [this]
      · have hx2 : ¬ s = x := fun e => hx e.symm
        show (f x).or (if s = x then some v else none) = if x = s then some v else f x
        rw [if_neg hx, if_neg hx2]
        cases f x <;> rfl
theorem MapAt.keep {m m' : AMem} {r : Nat} {f : List UInt8 → Option Value} (h : MapAt m r f) (hs : m.size ≤ m'.size) (hg : m'.get r = m.get r) : MapAt m' r f := by
  obtain ⟨h0, es, c, h1, h2⟩ := h
  exact ⟨Nat.lt_of_lt_of_le h0 hs, es, c, hg.trans h1, h2⟩
theorem MapAt.old {m m' : AMem} {r : Nat} {f : List UInt8 → Option Value} (h : MapAt m r f) (ho : Old m m') : MapAt m' r f := h.keep ho.1 (ho.2 r h.1)
theorem MapAt.new {m : AMem} {r : Nat} (hr : r < m.size) (h : m.get r = .map #[] 0) : MapAt m r fun _ => none := ⟨hr, _, _, h, by simp, by simp⟩
end Go.AM
namespace Go.AM
set_option linter.unusedVariables false

def Buf (m M : AMem) (v : Value) (c : List Value) (e : TypeId) (z : Value) : Prop :=
  (c = [] ∧ v = .slice none 0 0) ∨ ∃ b, m.size ≤ b ∧ b < M.size ∧ v = .slice (some ⟨b, 0, none⟩) c.length openCap ∧ M.get b = .cells c e true (.room [z])
def Fr (v : Value) (M M' : AMem) : Prop := M.size ≤ M'.size ∧ ∀ x, x < M.size → (∀ o l c, v ≠ .slice (some ⟨x, o, none⟩) l c) → M'.get x = M.get x

theorem Buf.nil (m M : AMem) (e : TypeId) (z : Value) : Buf m M (.slice none 0 0) [] e z := .inl ⟨rfl, rfl⟩
theorem Buf.len {m M : AMem} {v : Value} {c : List Value} {e : TypeId} {z : Value} (h : Buf m M v c e z) : ∃ a cap, v = .slice a c.length cap := by
  rcases h with ⟨rfl, rfl⟩ | ⟨b, _, _, rfl, _⟩
  · exact ⟨_, _, rfl⟩
  · exact ⟨_, _, rfl⟩
theorem Old.fr {m M M' : AMem} {v : Value} (h : Old m M) (hf : Fr v M M') (hv : ∀ x o l c, x < m.size → v ≠ .slice (some ⟨x, o, none⟩) l c) : Old m M' :=
  ⟨Nat.le_trans h.1 hf.1, fun b hb => (hf.2 b (Nat.lt_of_lt_of_le hb h.1) fun o l c => hv b o l c hb).trans (h.2 b hb)⟩

theorem Buf.app1 {m M : AMem} {v : Value} {c : List Value} {e e2 : TypeId} {z x : Value} {bytes : Nat} (h : Buf m M v c e z) (hm : m.size ≤ M.size) (ho : oneCell x = true) (hz : eqPL [z] [z] = true)
    (hb : 2 * (c.length + 1) * bytes ≤ 281474976710656) (hn : c.length + 1 ≤ 9223372036854775807) :
    ∃ v' M', appV e 1 bytes [z] v (.slice (some ⟨M.size, 0, none⟩) 1 1) (mx M [.cells [x] e2 true .exact]) = some (v', mx M' []) ∧ Buf m M' v' (c ++ [x]) e z ∧ Fr v M M' := by
  have hs : srcCells 1 1 (.slice (some ⟨M.size, 0, none⟩) 1 1) (mx M [.cells [x] e2 true .exact]) = some [x] := by
    rw [srcCells_b (Nat.le_refl _) (mx_new0 M _)]; rfl
  have hv : appV e 1 bytes [z] v (.slice (some ⟨M.size, 0, none⟩) 1 1) (mx M [.cells [x] e2 true .exact]) = appendTo e 1 bytes [z] v 1 [x] (mx M [.cells [x] e2 true .exact]) := by
    simp only [appV, srcLen_slice, hs]
    rw [if_pos ⟨rfl, by omega, by simp [ho], rfl⟩]
  rw [hv]
  rcases h with ⟨rfl, rfl⟩ | ⟨b, h1, h2, rfl, h4⟩
  · refine ⟨_, mx M [.cells [x] e2 true .exact, .cells [x] e true (.room [z])], ?_, .inr ⟨M.size + 1, by omega, by simp [mx_size], rfl, mx_new M _ 1⟩, by rw [mx_size]; omega, fun y hy _ => mx_old hy⟩
    rw [appendTo_nil (by omega) (by simpa using hb) (by omega), mx_push, mx_mx, mx_size]; rfl
  · refine ⟨.slice (some ⟨M.size + 1, 0, none⟩) (c ++ [x]).length openCap, mx (M.set b .dead) [.cells [x] e2 true .exact, .cells (c ++ [x]) e true (.room [z])], ?_, .inr ⟨M.size + 1, by omega, by simp only [mx_size, AMem.size_set, List.length_cons, List.length_nil]; omega, rfl, mx_new (M.set b .dead) _ 1⟩, by simp only [mx_size, AMem.size_set, List.length_cons, List.length_nil]; omega, fun y hy hne => ?_⟩
    · rw [appendTo_open (sz := 1) (z' := [z]) ((mx_old h2).trans h4) hz rfl (by omega) (show c.length = c.length * 1 by omega) (by omega) hb hn, mx_set_old h2, mx_push, mx_mx, mx_size, List.length_append]; rfl
    · have : y ≠ b := fun e => hne 0 c.length openCap (by rw [e])
      rw [mx_old (by rw [AMem.size_set]; exact hy), AMem.get_set_ne _ _ this]
theorem Buf.new {m M : AMem} {v : Value} {c : List Value} {e : TypeId} {z : Value} (h : Buf m M v c e z) : ∀ x o l k, x < m.size → v ≠ .slice (some ⟨x, o, none⟩) l k := by
  intro x o l k hx hv
  rcases h with ⟨rfl, rfl⟩ | ⟨b, h1, h2, rfl, h4⟩
  · cases hv
  · cases hv; omega
theorem BSl.off {m : AMem} {a : Option Addr} {cap : Nat} {c : List UInt8} (h : BSl m a cap c) {b : Nat} (hb : m.size ≤ b) : Off a b := by
  intro x o hx
  rcases h with ⟨rfl, _⟩ | ⟨y, p, X, e, w, sp, rfl, h2, _⟩
  · cases hx
  · cases hx; omega
theorem Buf.blk {m M : AMem} {a : Option Addr} {n cap : Nat} {c : List Value} {e : TypeId} {z : Value} (h : Buf m M (.slice a n cap) c e z) (hc : c ≠ []) : ∃ b, m.size ≤ b ∧ b < M.size ∧ a = some ⟨b, 0, none⟩ ∧ n = c.length ∧ cap = openCap ∧ M.get b = .cells c e true (.room [z]) := by
  rcases h with ⟨h, _⟩ | ⟨b, h1, h2, h3, h4⟩
  · exact absurd h hc
  · cases h3; exact ⟨b, h1, h2, rfl, rfl, rfl, h4⟩

theorem BSl.str {m : AMem} {a : Option Addr} {cap : Nat} {c : List UInt8} (h : BSl m a cap c) : b2sV (.slice a c.length cap) m = some (.string ⟨c.toArray⟩, m) := by
  rcases h with ⟨rfl, rfl, rfl⟩ | ⟨b, o, X, e, w, sp, rfl, h2, h3, h4, h5⟩
  · rfl
  · simp only [b2sV]
    by_cases h0 : c.length = 0
    · rw [if_pos h0, List.eq_nil_of_length_eq_zero h0]; rfl
    · rw [if_neg h0, rd_def, h3, rdO_cells, h4]; simp only [mapM_byteOf]; rfl
theorem BSl.get {m : AMem} {a : Option Addr} {cap : Nat} {c : List UInt8} (h : BSl m a cap c) {i : Nat} (hi : i < c.length) : ∃ b o, a = some ⟨b, o, none⟩ ∧ rd m b (o + i) 1 = some [byteV c[i]] := by
  rcases h with ⟨rfl, rfl, rfl⟩ | ⟨b, o, X, e, w, sp, rfl, h2, h3, h4, h5⟩
  · simp at hi
  · refine ⟨b, o, rfl, ?_⟩
    rw [rd_def, h3, rdO_cells]
    have := cutL_take (cutL_drop h4 (Nat.le_of_lt hi)) (k := 1) (by omega)
    rw [this, ← List.map_drop, ← List.map_take, List.drop_eq_getElem_cons hi]; rfl
theorem Buf.bsl {m M : AMem} {a : Option Addr} {n cap : Nat} {c : List UInt8} {e : TypeId} {z : Value} (h : Buf m M (.slice a n cap) (c.map byteV) e z) : n = c.length ∧ BSl M a cap c := by
  rcases h with ⟨h, h2⟩ | ⟨b, h1, h2, h3, h4⟩
  · cases h2
    obtain rfl : c = [] := by simpa using h
    exact ⟨rfl, .inl ⟨rfl, rfl, rfl⟩⟩
  · rw [List.length_map] at h3
    cases h3
    exact ⟨rfl, .inr ⟨b, 0, _, _, _, _, rfl, h2, h4, by rw [← List.length_map (f := byteV)]; exact cutL_all rfl, .inl ⟨rfl, rfl⟩⟩⟩
def BSS (m : AMem) (a : Option Addr) (ls : List (List UInt8)) : Prop :=
  (a = none ∧ ls = []) ∨ ∃ b o X e w sp, a = some ⟨b, o, none⟩ ∧ b < m.size ∧ m.get b = .cells X e w sp ∧ ∀ i (h : i < ls.length), ∃ a' cap', X[o + i]? = some (.slice a' ls[i].length cap') ∧ BSl m a' cap' ls[i]
theorem BSS.old {m M : AMem} {a : Option Addr} {ls : List (List UInt8)} (h : BSS m a ls) (ho : Old m M) : BSS M a ls := by
  rcases h with h | ⟨b, o, X, e, w, sp, h1, h2, h3, h4⟩
  · exact .inl h
  · refine .inr ⟨b, o, X, e, w, sp, h1, Nat.lt_of_lt_of_le h2 ho.1, by rw [ho.2 b h2]; exact h3, fun i hi => ?_⟩
    obtain ⟨a', cap', h5, h6⟩ := h4 i hi
    exact ⟨a', cap', h5, h6.old ho⟩
theorem BSS.get {m : AMem} {a : Option Addr} {ls : List (List UInt8)} (h : BSS m a ls) {i : Nat} (hi : i < ls.length) :
    ∃ b o a' cap', a = some ⟨b, o, none⟩ ∧ b < m.size ∧ rd m b (o + i) 1 = some [.slice a' ls[i].length cap'] ∧ BSl m a' cap' ls[i] := by
  rcases h with ⟨_, rfl⟩ | ⟨b, o, X, e, w, sp, h1, h2, h3, h4⟩
  · simp at hi
  · obtain ⟨a', cap', h5, h6⟩ := h4 i hi
    exact ⟨b, o, a', cap', h1, h2, by rw [rd_def, h3, rdO_cells, cutL_one, h5]; rfl, h6⟩
end Go.AM
namespace Go.AM
set_option linter.unusedVariables false

def ACode.hd : ACode → ACode
  | .seq a _ => a
  | _ => .skip
section
variable {P : Program} {G : Nat}

def RelC (P : Program) (G : Nat) (f : FuncId) (args : List Value) (m : AMem) (R : Value → AMem → Prop) : Prop :=
  ACall P G f args m fun r m' => ∃ v, r = .ret v ∧ R v m'

theorem RelC.mono {f : FuncId} {args : List Value} {m : AMem} {R R' : Value → AMem → Prop} (h : RelC P G f args m R) (k : ∀ v m', R v m' → R' v m') : RelC P G f args m R' :=
  ACall.mono h fun r m' ⟨v, h1, h2⟩ => ⟨v, h1, k v m' h2⟩

theorem mx_nil_get (m : AMem) {b : Nat} (h : b < m.size) : (mx m []).get b = m.get b := mx_old h
theorem mx_nil_size (m : AMem) : (mx m []).size = m.size := by rw [mx_size]; rfl

theorem Rep.agree {m m2 : AMem} {ρ : Ren} {w : World} (hR : Rep G m ρ w) (hs : m2.size = m.size) (hg : ∀ b, b < m.size → m2.get b = m.get b) : Rep G m2 ρ w := by
  have e : ∀ {b L}, ρ b = some L → m2.get b = m.get b := fun {b L} h => hg b (hR.dom b L h)
  refine ⟨fun b L h => by rw [hs]; exact hR.dom b L h, fun b L h => by rw [e h]; exact hR.obj b L h, fun b b' L L' h1 h2 hne k1 k2 k3 => ?_, hR.glob⟩
  rw [e h1] at k1 k3; rw [e h2] at k2
  exact hR.sep b b' L L' h1 h2 hne k1 k2 k3
theorem Ext.agree {m m2 m0 : AMem} {ρ ρ0 : Ren} {w w0 : World} (hE : Ext m0 ρ0 w0 m ρ w) (hR : Rep G m ρ w) (hs : m2.size = m.size) (hg : ∀ b, b < m.size → m2.get b = m.get b) : Ext m0 ρ0 w0 m2 ρ w := by
  refine ⟨hE.ren, hE.os, hE.tape, hE.output, hE.size, hE.keep, fun i hi ⟨b, L, h1, h2, h3⟩ => hE.img i hi ⟨b, L, h1, ?_, h3⟩, hE.late, by rw [hs]; exact hE.grow⟩
  rw [hg b (hR.dom b L h1)] at h2; exact h2

theorem ACall.norm {f : FuncId} {args : List Value} {m : AMem} {Q : AEnd → AMem → Prop} (h : ACall P G f args m Q) : ACall P G f args m fun r m' => ∃ M, m' = mx M [] ∧ Q r M := by
  intro ρ w args' hR hA
  have main : ∀ {e w'}, (∃ ρ' m' r, Q r m' ∧ EndRel ρ' r e ∧ Rep G m' ρ' w' ∧ Ext m ρ w m' ρ' w') → ∃ ρ' m' r, (∃ M, m' = mx M [] ∧ Q r M) ∧ EndRel ρ' r e ∧ Rep G m' ρ' w' ∧ Ext m ρ w m' ρ' w' := by
    rintro e w' ⟨ρ', m', r, h1, h2, h3, h4⟩
    exact ⟨ρ', mx m' [], r, ⟨m', rfl, h1⟩, h2, h3.agree (mx_nil_size m') (fun b hb => mx_nil_get m' hb), h4.agree h3 (mx_nil_size m') (fun b hb => mx_nil_get m' hb)⟩
  have := h ρ w args' hR hA
  split at this
  · exact this.mono fun e w' h => main h
  · exact main this
  · exact this

theorem RelC.call {f : FuncId} {args : List Value} {m : AMem} {R : Value → AMem → Prop} (h : RelC P G f args m R) {d : Option Nat} {t : Tmps} {ds : List Deferred} {K : ASt → Prop} {Q : AExit → ASt → Prop}
    (hK : ∀ v M, R v M → K ⟨updO t d v, mx M [], ds⟩) : ACall P G f args m (CallK d ⟨t, m, ds⟩ K Q) := by
  refine ACall.mono (ACall.norm h) ?_
  rintro r m' ⟨M, rfl, v, rfl, hR⟩
  exact hK v M hR

theorem RelC.at {f : FuncId} {args : List Value} {m : AMem} {R : Value → AMem → Prop} (h : RelC P G f args m R) : RelC P G f args (mx m []) R :=
  ACall.eqv (mx_nil_size m).symm (fun b hb => (mx_nil_get m (by rwa [mx_nil_size] at hb)).symm) h

theorem DetC.start {f : FuncId} {args : List Value} {m m2 : AMem} {v : Value} (h : DetC P G f args m v m2) : DetC P G f args (mx m []) v m2 :=
  ACall.eqv (mx_nil_size m).symm (fun b hb => (mx_nil_get m (by rwa [mx_nil_size] at hb)).symm) h

theorem rel_of_W {f : FuncId} {fn : Func} {A : AFun} (hf : P.funcs[f]? = some fn) (hn : (fn.name == "runtime.NumGoroutine") = false) (hA : compFun P G fn = some A) {args : List Value} (hlen : args.length ≤ A.n) {m : AMem} {R : Value → AMem → Prop}
    (h : W P G A.code (RetK A.res fun r m' => ∃ v, r = .ret v ∧ (m.size ≤ m'.size → R v m')) ⟨initT args, mx m [], []⟩) : RelC P G f args m R := by
  refine ACall.mono (ACall.grow (ACall.eqv (m1 := mx m []) (mx_nil_size m) (fun b hb => mx_old hb) (ACall_of_W hf hn hA hlen h))) ?_
  rintro r m' ⟨⟨v, rfl, h1⟩, h2⟩
  exact ⟨v, rfl, h1 h2⟩

theorem det_exact {f : FuncId} {fn : Func} {A : AFun} (hf : P.funcs[f]? = some fn) (hn : (fn.name == "runtime.NumGoroutine") = false) (hA : compFun P G fn = some A) {args : List Value} (hlen : args.length ≤ A.n) {m : AMem} {v : Value} {m2 : AMem}
    (h : W P G A.code (RetK A.res fun r m' => r = .ret v ∧ m' = m2) ⟨initT args, mx m [], []⟩) : DetC P G f args m v m2 :=
  ACall.eqv (m1 := mx m []) (mx_nil_size m) (fun b hb => mx_old hb) (ACall_of_W hf hn hA hlen h)

theorem DetC.rel {f : FuncId} {args : List Value} {m : AMem} {v : Value} {m2 : AMem} (h : DetC P G f args m v m2) : RelC P G f args m fun v' m' => v' = v ∧ m' = m2 :=
  ACall.mono h fun r m' ⟨h1, h2⟩ => ⟨v, h1, rfl, h2⟩
end

theorem mnx_max (k : IntKind) (a b : Int) : mnxs true (.int k a) [.int k b] = some (.int k (max a b)) := by
  simp only [mnxs, if_true]
  have : (if b > a then b else a) = max a b := by omega
  rw [this]
theorem mnx_min (k : IntKind) (a b : Int) : mnxs false (.int k a) [.int k b] = some (.int k (min a b)) := by
  simp [mnxs]
  by_cases h : b < a
  · simp [h]; omega
  · simp [h]; omega
/-! ### What may change -/
def Keep (O : Nat → Prop) (m m' : AMem) : Prop := m.size ≤ m'.size ∧ ∀ x, x < m.size → ¬ O x → m'.get x = m.get x

theorem Keep.refl (O : Nat → Prop) (m : AMem) : Keep O m m := ⟨Nat.le_refl _, fun _ _ _ => rfl⟩
theorem Old.keep {m m' : AMem} (h : Old m m') (O : Nat → Prop) : Keep O m m' := ⟨h.1, fun x hx _ => h.2 x hx⟩
theorem Keep.old {m m' : AMem} (h : Keep (fun _ => False) m m') : Old m m' := ⟨h.1, fun x hx => h.2 x hx id⟩
theorem Keep.trans {O O1 : Nat → Prop} {m m1 m2 : AMem} (h : Keep O m m1) (k : Keep O1 m1 m2) (ho : ∀ x, x < m.size → O1 x → O x) : Keep O m m2 :=
  ⟨Nat.le_trans h.1 k.1, fun x hx hn => (k.2 x (Nat.lt_of_lt_of_le hx h.1) fun hc => hn (ho x hx hc)).trans (h.2 x hx hn)⟩
theorem Keep.set {O : Nat → Prop} {m m' : AMem} (h : Keep O m m') {b : Nat} (hb : b < m.size → O b) (o : AObj) : Keep O m (m'.set b o) :=
  ⟨h.1, fun x hx hn => by
    have : x ≠ b := fun e => hn (e ▸ hb (e ▸ hx))
    rw [AMem.get_set_ne _ _ this]; exact h.2 x hx hn⟩
theorem Keep.mx {O : Nat → Prop} {m m' : AMem} (h : Keep O m m') (l : List AObj) : Keep O m (mx m' l) := ⟨by rw [mx_size]; have := h.1; omega, fun x hx hn => by rw [mx_old (Nat.lt_of_lt_of_le hx h.1)]; exact h.2 x hx hn⟩
class Ex where
  x : Nat

def ByV [Ex] (e : TypeId) (m : AMem) (v : Value) (c : List UInt8) : Prop :=
  (c = [] ∧ v = .slice none 0 0) ∨ ∃ b o cap X w sp, v = .slice (some ⟨b, o, none⟩) c.length cap ∧ b < m.size ∧ m.get b = .cells X e w sp ∧ cutL X o c.length = some (c.map byteV) ∧ (cap = openCap ∧ sp.size = 1 ∨ cap < openCap ∧ c.length ≤ cap) ∧ b ≠ Ex.x

theorem ByV.nil [Ex] (e : TypeId) (m : AMem) : ByV e m (.slice none 0 0) [] := .inl ⟨rfl, rfl⟩
theorem ByV.bsl [Ex] {e : TypeId} {m : AMem} {v : Value} {c : List UInt8} (h : ByV e m v c) : ∃ a cap, v = .slice a c.length cap ∧ BSl m a cap c := by
  rcases h with ⟨rfl, rfl⟩ | ⟨b, o, cap, X, w, sp, rfl, h1, h2, h3, h4, -⟩
  · exact ⟨none, 0, rfl, .inl ⟨rfl, rfl, rfl⟩⟩
  · exact ⟨_, _, rfl, .inr ⟨b, o, X, e, w, sp, rfl, h1, h2, h3, h4⟩⟩
theorem ByV.keep [Ex] {e : TypeId} {m m' : AMem} {v : Value} {c : List UInt8} (h : ByV e m v c) {O : Nat → Prop} (hk : Keep O m m') (ho : ∀ x X w sp, m.get x = .cells X e w sp → ¬ O x) : ByV e m' v c := by
  rcases h with h | ⟨b, o, cap, X, w, sp, h0, h1, h2, h3, h4⟩
  · exact .inl h
  · exact .inr ⟨b, o, cap, X, w, sp, h0, Nat.lt_of_lt_of_le h1 hk.1, by rw [hk.2 b h1 (ho b X w sp h2)]; exact h2, h3, h4⟩
theorem ByV.old [Ex] {e : TypeId} {m m' : AMem} {v : Value} {c : List UInt8} (h : ByV e m v c) (hk : Old m m') : ByV e m' v c := h.keep (hk.keep fun _ => False) fun _ _ _ _ _ h => h
theorem ByV.len [Ex] {e : TypeId} {m : AMem} {v : Value} {c : List UInt8} (h : ByV e m v c) : ∃ a cap, v = .slice a c.length cap := by
  obtain ⟨a, cap, h, _⟩ := h.bsl; exact ⟨a, cap, h⟩
theorem ByV.whole [Ex] {e : TypeId} {m : AMem} {b : Nat} {c : List UInt8} {w : Bool} (hx : b ≠ Ex.x) (hb : b < m.size) (h : m.get b = .cells (c.map byteV) e w (.room [.int .u8 0])) : ByV e m (.slice (some ⟨b, 0, none⟩) c.length openCap) c :=
  .inr ⟨b, 0, openCap, _, w, _, rfl, hb, h, by rw [← List.length_map (f := byteV)]; exact cutL_all rfl, .inl ⟨rfl, rfl⟩, hx⟩
end Go.AM
namespace Go.AM
set_option linter.unusedVariables false

abbrev ltB (a b : List UInt8) : Bool := Op.bytesLess a b
theorem ltB_nil (a : List UInt8) : ltB a [] = false := by cases a <;> rfl
theorem ltB_cons (a b : UInt8) (x y : List UInt8) : ltB (a :: x) (b :: y) = (decide (a < b) || (a == b && ltB x y)) := rfl
theorem ltB_irrefl : ∀ a : List UInt8, ltB a a = false
  | [] => rfl
  | a :: x => by
    rw [ltB_cons, ltB_irrefl x]
    have : ¬ a < a := by rw [UInt8.lt_iff_toNat_lt]; omega
    simp [this]
theorem ltB_trans : ∀ {a b c : List UInt8}, ltB a b = true → ltB b c = true → ltB a c = true
  | _, [], _, h, _ => by rw [ltB_nil] at h; cases h
  | _, _ :: _, [], _, h => by rw [ltB_nil] at h; cases h
  | [], _ :: _, _ :: _, _, _ => rfl
  | a :: x, b :: y, c :: z, h, k => by
    rw [ltB_cons] at h k ⊢
    simp only [Bool.or_eq_true, decide_eq_true_eq, Bool.and_eq_true, beq_iff_eq] at h k ⊢
    rw [UInt8.lt_iff_toNat_lt] at h k ⊢
    rcases h with h | ⟨rfl, h⟩
    · rcases k with k | ⟨rfl, k⟩
      · left; omega
      · left; exact h
    · rcases k with k | ⟨rfl, k⟩
      · left; exact k
      · right; exact ⟨rfl, ltB_trans h k⟩
theorem ltB_tri : ∀ (a b : List UInt8), ltB a b = true ∨ a = b ∨ ltB b a = true
  | [], [] => .inr (.inl rfl)
  | [], _ :: _ => .inl rfl
  | _ :: _, [] => .inr (.inr rfl)
  | a :: x, b :: y => by
    rw [ltB_cons, ltB_cons]
    simp only [Bool.or_eq_true, decide_eq_true_eq, Bool.and_eq_true, beq_iff_eq, List.cons.injEq]
    rw [UInt8.lt_iff_toNat_lt, UInt8.lt_iff_toNat_lt]
    rcases Nat.lt_trichotomy a.toNat b.toNat with h | h | h
    · exact .inl (.inl h)
    · have e : a = b := UInt8.toNat_inj.1 h
      rcases ltB_tri x y with k | k | k
      · exact .inl (.inr ⟨e, k⟩)
      · exact .inr (.inl ⟨e, k⟩)
      · exact .inr (.inr (.inr ⟨e.symm, k⟩))
    · exact .inr (.inr (.inl h))
theorem ltB_asymm {a b : List UInt8} (h : ltB a b = true) : ltB b a = false := by
  cases hb : ltB b a with
  | false => rfl
  | true => have := ltB_trans h hb; rw [ltB_irrefl] at this; cases this
theorem ltB_ne {a b : List UInt8} (h : ltB a b = true) : a ≠ b := fun e => by subst e; rw [ltB_irrefl] at h; cases h

def cmpB (a b : List UInt8) : Int := if ltB a b then -1 else if a = b then 0 else 1
theorem cmpB_lt (a b : List UInt8) : (cmpB a b < 0) = (ltB a b = true) := by
  unfold cmpB; split
  · simp_all
  · split <;> simp_all
theorem cmpB_eq (a b : List UInt8) : (cmpB a b = 0) = (a = b) := by
  unfold cmpB; split
  · rename_i h; have := ltB_ne h; simp [this]
  · split <;> simp_all
theorem cmpB_cons (a b : UInt8) (x y : List UInt8) : cmpB (a :: x) (b :: y) = if a = b then cmpB x y else if a < b then -1 else 1 := by
  unfold cmpB
  rw [ltB_cons]
  by_cases e : a = b
  · subst e
    have : ¬ a < a := by rw [UInt8.lt_iff_toNat_lt]; omega
    simp [this]
  · simp [e]
def cmpL (a b : List UInt8) : Int :=
  match (List.range (min a.length b.length)).find? fun i => a[i]?.getD default != b[i]?.getD default with
  | some i => if a[i]?.getD default < b[i]?.getD default then -1 else 1
  | none => if a.length < b.length then -1 else if a.length > b.length then 1 else 0
theorem find_range_succ (p : Nat → Bool) (n : Nat) : (List.range (n + 1)).find? p = if p 0 then some 0 else ((List.range n).find? fun i => p (i + 1)).map (· + 1) := by
  rw [List.range_succ_eq_map, List.find?_cons]
  cases p 0 with
  | true => rfl
  | false =>
    simp only [Bool.false_eq_true, if_false]
    rw [List.find?_map]; rfl
theorem cmpL_eq : ∀ (a b : List UInt8), cmpL a b = cmpB a b
  | [], [] => rfl
  | [], b :: y => rfl
  | a :: x, [] => rfl
  | a :: x, b :: y => by
    rw [cmpB_cons, ← cmpL_eq x y]
    unfold cmpL
    rw [show min (a :: x).length (b :: y).length = min x.length y.length + 1 by simp only [List.length_cons]; omega, find_range_succ]
    simp only [List.getElem?_cons_zero, Option.getD_some, List.getElem?_cons_succ, List.length_cons]
    by_cases e : a = b
    · subst e
      simp only [bne_self_eq_false, Bool.false_eq_true, if_false, if_true]
      cases (List.range (min x.length y.length)).find? fun i => x[i]?.getD default != y[i]?.getD default with
      | none => simp
      | some i => simp
    · simp [e]
theorem cmp_mk (a b : List UInt8) : Extern.BytealgCompare.cmp ⟨a.toArray⟩ ⟨b.toArray⟩ = cmpB a b := by
  have hg : ∀ (l : List UInt8) (i : Nat), (⟨l.toArray⟩ : ByteArray)[i]! = l[i]?.getD default := fun l i => by
    by_cases h : i < l.length
    · have hs : i < (⟨l.toArray⟩ : ByteArray).size := by rw [mk_size]; exact h
      rw [getElem!_pos (⟨l.toArray⟩ : ByteArray) i hs]
      simp [h]; rfl
    · have hs : ¬ i < (⟨l.toArray⟩ : ByteArray).size := by rw [mk_size]; exact h
      rw [getElem!_neg (⟨l.toArray⟩ : ByteArray) i hs]
      simp [h]
  rw [← cmpL_eq]
  simp only [Extern.BytealgCompare.cmp, cmpL, mk_size, hg]
  rfl
theorem strLt_mk (a b : List UInt8) : strLt ⟨a.toArray⟩ ⟨b.toArray⟩ = ltB a b := by
  have h : ∀ l : List UInt8, (⟨l.toArray⟩ : ByteArray).toList = l := fun l => by simp
  simp only [strLt, h]
theorem binV_slss (x y : ByteArray) : binV .lss (.string x) (.string y) = some (.bool (strLt x y)) := by simp [binV, sbin]
theorem binV_sgtr (x y : ByteArray) : binV .gtr (.string x) (.string y) = some (.bool (!(strLt x y || strEq x y))) := by simp [binV, sbin]
theorem binV_sleq (x y : ByteArray) : binV .leq (.string x) (.string y) = some (.bool (strLt x y || strEq x y)) := by simp [binV, sbin]
end Go.AM
namespace Go.AM
set_option linter.unusedVariables false
set_option linter.unusedSimpArgs false
section
variable {P : Program} {G : Nat}

def takeD : List Deferred → AMem → Option AMem
  | [], m => some m
  | d :: r, m => match d.target with
    | .collected b => match m.get b with | .defd => takeD r (m.set b .dead) | _ => none
    | _ => none
def RetKD (res : List ARes) (Q : AEnd → AMem → Prop) : AExit → ASt → Prop
  | .normal, s | .ret, s => ∃ m', takeD s.ds s.m = some m' ∧ match resVs res s.t m' with | some l => Q (.ret (packV l)) m' | none => False
  | .pan c, s => ∃ m', takeD s.ds s.m = some m' ∧ Q (.pan c) m'
  | _, _ => False

theorem leaves_takeD {fn : Func} {tmps : Array Value} {R : Ending → World → Prop} {u : FrameMode} (hu : u ≠ .run) {m0 : AMem} {ρ0 : Ren} {w0 : World} {m' : AMem} {ρ : Ren}
    (hfin : ∀ w, Rep G m' ρ w → Ext m0 ρ0 w0 m' ρ w → LeavesIn Fence.wide 0 P fn tmps R [] u w) : ∀ (ds ds' : List Deferred) (m : AMem) (w : World), DsRel ρ ds ds' → Rep G m ρ w → Ext m0 ρ0 w0 m ρ w →
    takeD ds m = some m' → LeavesInM Fence.wide 0 P fn tmps R ds' u w
  | [], [], m, w, hd, hR, hE, h => by cases h; exact hfin w hR hE
  | [], d :: ds', m, w, hd, hR, hE, h => by have := hd.1; simp at this
  | d :: ds, [], m, w, hd, hR, hE, h => by have := hd.1; simp at this
  | d :: ds, d' :: ds', m, w, hd, hR, hE, h => by
    refine ⟨hu, .inl ?_⟩
    unfold takeD at h
    split at h <;> try (cases h; done)
    rename_i b hb
    split at h <;> try (cases h; done)
    rename_i hm
    have h0 := hd.2 0 (by simp) (by simp)
    simp only [List.getElem_cons_zero] at h0
    rcases h0 with ⟨_, f, c, c', e, _⟩ | ⟨b', L, e1, e2, e3⟩
    · rw [hb] at e; cases e
    · rw [hb] at e1; cases e1
      have hO := hR.obj _ _ e3
      rw [hm] at hO
      obtain ⟨hR2, hE2⟩ := putObj_rep hR e3 (o := .dead) (ob := .deferred none) (by rw [hm]; rfl) (by rw [hm]; rfl) (fun h => by cases h) trivial
      refine ⟨L.cb, _, e2, run_takeDeferred hO.1, ?_⟩
      exact leaves_takeD hu hfin ds ds' _ _ ⟨by have := hd.1; simpa using this, fun i h1 h2 => by have := hd.2 (i + 1) (by simpa using h1) (by simpa using h2); simpa using this⟩ hR2 (hE.trans hE2) h

theorem ACall_of_WD {f : FuncId} {fn : Func} {A : AFun} (hf : P.funcs[f]? = some fn) (hn : (fn.name == "runtime.NumGoroutine") = false) (hA : compFun P G fn = some A) {args : List Value} (hlen : args.length ≤ A.n) {m : AMem}
    {Q : AEnd → AMem → Prop} (h : W P G A.code (RetKD A.res Q) { t := initT args, m := m, ds := [] }) : ACall P G f args m Q := by
  intro ρ w args' hR hL
  unfold compFun at hA
  split at hA <;> try (simp at hA; done)
  rename_i c hbody
  split at hA <;> simp at hA
  rename_i ac res hac hres
  subst hA
  have hn' : ¬ fn.name = "runtime.NumGoroutine" := by simpa using hn
  have hrun : (callFunc f args').run P w = .ok (.enter f args') w := by simp [callFunc, hf, hn', hbody]
  rw [hrun]
  simp only
  refine calls_of_wpV hf hbody ?_
  have hS := init_rel (fn := fn) (m := m) hL hlen
  refine wpV_mono (W_ok c ac hac _ m ρ w _ _ ρ w hR hS (Ext.refl _ _ _) h) fun e a' w' hh => ?_
  obtain ⟨ρ', s', e', h1, h2, h3, h4, h5⟩ := hh
  have fin : ∀ m', takeD s'.ds s'.m = some m' → (match resVs res s'.t m' with | some l => Q (.ret (packV l)) m' | none => False) →
      LeavesInM Fence.wide 0 P fn a'.tmps (fun e w' => ∃ ρ' m' r, Q r m' ∧ EndRel ρ' r e ∧ Rep G m' ρ' w' ∧ Ext m ρ w m' ρ' w') a'.defers .returning w' := fun m' k1 k2 => by
    refine leaves_takeD (ρ := ρ') (fun h => by cases h) (fun w3 hR3 hE3 => ?_) _ _ _ _ h3.ds h4 h5 k1
    split at k2
    · rename_i l hl
      obtain ⟨v', q1, q2⟩ := results_run (s := ⟨s'.t, m', []⟩) (a := ⟨a'.tmps, []⟩) hres hR3 ⟨h3.size, h3.tmps, DsRel.nil _⟩ hl
      exact ⟨v', q2, ρ', m', _, k2, .ret q1, hR3, hE3⟩
    · exact k2.elim
  cases h2 with
  | normal => obtain ⟨m', k1, k2⟩ := h1; exact fin m' k1 k2
  | exit id => exact h1.elim
  | goto l => exact h1.elim
  | ret => obtain ⟨m', k1, k2⟩ := h1; exact fin m' k1 k2
  | pan hp =>
    obtain ⟨m', k1, k2⟩ := h1
    refine leaves_takeD (ρ := ρ') (fun h => by cases h) (fun w3 hR3 hE3 => ?_) _ _ _ _ h3.ds h4 h5 k1
    exact ⟨ρ', m', _, k2, .pan hp, hR3, hE3⟩

end
end Go.AM
namespace Go.AM
section
variable {P : Program} {G : Nat}
theorem AYield.norm {l : Nat} {args : List Value} {m : AMem} {Q : AEnd → AMem → Prop} (h : AYield P G l args m Q) : AYield P G l args m fun r m' => ∃ M, m' = mx M [] ∧ Q r M := by
  intro ρ w args' L hR hA hL
  obtain ⟨f, tmps, as, body, h1, h2⟩ := h ρ w args' L hR hA hL
  refine ⟨f, tmps, as, body, h1, h2.mono fun e w' ⟨ρ', m', r, k1, k2, k3, k4⟩ => ?_⟩
  exact ⟨ρ', mx m' [], r, ⟨m', rfl, k1⟩, k2, k3.agree (mx_nil_size m') (fun b hb => mx_nil_get m' hb), k4.agree k3 (mx_nil_size m') (fun b hb => mx_nil_get m' hb)⟩
theorem AYield.call {l : Nat} {args : List Value} {m : AMem} {R : AEnd → AMem → Prop} (h : AYield P G l args m R) {d : Option Nat} {t : Tmps} {m0 : AMem} {ds : List Deferred} {K : ASt → Prop} {Q : AExit → ASt → Prop}
    (hK : ∀ r M, R r M → CallK d ⟨t, m0, ds⟩ K Q r (mx M [])) : AYield P G l args m (CallK d ⟨t, m0, ds⟩ K Q) := by
  refine h.norm.mono ?_
  rintro r m' ⟨M, rfl, hR⟩
  exact hK r M hR
end
end Go.AM
namespace Go.AM
set_option linter.unusedVariables false
set_option linter.unusedSimpArgs false

inductive AMode where
  | ret
  | pan (c : List PanicEntry)
inductive MRel (ρ : Ren) : AMode → FrameMode → Prop
  | ret : MRel ρ .ret .returning
  | pan {c c' : List PanicEntry} (h : PRel ρ c c') : MRel ρ (.pan c) (.panicking c')
theorem MRel.mono {ρ ρ' : Ren} (hr : ρ.le ρ') {u : AMode} {u' : FrameMode} (h : MRel ρ u u') : MRel ρ' u u' := by
  cases h with
  | ret => exact .ret
  | pan h => exact .pan (h.mono hr)
theorem MRel.run {ρ : Ren} {u : AMode} {u' : FrameMode} (h : MRel ρ u u') : u' ≠ .run := by cases h <;> simp
def settleA : AMode → Option AMode
  | .ret => some .ret
  | .pan [] => some (.pan [])
  | .pan [e] => if e.recovered = true then some .ret else some (.pan [e])
  | .pan (e :: e2 :: r) => if e.recovered = true then none else some (.pan (e :: e2 :: r))
def raisedA (u : AMode) (c : List PanicEntry) : AMode := match u with | .pan old => .pan (c ++ old) | .ret => .pan c
theorem PRel.head {ρ : Ren} {e e' : PanicEntry} {r r' : List PanicEntry} (h : PRel ρ (e :: r) (e' :: r')) : VRel ρ e.v e'.v ∧ e.recovered = e'.recovered ∧ e.goexit = e'.goexit := by
  have := h.2 0 (by simp) (by simp)
  simpa using this
theorem PRel.tail {ρ : Ren} {e e' : PanicEntry} {r r' : List PanicEntry} (h : PRel ρ (e :: r) (e' :: r')) : PRel ρ r r' :=
  ⟨by have := h.1; simpa using this, fun i a b => by have := h.2 (i + 1) (by simpa using a) (by simpa using b); simpa using this⟩
theorem PRel.cons {ρ : Ren} {e e' : PanicEntry} {r r' : List PanicEntry} (h1 : VRel ρ e.v e'.v ∧ e.recovered = e'.recovered ∧ e.goexit = e'.goexit) (h : PRel ρ r r') : PRel ρ (e :: r) (e' :: r') :=
  ⟨by simp [h.1], fun i a b => by
    cases i with
    | zero => exact h1
    | succ i => exact h.2 i (by simpa using a) (by simpa using b)⟩
theorem PRel.append {ρ : Ren} : ∀ {a a' b b' : List PanicEntry}, PRel ρ a a' → PRel ρ b b' → PRel ρ (a ++ b) (a' ++ b')
  | [], [], b, b', h, k => k
  | [], _ :: _, b, b', h, k => by have := h.1; simp at this
  | _ :: _, [], b, b', h, k => by have := h.1; simp at this
  | e :: a, e' :: a', b, b', h, k => PRel.cons h.head (h.tail.append k)
theorem settle_rel {ρ : Ren} {u u2 : AMode} {u' : FrameMode} (h : MRel ρ u u') (hs : settleA u = some u2) : MRel ρ u2 (settle u') := by
  cases h with
  | ret => cases hs; exact .ret
  | @pan c c' h =>
    match c, c', h with
    | [], [], h => cases hs; exact .pan h
    | [], _ :: _, h => have := h.1; simp at this
    | _ :: _, [], h => have := h.1; simp at this
    | [e], [e'], h =>
      obtain ⟨h1, h2, h3⟩ := h.head
      obtain ⟨v', r', g'⟩ := e'
      simp only at h1 h2 h3
      simp only [settleA] at hs
      split at hs
      · rename_i hr
        cases hs
        rw [hr] at h2
        subst h2
        exact .ret
      · rename_i hr
        cases hs
        have : r' = false := by rw [← h2]; simpa using hr
        subst this
        exact .pan h
    | [_], _ :: _ :: _, h => have := h.1; simp at this
    | _ :: _ :: _, [_], h => have := h.1; simp at this
    | e :: e2 :: r, e' :: e2' :: r', h =>
      obtain ⟨h1, h2, h3⟩ := h.head
      simp only [settleA] at hs
      split at hs
      · cases hs
      · rename_i hr
        cases hs
        obtain ⟨v', q', g'⟩ := e'
        simp only at h1 h2 h3
        have : q' = false := by rw [← h2]; simpa using hr
        subst this
        exact .pan h
theorem raised_rel {ρ : Ren} {u : AMode} {u' : FrameMode} (h : MRel ρ u u') {c c' : List PanicEntry} (hc : PRel ρ c c') : MRel ρ (raisedA u c) (raised u' c') := by
  cases h with
  | ret => exact .pan hc
  | pan h => exact .pan (hc.append h)

section
variable {P : Program} {G : Nat}
def ACallD (P : Program) (G : Nat) (f : FuncId) (args : List Value) (u : AMode) (m : AMem) (Q : AEnd → AMode → AMem → Prop) : Prop :=
  ∀ (ρ : Ren) (w : World) (args' : Array Value) (u' : FrameMode), Rep G m ρ w → LRel ρ args args'.toList → MRel ρ u u' →
    match (callFunc f args').run P w with
    | .ok (.enter g as) w1 => w1 = w ∧ CallsD P g as u' w fun e u2 w' => ∃ ρ' m' r um, Q r um m' ∧ EndRel ρ' r e ∧ MRel ρ' um u2 ∧ Rep G m' ρ' w' ∧ Ext m ρ w m' ρ' w'
    | _ => False
def leaveA (P : Program) (G : Nat) : List Deferred → AMode → AMem → (AMode → AMem → Prop) → Prop
  | [], u, m, fin => fin u m
  | d :: r, u, m, fin => match d.target with
    | .collected b => m.get b = .defd ∧ leaveA P G r u (m.set b .dead) fin
    | .fn (.func f) cap => ACallD P G f (d.args.toList ++ cap.toList) u m fun e u2 m2 => match e with
        | .ret _ => ∃ u3, settleA u2 = some u3 ∧ leaveA P G r u3 m2 fin
        | .pan c => leaveA P G r (raisedA u2 c) m2 fin
    | _ => False
def finA (res : List ARes) (t : Tmps) (Q : AEnd → AMem → Prop) : AMode → AMem → Prop
  | .ret, m => match resVs res t m with | some l => Q (.ret (packV l)) m | none => False
  | .pan c, m => Q (.pan c) m
def RetKX (P : Program) (G : Nat) (res : List ARes) (Q : AEnd → AMem → Prop) : AExit → ASt → Prop
  | .normal, s | .ret, s => leaveA P G s.ds .ret s.m (finA res s.t Q)
  | .pan c, s => leaveA P G s.ds (.pan c) s.m (finA res s.t Q)
  | _, _ => False

def LeavesX (P : Program) (fn : Func) (tmps : Array Value) (R : Ending → World → Prop) : List Deferred → FrameMode → World → Prop
  | [], u, w => LeavesIn Fence.wide 0 P fn tmps R [] u w
  | d :: ds, u, w => u ≠ .run ∧
      ((∃ r w', d.target = .collected r ∧ (Instr.takeDeferred r).run P w = .ok [] w' ∧ LeavesX P fn tmps R ds u w') ∨
       (∃ fv cap f args, d.target = .fn fv cap ∧ (invoke d.target d.args).run P w = .ok (.enter f args) w ∧
        CallsD P f args u w fun
          | .returned _, u', w' => LeavesX P fn tmps R ds (settle u') w'
          | .panicked chain, u', w' => LeavesX P fn tmps R ds (raised u' chain) w'
          | .outgrown, _, _ => False))
theorem leaves_stepsX {fn : Func} {tmps : Array Value} {R : Ending → World → Prop} : ∀ (ds : List Deferred) (u : FrameMode) (w : World) (fr : Frame)
    (cs : List Frame), fr.mode = u → fr.defers = ds → fr.tmps = tmps → P.funcs[fr.fn]? = some fn → fr.kind = .normal → LeavesX P fn tmps R ds u w →
    ∃ e w' fr', R e w' ∧ ComesIn (FI P) P (lone fr cs w) (lone fr' cs w') e ∧ fr'.fn = fr.fn ∧ fr'.leaving P w' e := by
  intro ds
  induction ds with
  | nil => exact fun u w fr cs hu hd ht hf hk h => leaves_stepsIn [] u w fr cs hu hd ht hf hk trivial (fun d hd => by cases hd) h
  | cons d ds ih =>
    intro u w fr cs hu hd ht hf hk h
    obtain ⟨hrun, h⟩ := h
    rcases h with ⟨r, w', htar, htake, hrest⟩ | ⟨fv, cap, f, args, htar, hinv, hcall⟩
    · have h1 := step_collected (cs := cs) (hu ▸ hrun) hd htar htake
      obtain ⟨e', w'', fr', hR', hs', hfn', hl'⟩ := ih u w' { fr with defers := [] ++ ds } cs hu rfl ht hf hk hrest
      exact ⟨e', w'', fr', hR', ComesIn.of_steps (one_step h1) hs', hfn', hl'⟩
    · have h1 := step_defer (cs := cs) (hu ▸ hrun) hd htar hinv
      obtain ⟨e, u', w', frX, hR, hsteps, hkX, hgo⟩ := hcall { fr with defers := ds } cs hu
      cases e with
      | outgrown => exact hR.elim
      | returned v =>
        have h2 := step_going_returned (c := { { fr with defers := ds } with mode := u' }) (cs := cs) hkX hgo
        obtain ⟨e', w'', fr', hR', hs', hfn', hl'⟩ := ih (settle u') w' { { { fr with defers := ds } with mode := u' } with mode := settle u' } cs rfl rfl ht hf hk hR
        exact ⟨e', w'', fr', hR', ComesIn.of_steps (StepsIn.trans (one_step h1) (StepsIn.trans (stepsIn_wide.2 hsteps) (one_step h2))) hs', hfn', hl'⟩
      | panicked chain =>
        have h2 := step_going_panicked (c := { { fr with defers := ds } with mode := u' }) (cs := cs) hgo
        obtain ⟨e', w'', fr', hR', hs', hfn', hl'⟩ := ih (raised u' chain) w' { { { fr with defers := ds } with mode := u' } with mode := raised u' chain } cs rfl rfl ht hf hk hR
        exact ⟨e', w'', fr', hR', ComesIn.of_steps (StepsIn.trans (one_step h1) (StepsIn.trans (stepsIn_wide.2 hsteps) (one_step h2))) hs', hfn', hl'⟩
def bodyPostX (P : Program) (fn : Func) (R : Ending → World → Prop) : Exit → Act → World → Prop
  | .normal, a, w | .ret, a, w => LeavesX P fn a.tmps R a.defers .returning w
  | .panic chain, a, w => LeavesX P fn a.tmps R a.defers (.panicking chain) w
  | _, _, _ => False
theorem calls_of_wpX {f : FuncId} {fn : Func} {c : Code} {args : Array Value} {w : World} {R : Ending → World → Prop} (hf : P.funcs[f]? = some fn) (hb : fn.body = some c)
    (h : wpV none P c (bodyPostX P fn R) { tmps := args ++ Array.replicate (fn.ntmps - args.size) undef, defers := [] } w) : Calls P f args w R := by
  refine (callsIn_wide (n := 0)).1 ⟨trivial, fun cs hr => ?_⟩
  let b : Frame := { (default : Frame) with fn := f, kind := .normal, roundOf := none }
  have henter : Frame.enter P f args .normal =
      b.atR { tmps := args ++ Array.replicate (fn.ntmps - args.size) undef, defers := [] } [.code c] := by
    simp [Frame.enter, Frame.atR, hf, hb, b]
  obtain ⟨e, a', w', hq, harr⟩ := h b [] cs rfl (by simp [b, hf])
  rw [← henter] at harr
  cases e with
  | normal =>
    obtain ⟨e', w'', fr', hR, hs, hfn, hl⟩ := leaves_stepsX a'.defers .returning w' { b.atR a' [] with mode := .returning } cs rfl rfl rfl hf rfl hq
    exact ⟨e', w'', fr', hR, ComesIn.of_steps (StepsIn.trans harr (one_step (stepR_end rfl))) hs, hfn, hl⟩
  | ret =>
    obtain ⟨todo, hs₀⟩ := harr.1 rfl
    obtain ⟨e', w'', fr', hR, hs, hfn, hl⟩ := leaves_stepsX a'.defers .returning w' { b.atR a' todo with mode := .returning } cs rfl rfl rfl hf rfl hq
    exact ⟨e', w'', fr', hR, ComesIn.of_steps hs₀ hs, hfn, hl⟩
  | panic chain =>
    obtain ⟨todo, hs₀⟩ := harr
    obtain ⟨e', w'', fr', hR, hs, hfn, hl⟩ := leaves_stepsX a'.defers (.panicking chain) w' { b.atR a' todo with mode := .panicking chain } cs rfl rfl rfl hf rfl hq
    exact ⟨e', w'', fr', hR, ComesIn.of_steps hs₀ hs, hfn, hl⟩
  | exit id => exact hq.elim
  | goto l => exact hq.elim
  | outgrown => exact hq.elim

theorem leaves_X {fn : Func} {tmps : Array Value} {R : Ending → World → Prop} {m0 : AMem} {ρ0 : Ren} {w0 : World} {fin : AMode → AMem → Prop} {t : Tmps}
    (hfin : ∀ (ρ : Ren) (w : World) (m : AMem) (u : AMode) (u' : FrameMode), fin u m → MRel ρ u u' → (∀ i, VRel ρ (t i) (tmps.getD i undef)) → Rep G m ρ w → Ext m0 ρ0 w0 m ρ w → LeavesIn Fence.wide 0 P fn tmps R [] u' w) :
    ∀ (ds ds' : List Deferred) (u : AMode) (u' : FrameMode) (m : AMem) (ρ : Ren) (w : World), DsRel ρ ds ds' → MRel ρ u u' → (∀ i, VRel ρ (t i) (tmps.getD i undef)) → Rep G m ρ w → Ext m0 ρ0 w0 m ρ w →
      leaveA P G ds u m fin → LeavesX P fn tmps R ds' u' w
  | [], [], u, u', m, ρ, w, hd, hu, ht, hR, hE, h => hfin ρ w m u u' h hu ht hR hE
  | [], d :: ds', u, u', m, ρ, w, hd, hu, ht, hR, hE, h => by have := hd.1; simp at this
  | d :: ds, [], u, u', m, ρ, w, hd, hu, ht, hR, hE, h => by have := hd.1; simp at this
  | d :: ds, d' :: ds', u, u', m, ρ, w, hd, hu, ht, hR, hE, h => by
    have h0 := hd.2 0 (by simp) (by simp)
    simp only [List.getElem_cons_zero] at h0
    have htl : DsRel ρ ds ds' := ⟨by have := hd.1; simpa using this, fun i h1 h2 => by have := hd.2 (i + 1) (by simpa using h1) (by simpa using h2); simpa using this⟩
    unfold leaveA at h
    refine ⟨hu.run, ?_⟩
    rcases h0 with ⟨ha, f, c, c', e, e', hc⟩ | ⟨b', L, e1, e2, e3⟩
    · rw [e] at h
      simp only at h
      have hcall := h ρ w (d'.args ++ c') u' hR (by simp only [Array.toList_append]; exact ha.toList.append hc.toList) hu
      split at hcall
      · rename_i g as w1 hrun
        obtain ⟨rfl, hcall⟩ := hcall
        refine .inr ⟨.func f, c', g, as, e', by rw [e']; simp only [invoke]; exact hrun, ?_⟩
        intro cfr cs hm
        obtain ⟨e9, u9, w9, fr9, ⟨ρ9, m9, r9, um9, q1, q2, q3, q4, q5⟩, s1, s2, s3⟩ := hcall cfr cs hm
        refine ⟨e9, u9, w9, fr9, ?_, s1, s2, s3⟩
        cases q2 with
        | ret hv =>
          obtain ⟨u3, k1, k2⟩ := q1
          exact leaves_X hfin ds ds' u3 _ m9 ρ9 w9 (htl.mono q5.ren) (settle_rel q3 k1) (fun i => (ht i).mono q5.ren) q4 (hE.trans q5) k2
        | pan hp => exact leaves_X hfin ds ds' _ _ m9 ρ9 w9 (htl.mono q5.ren) (raised_rel q3 hp) (fun i => (ht i).mono q5.ren) q4 (hE.trans q5) q1
      · exact hcall.elim
    · rw [e1] at h
      obtain ⟨hm, h⟩ := h
      have hO := hR.obj _ _ e3
      rw [hm] at hO
      obtain ⟨hR2, hE2⟩ := putObj_rep hR e3 (o := .dead) (ob := .deferred none) (by rw [hm]; rfl) (by rw [hm]; rfl) (fun h => by cases h) trivial
      exact .inl ⟨L.cb, _, e2, run_takeDeferred hO.1, leaves_X hfin ds ds' u u' _ ρ _ htl hu ht hR2 (hE.trans hE2) h⟩

theorem ACall_of_WX {f : FuncId} {fn : Func} {A : AFun} (hf : P.funcs[f]? = some fn) (hn : (fn.name == "runtime.NumGoroutine") = false) (hA : compFun P G fn = some A) {args : List Value} (hlen : args.length ≤ A.n) {m : AMem}
    {Q : AEnd → AMem → Prop} (h : W P G A.code (RetKX P G A.res Q) { t := initT args, m := m, ds := [] }) : ACall P G f args m Q := by
  intro ρ w args' hR hL
  unfold compFun at hA
  split at hA <;> try (simp at hA; done)
  rename_i c hbody
  split at hA <;> simp at hA
  rename_i ac res hac hres
  subst hA
  have hn' : ¬ fn.name = "runtime.NumGoroutine" := by simpa using hn
  have hrun : (callFunc f args').run P w = .ok (.enter f args') w := by simp [callFunc, hf, hn', hbody]
  rw [hrun]
  simp only
  refine calls_of_wpX hf hbody ?_
  have hS := init_rel (fn := fn) (m := m) hL hlen
  refine wpV_mono (W_ok c ac hac _ m ρ w _ _ ρ w hR hS (Ext.refl _ _ _) h) fun e a' w' hh => ?_
  obtain ⟨ρ', s', e', h1, h2, h3, h4, h5⟩ := hh
  have hfin : ∀ (ρ3 : Ren) (w3 : World) (m3 : AMem) (u : AMode) (u' : FrameMode), finA res s'.t Q u m3 → MRel ρ3 u u' → (∀ i, VRel ρ3 (s'.t i) (a'.tmps.getD i undef)) → Rep G m3 ρ3 w3 → Ext m ρ w m3 ρ3 w3 →
      LeavesIn Fence.wide 0 P fn a'.tmps (fun e w' => ∃ ρ' m' r, Q r m' ∧ EndRel ρ' r e ∧ Rep G m' ρ' w' ∧ Ext m ρ w m' ρ' w') [] u' w3 := fun ρ3 w3 m3 u u' hq hu ht hR3 hE3 => by
    cases hu with
    | ret =>
      simp only [finA] at hq
      split at hq
      · rename_i l hl
        obtain ⟨v', q1, q2⟩ := results_run (s := ⟨s'.t, m3, []⟩) (a := ⟨a'.tmps, []⟩) hres hR3 ⟨h3.size, ht, DsRel.nil _⟩ hl
        exact ⟨v', q2, ρ3, m3, _, hq, .ret q1, hR3, hE3⟩
      · exact hq.elim
    | pan hp => exact ⟨ρ3, m3, _, hq, .pan hp, hR3, hE3⟩
  cases h2 with
  | normal => exact leaves_X hfin _ _ .ret _ _ ρ' _ h3.ds .ret h3.tmps h4 h5 h1
  | exit id => exact h1.elim
  | goto l => exact h1.elim
  | ret => exact leaves_X hfin _ _ .ret _ _ ρ' _ h3.ds .ret h3.tmps h4 h5 h1
  | pan hp => exact leaves_X hfin _ _ (.pan _) _ _ ρ' _ h3.ds (.pan hp) h3.tmps h4 h5 h1

/-! ### Deferred functions that begin with recover -/
def recD (cs : List Frame) : Value × List Frame := match recoverD cs with | some p => p | none => (.nilIface, cs)
def recA : AMode → Value × AMode
  | .pan ({ v, recovered := false, goexit := false } :: r) => (v, .pan ({ v, recovered := true } :: r))
  | u => (.nilIface, u)
theorem rec_rel {ρ : Ren} {u : AMode} {c : Frame} {cs : List Frame} (h : MRel ρ u c.mode) : VRel ρ (recA u).1 (recD (c :: cs)).1 ∧ ∃ u', (recD (c :: cs)).2 = { c with mode := u' } :: cs ∧ MRel ρ (recA u).2 u' := by
  have hc : c = { c with mode := c.mode } := rfl
  generalize hm : c.mode = u' at h
  cases h with
  | ret =>
    refine ⟨?_, .returning, ?_, ?_⟩ <;> simp only [recD, recoverD, hm, recA]
    · exact .nilIface
    · rw [← hm]
    · exact .ret
  | @pan p p' h =>
    match p, p', h with
    | [], [], h =>
      refine ⟨?_, _, ?_, MRel.pan h⟩ <;> simp only [recD, recoverD, hm, recA]
      · exact .nilIface
      · rw [← hm]
    | [], _ :: _, h => have := h.1; simp at this
    | _ :: _, [], h => have := h.1; simp at this
    | e :: r, e' :: r', h =>
      obtain ⟨h1, h2, h3⟩ := h.head
      obtain ⟨v, q, g⟩ := e
      obtain ⟨v', q', g'⟩ := e'
      simp only at h1 h2 h3
      subst h2; subst h3
      cases q with
      | true =>
        refine ⟨?_, _, ?_, MRel.pan h⟩ <;> simp only [recD, recoverD, hm, recA]
        · exact .nilIface
        · rw [← hm]
      | false =>
        cases g with
        | true =>
          refine ⟨?_, _, ?_, MRel.pan h⟩ <;> simp only [recD, recoverD, hm, recA]
          · exact .nilIface
          · rw [← hm]
        | false =>
          refine ⟨?_, .panicking ({ v := v', recovered := true } :: r'), ?_, ?_⟩ <;> simp only [recD, recoverD, hm, recA]
          · exact h1
          · exact .pan (PRel.cons ⟨h1, rfl, rfl⟩ h.tail)
theorem step_recover {b : Frame} {a : Act} {k : List Item} {cs : List Frame} {w : World} {ops : Array Oper} {i : Nat} {rest : List Nat} {o : Oper} {tys : Array TypeId} (hb : b.kind = .deferred) (ho : ops[i]? = some o) (hg : o.guard = none)
    (hop : o.op = .call { callee := .builtin .recover, args := #[], argTypes := tys }) (hro : b.roundOf = none) :
    step P (lone (b.atR a (.inRegion ops (i :: rest) :: k)) cs w) = .next (lone (b.atR (a.put o.dst (recD cs).1) (.inRegion ops rest :: k)) (recD cs).2 w) := by
  have hw : Region.wanted o (yielded ops a.tmps) = true := by simp [Region.wanted, hg]
  have hg := stepGR_op (P := P) (b := b) (a := a) (k := k) (cs := cs) (w := w) (rest := rest) ho hw
  have hfin : ∀ v, (b.atR a (.inRegion ops (i :: rest) :: k)).finish v = b.atR (a.put o.dst v) (.inRegion ops rest :: k) := by
    intro v
    have := Frame.finish_atR b a ops i rest k v
    rw [ho] at this; exact this
  have hr : (o.semAt b.roundOf a.eval).run P w = .ok .recover w := by
    rw [hro, Oper.semAt_none]
    simp [execOp, hop, resolve, invoke, builtin]
  have hk : (b.atR a (.inRegion ops (i :: rest) :: k)).kind = .deferred := hb
  have htr := tryRecover_deferred hk cs
  refine step_lone_go ?_
  rw [hg, ← hfin]
  simp only [Frame.atR] at htr ⊢
  unfold recD
  rw [hro] at hr htr
  cases hrec : recoverD cs with
  | none => rw [hrec] at htr; simp [stepG.apply, hr, htr, hro]
  | some p => rw [hrec] at htr; obtain ⟨v, cs'⟩ := p; simp [stepG.apply, hr, htr, hro]
theorem rec_region {Q : Exit → Act → World → Prop} {b : Frame} {a : Act} {k : List Item} {cs : List Frame} {w : World} {id : Nat} {ops : Array Oper} {o : Oper} {n : Nat} {tys : Array TypeId} (hb : b.kind = .deferred) (hro : b.roundOf = none)
    (ho : ops[0]? = some o) (hn : ops.size = n + 1) (hg : o.guard = none) (hop : o.op = .call { callee := .builtin .recover, args := #[], argTypes := tys })
    (h : wpOpsIn (FW none) 0 P ops Q (List.range' 1 n) (a.put o.dst (recD cs).1) w) :
    ∃ e a' w', Q e a' w' ∧ ArrivesIn (FI P) P (lone (b.atR a (.code (.region id ops false) :: k)) cs w) b k (recD cs).2 e a' w' := by
  obtain ⟨e, a', w', q, r⟩ := wp_opsIn _ _ _ h b k (recD cs).2 hro trivial (fun d hd => by cases hd)
  refine ⟨e, a', w', q, .of_steps (StepsIn.trans (one_step stepR_region) (one_step ?_)) r⟩
  have hr : List.range ops.size = 0 :: List.range' 1 n := by rw [List.range_eq_range', hn]; rfl
  rw [hr]
  exact step_recover hb ho hg hop hro

def recOp (o : Oper) : Option Nat := match o.op with
  | .call { callee := .builtin .recover, args, argTypes } => if args.size = 0 && o.guard.isNone then o.dst else none
  | _ => none
theorem recOp_spec {o : Oper} {d : Nat} (h : recOp o = some d) : ∃ tys, o.op = .call { callee := .builtin .recover, args := #[], argTypes := tys } ∧ o.guard = none ∧ o.dst = some d := by
  unfold recOp at h
  split at h <;> try (cases h; done)
  rename_i as tys hop
  split at h <;> try (cases h; done)
  rename_i hc
  simp only [Bool.and_eq_true, decide_eq_true_eq, Option.isNone_iff_eq_none] at hc
  obtain ⟨h1, h2⟩ := hc
  have : as = #[] := Array.eq_empty_of_size_eq_zero h1
  subst this
  exact ⟨tys, hop, h2, h⟩
def recOps (P : Program) (G N : Nat) (ops : Array Oper) : Option (Nat × List AIns) := match ops.toList with
  | o :: r => match recOp o with
    | some d => if d < N then (compList P G N ops r).map fun is => (d, is) else none
    | none => none
  | [] => none
def recCode (P : Program) (G N : Nat) : Code → Option (Nat × List AIns × Option ACode)
  | .region _ ops false => (recOps P G N ops).map fun p => (p.1, p.2, none)
  | .seq (.region _ ops false) c => match recOps P G N ops, compCode P G N c with
    | some p, some c => some (p.1, p.2, some c)
    | _, _ => none
  | _ => none
def recTail : Option ACode → ACode
  | none => .skip
  | some c => c
structure ARec where
  n : Nat
  d : Nat
  is : List AIns
  c : Option ACode
  res : List ARes
def compRec (P : Program) (G : Nat) (fn : Func) : Option ARec := match fn.body with
  | some c => match recCode P G fn.ntmps c, compRes P fn.results.toList with
    | some (d, is, c), some res => some ⟨fn.ntmps, d, is, c, res⟩
    | _, _ => none
  | none => none

theorem ACallD_of_W {f : FuncId} {fn : Func} {A : ARec} (hf : P.funcs[f]? = some fn) (hn : (fn.name == "runtime.NumGoroutine") = false) (hA : compRec P G fn = some A) {args : List Value} (hlen : args.length ≤ A.n) {u : AMode} {m : AMem}
    {Q : AEnd → AMode → AMem → Prop} (h : W P G (.seq (.reg A.is) (recTail A.c)) (RetK A.res fun r m' => Q r (recA u).2 m') { t := upd (initT args) A.d (recA u).1, m := m, ds := [] }) : ACallD P G f args u m Q := by
  intro ρ w args' u' hR hL hu
  unfold compRec at hA
  split at hA <;> try (cases hA; done)
  rename_i c hbody
  split at hA <;> try (cases hA; done)
  rename_i d is oc res hrc hres
  cases hA
  simp only at h hlen
  have hn' : ¬ fn.name = "runtime.NumGoroutine" := by simpa using hn
  have hrun : (callFunc f args').run P w = .ok (.enter f args') w := by simp [callFunc, hf, hn', hbody]
  rw [hrun]
  refine ⟨rfl, ?_⟩
  intro c0 cs hmode
  subst hmode
  obtain ⟨hv, u1', hcs, hu1⟩ := rec_rel (cs := cs) hu
  let b : Frame := { (default : Frame) with fn := f, kind := .deferred, roundOf := none }
  have henter : Frame.enter P f args' .deferred = b.atR { tmps := args' ++ Array.replicate (fn.ntmps - args'.size) undef, defers := [] } [.code c] := by
    simp [Frame.enter, Frame.atR, hf, hbody, b]
  have hS := init_rel (fn := fn) (m := m) hL hlen
  -- the end
  have fin : ∀ {e : Exit} {a' : Act} {w' : World}, QC G fn.ntmps (RetK res fun r m' => Q r (recA u).2 m') m ρ w e a' w' →
      ArrivesIn (FI P) P (lone (Frame.enter P f args' .deferred) (c0 :: cs) w) b [] (recD (c0 :: cs)).2 e a' w' →
      ∃ e u' w' fr, (∃ ρ' m' r um, Q r um m' ∧ EndRel ρ' r e ∧ MRel ρ' um u' ∧ Rep G m' ρ' w' ∧ Ext m ρ w m' ρ' w') ∧
        Comes P (lone (Frame.enter P f args' .deferred) (c0 :: cs) w) (lone fr ({ c0 with mode := u' } :: cs) w') e ∧ fr.kind = .deferred ∧ fr.going P w' e := by
    intro e a' w' hh harr
    obtain ⟨ρ', s', e', h1, h2, h3, h4, h5⟩ := hh
    rw [hcs] at harr
    have hnil : s'.ds = [] → a'.defers = [] := fun hds => by
      have := h3.ds.1
      rw [hds] at this
      exact List.eq_nil_of_length_eq_zero (by simpa using this.symm)
    have hret : (s'.ds = [] ∧ match resVs res s'.t s'.m with | some l => Q (.ret (packV l)) (recA u).2 s'.m | none => False) → ∃ v', (results fn a'.tmps).run P w' = .ok v' w' ∧ a'.defers = [] ∧
        ∃ r, Q r (recA u).2 s'.m ∧ EndRel ρ' r (.returned v') := by
      rintro ⟨hds, hq⟩
      split at hq
      · rename_i l hl
        obtain ⟨v', k1, k2⟩ := results_run hres h4 h3 hl
        exact ⟨v', k2, hnil hds, _, hq, .ret k1⟩
      · exact hq.elim
    cases h2 with
    | normal =>
      obtain ⟨v', k1, k2, r, k3, k4⟩ := hret h1
      exact ⟨.returned v', u1', w', { b.atR a' [] with mode := .returning }, ⟨ρ', s'.m, r, _, k3, k4, hu1.mono h5.ren, h4, h5⟩, comesIn_wide.1 (StepsIn.trans harr (one_step (stepR_end rfl))), rfl, ⟨rfl, k2, fn, hf, k1⟩⟩
    | ret =>
      obtain ⟨v', k1, k2, r, k3, k4⟩ := hret h1
      obtain ⟨todo, hs⟩ := harr.1 rfl
      exact ⟨.returned v', u1', w', { b.atR a' todo with mode := .returning }, ⟨ρ', s'.m, r, _, k3, k4, hu1.mono h5.ren, h4, h5⟩, comesIn_wide.1 hs, rfl, ⟨rfl, k2, fn, hf, k1⟩⟩
    | @pan ch ch' hp =>
      obtain ⟨hds, hq⟩ := h1
      obtain ⟨todo, hs⟩ := harr
      exact ⟨.panicked ch', u1', w', { b.atR a' todo with mode := .panicking ch' }, ⟨ρ', s'.m, _, _, hq, .pan hp, hu1.mono h5.ren, h4, h5⟩, comesIn_wide.1 hs, rfl, ⟨rfl, hnil hds, fn, hf⟩⟩
    | exit id => exact h1.elim
    | goto l => exact h1.elim
  -- the first region
  have first : ∀ {id : Nat} {ops : Array Oper} {k : List Item} {Q' : AExit → ASt → Prop}, recOps P G fn.ntmps ops = some (d, is) → WI P G is Q' { t := upd (initT args) d (recA u).1, m := m, ds := [] } →
      ∃ e a' w', QC G fn.ntmps Q' m ρ w e a' w' ∧ ArrivesIn (FI P) P (lone (b.atR { tmps := args' ++ Array.replicate (fn.ntmps - args'.size) undef, defers := [] } (.code (.region id ops false) :: k)) (c0 :: cs) w) b k (recD (c0 :: cs)).2 e a' w' := by
    intro id ops k Q' hrec hW
    unfold recOps at hrec
    split at hrec <;> try (cases hrec; done)
    rename_i o r hops
    split at hrec <;> try (cases hrec; done)
    rename_i d' hro
    split at hrec <;> try (cases hrec; done)
    rename_i hd
    obtain ⟨is', hcl, he⟩ := map_some' hrec
    cases he
    obtain ⟨tys, hop, hgu, hds⟩ := recOp_spec hro
    have hsz : ops.size = r.length + 1 := by
      have := congrArg List.length hops
      simpa using this
    have hget : ops[0]? = some o := by
      have : ops.toList[0]? = some o := by rw [hops]; rfl
      simpa using this
    refine rec_region rfl rfl hget hsz hgu hop ?_
    have hS2 := hS.put (dst := some d) (Ren.le.refl _) (by simp [dstOk, hd]) hv (m := m)
    rw [hds]
    exact WI_ok (rd := none) (Q := Q') (m0 := m) (ρ0 := ρ) (w0 := w) is r 1 (by rw [hops]; rfl) hcl _ _ ρ w hR hS2 (Ext.refl _ _ _) hW
  unfold recCode at hrc
  split at hrc
  · obtain ⟨p, hp, he⟩ := map_some' hrc
    cases he
    simp only [W, recTail] at h
    obtain ⟨e, a', w', q, harr⟩ := first (k := []) hp h
    rw [← henter] at harr
    refine fin ?_ harr
    obtain ⟨ρ', s', e', h1, h2, h3, h4, h5⟩ := q
    refine ⟨ρ', s', e', ?_, h2, h3, h4, h5⟩
    cases e' <;> exact h1
  · rename_i id ops cc
    split at hrc <;> try (cases hrc; done)
    rename_i p ac hp hcc
    cases hrc
    simp only [W, recTail] at h
    obtain ⟨e, a', w', q, harr⟩ := first (k := [.code cc]) hp h
    have s0 : StepsIn (FI P) P (lone (Frame.enter P f args' .deferred) (c0 :: cs) w) (lone (b.atR { tmps := args' ++ Array.replicate (fn.ntmps - args'.size) undef, defers := [] } [.code (.region id ops false), .code cc]) (c0 :: cs) w) := by
      rw [henter]; exact one_step stepR_seq
    obtain ⟨ρ', s', e', h1, h2, h3, h4, h5⟩ := q
    cases h2 with
    | normal =>
      obtain ⟨e2, a2, w2, q2, harr2⟩ := W_ok cc ac hcc _ m ρ w s' a' ρ' w' h4 h3 h5 h1 b [] (recD (c0 :: cs)).2 rfl (by simp [b, hf])
      exact fin q2 (.of_steps (StepsIn.trans s0 harr) harr2)
    | exit id => exact h1.elim
    | goto l => exact h1.elim
    | ret => exact fin ⟨ρ', s', .ret, h1, .ret, h3, h4, h5⟩ (.of_steps s0 (.pass (x := .code cc) rfl (fun _ _ => .inl (by simp)) harr))
    | pan hp => exact fin ⟨ρ', s', .pan _, h1, .pan hp, h3, h4, h5⟩ (.of_steps s0 (.pass (x := .code cc) rfl (fun _ _ => .inl (by simp)) harr))
  · cases hrc
end
end Go.AM
