/-
  Trees of nodes: a kind, data, entries (a name and a node each); how they lie in memory. Calls that may panic with an error.
-/
import Derived.Test.YtfjgpeoblnpelaaDoorA4
import Derived.Below
import Derived.WalkKit
import Derived.ProofKit
import Derived.OpenShut
import Derived.MakeChecks
import Derived.LaidLaws
import Derived.ChangeSlices
import Derived.Deep.Slices
set_option linter.unusedVariables false
set_option linter.unusedSimpArgs false
set_option linter.unnecessarySimpa false
namespace Go.AM
set_option linter.unusedVariables false
set_option linter.unusedSimpArgs false

mutual
inductive Tr where
  | nd (k : Int) (d : List UInt8) (es : List En)
inductive En where
  | mk (n : List UInt8) (t : Tr)
end
def Tr.k : Tr → Int | .nd k _ _ => k
def Tr.d : Tr → List UInt8 | .nd _ d _ => d
def Tr.es : Tr → List En | .nd _ _ es => es
def En.n : En → List UInt8 | .mk n _ => n
def En.t : En → Tr | .mk _ t => t
instance : Inhabited Tr := ⟨.nd 0 [] []⟩
instance : Inhabited En := ⟨.mk [] default⟩
theorem Tr.ind {motive : Tr → Prop} (h : ∀ k d es, (∀ e ∈ es, motive e.t) → motive (.nd k d es)) (t : Tr) : motive t :=
  Tr.rec (motive_1 := motive) (motive_2 := fun e => motive e.t) (motive_3 := fun l => ∀ e ∈ l, motive e.t)
    (fun k d es ih => h k d es ih) (fun n t ih => ih) (fun e he => by cases he)
    (fun e r h1 h2 x hx => by
      rcases List.mem_cons.1 hx with rfl | hx
      · exact h1
      · exact h2 x hx) t
theorem Tr.ind2 {motive : Tr → Prop} (h : ∀ k d es, (∀ i (h : i < es.length), motive es[i].t) → motive (.nd k d es)) (t : Tr) : motive t :=
  Tr.ind (fun k d es ih => h k d es fun i hi => ih _ (List.getElem_mem hi)) t

def SlC (m : AMem) (a : Option Addr) (cap sz n : Nat) (X : List Value) : Prop :=
  (a = none ∧ cap = 0 ∧ n = 0 ∧ X = []) ∨ ∃ b o Y e w sp, a = some ⟨b, o, none⟩ ∧ b < m.size ∧ m.get b = .cells Y e w sp ∧ cutL Y o (n * sz) = some X ∧ (cap = openCap ∧ sp.size = sz ∨ cap < openCap ∧ n ≤ cap)
theorem SlC.old {m M : AMem} {a : Option Addr} {cap sz n : Nat} {X : List Value} (h : SlC m a cap sz n X) (ho : Old m M) : SlC M a cap sz n X := by
  rcases h with h | ⟨b, o, Y, e, w, sp, h1, h2, h3, h4⟩
  · exact .inl h
  · exact .inr ⟨b, o, Y, e, w, sp, h1, Nat.lt_of_lt_of_le h2 ho.1, (ho.2 b h2).trans h3, h4⟩
theorem cutL_len {Y X : List Value} {o n : Nat} (h : cutL Y o n = some X) : X.length = n := by
  have := cutL_le h
  unfold cutL at h; rw [if_pos this] at h; cases h; simp; omega
theorem SlC.len {m : AMem} {a : Option Addr} {cap sz n : Nat} {X : List Value} (h : SlC m a cap sz n X) : X.length = n * sz := by
  rcases h with ⟨_, _, rfl, rfl⟩ | ⟨b, o, Y, e, w, sp, _, _, _, h, _⟩
  · simp
  · exact cutL_len h
theorem cutL_cutL {Y X Z : List Value} {o n p k : Nat} (h : cutL Y o n = some X) (h2 : cutL X p k = some Z) : cutL Y (o + p) k = some Z := by
  have h1 := cutL_le h
  have h3 := cutL_le h2
  unfold cutL at h h2 ⊢
  rw [if_pos h1] at h
  cases h
  rw [if_pos h3] at h2
  simp only [List.length_take, List.length_drop] at h3
  rw [if_pos (by omega), ← h2]
  congr 1
  rw [List.drop_take, List.take_take, List.drop_drop]
  congr 1; omega

mutual
def TrC (m : AMem) : Tr → List Value → Prop
  | .nd k d es, c => ∃ a cap X, c = [.int .u8 k, .string ⟨d.toArray⟩, .slice a es.length cap] ∧ SlC m a cap 4 es.length X ∧ EsC m es X
def EsC (m : AMem) : List En → List Value → Prop
  | [], X => X = []
  | e :: r, X => ∃ c Y, X = c ++ Y ∧ EnC m e c ∧ EsC m r Y
def EnC (m : AMem) : En → List Value → Prop
  | .mk n t, c => ∃ q, c = .string ⟨n.toArray⟩ :: q ∧ TrC m t q
end
def SlE (m : AMem) (a : Option Addr) (cap : Nat) (es : List En) : Prop := ∃ X, SlC m a cap 4 es.length X ∧ EsC m es X
theorem trC_nd {m : AMem} {k : Int} {d : List UInt8} {es : List En} {c : List Value} (h : TrC m (.nd k d es) c) : ∃ a cap, c = [.int .u8 k, .string ⟨d.toArray⟩, .slice a es.length cap] ∧ SlE m a cap es := by
  unfold TrC at h
  obtain ⟨a, cap, X, h1, h2, h3⟩ := h
  exact ⟨a, cap, h1, X, h2, h3⟩
theorem trC_mk {m : AMem} {k : Int} {d : List UInt8} {es : List En} {a : Option Addr} {cap : Nat} (h : SlE m a cap es) : TrC m (.nd k d es) [.int .u8 k, .string ⟨d.toArray⟩, .slice a es.length cap] := by
  obtain ⟨X, h2, h3⟩ := h
  unfold TrC
  exact ⟨a, cap, X, rfl, h2, h3⟩
theorem TrC.len {m : AMem} {t : Tr} {c : List Value} (h : TrC m t c) : c.length = 3 := by
  obtain ⟨k, d, es⟩ := t
  obtain ⟨_, _, rfl, _⟩ := trC_nd h; rfl
theorem TrC.ex {m : AMem} {t : Tr} {c : List Value} (h : TrC m t c) : ∃ a cap, c = [.int .u8 t.k, .string ⟨t.d.toArray⟩, .slice a t.es.length cap] ∧ SlE m a cap t.es := by
  obtain ⟨k, d, es⟩ := t
  exact trC_nd h
theorem TrC.of {m : AMem} {t : Tr} {a : Option Addr} {cap : Nat} (h : SlE m a cap t.es) : TrC m t [.int .u8 t.k, .string ⟨t.d.toArray⟩, .slice a t.es.length cap] := by
  obtain ⟨k, d, es⟩ := t
  exact trC_mk h
theorem EnC.ex {m : AMem} {e : En} {c : List Value} (h : EnC m e c) : ∃ q, c = .string ⟨e.n.toArray⟩ :: q ∧ TrC m e.t q := by
  obtain ⟨n, t⟩ := e
  unfold EnC at h; exact h
theorem EnC.of {m : AMem} {e : En} {q : List Value} (h : TrC m e.t q) : EnC m e (.string ⟨e.n.toArray⟩ :: q) := by
  obtain ⟨n, t⟩ := e
  unfold EnC; exact ⟨q, rfl, h⟩
theorem EnC.len {m : AMem} {e : En} {c : List Value} (h : EnC m e c) : c.length = 4 := by
  obtain ⟨q, rfl, hq⟩ := h.ex
  have := TrC.len hq
  simp [this]
theorem EsC.nil (m : AMem) : EsC m [] [] := by unfold EsC; rfl
theorem EsC.cons {m : AMem} {e : En} {es : List En} {c X : List Value} (h : EnC m e c) (k : EsC m es X) : EsC m (e :: es) (c ++ X) := by
  unfold EsC; exact ⟨c, X, rfl, h, k⟩
theorem EsC.un {m : AMem} {e : En} {es : List En} {X : List Value} (h : EsC m (e :: es) X) : ∃ c Y, X = c ++ Y ∧ EnC m e c ∧ EsC m es Y := by
  unfold EsC at h; exact h
theorem EsC.len {m : AMem} : ∀ {es : List En} {X : List Value}, EsC m es X → X.length = es.length * 4
  | [], X, h => by unfold EsC at h; subst h; rfl
  | e :: es, X, h => by
    obtain ⟨c, Y, rfl, h1, h2⟩ := h.un
    rw [List.length_append, h1.len, EsC.len h2, List.length_cons]; omega
theorem EsC.app {m : AMem} : ∀ {es es' : List En} {X X' : List Value}, EsC m es X → EsC m es' X' → EsC m (es ++ es') (X ++ X')
  | [], es', X, X', h, k => by unfold EsC at h; subst h; exact k
  | e :: es, es', X, X', h, k => by
    obtain ⟨c, Y, rfl, h1, h2⟩ := h.un
    rw [List.append_assoc]
    exact EsC.cons h1 (EsC.app h2 k)
theorem EsC.take {m : AMem} : ∀ (i : Nat) {es : List En} {X : List Value}, EsC m es X → EsC m (es.take i) (X.take (i * 4))
  | 0, es, X, h => by simpa using EsC.nil m
  | i + 1, [], X, h => by unfold EsC at h; subst h; simpa using EsC.nil m
  | i + 1, e :: es, X, h => by
    obtain ⟨c, Y, rfl, h1, h2⟩ := h.un
    rw [List.take_succ_cons, List.take_append, List.take_of_length_le (l := c) (by rw [h1.len]; omega), h1.len, show (i + 1) * 4 - 4 = i * 4 by omega]
    exact EsC.cons h1 (EsC.take i h2)
theorem EsC.drop {m : AMem} : ∀ (i : Nat) {es : List En} {X : List Value}, EsC m es X → EsC m (es.drop i) (X.drop (i * 4))
  | 0, es, X, h => by simpa using h
  | i + 1, [], X, h => by unfold EsC at h; subst h; simpa using EsC.nil m
  | i + 1, e :: es, X, h => by
    obtain ⟨c, Y, rfl, h1, h2⟩ := h.un
    rw [List.drop_succ_cons, List.drop_append, List.drop_of_length_le (l := c) (by rw [h1.len]; omega), h1.len, show (i + 1) * 4 - 4 = i * 4 by omega, List.nil_append]
    exact EsC.drop i h2
theorem EsC.get {m : AMem} : ∀ {es : List En} {X : List Value} {i : Nat} (h : i < es.length), EsC m es X → ∃ c, cutL X (i * 4) 4 = some c ∧ EnC m es[i] c
  | e :: es, X, 0, hi, h => by
    obtain ⟨c, Y, rfl, h1, h2⟩ := h.un
    have hl := h1.len
    refine ⟨c, ?_, h1⟩
    unfold cutL
    rw [if_pos (by rw [List.length_append]; omega), Nat.zero_mul, List.drop_zero, List.take_append_of_le_length (by omega), List.take_of_length_le (by omega)]
  | e :: es, X, i + 1, hi, h => by
    obtain ⟨c, Y, rfl, h1, h2⟩ := h.un
    have hl := h1.len
    obtain ⟨c', h3, h4⟩ := EsC.get (i := i) (by simpa using hi) h2
    refine ⟨c', ?_, by simpa using h4⟩
    have h5 := cutL_le h3
    unfold cutL at h3 ⊢
    rw [if_pos h5] at h3
    rw [if_pos (by rw [List.length_append]; omega), List.drop_append, List.drop_of_length_le (by omega), List.nil_append, hl, show (i + 1) * 4 - 4 = i * 4 by omega]
    exact h3

theorem TrC.old {m M : AMem} (ho : Old m M) (t : Tr) : ∀ {c : List Value}, TrC m t c → TrC M t c := by
  induction t using Tr.ind with
  | h k d es ih =>
    have key : ∀ (l : List En), (∀ e ∈ l, ∀ {c}, TrC m e.t c → TrC M e.t c) → ∀ {X}, EsC m l X → EsC M l X := by
      intro l
      induction l with
      | nil => intro _ X h; unfold EsC at h ⊢; exact h
      | cons e r ihr =>
        intro hl X h
        obtain ⟨c, Y, rfl, h1, h2⟩ := h.un
        obtain ⟨q, rfl, h3⟩ := h1.ex
        exact EsC.cons (EnC.of (hl e (by simp) h3)) (ihr (fun x hx => hl x (by simp [hx])) h2)
    intro c h
    obtain ⟨a, cap, rfl, X, h2, h3⟩ := trC_nd h
    exact trC_mk ⟨X, h2.old ho, key es ih h3⟩
theorem EnC.old {m M : AMem} (ho : Old m M) {e : En} {c : List Value} (h : EnC m e c) : EnC M e c := by
  obtain ⟨q, rfl, h1⟩ := h.ex
  exact EnC.of (h1.old ho)
theorem EsC.old {m M : AMem} (ho : Old m M) : ∀ {l : List En} {X : List Value}, EsC m l X → EsC M l X
  | [], X, h => by unfold EsC at h ⊢; exact h
  | e :: l, X, h => by
    obtain ⟨c, Y, rfl, h1, h2⟩ := h.un
    exact EsC.cons (h1.old ho) (EsC.old ho h2)
theorem SlE.old {m M : AMem} {a : Option Addr} {cap : Nat} {es : List En} (h : SlE m a cap es) (ho : Old m M) : SlE M a cap es := by
  obtain ⟨X, h1, h2⟩ := h
  exact ⟨X, h1.old ho, h2.old ho⟩
theorem SlE.nil (m : AMem) : SlE m none 0 [] := ⟨[], .inl ⟨rfl, rfl, rfl, rfl⟩, EsC.nil m⟩
theorem SlE.get {m : AMem} {a : Option Addr} {cap : Nat} {es : List En} (h : SlE m a cap es) {i : Nat} (hi : i < es.length) : ∃ b o a' cap', a = some ⟨b, o, none⟩ ∧ b < m.size ∧ SlE m a' cap' es[i].t.es ∧
    rdO (m.get b) (o + i * 4) 4 = some [.string ⟨es[i].n.toArray⟩, .int .u8 es[i].t.k, .string ⟨es[i].t.d.toArray⟩, .slice a' es[i].t.es.length cap'] ∧
    rdO (m.get b) (o + i * 4 + 1) 3 = some [.int .u8 es[i].t.k, .string ⟨es[i].t.d.toArray⟩, .slice a' es[i].t.es.length cap'] ∧
    rdO (m.get b) (o + i * 4) 1 = some [.string ⟨es[i].n.toArray⟩] := by
  obtain ⟨X, h1, h2⟩ := h
  rcases h1 with ⟨_, _, hn, _⟩ | ⟨b, o, Y, e, w, sp, rfl, hb, hm, hc, _⟩
  · omega
  · obtain ⟨c, h3, h4⟩ := h2.get hi
    obtain ⟨q, rfl, h5⟩ := h4.ex
    obtain ⟨a', cap', rfl, h6⟩ := h5.ex
    refine ⟨b, o, a', cap', rfl, hb, h6, ?_⟩
    have h7 := cutL_cutL hc h3
    rw [hm]
    refine ⟨h7, cutL_cutL h7 (show cutL _ 1 3 = _ from rfl), ?_⟩
    have := cutL_cutL h7 (show cutL _ 0 1 = _ from rfl)
    rw [Nat.add_zero] at this
    exact this
theorem cellsOf_node (k : Int) (s : ByteArray) (a : Option Addr) (n c : Nat) : cellsOf (.agg [.int .u8 k, .string s, .slice a n c].toArray) = some [.int .u8 k, .string s, .slice a n c] := rfl
theorem cellsOf_entry (s0 : ByteArray) (k : Int) (s : ByteArray) (a : Option Addr) (n c : Nat) : cellsOf (.agg [.string s0, .int .u8 k, .string s, .slice a n c].toArray) = some [.string s0, .int .u8 k, .string s, .slice a n c] := rfl
theorem cutL3 (a b c : Value) : cutL [a, b, c] 0 3 = some [a, b, c] := rfl
theorem cutL3_0 (a b c : Value) : cutL [a, b, c] 0 1 = some [a] := rfl
theorem cutL3_1 (a b c : Value) : cutL [a, b, c] 1 1 = some [b] := rfl
theorem cutL3_2 (a b c : Value) : cutL [a, b, c] 2 1 = some [c] := rfl
theorem cutL4_0 (a b c d : Value) : cutL [a, b, c, d] 0 1 = some [a] := rfl
theorem cutL4_t (a b c d : Value) : cutL [a, b, c, d] 1 3 = some [b, c, d] := rfl
theorem splice3 (a b c x y z : Value) : splice [a, b, c] 0 [x, y, z] = [x, y, z] := rfl
theorem splice3_2 (a b c z : Value) : splice [a, b, c] 2 [z] = [a, b, z] := rfl
theorem cutL4_0' (a b c d : Value) : cutL [a, b, c, d] 0 4 = some [a, b, c, d] := rfl
theorem splice4' (a b c d x y z u : Value) : splice [a, b, c, d] 0 [x, y, z, u] = [x, y, z, u] := rfl

/-! ### Calls that may panic with an error -/
section
variable {P : Program} {G : Nat}
def errC (T : TypeId) (e : Int) : List PanicEntry := [{ v := .iface T (.int .i64 e), recovered := false }]
def PlainE : AEnd → Prop
  | .ret v => Plain v
  | .pan c => ∀ x ∈ c, Plain x.v
theorem PlainE.err (T : TypeId) (e : Int) : PlainE (.pan (errC T e)) := fun x hx => by
  simp only [errC, List.mem_singleton] at hx; subst hx; exact .iface (.int _ _)
theorem EndRel.plainBack {ρ ρ' : Ren} {r : AEnd} {e : Ending} (hr : PlainE r) (h : EndRel ρ' r e) : EndRel ρ r e := by
  cases h with
  | ret h => exact .ret (Plain.of_rel hr h ρ)
  | pan h => exact .pan ⟨h.1, fun i a b => ⟨Plain.of_rel (hr _ (List.getElem_mem a)) (h.2 i a b).1 ρ, (h.2 i a b).2⟩⟩
theorem ACall.forgetE {f : FuncId} {args : List Value} {m : AMem} {Q Q' : AEnd → AMem → Prop} (h : ACall P G f args m Q)
    (hq : ∀ r m', Q r m' → PlainE r ∧ (∀ b, b < m.size → m'.get b = m.get b) ∧ Q' r m) : ACall P G f args m Q' := by
  intro ρ w args' hR hA
  have main : ∀ e w', (∃ ρ' m' r, Q r m' ∧ EndRel ρ' r e ∧ Rep G m' ρ' w' ∧ Ext m ρ w m' ρ' w') → ∃ ρ' m' r, Q' r m' ∧ EndRel ρ' r e ∧ Rep G m' ρ' w' ∧ Ext m ρ w m' ρ' w' := by
    rintro e w' ⟨ρ', m', r, h1, h2, h3, h4⟩
    obtain ⟨hv, h5, h6⟩ := hq r m' h1
    refine ⟨ρ, m, r, h6, h2.plainBack hv, ⟨hR.dom, fun b L hb => ?_, hR.sep, hR.glob⟩, ⟨.refl ρ, h4.os, h4.tape, h4.output, h4.size, h4.keep, fun _ _ h => h, fun _ _ => rfl, Nat.le_refl _⟩⟩
    have := h3.obj b L (h4.ren b L hb)
    rw [h5 b (hR.dom b L hb)] at this
    exact (hR.obj b L hb).back h4.ren this
  have := h ρ w args' hR hA
  split at this
  · exact this.mono fun e w' h => main e w' h
  · exact main _ _ this
  · exact this
def PurE (P : Program) (G : Nat) (f : FuncId) (args : List Value) (m : AMem) (r : AEnd) : Prop := ACall P G f args m fun r' m' => r' = r ∧ m' = m
theorem PurE.ret {f : FuncId} {args : List Value} {m : AMem} {v : Value} (h : PurE P G f args m (.ret v)) : PureC P G f args m v := h
theorem purE_of_W {f : FuncId} {fn : Func} {A : AFun} (hf : P.funcs[f]? = some fn) (hn : (fn.name == "runtime.NumGoroutine") = false) (hA : compFun P G fn = some A) {args : List Value} (hlen : args.length ≤ A.n) {m : AMem} {r : AEnd}
    (hr : PlainE r) (h : W P G A.code (RetK A.res fun r' m' => r' = r ∧ Old m m') ⟨initT args, mx m [], []⟩) : PurE P G f args m r := by
  refine ACall.forgetE (ACall.eqv (m1 := mx m []) (mx_nil_size m) (fun b hb => mx_old hb) (ACall_of_W hf hn hA hlen h)) ?_
  rintro r' m' ⟨rfl, ho⟩
  exact ⟨hr, fun b hb => ho.2 b hb, rfl, rfl⟩
theorem purE_of_WD {f : FuncId} {fn : Func} {A : AFun} (hf : P.funcs[f]? = some fn) (hn : (fn.name == "runtime.NumGoroutine") = false) (hA : compFun P G fn = some A) {args : List Value} (hlen : args.length ≤ A.n) {m : AMem} {r : AEnd}
    (hr : PlainE r) (h : W P G A.code (RetKD A.res fun r' m' => r' = r ∧ Old m m') ⟨initT args, mx m [], []⟩) : PurE P G f args m r := by
  refine ACall.forgetE (ACall.eqv (m1 := mx m []) (mx_nil_size m) (fun b hb => mx_old hb) (ACall_of_WD hf hn hA hlen h)) ?_
  rintro r' m' ⟨rfl, ho⟩
  exact ⟨hr, fun b hb => ho.2 b hb, rfl, rfl⟩
abbrev KnownP (P : Program) (G : Nat) (f : FuncId) (args : List Value) (m : AMem) (c : List PanicEntry) : Prop :=
  ∀ (d : Option Nat) (t : Tmps) (ds : List Deferred) (K : ASt → Prop) (Q : AExit → ASt → Prop),
    ACall P G f args m (CallK d ⟨t, m, ds⟩ K Q) = @OrW (Q (.pan c) ⟨t, m, ds⟩) ⟨ACall P G f args m (CallK d ⟨t, m, ds⟩ K Q)⟩
theorem PurE.pan {f : FuncId} {args : List Value} {m : AMem} {c : List PanicEntry} (h : PurE P G f args m (.pan c)) : KnownP P G f args m c := fun d t ds K Q =>
  propext ⟨fun k => .inr k, fun k => k.elim (fun k => ACall.mono h fun r m' ⟨e1, e2⟩ => by subst e1 e2; exact k) id⟩
theorem PurE.at {f : FuncId} {args : List Value} {m : AMem} {r : AEnd} (h : PurE P G f args m r) : ACall P G f args (mx m []) fun r' m' => r' = r ∧ m' = m :=
  ACall.eqv (mx_nil_size m).symm (fun b hb => (mx_nil_get m (by rwa [mx_nil_size] at hb)).symm) h
/-! ### Deferred calls -/
theorem ACallD.mono {f : FuncId} {args : List Value} {u : AMode} {m : AMem} {Q Q' : AEnd → AMode → AMem → Prop} (h : ACallD P G f args u m Q) (hq : ∀ e u m', Q e u m' → Q' e u m') : ACallD P G f args u m Q' := by
  intro ρ w args' u' hR hL hu
  have := h ρ w args' u' hR hL hu
  split at this
  · refine ⟨this.1, fun c cs hm => ?_⟩
    obtain ⟨e, u2, w', fr, ⟨ρ', m', r, um, q1, q2⟩, s⟩ := this.2 c cs hm
    exact ⟨e, u2, w', fr, ⟨ρ', m', r, um, hq _ _ _ q1, q2⟩, s⟩
  · exact this
theorem ACallD.eqv {f : FuncId} {args : List Value} {u : AMode} {m1 m : AMem} {Q : AEnd → AMode → AMem → Prop} (hs : m1.size = m.size) (hg : ∀ b, b < m.size → m1.get b = m.get b) (h : ACallD P G f args u m1 Q) : ACallD P G f args u m Q := by
  intro ρ w args' u' hR hL hu
  have hE : ∀ b L, ρ b = some L → m1.get b = m.get b := fun b L hb => hg b (hR.dom b L hb)
  have hR' : Rep G m1 ρ w := hR.agree hs hg
  have himg : ∀ i, Img m1 ρ i ↔ Img m ρ i := fun i => ⟨fun ⟨b, L, hb, hw, hc⟩ => ⟨b, L, hb, by rw [hE b L hb] at hw; exact hw, hc⟩, fun ⟨b, L, hb, hw, hc⟩ => ⟨b, L, hb, by rw [hE b L hb]; exact hw, hc⟩⟩
  have main : ∀ {ρ' : Ren} {m' : AMem} {w' : World}, Ext m1 ρ w m' ρ' w' → Ext m ρ w m' ρ' w' := fun h4 =>
    ⟨h4.ren, h4.os, h4.tape, h4.output, h4.size, fun i hi hn => h4.keep i hi (fun k => hn ((himg i).1 k)), fun i hi k => (himg i).1 (h4.img i hi k), fun b hb => h4.late b (by omega), by have := h4.grow; omega⟩
  have := h ρ w args' u' hR' hL hu
  split at this
  · refine ⟨this.1, fun c cs hm => ?_⟩
    obtain ⟨e, u2, w', fr, ⟨ρ', m', r, um, q1, q2, q3, q4, q5⟩, s⟩ := this.2 c cs hm
    exact ⟨e, u2, w', fr, ⟨ρ', m', r, um, q1, q2, q3, q4, main q5⟩, s⟩
  · exact this
theorem defer_of_W {f : FuncId} {fn : Func} {A : ARec} (hf : P.funcs[f]? = some fn) (hn : (fn.name == "runtime.NumGoroutine") = false) (hA : compRec P G fn = some A) {args : List Value} (hlen : args.length ≤ A.n) {u : AMode} {m : AMem}
    {Q : AEnd → AMode → AMem → Prop} (h : W P G (.seq (.reg A.is) (recTail A.c)) (RetK A.res fun r m' => Q r (recA u).2 m') { t := upd (initT args) A.d (recA u).1, m := mx m [], ds := [] }) : ACallD P G f args u m Q :=
  ACallD.eqv (m1 := mx m []) (mx_nil_size m) (fun b hb => mx_old hb) (ACallD_of_W hf hn hA hlen h)
theorem RetKX_one {res : List ARes} {Q : AEnd → AMem → Prop} {x : AExit} {t : Tmps} {m : AMem} {f : FuncId} {cap as : Array Value} {u : AMode} (hx : x = .normal ∧ u = .ret ∨ x = .ret ∧ u = .ret ∨ ∃ c, x = .pan c ∧ u = .pan c)
    (h : ACallD P G f (as.toList ++ cap.toList) u m fun e u2 m2 => match e with
      | .ret _ => ∃ u3, settleA u2 = some u3 ∧ finA res t Q u3 m2
      | .pan c => finA res t Q (raisedA u2 c) m2) : RetKX P G res Q x ⟨t, m, [{ target := .fn (.func f) cap, args := as }]⟩ := by
  rcases hx with ⟨rfl, rfl⟩ | ⟨rfl, rfl⟩ | ⟨c, rfl, rfl⟩ <;> exact h
theorem recA_err (T : TypeId) (e : Int) : recA (.pan (errC T e)) = (.iface T (.int .i64 e), .pan [{ v := .iface T (.int .i64 e), recovered := true }]) := (rfl)
theorem recA_ret : recA .ret = (.nilIface, .ret) := (rfl)
end
end Go.AM
set_option linter.unusedVariables false
namespace Go.AM
mutual
def Tr.count : Tr → Nat
  | .nd _ _ es => 1 + countL es
def countL : List En → Nat
  | [] => 0
  | e :: r => e.count + countL r
def En.count : En → Nat
  | .mk _ t => t.count
end
mutual
def Tr.depth : Tr → Nat
  | .nd _ _ es => depthL es
def depthL : List En → Nat
  | [] => 0
  | e :: r => max (1 + e.depth) (depthL r)
def En.depth : En → Nat
  | .mk _ t => t.depth
end
mutual
def Tr.size : Tr → Nat
  | .nd _ d es => d.length + sizeL es
def sizeL : List En → Nat
  | [] => 0
  | e :: r => e.size + sizeL r
def En.size : En → Nat
  | .mk _ t => t.size
end
mutual
def Tr.weight : Tr → Nat
  | .nd _ d es => 1 + d.length + weightL es
def weightL : List En → Nat
  | [] => 0
  | e :: r => e.weight + weightL r
def En.weight : En → Nat
  | .mk n t => n.length + t.weight
end
theorem En.count_t (e : En) : e.count = e.t.count := by cases e; unfold En.count; rfl
theorem En.depth_t (e : En) : e.depth = e.t.depth := by cases e; unfold En.depth; rfl
theorem En.size_t (e : En) : e.size = e.t.size := by cases e; unfold En.size; rfl
theorem En.weight_t (e : En) : e.weight = e.n.length + e.t.weight := by cases e; unfold En.weight; rfl
theorem countL_app : ∀ (a b : List En), countL (a ++ b) = countL a + countL b
  | [], b => by simp [countL]
  | e :: a, b => by simp only [List.cons_append, countL, countL_app a b]; omega
theorem depthL_app : ∀ (a b : List En), depthL (a ++ b) = max (depthL a) (depthL b)
  | [], b => by simp [depthL]
  | e :: a, b => by simp only [List.cons_append, depthL, depthL_app a b]; omega
theorem sizeL_app : ∀ (a b : List En), sizeL (a ++ b) = sizeL a + sizeL b
  | [], b => by simp [sizeL]
  | e :: a, b => by simp only [List.cons_append, sizeL, sizeL_app a b]; omega
theorem weightL_app : ∀ (a b : List En), weightL (a ++ b) = weightL a + weightL b
  | [], b => by simp [weightL]
  | e :: a, b => by simp only [List.cons_append, weightL, weightL_app a b]; omega
theorem countL_succ {es : List En} {i : Nat} (h : i < es.length) : countL (es.take (i + 1)) = countL (es.take i) + es[i].t.count := by
  rw [List.take_succ_eq_append_getElem h, countL_app]; simp [countL, En.count_t]
theorem depthL_succ {es : List En} {i : Nat} (h : i < es.length) : depthL (es.take (i + 1)) = max (depthL (es.take i)) (1 + es[i].t.depth) := by
  rw [List.take_succ_eq_append_getElem h, depthL_app]; simp [depthL, En.depth_t]
theorem sizeL_succ {es : List En} {i : Nat} (h : i < es.length) : sizeL (es.take (i + 1)) = sizeL (es.take i) + es[i].t.size := by
  rw [List.take_succ_eq_append_getElem h, sizeL_app]; simp [sizeL, En.size_t]
theorem weightL_succ {es : List En} {i : Nat} (h : i < es.length) : weightL (es.take (i + 1)) = weightL (es.take i) + (es[i].n.length + es[i].t.weight) := by
  rw [List.take_succ_eq_append_getElem h, weightL_app]; simp [weightL, En.weight_t]
theorem countL_le (es : List En) (i : Nat) : countL (es.take i) ≤ countL es := by
  conv => rhs; rw [← List.take_append_drop i es, countL_app]
  omega
theorem sizeL_le (es : List En) (i : Nat) : sizeL (es.take i) ≤ sizeL es := by
  conv => rhs; rw [← List.take_append_drop i es, sizeL_app]
  omega
theorem depthL_le (es : List En) (i : Nat) : depthL (es.take i) ≤ depthL es := by
  conv => rhs; rw [← List.take_append_drop i es, depthL_app]
  omega
theorem weightL_le (es : List En) (i : Nat) : weightL (es.take i) ≤ weightL es := by
  conv => rhs; rw [← List.take_append_drop i es, weightL_app]
  omega
theorem countL_len (es : List En) : es.length ≤ countL es := by
  induction es with
  | nil => simp [countL]
  | cons e r ih =>
    have : 1 ≤ e.t.count := by
      obtain ⟨n, k, d, es⟩ := e; simp only [En.t, Tr.count]; omega
    simp only [countL, List.length_cons, En.count_t]; omega
theorem Tr.count_pos (t : Tr) : 1 ≤ t.count := by obtain ⟨k, d, es⟩ := t; simp only [Tr.count]; omega
theorem Tr.depth_lt (t : Tr) : t.depth < t.count := by
  induction t using Tr.ind with
  | h k d es ih =>
    simp only [Tr.depth, Tr.count]
    suffices h : depthL es ≤ countL es by omega
    induction es with
    | nil => simp [depthL, countL]
    | cons e r ihr =>
      have h1 := ih e (by simp)
      have h2 := ihr fun x hx => ih x (by simp [hx])
      simp only [depthL, countL, En.depth_t, En.count_t]; omega
theorem Tr.count_le (t : Tr) : t.count ≤ t.weight := by
  induction t using Tr.ind with
  | h k d es ih =>
    simp only [Tr.count, Tr.weight]
    suffices h : countL es ≤ weightL es by omega
    induction es with
    | nil => simp [countL, weightL]
    | cons e r ihr =>
      have h1 := ih e (by simp)
      have h2 := ihr fun x hx => ih x (by simp [hx])
      simp only [weightL, countL, En.weight_t, En.count_t]; omega
theorem Tr.size_le (t : Tr) : t.size ≤ t.weight := by
  induction t using Tr.ind with
  | h k d es ih =>
    simp only [Tr.size, Tr.weight]
    suffices h : sizeL es ≤ weightL es by omega
    induction es with
    | nil => simp [sizeL, weightL]
    | cons e r ihr =>
      have h1 := ih e (by simp)
      have h2 := ihr fun x hx => ih x (by simp [hx])
      simp only [weightL, sizeL, En.weight_t, En.size_t]; omega
end Go.AM
namespace Go.AM
mutual
def Tr.same : Tr → Tr → Bool
  | .nd k d es, u => k == u.k && d == u.d && sameL es u.es
def sameL : List En → List En → Bool
  | [], l => l.isEmpty
  | e :: r, l => match l with
    | [] => false
    | e' :: r' => e.same e' && sameL r r'
def En.same : En → En → Bool
  | .mk n t, e' => n == e'.n && t.same e'.t
end
theorem Tr.eta (t : Tr) : Tr.nd t.k t.d t.es = t := by cases t; rfl
theorem En.eta (e : En) : En.mk e.n e.t = e := by cases e; rfl
theorem Tr.same_iff (t : Tr) : ∀ u, t.same u = true ↔ t = u := by
  induction t using Tr.ind with
  | h k d es ih =>
    intro u
    obtain ⟨k', d', es'⟩ := u
    simp only [Tr.same, Tr.k, Tr.d, Tr.es, Bool.and_eq_true, beq_iff_eq, Tr.nd.injEq, and_assoc]
    have key : ∀ (l : List En), (∀ e ∈ l, ∀ u, e.t.same u = true ↔ e.t = u) → ∀ l', sameL l l' = true ↔ l = l' := by
      intro l
      induction l with
      | nil => intro _ l'; cases l' <;> simp [sameL]
      | cons e r ihr =>
        intro hl l'
        cases l' with
        | nil => simp [sameL]
        | cons e' r' =>
          have h1 := hl e (by simp) e'.t
          have h2 := ihr (fun x hx => hl x (by simp [hx])) r'
          obtain ⟨n, t⟩ := e
          obtain ⟨n', t'⟩ := e'
          simp only [sameL, En.same, En.n, En.t, Bool.and_eq_true, beq_iff_eq, List.cons.injEq, En.mk.injEq] at h1 h2 ⊢
          rw [h1, h2]
    rw [key es ih es']
theorem sameL_iff (l l' : List En) : sameL l l' = true ↔ l = l' := by
  have := Tr.same_iff (.nd 0 [] l) (.nd 0 [] l')
  simpa [Tr.same, Tr.k, Tr.d, Tr.es] using this
theorem En.same_iff (e e' : En) : e.same e' = true ↔ e = e' := by
  obtain ⟨n, t⟩ := e
  obtain ⟨n', t'⟩ := e'
  simp only [En.same, En.n, En.t, Bool.and_eq_true, beq_iff_eq, Tr.same_iff, En.mk.injEq]
theorem En.same_eq (e e' : En) : e.same e' = (decide (e.n = e'.n) && e.t.same e'.t) := by
  rw [Bool.eq_iff_iff, En.same_iff, Bool.and_eq_true, decide_eq_true_iff, Tr.same_iff]
  constructor
  · rintro rfl; exact ⟨rfl, rfl⟩
  · rintro ⟨h1, h2⟩; rw [← En.eta e, ← En.eta e', h1, h2]
theorem Tr.same_eq (k k' : Int) (d d' : List UInt8) (es es' : List En) : (Tr.nd k d es).same (.nd k' d' es') = (decide (k = k') && decide (d = d') && sameL es es') := by
  rw [Bool.eq_iff_iff, Tr.same_iff, Bool.and_eq_true, Bool.and_eq_true, decide_eq_true_iff, decide_eq_true_iff, sameL_iff, Tr.nd.injEq, and_assoc]
theorem Tr.same_self (t : Tr) : t.same t = true := (t.same_iff t).2 rfl
theorem Tr.same_false {t u : Tr} (h : t ≠ u) : t.same u = false := by
  cases hs : t.same u with
  | false => rfl
  | true => exact absurd ((t.same_iff u).1 hs) h
end Go.AM
namespace Go.AM
mutual
def Tr.pre : Tr → Nat → List (Nat × Tr)
  | .nd k d es, n => (n, .nd k d es) :: preL es (n + 1)
def preL : List En → Nat → List (Nat × Tr)
  | [], _ => []
  | e :: r, n => e.pre n ++ preL r n
def En.pre : En → Nat → List (Nat × Tr)
  | .mk _ t, n => t.pre n
end
theorem En.pre_t (e : En) (n : Nat) : e.pre n = e.t.pre n := by cases e; unfold En.pre; rfl
theorem Tr.pre_nd (k : Int) (d : List UInt8) (es : List En) (n : Nat) : (Tr.nd k d es).pre n = (n, .nd k d es) :: preL es (n + 1) := by unfold Tr.pre; rfl
theorem preL_drop {es : List En} {i : Nat} (h : i < es.length) (n : Nat) : preL (es.drop i) n = es[i].t.pre n ++ preL (es.drop (i + 1)) n := by
  rw [List.drop_eq_getElem_cons h]
  conv => lhs; unfold preL
  rw [En.pre_t]
theorem depth_get {es : List En} {i : Nat} (h : i < es.length) : 1 + es[i].t.depth ≤ depthL es := by
  have h1 := depthL_succ h
  have h2 := depthL_le es (i + 1)
  omega
theorem Tr.pre_len (t : Tr) : ∀ n, (t.pre n).length = t.count := by
  induction t using Tr.ind with
  | h k d es ih =>
    intro n
    rw [Tr.pre_nd, List.length_cons, Tr.count, Nat.add_comm]
    congr 1
    have key : ∀ (l : List En), (∀ e ∈ l, ∀ n, (e.t.pre n).length = e.t.count) → ∀ n, (preL l n).length = countL l := by
      intro l
      induction l with
      | nil => intro _ n; simp [preL, countL]
      | cons e r ihr =>
        intro hl n
        simp only [preL, countL, List.length_append, En.pre_t, En.count_t]
        rw [hl e (by simp), ihr (fun x hx => hl x (by simp [hx]))]
    exact key es ih _
end Go.AM
namespace Go.AM
set_option linter.unusedVariables false
set_option linter.unusedSimpArgs false
def strC (l : List UInt8) : Value := .string ⟨l.toArray⟩
def StrS (m : AMem) (a : Option Addr) (cap : Nat) (ls : List (List UInt8)) : Prop := SlC m a cap 1 ls.length (ls.map strC)
theorem StrS.old {m M : AMem} {a : Option Addr} {cap : Nat} {ls : List (List UInt8)} (h : StrS m a cap ls) (ho : Old m M) : StrS M a cap ls := SlC.old h ho
theorem StrS.nil (m : AMem) : StrS m none 0 [] := .inl ⟨rfl, rfl, rfl, rfl⟩
theorem StrS.get {m : AMem} {a : Option Addr} {cap : Nat} {ls : List (List UInt8)} (h : StrS m a cap ls) {i : Nat} (hi : i < ls.length) : ∃ b o, a = some ⟨b, o, none⟩ ∧ b < m.size ∧ rdO (m.get b) (o + i) 1 = some [.string ⟨ls[i].toArray⟩] := by
  rcases h with ⟨_, _, hn, _⟩ | ⟨b, o, Y, e, w, sp, rfl, hb, hm, hc, _⟩
  · omega
  · refine ⟨b, o, rfl, hb, ?_⟩
    rw [hm]
    refine cutL_cutL hc ?_
    rw [cutL_one]; simp [hi, strC]
theorem StrS.whole {m : AMem} {b : Nat} {ls : List (List UInt8)} {e : TypeId} {w : Bool} {z : Value} (hb : b < m.size) (h : m.get b = .cells (ls.map strC) e w (.room [z])) : StrS m (some ⟨b, 0, none⟩) openCap ls :=
  .inr ⟨b, 0, _, _, _, _, rfl, hb, h, by rw [Nat.mul_one, ← List.length_map (f := strC)]; exact cutL_all rfl, .inl ⟨rfl, rfl⟩⟩
theorem SlC.take {m : AMem} {a : Option Addr} {cap sz n : Nat} {X : List Value} (h : SlC m a cap sz n X) (hn : n < openCap) (hs : 0 < sz) {k : Nat} (hk : k ≤ n) :
    ∃ cap', slVv sz (.slice a n cap) none (some (.int .i64 (k : Int))) none m = some (.slice a k cap', m) ∧ SlC m a cap' sz k (X.take (k * sz)) := by
  have hc : ∀ C : Nat, n ≤ C → cutV n C none (some (.int .i64 (k : Int))) none = some (0, k, C) := fun C h => by
    simp only [cutV]; rw [if_pos (by omega)]; simp
  rcases h with ⟨rfl, rfl, rfl, rfl⟩ | ⟨b, o, Y, e, w, sp, rfl, hb, hm, hcut, h5⟩
  · obtain rfl : k = 0 := by omega
    refine ⟨0, ?_, .inl ⟨rfl, rfl, rfl, by simp⟩⟩
    simp only [slVv, if_neg (Nat.ne_of_lt zeroCap_lt)]
    rw [hc 0 (Nat.le_refl _)]
  · have hle := cutL_le hcut
    have hkk : k * sz ≤ n * sz := Nat.mul_le_mul_right sz hk
    have hcut2 := cutL_take hcut hkk
    rcases h5 with ⟨rfl, hsp⟩ | ⟨hlt, hle2⟩
    · have hdiv : n ≤ (Y.length - o) / sz := (Nat.le_div_iff_mul_le hs).2 (by omega)
      refine ⟨openCap, ?_, .inr ⟨b, o, Y, e, w, sp, rfl, hb, hm, hcut2, .inl ⟨rfl, hsp⟩⟩⟩
      simp only [slVv, if_true, hm]
      rw [if_pos ⟨hsp, hdiv⟩, hc _ hdiv]
      simp
    · have hne : ¬ cap = openCap := Nat.ne_of_lt hlt
      refine ⟨cap, ?_, .inr ⟨b, o, Y, e, w, sp, rfl, hb, hm, hcut2, .inr ⟨hlt, by omega⟩⟩⟩
      simp only [slVv, if_neg hne]
      rw [hc _ hle2]
      simp
theorem SlC.drop {m : AMem} {a : Option Addr} {cap sz n : Nat} {X : List Value} (h : SlC m a cap sz n X) (hn : n < openCap) (hs : 0 < sz) {k : Nat} (hk : k ≤ n) :
    ∃ a' cap', slVv sz (.slice a n cap) (some (.int .i64 (k : Int))) none none m = some (.slice a' (n - k) cap', m) ∧ SlC m a' cap' sz (n - k) (X.drop (k * sz)) := by
  have hc : ∀ C : Nat, n ≤ C → cutV n C (some (.int .i64 (k : Int))) none none = some (k, n, C) := fun C h => by
    simp only [cutV]; rw [if_pos (by omega)]; simp
  rcases h with ⟨rfl, rfl, rfl, rfl⟩ | ⟨b, o, Y, e, w, sp, rfl, hb, hm, hcut, h5⟩
  · obtain rfl : k = 0 := by omega
    refine ⟨none, 0, ?_, .inl ⟨rfl, rfl, rfl, by simp⟩⟩
    simp only [slVv, if_neg (Nat.ne_of_lt zeroCap_lt)]
    rw [hc 0 (Nat.le_refl _)]
  · have hle := cutL_le hcut
    have hkk : k * sz ≤ n * sz := Nat.mul_le_mul_right sz hk
    have hsub : (n - k) * sz = n * sz - k * sz := Nat.sub_mul n k sz
    have hcut2 := cutL_drop hcut hkk
    rcases h5 with ⟨rfl, hsp⟩ | ⟨hlt, hle2⟩
    · have hdiv : n ≤ (Y.length - o) / sz := (Nat.le_div_iff_mul_le hs).2 (by omega)
      refine ⟨some ⟨b, o + k * sz, none⟩, openCap, ?_, .inr ⟨b, o + k * sz, Y, e, w, sp, rfl, hb, hm, by rw [hsub]; exact hcut2, .inl ⟨rfl, hsp⟩⟩⟩
      simp only [slVv, if_true, hm]
      rw [if_pos ⟨hsp, hdiv⟩, hc _ hdiv]
    · have hne : ¬ cap = openCap := Nat.ne_of_lt hlt
      by_cases hkc : cap = k
      · refine ⟨some ⟨b, o, none⟩, cap - k, ?_, .inr ⟨b, o, Y, e, w, sp, rfl, hb, hm, ?_, .inr ⟨by omega, by omega⟩⟩⟩
        · simp only [slVv, if_neg hne]
          rw [hc _ hle2]
          simp [hkc]
        · have hnk : n = k := by omega
          subst hnk
          rw [Nat.sub_self, Nat.zero_mul, cutL_zero (by omega), List.drop_of_length_le (by rw [cutL_len hcut]; exact Nat.le_refl _)]
      · refine ⟨some ⟨b, o + k * sz, none⟩, cap - k, ?_, .inr ⟨b, o + k * sz, Y, e, w, sp, rfl, hb, hm, by rw [hsub]; exact hcut2, .inr ⟨by omega, by omega⟩⟩⟩
        simp only [slVv, if_neg hne]
        rw [hc _ hle2]
        simp [hkc]
theorem StrS.take {m : AMem} {a : Option Addr} {cap : Nat} {ls : List (List UInt8)} (h : StrS m a cap ls) (hn : ls.length < openCap) {k : Nat} (hk : k ≤ ls.length) :
    ∃ cap', slVv 1 (.slice a ls.length cap) none (some (.int .i64 (k : Int))) none m = some (.slice a (ls.take k).length cap', m) ∧ StrS m a cap' (ls.take k) := by
  have hl : (ls.take k).length = k := by rw [List.length_take]; omega
  obtain ⟨cap', h1, h2⟩ := SlC.take h hn (by omega) hk
  refine ⟨cap', by rw [hl]; exact h1, ?_⟩
  unfold StrS
  rw [hl, List.map_take]
  simpa using h2
theorem StrS.drop {m : AMem} {a : Option Addr} {cap : Nat} {ls : List (List UInt8)} (h : StrS m a cap ls) (hn : ls.length < openCap) {k : Nat} (hk : k ≤ ls.length) :
    ∃ a' cap', slVv 1 (.slice a ls.length cap) (some (.int .i64 (k : Int))) none none m = some (.slice a' (ls.drop k).length cap', m) ∧ StrS m a' cap' (ls.drop k) := by
  have hl : (ls.drop k).length = ls.length - k := by rw [List.length_drop]
  obtain ⟨a', cap', h1, h2⟩ := SlC.drop h hn (by omega) hk
  refine ⟨a', cap', by rw [hl]; exact h1, ?_⟩
  unfold StrS
  rw [hl, List.map_drop]
  simpa using h2
theorem SlE.len_lt {n : Nat} (h : n ≤ 1000000000) : n < openCap := openCap_lt (by omega)
theorem SlE.take {m : AMem} {a : Option Addr} {cap : Nat} {es : List En} (h : SlE m a cap es) (hn : es.length < openCap) {k : Nat} (hk : k ≤ es.length) :
    ∃ cap', slVv 4 (.slice a es.length cap) none (some (.int .i64 (k : Int))) none m = some (.slice a (es.take k).length cap', m) ∧ SlE m a cap' (es.take k) := by
  obtain ⟨X, q1, q2⟩ := h
  have hl : (es.take k).length = k := by rw [List.length_take]; omega
  obtain ⟨cap', h1, h2⟩ := SlC.take q1 hn (by omega) hk
  exact ⟨cap', by rw [hl]; exact h1, _, by rw [hl]; exact h2, q2.take k⟩
theorem SlE.drop {m : AMem} {a : Option Addr} {cap : Nat} {es : List En} (h : SlE m a cap es) (hn : es.length < openCap) {k : Nat} (hk : k ≤ es.length) :
    ∃ a' cap', slVv 4 (.slice a es.length cap) (some (.int .i64 (k : Int))) none none m = some (.slice a' (es.drop k).length cap', m) ∧ SlE m a' cap' (es.drop k) := by
  obtain ⟨X, q1, q2⟩ := h
  have hl : (es.drop k).length = es.length - k := by rw [List.length_drop]
  obtain ⟨a', cap', h1, h2⟩ := SlC.drop q1 hn (by omega) hk
  exact ⟨a', cap', by rw [hl]; exact h1, _, by rw [hl]; exact h2, q2.drop k⟩
end Go.AM
namespace Go.AM
theorem Buf.strs {m M : AMem} {v : Value} {ls : List (List UInt8)} {e : TypeId} {z : Value} (h : Buf m M v (ls.map strC) e z) : ∃ a cap, v = .slice a ls.length cap ∧ StrS M a cap ls := by
  rcases h with ⟨h, rfl⟩ | ⟨b, h1, h2, rfl, h4⟩
  · obtain rfl : ls = [] := by simpa using h
    exact ⟨none, 0, rfl, StrS.nil M⟩
  · exact ⟨_, _, by rw [List.length_map], StrS.whole h2 h4⟩
theorem Buf.strs2 {m M : AMem} {v : Value} {ls : List (List UInt8)} {e : TypeId} {z : Value} (h : Buf m M v (ls.map strC) e z) : ∃ a cap, v = .slice a ls.length cap ∧ StrS M a cap ls ∧ ∀ b o, a = some ⟨b, o, none⟩ → m.size ≤ b := by
  rcases h with ⟨h, rfl⟩ | ⟨b, h1, h2, rfl, h4⟩
  · obtain rfl : ls = [] := by simpa using h
    exact ⟨none, 0, rfl, StrS.nil M, fun _ _ h => by cases h⟩
  · exact ⟨_, _, by rw [List.length_map], StrS.whole h2 h4, fun _ _ h => by cases h; exact h1⟩
def spl : List UInt8 → List (List UInt8)
  | [] => [[]]
  | c :: r => if c = 47 then [] :: spl r else match spl r with
    | h :: t => (c :: h) :: t
    | [] => [[c]]
end Go.AM
namespace Go.AM
set_option linter.unusedVariables false
set_option linter.unusedSimpArgs false
section
variable {P : Program} {G : Nat}
theorem AYield.nil {l : Nat} {args : List Value} {m : AMem} {objs : List AObj} {Q : AEnd → AMem → Prop} (h : AYield P G l args (mx (mx m objs) []) Q) : AYield P G l args (mx m objs) Q := by
  rwa [mx_mx, List.append_nil] at h
structure YieldT (P : Program) (G l : Nat) (m0 : AMem) (O : Nat → Prop) (b0 : Nat) (J : List (Nat × Tr) → AMem → Prop) (X : AMem → Prop) (E : List PanicEntry → AMem → Prop) : Prop where
  jst : ∀ L M M', J L M → Old M M' → J L M'
  xst : ∀ M M', X M → Old M M' → X M'
  est : ∀ c M M', E c M → Old M M' → E c M'
  mem : ∀ L M, J L M → Old m0 M
  off : ∀ x, O x → x < b0
  call : ∀ d s r M c, J ((d, s) :: r) M → TrC m0 s c → AYield P G l [.int .i64 (d : Nat), .agg c.toArray] (mx M []) fun r' M' =>
    Keep O (mx M []) M' ∧ ((r' = .ret (.bool true) ∧ J r M') ∨ (r' = .ret (.bool false) ∧ X M') ∨ ∃ c, r' = .pan c ∧ E c M')
def IterN (P : Program) (G : Nat) (gf : FuncId) (captured : List Value) (m0 : AMem) (t : Tr) (I : AMem → Prop) : Prop :=
  ∀ (l : Nat) (O : Nat → Prop) (b0 : Nat) (J : List (Nat × Tr) → AMem → Prop) (X : AMem → Prop) (E : List PanicEntry → AMem → Prop) (M : AMem), YieldT P G l m0 O b0 J X E → I M → b0 ≤ M.size → J (t.pre 0) M →
    ACall P G gf ([.func (.yield l) #[] #[]] ++ captured) (mx M []) fun r' M' => Keep O (mx M []) M' ∧ ((∃ v, r' = .ret v ∧ (J [] M' ∨ X M')) ∨ ∃ c, r' = .pan c ∧ E c M')
theorem W_rangeN {f : AOpd} {ps : List Nat} {a b : ACode} {Q : AExit → ASt → Prop} {t : Tmps} {m : AMem} {objs : List AObj} {ds : List Deferred} {gf : FuncId} {captured : Array Value} {m0 : AMem} {tr : Tr} {I : AMem → Prop}
    (hf : f.ev t = .func (.func gf) #[] captured) (hfn : ∃ fn c, P.funcs[gf]? = some fn ∧ (fn.name == "runtime.NumGoroutine") = false ∧ fn.body = some c) (hps : ps.length = 2)
    (hI : IterN P G gf captured.toList m0 tr I) (J : Loop → List (Nat × Tr) → AMem → Prop) (E : Loop → List PanicEntry → AMem → Prop) (O : Nat → Prop) (D l : Nat) (hD : (mx m objs).size = D) (hl : l = D + 1)
    (jst : ∀ rec L M M', J rec L M → Old M M' → J rec L M') (est : ∀ rec c M M', E rec c M → Old M M' → E rec c M') (mem : ∀ rec L M, J rec L M → Old m0 M) (hO : ∀ x, O x → x ≤ l)
    (hloop : ∀ rec L M, J rec L M → l < M.size ∧ M.get l = .loop .ready none t rec)
    (h0 : ∀ rec, J rec (tr.pre 0) (mx m (objs ++ [.defd, .loop .ready none t rec])) ∧ I (mx m (objs ++ [.defd, .loop .ready none t rec])))
    (hround : ∀ rec d s r M c, J rec ((d, s) :: r) M → TrC m0 s c → W P G a (AssignK l t rec fun s' => W P G b (RoundK l t rec fun r' M' => Keep O (mx M []) M' ∧ ((r' = .ret (.bool true) ∧ J rec r M') ∨ ∃ c, r' = .pan c ∧ E rec c M')) s')
      ⟨roundT t ps [.int .i64 (d : Nat), .agg c.toArray], mx M [], []⟩)
    (hdone : ∀ rec M, J rec [] M → Q .normal ⟨t, mx (M.set l .dead) [], ⟨.collected D, #[]⟩ :: ds⟩)
    (hpan : ∀ rec c M, E rec c M → Q (.pan c) ⟨t, mx M [], ⟨.collected D, #[]⟩ :: ds⟩) : W P G (.rangeF f ps a b) Q ⟨t, mx m objs, ds⟩ := by
  subst hl
  simp only [W, hf]
  refine ⟨hfn, fun rec hy => ?_⟩
  rw [hD] at hy ⊢
  have e : ((mx m objs).push .defd).push (.loop .ready none t rec) = mx (mx m (objs ++ [.defd, .loop .ready none t rec])) [] := by
    rw [mx_push, mx_push, mx_mx, List.append_nil, List.append_assoc]; rfl
  have hsz : D + 2 ≤ (mx m (objs ++ [.defd, .loop .ready none t rec])).size := by
    rw [← hD, mx_size, mx_size, List.length_append]; simp; omega
  rw [e]
  have key := hI (D + 1) O (D + 2) (J rec) (fun _ => False) (E rec) (mx m (objs ++ [.defd, .loop .ready none t rec])) ⟨jst rec, fun _ _ h _ => h, est rec, mem rec, fun x hx => by have := hO x hx; omega, fun d s r M c hj hc => by
    have hg := hloop rec _ M hj
    refine (hy [.int .i64 (d : Nat), .agg c.toArray] (mx M []) _ (by rw [hps]; rfl) (by rw [mx_old hg.1]; exact hg.2) (hround rec d s r M c hj hc)).mono ?_
    rintro r' M' ⟨h1, h2⟩
    rcases h2 with h2 | h2
    · exact ⟨h1, .inl h2⟩
    · exact ⟨h1, .inr (.inr h2)⟩⟩ (h0 rec).2 hsz (h0 rec).1
  refine (ACall.norm key).mono ?_
  rintro r m' ⟨M, rfl, hk, h⟩
  rcases h with ⟨v, rfl, hj | hj⟩ | ⟨c, rfl, hj⟩
  · have hg := hloop rec _ M hj
    refine ⟨.ready, none, by rw [mx_old hg.1]; exact hg.2, by simp, ?_⟩
    have := hdone rec M hj
    rw [← mx_set_old hg.1] at this
    exact this
  · exact hj.elim
  · exact hpan rec c M hj
end
end Go.AM
namespace Go.AM
set_option linter.unusedVariables false

section
variable {P : Program} {G : Nat}

def AMem.none (G : Nat) : AMem := ⟨G, fun _ => .dead⟩

theorem Rep.none (G : Nat) (w : World) : Rep G (.none G) (fun b => if b < G then some ⟨b, 0, 0, 1⟩ else Option.none) w where
  dom := fun b L h => by
    by_cases hb : b < G
    · exact hb
    · rw [if_neg hb] at h; cases h
  obj := fun b L h => trivial
  sep := fun b b' L L' h h' hne ha => by simp [AMem.none, AObj.alive] at ha
  glob := fun g hg => ⟨⟨g, 0, 0, 1⟩, by simp [hg], rfl, rfl⟩

theorem run_enter {f : FuncId} {fn : Func} {c : Code} (hf : P.funcs[f]? = some fn) (hname : (fn.name == "runtime.NumGoroutine") = false) (hb : fn.body = some c) (args : Array Value) (w : World) :
    (callFunc f args).run P w = .ok (.enter f args) w := by
  have h1 : fn.name ≠ "runtime.NumGoroutine" := by simpa using hname
  simp [callFunc, hf, h1, hb]

end
end Go.AM
namespace Go.AM
set_option linter.unusedVariables false

section
variable {P : Program} {G : Nat}

theorem calls_of_ACall_mem {f : FuncId} {fn : Func} {c : Code} (hf : P.funcs[f]? = some fn) (hname : (fn.name == "runtime.NumGoroutine") = false) (hb : fn.body = some c) {args : List Value} {args' : Array Value} {m : AMem} {ρ : Ren} {w : World}
    (hR : Rep G m ρ w) (hL : LRel ρ args args'.toList) (hw : ∀ b, (m.get b).wrt = false)
    (h : ACall P G f args m fun r _ => r = .ret (.bool true)) : Calls P f args' w fun e w' => e = .returned (.bool true) ∧ RowKit.Below w.heap.size w w' := by
  have := h _ w args' hR hL
  rw [run_enter hf hname hb args' w] at this
  refine this.mono fun e w' hh => ?_
  obtain ⟨ρ', m', r, rfl, h2, h3, h4⟩ := hh
  cases h2 with
  | ret hv =>
    cases hv
    refine ⟨rfl, h4.os, h4.tape, h4.output, h4.size, fun k hk => h4.keep k hk ?_⟩
    rintro ⟨b, L, _, hwr, _⟩
    rw [hw b] at hwr; cases hwr

def memOf (os : List (AObj × Loc)) : AMem := ⟨os.length, fun b => match os[b]? with | some x => x.1 | none => .dead⟩
def renOf (os : List (AObj × Loc)) : Ren := fun b => os[b]?.map (·.2)
theorem Rep.of {w : World} (os : List (AObj × Loc)) (hG : ∀ g, g < G → ∃ x, os[g]? = some x ∧ x.2.cb = g ∧ x.2.co = 0)
    (ho : ∀ x ∈ os, ObjRel (renOf os) x.1 x.2 w) (hw : ∀ x ∈ os, x.1.wrt = false) : Rep G (memOf os) (renOf os) w where
  dom := fun b L hb => by
    simp only [renOf, Option.map_eq_some_iff] at hb
    obtain ⟨x, hx, _⟩ := hb
    exact (List.getElem?_eq_some_iff.1 hx).1
  obj := fun b L hb => by
    simp only [renOf, Option.map_eq_some_iff] at hb
    obtain ⟨x, hx, rfl⟩ := hb
    simp only [memOf, hx]
    exact ho x (List.mem_of_getElem? hx)
  sep := fun b b' L L' hb hb' hne h1 h2 h3 => by
    simp only [renOf, Option.map_eq_some_iff] at hb
    obtain ⟨x, hx, rfl⟩ := hb
    simp only [memOf, hx, hw x (List.mem_of_getElem? hx)] at h3
    cases h3
  glob := fun g hg => by
    obtain ⟨x, hx, h1, h2⟩ := hG g hg
    exact ⟨x.2, by simp only [renOf, hx, Option.map_some], h1, h2⟩
theorem memOf_wrt {os : List (AObj × Loc)} (hw : ∀ x ∈ os, x.1.wrt = false) (b : Nat) : ((memOf os).get b).wrt = false := by
  simp only [memOf]
  split
  · rename_i x hx; exact hw x (List.mem_of_getElem? hx)
  · rfl

theorem ObjRel.plain {w : World} {ρ : Ren} {c : List Value} {e : TypeId} {b o : Nat} {carr : Array Value} {frz : Nat × Nat} (h : w.heap[b]? = some (.cells carr e frz)) (hl : o + c.length ≤ carr.size)
    (hc : ∀ j (h : j < c.length), carr.getD (o + j) undef = c[j]) (hp : ∀ v ∈ c, Plain v) (sz : Nat) (hsz : 0 < sz) : ObjRel ρ (.cells c e false (.full sz)) ⟨b, o, c.length, sz⟩ w :=
  ⟨carr, frz, h, hl, Nat.le_refl _, (fun h => by cases h), (fun k h => by cases h; exact ⟨rfl, rfl, hsz⟩), (fun j hj => by rw [hc j hj]; exact hp _ (List.getElem_mem hj) ρ), (fun z h => by cases h), fun h => by cases h⟩

end
end Go.AM
namespace Go.AM
set_option linter.unusedVariables false

theorem LRel.nil' (ρ : Ren) : LRel ρ [] [] := ⟨rfl, fun i h => absurd h (Nat.not_lt_zero i)⟩
end Go.AM
