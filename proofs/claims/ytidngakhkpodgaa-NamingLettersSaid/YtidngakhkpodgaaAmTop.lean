/-
  From a function's contract on the abstract machine to what it does in any world.
-/
import Derived.Test.YtidngakhkpodgaaAmCall
import Derived.Below
import Derived.WalkKit
import Derived.ProofKit
import Derived.OpenShut
set_option linter.unusedVariables false
set_option linter.unusedSimpArgs false
set_option linter.unnecessarySimpa false
namespace Go.AM
set_option linter.unusedVariables false

section
variable {P : Program} {G : Nat}

/-- Memory of which nothing is known. -/
def AMem.none (G : Nat) : AMem := ⟨G, fun _ => .dead⟩

theorem Rep.none (G : Nat) (w : World) : Rep G (.none G) (fun b => if b < G then some ⟨b, 0, 0, 1⟩ else Option.none) w where
  dom := fun b L h => by
    by_cases hb : b < G
    · exact hb
    · rw [if_neg hb] at h; cases h
  obj := fun b L h => trivial
  sep := fun b b' L L' h h' hne ha => by simp [AMem.none, AObj.alive] at ha
  glob := fun g hg => ⟨⟨g, 0, 0, 1⟩, by simp [hg], rfl, rfl⟩

theorem run_enter {f : FuncId} {fn : Func} {c : Code} (hf : P.funcs[f]? = some fn) (hname : (fn.name == "runtime.NumGoroutine") = false) (hb : fn.body = some c) (args : Array Value) (w : World) :
    (callFunc f args).run P w = .ok (.enter f args) w := by
  have h1 : fn.name ≠ "runtime.NumGoroutine" := by simpa using hname
  simp [callFunc, hf, h1, hb]

/-- A law of values that lead nowhere. -/
theorem calls_of_ACall {f : FuncId} {fn : Func} {c : Code} (hf : P.funcs[f]? = some fn) (hname : (fn.name == "runtime.NumGoroutine") = false) (hb : fn.body = some c) {args : Array Value} (hA : ∀ v ∈ args.toList, Plain v)
    (h : ACall P G f args.toList (.none G) fun r _ => r = .ret (.bool true)) (w : World) : Calls P f args w fun e w' => e = .returned (.bool true) ∧ RowKit.Below w.heap.size w w' := by
  have := h _ w args (Rep.none G w) ⟨rfl, fun i a b => hA _ (List.getElem_mem a) _⟩
  rw [run_enter hf hname hb args w] at this
  refine this.mono fun e w' hh => ?_
  obtain ⟨ρ', m', r, rfl, h2, h3, h4⟩ := hh
  cases h2 with
  | ret hv =>
    cases hv
    refine ⟨rfl, h4.os, h4.tape, h4.output, h4.size, fun k hk => h4.keep k hk ?_⟩
    rintro ⟨b, L, _, hw, _⟩
    simp [AMem.none, AObj.wrt] at hw

theorem mapM_some_get {α β : Type} {f : α → Option β} : ∀ {l : List α} {r : List β}, l.mapM f = some r → ∀ i (h : i < l.length), ∃ y, f l[i] = some y
  | x :: l, r, h, i, hi => by
    simp only [List.mapM_cons, Option.bind_eq_bind, Option.bind_eq_some_iff] at h
    obtain ⟨y, h1, ys, h2, h3⟩ := h
    cases i with
    | zero => exact ⟨y, h1⟩
    | succ i => exact mapM_some_get h2 i (by simpa using hi)

theorem wf_u8 {n : Int} (h : (Lit.int .u8 n).wf = true) : 0 ≤ n ∧ n ≤ 255 := by
  simp [Lit.wf, IntKind.min, IntKind.max, IntKind.signed, IntKind.bits] at h
  omega

theorem trod_one {H : Type} {enc : TypeId × Value → H} {w : World} {base : Nat} {sp : Nat → Bool} {hd : Bool} {e : TypeId} {k : IntKind} {fuel : Nat} {v : Value} {y : DataW H × List MemPlace}
    (he : P.underlying e = some (.int k)) (h : DataW.trod enc P w base sp hd fuel e [v] = some y) : ∃ n, v = .int k n ∧ (Lit.int k n).wf = true := by
  cases fuel with
  | zero => simp [DataW.trod] at h
  | succ fuel =>
    cases v <;> simp [DataW.trod, he] at h
    obtain ⟨⟨rfl, h1⟩, _⟩ := h
    exact ⟨_, rfl, h1⟩

/-- An argument that is a row of bytes. -/
theorem open_byteArr {H : Type} {enc : TypeId × Value → H} {w : World} {base : Nat} {sp : Nat → Bool} {hd : Bool} {r : Reach} {b0 : Nat} {t e : TypeId} {n : Nat} {v : Value} {d : DataW H} {ps : List MemPlace}
    (ht : P.underlying t = some (.array n e)) (he : P.underlying e = some (.int .u8)) (hct : P.cellsOf t = n) (hc : P.cellsOf e = 1)
    (hval : Value.okWide P w r b0 t v) (hd' : DataW.Trod enc P w base sp hd t v d ps) : ∃ l : List UInt8, l.length = n ∧ v = .agg (l.map byteV).toArray := by
  simp only [Value.okWide, ht] at hval
  obtain ⟨cs, rfl, hcs, _⟩ := hval
  obtain ⟨fuel, hf⟩ := hd'
  cases fuel with
  | zero => simp [DataW.trod] at hf
  | succ fuel =>
    simp only [DataW.trod, ht, Value.cells] at hf
    split at hf <;> try (simp at hf; done)
    rename_i hlen
    simp only [Option.map_eq_some_iff] at hf
    obtain ⟨xs, hxs, _⟩ := hf
    have key : ∀ i (hi : i < cs.size), ∃ k : UInt8, cs[i] = byteV k := by
      intro i hi
      obtain ⟨y, hy⟩ := mapM_some_get hxs i (by simp; omega)
      simp only [List.getElem_range, hc, Nat.mul_one] at hy
      have h1 : (cs.toList.drop i).take 1 = [cs[i]] := by
        rw [List.drop_eq_getElem_cons (by simpa using hi)]
        simp
      rw [h1] at hy
      obtain ⟨k, hk, hwf⟩ := trod_one he hy
      have := wf_u8 hwf
      refine ⟨UInt8.ofNat k.toNat, ?_⟩
      rw [hk]
      simp only [byteV]
      congr 1
      have h2 : (UInt8.ofNat k.toNat).toNat = k.toNat := by simp; omega
      rw [h2]; omega
    refine ⟨(List.range cs.size).map fun i => if h : i < cs.size then Classical.choose (key i h) else 0, by simp [hcs, hct], ?_⟩
    congr 1
    apply Array.ext
    · simp
    · intro i h1 h2
      simp [h1]
      exact Classical.choose_spec (key i h1)

theorem plain_bytes (l : List UInt8) : Plain (.agg (l.map byteV).toArray) := by
  refine Plain.agg fun v hv => ?_
  simp at hv
  obtain ⟨x, _, rfl⟩ := hv
  exact Plain.int _ _

end
end Go.AM
