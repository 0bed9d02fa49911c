/-
  Append, copy and clear of the abstract machine are what the model does.
-/
import Derived.Test.YtfjgpeoblnpelaaDoorA1
import Derived.Lib.Builder
import Derived.Lib.UnsafeStr
import Derived.BigFrame
import Derived.RangeFuncRecord
import Derived.Orders
set_option linter.unusedVariables false
set_option linter.unusedSimpArgs false
set_option linter.unnecessarySimpa false
namespace Go.AM
set_option linter.unusedVariables false
set_option linter.unusedSimpArgs false

section
variable {P : Program} {G : Nat} {m : AMem} {ρ : Ren} {w : World}

theorem oneCells' {cs cs' : List Value} (hL : LRel ρ cs cs') (hone : cs.all oneCell = true) : ∀ u ∈ cs', u.oneCell' = true := fun u hu => by
  obtain ⟨i, hi, rfl⟩ := List.mem_iff_getElem.1 hu
  have := hL.2 i (by rw [hL.1]; exact hi) hi
  exact this.oneCell (List.all_eq_true.1 hone _ (List.getElem_mem _))

theorem rep_range (z : List Value) (n : Nat) (h : 0 < z.length) : ((List.range (n * z.length)).map fun j => z.getD (j % z.length) undef) = rep z n := by
  apply List.ext_getElem?
  intro j
  by_cases hj : j < n * z.length
  · have h1 := rep_get z n j hj
    have hl : j < (rep z n).length := by rw [rep_length]; exact hj
    rw [List.getD_eq_getElem?_getD, List.getElem?_eq_getElem hl] at h1
    simp [List.getElem?_eq_getElem hl, hj] at h1 ⊢
    rw [h1]
  · rw [List.getElem?_eq_none (by simpa using hj), List.getElem?_eq_none (by rw [rep_length]; omega)]

theorem grown (hR : Rep G m ρ w) {e : TypeId} {sz : Nat} {z olds olds' news news' : List Value} (hz : z.length = sz) (h0 : 0 < sz) (hpl : ∀ v ∈ z, plainB v = true) {l n cap : Nat} (hcap : l + n ≤ cap)
    (ho : LRel ρ olds olds') (hn : LRel ρ news news') (hol : olds.length = l * sz) (hnl : news.length = n * sz) :
    ∃ ρ', VRel ρ' (.slice (some ⟨m.size, 0, none⟩) (l + n) openCap) (.slice (some ⟨w.heap.size, 0, none⟩) (l + n) cap) ∧
      Rep G (m.push (.cells (olds ++ news) e true (.room z))) ρ' { w with drawn := w.drawn + 1, heap := w.heap.push (.cells ((olds' ++ news').toArray ++ (rep z (cap - (l + n))).toArray) e (0, 0)) } ∧
      Ext m ρ w (m.push (.cells (olds ++ news) e true (.room z))) ρ' { w with drawn := w.drawn + 1, heap := w.heap.push (.cells ((olds' ++ news').toArray ++ (rep z (cap - (l + n))).toArray) e (0, 0)) } := by
  have hlen : (olds ++ news).length = (l + n) * sz := by simp [hol, hnl, Nat.add_mul]
  have := hR.row e (ho.append hn) (.room z) sz (cap - (l + n)) (w.drawn + 1) (fun h => by cases h) (fun j h => by cases h) (fun z' hz' => by
    cases hz'
    exact ⟨hz, h0, by rw [hlen]; simp, fun v hv => plain_of (hpl v hv)⟩)
  simp only [Spare.z] at this
  have hr := rep_range z (cap - (l + n)) (by omega)
  rw [hz] at hr
  rw [hr] at this
  refine ⟨_, ?_, this.1, this.2.1⟩
  have h2 := VRel.sliceOpen (o := 0) (l := l + n) (c := cap) (add_self (ρ := ρ) (m := m) ⟨w.heap.size, 0, (olds ++ news).length + (cap - (l + n)) * sz, sz⟩) (by
    rw [hlen, ← Nat.add_mul]; simp; congr 1; omega) h0
  simpa using h2

theorem sound_appendTo (hR : Rep G m ρ w) {t u ty e : TypeId} {sz bytes : Nat} {z : List Value} (hu : P.underlying t = some (.slice e)) (hs : szOf P e = some sz) (hby : byOf P e = some bytes) (hb0 : 0 < bytes)
    (hz : zeroOf P e = some z) (h0 : 0 < sz) (hzl : z.length = sz) {x x' y' : Value} {n : Nat} {news news' : List Value} (hx : VRel ρ x x') (hA : AppSrc P w u sz bytes z y' n news') (hnews : LRel ρ news news')
    (hnl : news.length = n * sz) (hone : news.all oneCell = true) {v : Value} {m' : AMem} (h : appendTo e sz bytes z x n news m = some (v, m')) :
    Sound P G m ρ w (Builtin.append_ #[t, u] ty #[x', y']) v m' := by
  obtain ⟨i, zv, hi, hzv, hcells, hzs, hpl⟩ := zeroOf_spec hz
  have hone' := oneCells' hnews hone
  have hnil : n = 0 → news' = [] := fun hn => List.eq_nil_of_length_eq_zero (by rw [← hnews.1, hnl, hn]; simp)
  unfold appendTo at h
  split at h <;> try (simp at h; done)
  · -- nil
    rename_i _ l c
    split at h <;> try (simp at h; done)
    rename_i hlc
    obtain ⟨rfl, rfl⟩ := hlc
    cases hx with
    | nilSlice =>
      split at h
      · rename_i hn0
        simp at h
        obtain ⟨rfl, rfl⟩ := h
        subst hn0
        refine .pure hR (append_fit hu hs hby hz hA (base := none) (l := 0) (c := 0) (by omega) (w' := w) (fun a ha => by cases ha) (fun _ => rfl)) (.nilSlice _ _)
      · rename_i hn0
        split at h <;> simp at h
        rename_i hc
        obtain ⟨rfl, rfl⟩ := h
        obtain ⟨cap, hcap, hrun⟩ := append_grow (ty := ty) hu hs hby hb0 hz hA (base := none) (l := 0) (c := 0) (by omega) (by simpa using hc.1) (olds := []) (fun k => by simp [Builtin.firstCells])
        obtain ⟨ρ', h1, h2, h3⟩ := grown hR (e := e) hzl h0 hpl hcap (LRel.nil ρ) hnews (by simp) hnl
        simp only [Nat.zero_add, List.nil_append] at h1 h2 h3 hrun
        exact ⟨ρ', _, _, hrun, h1, h2, h3⟩
  · rename_i _ b o l c
    split at h
    · -- open
      rename_i hcap
      subst hcap
      split at h <;> try (simp at h; done)
      rename_i _ cells e' wrb sp hm
      split at h <;> try (simp at h; done)
      rename_i hsp
      -- the concrete slice
      have hcase : (∃ L c', x' = .slice (some ⟨L.cb, L.co + o, none⟩) l c' ∧ ρ b = some L ∧ c' * L.sz + o = L.cc) ∨ (∃ L a', l = 0 ∧ x' = .slice (some a') 0 0 ∧ ρ b = some L ∧ L.cc = o) := by
        cases hx with
        | slice hL hc => exact absurd rfl (Nat.ne_of_lt hc)
        | sliceOpen hL hc hsz => exact .inl ⟨_, _, rfl, hL, hc⟩
        | sliceEnd hL hc =>
          rcases hc with hc | hc
          · have : (0 : Nat) < openCap := openCap_lt (by omega)
            omega
          · exact .inr ⟨_, _, rfl, rfl, hL, hc.2⟩
      split at h
      · -- in place
        rename_i hfit
        rcases hcase with ⟨L, c', rfl, hL, hc⟩ | ⟨L, a', rfl, rfl, hL, hcc⟩
        · obtain ⟨carr, frz, hB⟩ := hR.blk hL hm
          have hLs := hB.spsize hsp h0
          have hlen := hB.len
          rw [hLs] at hc
          have hlc : l + n ≤ c' := by
            have : (l + n) * sz ≤ c' * sz := by omega
            exact Nat.le_of_mul_le_mul_right this h0
          split at h
          · rename_i hn0
            simp at h
            obtain ⟨rfl, rfl⟩ := h
            subst hn0
            have hst : ∀ a, some (⟨L.cb, L.co + o, none⟩ : Addr) = some a → (storeCells (a.add (l * sz)) news').run P w = .ok () w := fun a _ => by rw [hnil rfl]; simp [storeCells]
            exact .pure hR (append_fit hu hs hby hz hA hlc hst (fun hh => by cases hh)) (by
              have := VRel.sliceOpen (l := l) (c := c') hL (by rw [hLs]; exact hc) (by omega)
              simpa using this)
          · rename_i hn0
            split at h <;> simp at h
            rename_i hwr
            subst hwr
            obtain ⟨rfl, rfl⟩ := h
            have hwr' : AM.wr m b (o + l * sz) news = some (m.set b (.cells (splice cells (o + l * sz) news) e' true sp)) := by
              unfold AM.wr
              rw [hm]
              simp only
              rw [if_pos (by rw [hnl, Nat.add_assoc, ← Nat.add_mul]; exact hfit)]
            obtain ⟨k1, k2, k3⟩ := hR.wr hL hwr' hnews P hone'
            refine ⟨ρ, _, _, append_fit hu hs hby hz hA hlc (w' := w.setCells L.cb (L.co + (o + l * sz)) news') (fun a ha => ?_) (fun hh => by cases hh), ?_, k2, k3⟩
            · simp at ha
              subst ha
              rw [add_mk, Nat.add_assoc]
              exact k1
            · exact .sliceOpen hL (by rw [hLs]; exact hc) (by omega)
        · -- no room at the end: nothing is appended
          obtain ⟨carr, frz, hB⟩ := hR.blk hL hm
          have hlen := hB.len
          have hn0 : n = 0 := by
            rcases Nat.eq_zero_or_pos n with h' | h'
            · exact h'
            · have : 1 * sz ≤ n * sz := Nat.mul_le_mul_right _ h'
              simp at hfit
              omega
          subst hn0
          rw [if_pos rfl] at h
          simp at h
          obtain ⟨rfl, rfl⟩ := h
          have hst : ∀ a, some a' = some a → (storeCells (a.add (0 * sz)) news').run P w = .ok () w := fun a _ => by rw [hnil rfl]; simp [storeCells]
          exact .pure hR (append_fit hu hs hby hz hA (l := 0) (c := 0) (by omega) hst (fun hh => by cases hh)) (.sliceEnd hL (.inr ⟨rfl, hcc⟩))
      · rename_i hnfit
        split at h <;> try (simp at h; done)
        rename_i hc1
        obtain ⟨hl1, hl2, hl3⟩ := hc1
        have hrd : AM.rd m b o (l * sz) = some ((cells.drop o).take (l * sz)) := by
          unfold AM.rd; rw [hm]; simp only; rw [if_pos hl1]
        -- what the model has of the elder cells
        have holds : ∃ olds', LRel ρ ((cells.drop o).take (l * sz)) olds' ∧ ∃ c', x' = .slice (match x' with | .slice a _ _ => a | _ => none) l c' ∧
            ∀ k, (Builtin.firstCells sz l x').run P { w with drawn := k } = .ok olds'.toArray { w with drawn := k } := by
          rcases hcase with ⟨L, c', rfl, hL, hc⟩ | ⟨L, a', rfl, rfl, hL, hcc⟩
          · obtain ⟨olds', g1, g2, g3, g4⟩ := hR.rd hL hrd
            refine ⟨olds', g3, c', rfl, fun k => ?_⟩
            have := run_loadCells_list (P := P) { w with drawn := k } ⟨L.cb, L.co + o, none⟩ olds' (fun j v hj => g4 j v hj)
            rw [g1] at this
            simpa [Builtin.firstCells] using this
          · exact ⟨[], by simpa using LRel.nil ρ, 0, rfl, fun k => by simp [Builtin.firstCells, loadCells, loadCellsFrom]⟩
        obtain ⟨olds', ho, c0, hx0, hO⟩ := holds
        have hol : ((cells.drop o).take (l * sz)).length = l * sz := by simp; omega
        have hgrow : c0 < l + n → ∃ ρ' w' v', (Builtin.append_ #[t, u] ty #[x', y']).run P w = .ok v' w' ∧ VRel ρ' (.slice (some ⟨m.size, 0, none⟩) (l + n) openCap) v' ∧
            Rep G (m.push (.cells ((cells.drop o).take (l * sz) ++ news) e true (.room z))) ρ' w' ∧ Ext m ρ w (m.push (.cells ((cells.drop o).take (l * sz) ++ news) e true (.room z))) ρ' w' := by
          intro hlt
          rw [hx0] at hO
          obtain ⟨cap, hcap, hrun⟩ := append_grow (ty := ty) hu hs hby hb0 hz hA hlt hl2 hO
          obtain ⟨ρ', h1, h2, h3⟩ := grown hR (e := e) hzl h0 hpl hcap ho hnews hol hnl
          rw [← hx0] at hrun
          exact ⟨ρ', _, _, hrun, h1, h2, h3⟩
        split at h
        · -- room: in place, or anew: nobody knows
          rename_i _ z'
          split at h <;> simp at h
          rename_i hcond
          obtain ⟨hwr, hoz, rfl, hzz⟩ := hcond
          have := eqPL_eq hzz
          subst this
          subst hwr
          obtain ⟨rfl, rfl⟩ := h
          have hbm : ∀ L, ρ b = some L → b ≠ m.size := fun L hL => by have := hR.dom b L hL; omega
          have hanew : c0 < l + n → Sound P G m ρ w (Builtin.append_ #[t, u] ty #[x', y']) (.slice (some ⟨m.size, 0, none⟩) (l + n) openCap)
              ((m.set b .dead).push (.cells ((cells.drop o).take (l * sz) ++ news) e true (.room z'))) := by
            intro hlt
            obtain ⟨ρ', w', v', e1, e2, e3, e4⟩ := hgrow hlt
            have hLb : ∃ L, ρ b = some L := by rcases hcase with ⟨L, _, _, hL, _⟩ | ⟨L, _, _, _, hL, _⟩ <;> exact ⟨L, hL⟩
            obtain ⟨L, hL⟩ := hLb
            have hmem : (m.set b .dead).push (.cells ((cells.drop o).take (l * sz) ++ news) e true (.room z')) = (m.push (.cells ((cells.drop o).take (l * sz) ++ news) e true (.room z'))).set b .dead := by
              refine AMem.ext' rfl fun x => ?_
              simp only [AMem.get_push, AMem.get_set, AMem.size_set]
              by_cases hxb : x = b
              · subst hxb
                simp [hbm L hL]
              · simp [hxb]
            rw [hmem]
            refine ⟨ρ', w', v', e1, e2, e3.kill b, ?_⟩
            exact { e4 with img := fun i hi ⟨b1, L1, hb1, hw1, hc1⟩ => e4.img i hi ⟨b1, L1, hb1, by
              by_cases hxb : b1 = b
              · subst hxb; rw [AMem.get_set_self] at hw1; simp [AObj.wrt] at hw1
              · rwa [AMem.get_set_ne _ _ hxb] at hw1, hc1⟩ }
          rcases hcase with ⟨L, c', rfl, hL, hc⟩ | ⟨L, a', rfl, rfl, hL, hcc⟩
          · have hc0 : c' = c0 := by simpa using hx0
            subst hc0
            by_cases hlt : c' < l + n
            · exact hanew hlt
            · obtain ⟨carr, frz, hB⟩ := hR.blk hL hm
              have hLs := hB.spsize (sp := .room z') hsp h0
              have hlen := hB.len
              have hsize := hB.size
              rw [hLs] at hc
              have hfit2 : (l + n) * sz ≤ c' * sz := Nat.mul_le_mul_right _ (by omega)
              have hsum : (l + n) * sz = l * sz + n * sz := Nat.add_mul _ _ _
              have hnn := hnews.1
              obtain ⟨carr', g1, g2, g3, g4⟩ := setCells_self L.cb e frz news' (L.co + (o + l * sz)) w carr hB.heap (by omega)
              have hrest := setCells_rest L.cb news' (L.co + (o + l * sz)) w
              have hst : ∀ a, some (⟨L.cb, L.co + o, none⟩ : Addr) = some a → (storeCells (a.add (l * sz)) news').run P w = .ok () (w.setCells L.cb (L.co + (o + l * sz)) news') := by
                intro a ha
                simp at ha; subst ha
                rw [add_mk, Nat.add_assoc]
                have := run_storeCells_cells (P := P) L.cb (L.co + (o + l * sz)) news' 0 w (fun j hj => by
                  rw [cell_of_heap hB.heap]
                  simp only [Nat.add_zero]
                  rw [Array.getElem?_eq_getElem (by omega)]; rfl)
                  (fun j hj => by
                  rw [frozen_of_heap hB.heap]
                  have := (hB.free rfl).1 (o + l * sz + j) (by omega)
                  simp only [Bool.and_eq_false_iff, decide_eq_false_iff_not]
                  omega) hone'
                simpa using this
              have hrun := append_fit (ty := ty) hu hs hby hz hA (base := some ⟨L.cb, L.co + o, none⟩) (l := l) (c := c') (by omega) hst (fun hh => by cases hh)
              let L2 : Loc := ⟨L.cb, L.co + o, L.cc - o, sz⟩
              have hothers : ∀ i, i ≠ L.cb → i < w.heap.size → (w.setCells L.cb (L.co + (o + l * sz)) news').heap[i]? = w.heap[i]? := fun i hi _ => setCells_heap _ _ _ _ _ hi
              have hsep : ∀ b1 L1, ρ b1 = some L1 → ((m.set b .dead).get b1).alive = true → L1.cb ≠ L.cb := by
                intro b1 L1 hb1 hal hcb
                have hne : b1 ≠ b := fun hh => by subst hh; rw [AMem.get_set_self] at hal; simp [AObj.alive] at hal
                rw [AMem.get_set_ne _ _ hne] at hal
                exact hR.sep b b1 L L1 hL hb1 (fun hh => hne hh.symm) (by rw [hm]; rfl) hal (by rw [hm]; rfl) hcb.symm
              have hR1 : Rep G (m.set b .dead) ρ (w.setCells L.cb (L.co + (o + l * sz)) news') := (hR.kill b).world fun b1 L1 hb1 hal =>
                hothers _ (hsep b1 L1 hb1 hal) ((hR.kill b).lt hb1 hal)
              have hle : ρ.le (ρ.add m.size L2) := hR.le_add L2
              have hB2 : BlkAt (ρ.add m.size L2) ((cells.drop o).take (l * sz) ++ news) e true (.room z') L2 (w.setCells L.cb (L.co + (o + l * sz)) news') carr' frz := by
                refine ⟨g1, by simp only [L2]; omega, by simp only [L2, List.length_append, hol, hnl]; omega, (fun hh => by cases hh), (fun k hh => by cases hh), fun j hj => ?_, fun zz hzz' => ?_, fun _ => ⟨fun j hj => ?_, by rw [g2]; exact (hB.free rfl).2⟩⟩
                · simp only [List.length_append, hol, hnl] at hj
                  by_cases hjl : j < l * sz
                  · rw [List.getElem_append_left (by rw [hol]; exact hjl)]
                    have h5 := hB.cell (o + j) (by omega)
                    rw [show L2.co + j = L.co + (o + j) by simp only [L2]; omega, g3 _ (by omega)]
                    simp only [List.getElem_take, List.getElem_drop]
                    exact h5.mono hle
                  · rw [List.getElem_append_right (by rw [hol]; omega)]
                    have h5 := g4 (j - l * sz) (by omega)
                    rw [show L2.co + j = L.co + (o + l * sz) + (j - l * sz) by simp only [L2]; omega, h5]
                    simp only [hol]
                    exact (hnews.2 _ (by omega) (by omega)).mono hle
                · cases hzz'
                  obtain ⟨q1, q2, q3, q4, q5, q6⟩ := hB.spare z' rfl
                  have hccm : (L.cc - o) % sz = 0 := by rw [← hc]; simp
                  refine ⟨hzl, h0, by simp only [List.length_append, hol, hnl, ← Nat.add_mul]; simp [L2], hccm, q5, fun j hj hj' => ?_⟩
                  simp only [List.length_append, hol, hnl] at hj
                  simp only [L2] at hj'
                  rw [show L2.co + j = L.co + (o + j) by simp only [L2]; omega, g3 _ (by omega), q6 (o + j) (by omega) (by omega), hLs]
                  simp only [L2]
                  congr 1
                  obtain ⟨qq, hqq⟩ : ∃ qq, o = qq * sz := ⟨o / sz, by rw [Nat.div_mul_cancel (Nat.dvd_of_mod_eq_zero hoz)]⟩
                  rw [hqq, Nat.add_comm, Nat.add_mul_mod_self_right]
                · simp only [L2] at hj ⊢
                  have := (hB.free rfl).1 (o + j) (by omega)
                  omega
              refine ⟨ρ.add m.size L2, _, _, hrun, ?_, hR1.push (L := L2) hB2.obj (fun b1 L1 hb1 hal => hsep b1 L1 hb1 hal), ?_⟩
              · have := VRel.sliceOpen (o := 0) (l := l + n) (c := c') (add_self (ρ := ρ) (m := m) L2) (by simp only [L2]; omega) h0
                simpa [L2] using this
              · refine ⟨hle, hrest.1, hrest.2.1, hrest.2.2.1, by omega, fun i hi hn => hothers i (fun hh => hn ⟨b, L, hL, by rw [hm]; rfl, hh.symm⟩) hi, fun i hi ⟨b1, L1, hb1, hw1, hc1⟩ => ?_, fun b1 hb1 => by simp [Ren.add, show b1 ≠ m.size by omega], by simp [AMem.push, AMem.set]⟩
                by_cases hb1m : b1 = m.size
                · subst hb1m
                  rw [add_self] at hb1
                  cases hb1
                  exact ⟨b, L, hL, by rw [hm]; rfl, hc1⟩
                · simp [Ren.add, hb1m] at hb1
                  rw [AMem.get_push_ne _ _ (by rw [AMem.size_set]; exact hb1m)] at hw1
                  by_cases hbb : b1 = b
                  · subst hbb; rw [AMem.get_set_self] at hw1; simp [AObj.wrt] at hw1
                  · rw [AMem.get_set_ne _ _ hbb] at hw1
                    exact ⟨b1, L1, hb1, hw1, hc1⟩
          · have hc0 : 0 = c0 := by simpa using hx0
            subst hc0
            refine hanew ?_
            obtain ⟨carr, frz, hB⟩ := hR.blk hL hm
            have hlen := hB.len
            rcases Nat.eq_zero_or_pos n with h' | h'
            · subst h'; simp at hnfit; omega
            · omega
        · -- full: anew
          rename_i _ hnroom
          simp at h
          obtain ⟨rfl, rfl⟩ := h
          refine hgrow ?_
          cases sp with
          | exact => simp [Spare.size] at hsp; omega
          | room z' => exact absurd rfl (hnroom z')
          | full k =>
            rcases hcase with ⟨L, c', rfl, hL, hc⟩ | ⟨L, a', rfl, rfl, hL, hcc⟩
            · have hc0 : c' = c0 := by simpa using hx0
              subst hc0
              obtain ⟨carr, frz, hB⟩ := hR.blk hL hm
              have hLs := hB.spsize hsp h0
              have hf := (hB.full k rfl).1
              rw [hLs] at hc
              refine Nat.lt_of_mul_lt_mul_right (a := sz) ?_
              omega
            · have hc0 : 0 = c0 := by simpa using hx0
              subst hc0
              obtain ⟨carr, frz, hB⟩ := hR.blk hL hm
              have hlen := hB.len
              rcases Nat.eq_zero_or_pos n with h' | h'
              · subst h'; simp at hnfit; omega
              · omega
    · -- the capacity is known
      rename_i hcap
      have hcase : (∃ L, x' = .slice (some ⟨L.cb, L.co + o, none⟩) l c ∧ ρ b = some L ∧ c < openCap) ∨ (∃ L a', l = 0 ∧ c = 0 ∧ x' = .slice (some a') 0 0 ∧ ρ b = some L) := by
        cases hx with
        | slice hL hc => exact .inl ⟨_, rfl, hL, hc⟩
        | sliceOpen hL hc hsz => exact absurd rfl hcap
        | sliceEnd hL hc => exact .inr ⟨_, _, rfl, hc.resolve_right (fun hh => hcap hh.1), rfl, hL⟩
      split at h
      · rename_i hfit
        split at h
        · rename_i hn0
          simp at h
          obtain ⟨rfl, rfl⟩ := h
          subst hn0
          rcases hcase with ⟨L, rfl, hL, hc⟩ | ⟨L, a', rfl, rfl, rfl, hL⟩
          · have hst : ∀ a, some (⟨L.cb, L.co + o, none⟩ : Addr) = some a → (storeCells (a.add (l * sz)) news').run P w = .ok () w := fun a _ => by rw [hnil rfl]; simp [storeCells]
            exact .pure hR (append_fit hu hs hby hz hA hfit hst (fun hh => by cases hh)) (by simpa using VRel.slice (l := l) hL hc)
          · have hst : ∀ a, some a' = some a → (storeCells (a.add (0 * sz)) news').run P w = .ok () w := fun a _ => by rw [hnil rfl]; simp [storeCells]
            exact .pure hR (append_fit hu hs hby hz hA (l := 0) (c := 0) (by omega) hst (fun hh => by cases hh)) (.sliceEnd hL (.inl rfl))
        · rename_i hn0
          split at h <;> simp at h
          rename_i _ m1 hw1
          obtain ⟨rfl, rfl⟩ := h
          rcases hcase with ⟨L, rfl, hL, hc⟩ | ⟨L, a', rfl, rfl, rfl, hL⟩
          · obtain ⟨k1, k2, k3⟩ := hR.wr hL hw1 hnews P hone'
            refine ⟨ρ, _, _, append_fit hu hs hby hz hA hfit (w' := w.setCells L.cb (L.co + (o + l * sz)) news') (fun a ha => ?_) (fun hh => by cases hh), .slice hL hc, k2, k3⟩
            simp at ha
            subst ha
            rw [add_mk, Nat.add_assoc]
            exact k1
          · omega
      · rename_i hnfit
        split at h <;> try (simp at h; done)
        rename_i _ olds hrd
        split at h <;> simp at h
        rename_i hc2
        obtain ⟨rfl, rfl⟩ := h
        have hol : olds.length = l * sz := by
          unfold AM.rd at hrd
          split at hrd <;> try (simp at hrd; done)
          split at hrd <;> simp at hrd
          subst hrd
          simp; omega
        rcases hcase with ⟨L, rfl, hL, hc⟩ | ⟨L, a', rfl, rfl, rfl, hL⟩
        · obtain ⟨olds', g1, g2, g3, g4⟩ := hR.rd hL hrd
          obtain ⟨cap, hcap', hrun⟩ := append_grow (ty := ty) hu hs hby hb0 hz hA (base := some ⟨L.cb, L.co + o, none⟩) (l := l) (c := c) (by omega) hc2.1 (olds := olds') (fun k => by
            have := run_loadCells_list (P := P) { w with drawn := k } ⟨L.cb, L.co + o, none⟩ olds' (fun j v hj => g4 j v hj)
            rw [g1] at this
            simpa [Builtin.firstCells] using this)
          obtain ⟨ρ', h1, h2, h3⟩ := grown hR (e := e) hzl h0 hpl hcap' g3 hnews hol hnl
          exact ⟨ρ', _, _, hrun, h1, h2, h3⟩
        · have : olds = [] := List.eq_nil_of_length_eq_zero (by rw [hol]; simp)
          subst this
          obtain ⟨cap, hcap', hrun⟩ := append_grow (ty := ty) hu hs hby hb0 hz hA (base := some a') (l := 0) (c := 0) (by omega) hc2.1 (olds := []) (fun k => by simp [Builtin.firstCells, loadCells, loadCellsFrom])
          obtain ⟨ρ', h1, h2, h3⟩ := grown hR (e := e) hzl h0 hpl hcap' (LRel.nil ρ) hnews (by simp) hnl
          exact ⟨ρ', _, _, hrun, h1, h2, h3⟩

end
end Go.AM
namespace Go.AM
set_option linter.unusedVariables false
set_option linter.unusedSimpArgs false

section
variable {P : Program} {G : Nat} {m : AMem} {ρ : Ren} {w : World}

theorem srcLen_run {v v' : Value} {n : Nat} (hv : VRel ρ v v') (h : srcLen v = some n) : (Builtin.lenOf v').run P w = .ok n w := by
  unfold srcLen at h
  split at h <;> simp at h
  · subst h
    cases hv <;> simp [Builtin.lenOf]
  · subst h
    obtain rfl := hv.string_inv
    simp [Builtin.lenOf]

theorem sound_cpy (hR : Rep G m ρ w) {dT sT ty e : TypeId} {sz : Nat} (hu : P.underlying dT = some (.slice e)) (hs : szOf P e = some sz) {x y x' y' : Value} (hx : VRel ρ x x') (hy : VRel ρ y y')
    {t : Tmps} {xo yo : AOpd} (hxo : xo.ev t = x) (hyo : yo.ev t = y) {v : Value} {m' : AMem} (h : stepOp (.cpy sz xo yo) t m = some (v, m')) :
    Sound P G m ρ w (Builtin.copy_ #[dT, sT] ty #[x', y']) v m' := by
  simp only [stepOp, hxo, hyo] at h
  split at h <;> try (simp at h; done)
  rename_i _ _ a dl c n hn
  split at h <;> try (simp at h; done)
  rename_i _ cs hcs
  split at h <;> try (simp at h; done)
  rename_i hc
  have hlen := srcLen_run (P := P) (w := w) hy hn
  obtain ⟨cs', k1, k2, k3⟩ := src_run (P := P) hR hy hcs hc.1 hc.2
  have k3' := k3 w.drawn
  rw [show ({ w with drawn := w.drawn } : World) = w from rfl] at k3'
  have hmin : n.min dl = min n dl := rfl
  have run : ∀ (base : Option Addr) (c' : Nat) (w' : World), (∀ A, base = some A → (storeCells A cs').run P w = .ok () w') → (base = none → w' = w) →
      (Builtin.copy_ #[dT, sT] ty #[.slice base dl c', y']).run P w = .ok (.int .i64 (min n dl : Nat)) w' := by
    intro base c' w' h1 h2
    cases base with
    | none => simp [Builtin.copy_, run_underlying hu, hlen, szOf_spec hs, hmin, k3', h2 rfl, goInt]
    | some A => simp [Builtin.copy_, run_underlying hu, hlen, szOf_spec hs, hmin, k3', h1 A rfl, goInt]
  have hnil : min n dl = 0 → cs' = [] := fun h0 => List.eq_nil_of_length_eq_zero (by rw [← k1.1, hc.1, h0]; simp)
  split at h <;> try (simp at h; done)
  · split at h <;> simp at h
    rename_i h0
    obtain ⟨rfl, rfl⟩ := h
    cases hx
    have := run none c w (fun A hA => by cases hA) (fun _ => rfl)
    rw [h0] at this
    exact .pure hR this (.int _ _)
  · rename_i _ b o
    split at h
    · rename_i h0
      simp at h
      obtain ⟨rfl, rfl⟩ := h
      have hst : ∀ A, (storeCells A cs').run P w = .ok () w := fun A => by rw [hnil h0]; simp [storeCells]
      obtain ⟨a', c', rfl⟩ : ∃ a' c', x' = .slice (some a') dl c' := by cases hx <;> exact ⟨_, _, rfl⟩
      have := run (some a') c' w (fun A hA => hst A) (fun hh => by cases hh)
      rw [h0] at this
      exact .pure hR this (.int _ _)
    · rename_i h0
      simp at h
      obtain ⟨hw, rfl⟩ := h
      obtain ⟨L, c', rfl, hL⟩ : ∃ L c', x' = .slice (some ⟨L.cb, L.co + o, none⟩) dl c' ∧ ρ b = some L := by
        cases hx with
        | slice hL _ => exact ⟨_, _, rfl, hL⟩
        | sliceOpen hL _ _ => exact ⟨_, _, rfl, hL⟩
        | sliceEnd hL _ => simp at h0
      obtain ⟨e1, e2, e3⟩ := hR.wr hL hw k1 P k2
      exact ⟨ρ, _, _, run _ c' _ (fun A hA => by simp at hA; subst hA; exact e1) (fun hh => by cases hh), .int _ _, e2, e3⟩

theorem sound_clr (hR : Rep G m ρ w) {T ty e : TypeId} {sz : Nat} {z : List Value} (hu : P.underlying T = some (.slice e)) (hz : zeroOf P e = some z) {x x' : Value} (hx : VRel ρ x x') {t : Tmps} {xo : AOpd}
    (hxo : xo.ev t = x) {v : Value} {m' : AMem} (h : stepOp (.clr sz z xo) t m = some (v, m')) : Sound P G m ρ w (Builtin.clear_ #[T] ty #[x']) v m' := by
  obtain ⟨i, zv, hi, hzv, hcells, hzs, hpl⟩ := zeroOf_spec hz
  simp only [stepOp, hxo] at h
  split at h <;> try (simp at h; done)
  · simp at h
    obtain ⟨rfl, rfl⟩ := h
    cases hx
    exact .pure hR (v' := .tuple #[]) (by simp [Builtin.clear_, run_underlying hu]) (Plain.tuple (by simp) ρ)
  · rename_i _ b o n c
    split at h
    · rename_i h0
      subst h0
      simp at h
      obtain ⟨rfl, rfl⟩ := h
      cases hx <;> exact .pure hR (v' := .tuple #[]) (by simp [Builtin.clear_, run_underlying hu]) (Plain.tuple (by simp) ρ)
    · rename_i h0
      split at h <;> simp at h
      obtain ⟨hw, rfl⟩ := h
      obtain ⟨L, c', rfl, hL⟩ : ∃ L c', x' = .slice (some ⟨L.cb, L.co + o, none⟩) n c' ∧ ρ b = some L := by
        cases hx with
        | slice hL _ => exact ⟨_, _, rfl, hL⟩
        | sliceOpen hL _ _ => exact ⟨_, _, rfl, hL⟩
        | sliceEnd hL _ => simp at h0
      have hp : ∀ v ∈ rep z n, plainB v = true := fun v hv => hpl v (rep_mem hv)
      obtain ⟨e1, e2, e3⟩ := hR.wr hL hw (LRel.plain fun v hv => plain_of (hp v hv)) P (fun u hu => by
        have := oneCell_of (hp u hu)
        have h2 := (plain_of (hp u hu) ρ).oneCell this
        exact h2)
      refine ⟨ρ, _, .tuple #[], ?_, Plain.tuple (by simp) ρ, e2, e3⟩
      simp [Builtin.clear_, run_underlying hu, h0, zero_run hi hzv, hcells, zeroCells_rep, e1]

theorem compOpds_map {t : Tmps} {a : Act} (hev : ∀ x y, compOpd G x = some y → VRel ρ (y.ev t) (a.eval x)) : ∀ (xs : List Operand) (ys : List AOpd), compOpds G xs = some ys →
    LRel ρ (ys.map (·.ev t)) (xs.map a.eval)
  | [], ys, h => by simp [compOpds] at h; subst h; exact LRel.nil ρ
  | x :: r, ys, h => by
    simp only [compOpds] at h
    split at h <;> simp at h
    rename_i y b h1 h2
    subst h
    exact LRel.cons (hev x y h1) (compOpds_map hev r b h2)

end
end Go.AM
namespace Go.AM
set_option linter.unusedVariables false
set_option linter.unusedSimpArgs false

section
variable {P : Program} {G : Nat} {m : AMem} {ρ : Ren} {w : World}

theorem szOf_info {e : TypeId} {k : Nat} (h : szOf P e = some k) : ∃ j, P.info? e = some j ∧ j.size = k := by
  unfold szOf at h
  simp only [Option.map_eq_some_iff] at h
  obtain ⟨j, h1, h2⟩ := h
  exact ⟨j, h1, h2⟩

theorem sound_toU (hR : Rep G m ρ w) {s d e : TypeId} (hs : P.underlying s = some (.pointer e)) (hd : P.underlying d = some .unsafePointer) {k : Nat} (hk : szOf P e = some (k + 1)) {x x' : Value} (hx : VRel ρ x x')
    {t : Tmps} {xo : AOpd} (hxo : xo.ev t = x) {v : Value} {m' : AMem} (h : stepOp (.toU xo) t m = some (v, m')) : m' = m ∧ Sound P G m ρ w (convert s d x') v m := by
  simp only [stepOp, hxo] at h
  obtain ⟨j, hj1, hj2⟩ := szOf_info hk
  split at h <;> try (simp at h; done)
  · simp at h
    obtain ⟨rfl, rfl⟩ := h
    cases hx
    exact ⟨rfl, .pure hR (v' := .pointer none) (by simp [convert, run_underlying hs, run_underlying hd, Conv.unsafePointer]) .nilPtr⟩
  · rename_i _ b o
    split at h <;> try (simp at h; done)
    rename_i _ c e' wb sp hm
    split at h <;> simp at h
    rename_i ho
    obtain ⟨rfl, rfl⟩ := h
    refine ⟨rfl, ?_⟩
    cases hx with
    | ptr hL =>
      rename_i L
      obtain ⟨carr, frz, hB⟩ := hR.blk hL hm
      have h1 := hB.size
      have h2 := hB.len
      refine .pure hR (v' := .pointer (some ⟨L.cb, L.co + o, none⟩)) ?_ (.ptr hL)
      exact Lib.run_to_unsafe w ⟨L.cb, L.co + o, none⟩ hs hd hj1 (by omega) (e := e') (cells := carr.size) (by simp [World.shape?, hB.heap]) (by simp only; omega)

theorem liesAt_own {e : TypeId} {s : Nat} (hs : P.cellsOf e = s) (h0 : 0 < s) (count n i : Nat) (hn : i + n ≤ count) : liesAt P P.depth e count (i * s) e n = true := by
  have hd : P.depth = (2 * (P.types.size + Made.depth) + 1) + 1 := rfl
  rw [hd]
  simp only [liesAt, Bool.or_eq_true]
  left
  rw [hd]
  have h1 : s ≠ 0 := by omega
  simp [rowAt, hs, h1, Nat.mul_div_cancel _ h0, hn, sameLayout]

theorem sound_frU (hR : Rep G m ρ w) {s d u : TypeId} (hs : P.underlying s = some .unsafePointer) (hd : P.underlying d = some (.pointer u)) {k : Nat} (hk : szOf P u = some (k + 1)) {x x' : Value} (hx : VRel ρ x x')
    {t : Tmps} {xo : AOpd} (hxo : xo.ev t = x) {v : Value} {m' : AMem} (h : stepOp (.frU u (k + 1) xo) t m = some (v, m')) : m' = m ∧ Sound P G m ρ w (convert s d x') v m := by
  simp only [stepOp, hxo] at h
  obtain ⟨j, hj1, hj2⟩ := szOf_info hk
  split at h <;> try (simp at h; done)
  · simp at h
    obtain ⟨rfl, rfl⟩ := h
    cases hx
    exact ⟨rfl, .pure hR (v' := .pointer none) (by simp [convert, run_underlying hs, run_underlying hd, Conv.unsafePointer]) .nilPtr⟩
  · rename_i _ b o
    split at h <;> try (simp at h; done)
    rename_i _ c e' wb hm
    split at h <;> simp at h
    rename_i ho
    obtain ⟨rfl, rfl⟩ := h
    obtain ⟨rfl, rfl, hlen⟩ := ho
    refine ⟨rfl, ?_⟩
    cases hx with
    | ptr hL =>
      rename_i L
      obtain ⟨carr, frz, hB⟩ := hR.blk hL hm
      obtain ⟨h1, h2, h3⟩ := hB.exact rfl
      refine .pure hR (v' := .pointer (some ⟨L.cb, L.co + 0, none⟩)) ?_ (.ptr hL)
      have hc : P.cellsOf e' = k + 1 := by simp [Program.cellsOf, hj1, hj2]
      refine Lib.run_from_unsafe w ⟨L.cb, L.co + 0, none⟩ hs hd hj1 (e := e') (cells := carr.size) (by simp [World.shape?, hB.heap]) ?_
      have := liesAt_own (P := P) hc (by omega) (carr.size / P.cellsOf e') 1 0 (by
        rw [hc, Nat.zero_add]
        exact (Nat.one_le_div_iff (by omega)).2 (by omega))
      simpa [h2] using this

theorem sound_sdat (hR : Rep G m ρ w) {tys : Array TypeId} {ty : TypeId} {x x' : Value} (hx : VRel ρ x x')
    {t : Tmps} {xo : AOpd} (hxo : xo.ev t = x) {v : Value} {m' : AMem} (h : stepOp (.sdat xo) t m = some (v, m')) : m' = m ∧ ∃ v', VRel ρ v v' ∧ ∀ (W : World), (Builtin.unsafeSliceData_ tys ty #[x']).run P W = .ok v' W := by
  simp only [stepOp, hxo] at h
  split at h <;> try (simp at h; done)
  · simp at h
    obtain ⟨rfl, rfl⟩ := h
    cases hx
    exact ⟨rfl, .pointer none, .nilPtr, fun W => rfl⟩
  · rename_i _ b o l c
    split at h <;> try (simp at h; done)
    rename_i h0
    split at h
    · rename_i hc
      split at h <;> try (simp at h; done)
      rename_i _ cells e' wb sp hm
      split at h <;> simp at h
      rename_i ho
      obtain ⟨rfl, rfl⟩ := h
      refine ⟨rfl, ?_⟩
      cases hx with
      | slice hL hcc => exact absurd hc (Nat.ne_of_lt hcc)
      | sliceOpen hL hcc hsz =>
        rename_i c' L
        obtain ⟨carr, frz, hB⟩ := hR.blk hL hm
        have h2 := hB.len
        have hc0 : c' ≠ 0 := by rintro rfl; omega
        exact ⟨_, .ptr hL, fun W => Lib.run_unsafeSliceData_row W tys ty _ _ _ hc0⟩
      | sliceEnd hL hc => exact absurd rfl h0
    · rename_i hc
      split at h <;> simp at h
      rename_i hpos
      obtain ⟨rfl, rfl⟩ := h
      refine ⟨rfl, ?_⟩
      cases hx with
      | slice hL hcc => exact ⟨_, .ptr hL, fun W => Lib.run_unsafeSliceData_row W tys ty _ _ _ (by omega)⟩
      | sliceOpen hL hcc hsz => exact absurd rfl hc
      | sliceEnd hL hc => exact absurd rfl h0

theorem World.freeze_heap (w : World) (b o n i : Nat) (hi : i ≠ b) : (w.freeze ⟨b, o, none⟩ n).heap[i]? = w.heap[i]? := by
  unfold World.freeze
  split
  · rfl
  · simp [Array.getElem?_modify, Ne.symm hi]

theorem World.freeze_self (w : World) (b o n : Nat) {c : Array Value} {e : TypeId} {f : Nat × Nat} (h : w.heap[b]? = some (.cells c e f)) : ∃ f', (w.freeze ⟨b, o, none⟩ n).heap[b]? = some (.cells c e f') := by
  unfold World.freeze
  split
  · exact ⟨f, h⟩
  · obtain ⟨lo, hi⟩ := f
    simp only [Array.getElem?_modify, if_true, h, Option.map_some]
    exact ⟨_, rfl⟩

theorem mapM_len {c : List Value} : ∀ {l : List UInt8}, c.mapM byteOf = some l → l.length = c.length := by
  induction c with
  | nil => intro l h; simp at h; subst h; rfl
  | cons x r ih =>
    intro l h
    simp only [List.mapM_cons, Option.bind_eq_bind, Option.bind_eq_some_iff] at h
    obtain ⟨y, h1, l', h2, h3⟩ := h
    simp at h3; subst h3
    simp [ih h2]

theorem run_loadBytesI {P : Program} (w : World) : ∀ (l : List Int) (a : Addr) (acc : ByteArray), (∀ j x, l[j]? = some x → w.cell? (a.add j) = some (.int .u8 x)) →
    (loadBytes a acc l.length).run P w = .ok ⟨acc.data ++ (l.map fun n => UInt8.ofNat n.toNat).toArray⟩ w
  | [], a, acc, _ => by simp [loadBytes]
  | x :: l, a, acc, h => by
    have h0 : w.cell? a = some (.int .u8 x) := by
      have := h 0 x rfl
      simpa [Addr.add] using this
    have ih := run_loadBytesI (P := P) w l (a.add 1) (acc.push x.toNat.toUInt8) (fun j y hy => by
      have := h (j + 1) y (by simpa using hy)
      have e : (a.add 1).add j = a.add (j + 1) := by
        unfold Addr.add
        by_cases hj : j = 0
        · subst hj; simp
        · simp [hj]; omega
      rw [e]; exact this)
    simp only [List.length_cons, loadBytes, Sem.run_bind, run_load, h0, Result.andThen]
    rw [ih]
    congr 1
    apply ByteArray.ext
    simp [ByteArray.push]

theorem run_ustr (w : World) (pt it ty e : TypeId) (hp : P.underlying pt = some (.pointer e)) (hc : P.cellsOf e = 1) (g off cells : Nat) (hsh : w.shape? g = some (e, cells)) (l : List Int) (h0 : l ≠ []) (hn : off + l.length ≤ cells) (h63 : l.length ≤ 9223372036854775807)
    (hcell : ∀ j x, l[j]? = some x → w.cell? ((⟨g, off, none⟩ : Addr).add j) = some (.int .u8 x)) :
    (Builtin.unsafeString_ #[pt, it] ty #[.pointer (some ⟨g, off, none⟩), .int .i64 l.length]).run P w = .ok (.string ⟨(l.map fun n => UInt8.ofNat n.toNat).toArray⟩) (w.freeze ⟨g, off, none⟩ l.length) := by
  have hl : l.length ≠ 0 := by simpa using h0
  have hlb := run_loadBytesI (P := P) w l ⟨g, off, none⟩ .empty hcell
  have hlies := liesAt_own (P := P) hc (by omega) (cells / P.cellsOf e) l.length off (by rw [hc]; simpa using hn)
  rw [Nat.mul_one] at hlies
  have h63' : ¬ (9223372036854775807 : Int) < (l.length : Int) := by omega
  have hdef : Builtin.unsafeString_ #[pt, it] ty #[.pointer (some ⟨g, off, none⟩), .int .i64 l.length] =
      (do
        let n ← asInt (.int .i64 l.length)
        if n < 0 then runtimePanic (.error "unsafe.String: len out of range")
        if n > IntKind.i64.max then unsupported (.unsafePointer "String: a length above the largest int")
        if n = 0 then pure (.string .empty)
        else if ← variablesAt ⟨g, off, none⟩ (← elemOf pt) n.toNat then do
          let s ← loadBytes ⟨g, off, none⟩ .empty n.toNat
          freeze ⟨g, off, none⟩ n.toNat
          pure (.string s)
        else unsupported (.unsafePointer "String: not so many bytes at ptr")) := rfl
  rw [hdef]
  have hmax : IntKind.i64.max = 9223372036854775807 := rfl
  have hneg : ¬ (l.length : Int) < 0 := by omega
  simp [asInt, asIntOf, hmax, h63', hneg, hl, variablesAt, hsh, elemOf, run_underlying hp, hlies, hlb]

theorem sound_ustr (hR : Rep G m ρ w) {pt it ty u : TypeId} (hp : P.underlying pt = some (.pointer u)) (hk : szOf P u = some 1) {x x' n n' : Value} (hx : VRel ρ x x') (hn : VRel ρ n n')
    {t : Tmps} {xo no : AOpd} (hxo : xo.ev t = x) (hno : no.ev t = n) {v : Value} {m' : AMem} (h : stepOp (.ustr u xo no) t m = some (v, m')) : Sound P G m ρ w (Builtin.unsafeString_ #[pt, it] ty #[x', n']) v m' := by
  simp only [stepOp, hxo, hno] at h
  obtain ⟨j, hj1, hj2⟩ := szOf_info hk
  have hcc : P.cellsOf u = 1 := by simp [Program.cellsOf, hj1, hj2]
  split at h <;> try (simp at h; done)
  · rename_i n0
    split at h <;> simp at h
    rename_i hz
    obtain ⟨rfl, rfl⟩ := h
    subst hz
    cases hx
    obtain rfl := hn.int_inv
    exact .pure hR (v' := .string .empty) (Lib.run_unsafeString_none w pt it ty none) (.string _)
  · rename_i b o n0
    split at h <;> try (simp at h; done)
    rename_i hpos
    split at h <;> try (simp at h; done)
    rename_i _ c e sp hm
    split at h <;> try (simp at h; done)
    rename_i hh
    obtain ⟨rfl, hlen⟩ := hh
    simp only [Option.map_eq_some_iff, Prod.mk.injEq] at h
    obtain ⟨l, hl, rfl, rfl⟩ := h
    obtain rfl := hn.int_inv
    cases hx with
    | ptr hL =>
      rename_i L
      have hrd : rd m b o n0.toNat = some ((c.drop o).take n0.toNat) := by simp [rd, hm, hlen]
      obtain ⟨cs, h1, h2, h3, h4⟩ := hR.rd hL hrd
      obtain ⟨xs, rfl, e2⟩ := bytes_of hl h3
      obtain ⟨carr, frz, hB⟩ := hR.blk hL hm
      have hll := mapM_len hl
      have hll2 : l.length = n0.toNat := by rw [hll]; simp; omega
      have h5 := hB.size
      have h6 := hB.len
      obtain ⟨frz', hself⟩ := World.freeze_self w L.cb (L.co + o) n0.toNat hB.heap
      have hrun : (Builtin.unsafeString_ #[pt, it] ty #[.pointer (some ⟨L.cb, L.co + o, none⟩), .int .i64 n0]).run P w = .ok (.string ⟨l.toArray⟩) (w.freeze ⟨L.cb, L.co + o, none⟩ n0.toNat) := by
        have hxl : xs.length = n0.toNat := by simpa using h1
        have := run_ustr (P := P) w pt it ty e hp hcc L.cb (L.co + o) carr.size (by simp [World.shape?, hB.heap]) xs (by intro hnil; rw [hnil] at hxl; simp at hxl; omega) (by omega) (by omega) (fun i y hy => by
          refine h4 i _ ?_
          simp [hy])
        rw [hxl, ← e2] at this
        rw [show (n0.toNat : Int) = n0 by omega] at this
        exact this
      have hset : Rep G (m.set b (.cells c e false sp)) ρ (w.freeze ⟨L.cb, L.co + o, none⟩ n0.toNat) := by
        refine hR.set hL (BlkAt.obj (carr := carr) (frz := frz') ⟨hself, hB.size, hB.len, hB.exact, hB.full, hB.cell, hB.spare, (fun hh => by cases hh)⟩) (by rw [hm]; rfl) (by rw [hm]; rfl) (fun hh => by cases hh) (fun i hi _ => World.freeze_heap _ _ _ _ _ hi)
      have hsz : (w.freeze ⟨L.cb, L.co + o, none⟩ n0.toNat).heap.size = w.heap.size := by
        unfold World.freeze
        split
        · rfl
        · simp
      have hw3 : (w.freeze ⟨L.cb, L.co + o, none⟩ n0.toNat).os = w.os ∧ (w.freeze ⟨L.cb, L.co + o, none⟩ n0.toNat).tape = w.tape ∧ (w.freeze ⟨L.cb, L.co + o, none⟩ n0.toNat).output = w.output := by
        unfold World.freeze
        split <;> exact ⟨rfl, rfl, rfl⟩
      exact ⟨ρ, _, _, hrun, .string _, hset, Ext.set hR hL (by rw [hm]; rfl) (fun i hi _ => World.freeze_heap _ _ _ _ _ hi) hw3.1 hw3.2.1 hw3.2.2 (by omega)⟩

theorem sound_s2s (hR : Rep G m ρ w) {s d e e0 : TypeId} (hs : P.underlying s = some (.slice e0)) (hd : P.underlying d = some (.slice e)) (hsd : s = d) (he : intB P e = some .u8) {x x' : Value} (hx : VRel ρ x x')
    {t : Tmps} {xo : AOpd} (hxo : xo.ev t = x) {v : Value} {m' : AMem} (h : stepOp (.s2s xo) t m = some (v, m')) : Sound P G m ρ w (convert s d x') v m' := by
  have hu8 : P.underlying e = some (.int .u8) := by
    unfold intB at he; split at he <;> simp at he; subst he; assumption
  simp only [stepOp, hxo] at h
  split at h <;> try (simp at h; done)
  rename_i b o l c
  split at h <;> try (simp at h; done)
  rename_i hpos
  split at h <;> simp at h
  rename_i cs e1 sp hm
  obtain ⟨rfl, rfl⟩ := h
  cases hx with
  | slice hL hc =>
    rename_i L
    obtain ⟨carr, frz, hB⟩ := hR.blk hL hm
    obtain ⟨frz', hself⟩ := World.freeze_self w L.cb carr.size 1 hB.heap
    have hsh : w.shape? L.cb = some (e1, carr.size) := by simp [World.shape?, hB.heap]
    have hrun : (convert s d (.slice (some ⟨L.cb, L.co + o, none⟩) l c)).run P w = .ok (.slice (some ⟨L.cb, L.co + o, none⟩) l c) (w.freeze ⟨L.cb, carr.size, none⟩ 1) := by
      subst hsd
      obtain rfl : e0 = e := by rw [hs] at hd; cases hd; rfl
      simp [convert, Sem.run_bind, run_underlying hs, run_underlying hd, run_underlying hu8, Result.andThen_ok, markStringish, run_shape, hsh, run_freeze, Sem.run_pure]
    have hset : Rep G (m.set b (.cells cs e1 false sp)) ρ (w.freeze ⟨L.cb, carr.size, none⟩ 1) :=
      hR.set hL (BlkAt.obj (carr := carr) (frz := frz') ⟨hself, hB.size, hB.len, hB.exact, hB.full, hB.cell, hB.spare, (fun hh => by cases hh)⟩) (by rw [hm]; rfl) (by rw [hm]; rfl) (fun hh => by cases hh) (fun i hi _ => World.freeze_heap _ _ _ _ _ hi)
    have hsz : (w.freeze ⟨L.cb, carr.size, none⟩ 1).heap.size = w.heap.size := by
      unfold World.freeze
      split
      · rfl
      · simp
    have hw3 : (w.freeze ⟨L.cb, carr.size, none⟩ 1).os = w.os ∧ (w.freeze ⟨L.cb, carr.size, none⟩ 1).tape = w.tape ∧ (w.freeze ⟨L.cb, carr.size, none⟩ 1).output = w.output := by
      unfold World.freeze
      split <;> exact ⟨rfl, rfl, rfl⟩
    exact ⟨ρ, _, _, hrun, .slice hL hc, hset, Ext.set hR hL (by rw [hm]; rfl) (fun i hi _ => World.freeze_heap _ _ _ _ _ hi) hw3.1 hw3.2.1 hw3.2.2 (by omega)⟩
  | sliceOpen hL hc hs0 => exact absurd rfl hpos.2
  | sliceEnd hL hc => omega

end
end Go.AM
namespace Go.AM
set_option linter.unusedVariables false
set_option linter.unusedSimpArgs false

section
variable {P : Program} {G : Nat} {m : AMem} {ρ : Ren} {w : World}

def StepsTo (P : Program) (G : Nat) (m : AMem) (ρ : Ren) (w : World) (ev : Operand → Value) (o : Oper) (v : Value) (m' : AMem) : Prop :=
  ∃ ρ' w' v', ((execOp ev o).run P w = .ok (.value v') w' ∨ ((execOp ev o).run P w = .ok .skip w' ∧ o.dst = none)) ∧ VRel ρ' v v' ∧ Rep G m' ρ' w' ∧ Ext m ρ w m' ρ' w'

theorem StepsTo.of {ev : Operand → Value} {o : Oper} {s : Sem Value} {v : Value} {m' : AMem} (he : execOp ev o = (do pure (.value (← s)))) (h : Sound P G m ρ w s v m') : StepsTo P G m ρ w ev o v m' := by
  obtain ⟨ρ', w', v', h1, h2, h3, h4⟩ := h
  exact ⟨ρ', w', v', .inl (by rw [he]; simp [h1]), h2, h3, h4⟩

theorem StepsTo.same (hR : Rep G m ρ w) {ev : Operand → Value} {o : Oper} {v v' : Value} (he : (execOp ev o).run P w = .ok (.value v') w) (hv : VRel ρ v v') : StepsTo P G m ρ w ev o v m :=
  ⟨ρ, w, v', .inl he, hv, hR, Ext.refl _ _ _⟩

theorem VRel.slice_inv {A : Option Addr} {n c : Nat} {v' : Value} (h : VRel ρ (.slice A n c) v') : ∃ A' c', v' = .slice A' n c' := by
  cases h <;> exact ⟨_, _, rfl⟩

theorem compOp_builtin {dst : Option Tmp} {b : Builtin} {args : Array Operand} {tys : Array TypeId} {ty : TypeId} {pos : String} {after : Array Edge} {guard : Option (Nat × Bool)} {t : Tmps} {a : Act}
    (hR : Rep G m ρ w) (hev : ∀ x y, compOpd G x = some y → VRel ρ (y.ev t) (a.eval x)) {ap : AOp} (hc : compBuiltin P G b tys.toList args.toList = some ap) {v : Value} {m' : AMem} (hs : stepOp ap t m = some (v, m')) :
    StepsTo P G m ρ w a.eval ⟨dst, .call { callee := .builtin b, args, argTypes := tys }, ty, pos, after, guard⟩ v m' := by
  obtain ⟨cs, hex⟩ : ∃ cs, execOp a.eval ⟨dst, .call { callee := .builtin b, args, argTypes := tys }, ty, pos, after, guard⟩ = builtin b tys ty cs (args.map a.eval) := by
    exact ⟨_, rfl⟩
  obtain ⟨args⟩ := args
  obtain ⟨tys⟩ := tys
  simp only at hc
  unfold compBuiltin at hc
  split at hc <;> try (simp at hc; done)
  · -- len
    rename_i _ _ _ T x
    have hex' : execOp a.eval ⟨dst, .call { callee := .builtin .len, args := ⟨[x]⟩, argTypes := ⟨[T]⟩ }, ty, pos, after, guard⟩ = (do pure (.value (← Builtin.len_ #[T] ty #[a.eval x]))) := by rw [hex]; simp only [List.map_toArray, List.map]; rfl
    split at hc <;> try (simp at hc; done)
    · rename_i hu
      simp at hc
      obtain ⟨y, hy, rfl⟩ := hc
      simp only [stepOp] at hs
      split at hs <;> simp at hs
      rename_i s hsv
      obtain ⟨rfl, rfl⟩ := hs
      have hx := hev x y hy
      rw [hsv] at hx
      refine .of hex' (.pure hR (v' := .int .i64 s.size) ?_ (.int _ _))
      rw [hx.string_inv]
      simp [Builtin.len_, run_underlying hu, goInt]
    · rename_i e hu
      simp at hc
      obtain ⟨y, hy, rfl⟩ := hc
      simp only [stepOp] at hs
      split at hs <;> simp at hs
      rename_i A n c hsv
      obtain ⟨rfl, rfl⟩ := hs
      have hx := hev x y hy
      rw [hsv] at hx
      refine .of hex' (.pure hR (v' := .int .i64 n) ?_ (.int _ _))
      obtain ⟨A', c', hx'⟩ := hx.slice_inv
      rw [hx']
      simp [Builtin.len_, run_underlying hu, goInt]
    · rename_i n e hu
      simp at hc
      subst hc
      simp [stepOp] at hs
      obtain ⟨rfl, rfl⟩ := hs
      refine .of hex' (.pure hR (v' := .int .i64 n) ?_ (.int _ _))
      simp [Builtin.len_, run_underlying hu, goInt]
    · rename_i A hu
      split at hc <;> simp at hc
      rename_i n e hu2
      subst hc
      simp [stepOp] at hs
      obtain ⟨rfl, rfl⟩ := hs
      refine .of hex' (.pure hR (v' := .int .i64 n) ?_ (.int _ _))
      simp [Builtin.len_, run_underlying hu, run_underlying hu2, goInt]
  · -- append
    rename_i _ _ _ T U x y
    have hex' : execOp a.eval ⟨dst, .call { callee := .builtin .append, args := ⟨[x, y]⟩, argTypes := ⟨[T, U]⟩ }, ty, pos, after, guard⟩ = (do pure (.value (← Builtin.append_ #[T, U] ty #[a.eval x, a.eval y]))) := by rw [hex]; simp only [List.map_toArray, List.map]; rfl
    have core : ∀ (e : TypeId) (d : TypeDesc), P.underlying T = some (.slice e) → P.underlying U = some d → ((∃ e', P.underlying U = some (.slice e')) ∨ P.underlying U = some .string) →
        (match szOf P e, byOf P e, zeroOf P e, compOpd G x, compOpd G y with
        | some sz, some by_, some z, some x, some y => if 0 < by_ then some (AOp.app e sz by_ z x y) else none
        | _, _, _, _, _ => none) = some ap → StepsTo P G m ρ w a.eval ⟨dst, .call { callee := .builtin .append, args := ⟨[x, y]⟩, argTypes := ⟨[T, U]⟩ }, ty, pos, after, guard⟩ v m' := by
      intro e d hu hud hd hc
      split at hc <;> try (simp at hc; done)
      rename_i _ _ _ _ _ sz by_ z x1 y1 h1 h2 h3 h4 h5
      split at hc <;> simp at hc
      rename_i hb0
      subst hc
      simp only [stepOp] at hs
      split at hs <;> try (simp at hs; done)
      rename_i n hn
      split at hs <;> try (simp at hs; done)
      rename_i news hnews
      split at hs <;> try (simp at hs; done)
      rename_i hcond
      obtain ⟨c1, c2, c3, c4⟩ := hcond
      have hx := hev x x1 h4
      have hy := hev y y1 h5
      obtain ⟨news', k1, k2, k3⟩ := src_run (P := P) hR hy hnews c4 c3
      exact .of hex' (sound_appendTo hR hu h1 h2 hb0 h3 c2 c1 hx (.inl ⟨hd, srcLen_run hy hn, k3⟩) k1 c4 c3 hs)
    split at hc <;> try (simp at hc; done)
    · rename_i e e' hu hud
      exact core e _ hu hud (.inl ⟨e', hud⟩) hc
    · rename_i e hu hud
      exact core e _ hu hud (.inr hud) hc
    · rename_i e kk hu hud
      split at hc <;> try (simp at hc; done)
      rename_i _ _ _ _ _ sz by_ z x1 y1 h1 h2 h3 h4 h5
      split at hc <;> simp at hc
      rename_i hb0
      subst hc
      simp only [stepOp] at hs
      split at hs <;> try (simp at hs; done)
      rename_i kn n hn
      split at hs <;> try (simp at hs; done)
      rename_i hcond
      obtain ⟨c1, c2, c3, c4, c5⟩ := hcond
      have hx := hev x x1 h4
      have hy := hev y y1 h5
      rw [hn] at hy
      obtain ⟨nn, rfl⟩ := Int.eq_ofNat_of_zero_le c1
      obtain ⟨i, zv, hi, hzv, hcells, hzs, hpl⟩ := zeroOf_spec h3
      have hyi := hy.int_inv
      refine .of hex' (sound_appendTo hR hu h1 h2 hb0 h3 c5 c4 hx (.inr ⟨kk, kn, hud, hyi, rfl, by rw [← Int.natCast_mul] at c2; omega, by omega⟩)
        (LRel.plain fun v hv => plain_of (hpl v (rep_mem hv))) (by rw [rep_length, c4]) (List.all_eq_true.2 fun v hv => oneCell_of (hpl v (rep_mem hv))) hs)
  · -- copy
    rename_i _ _ _ T U x y
    split at hc <;> try (simp at hc; done)
    rename_i e hu
    split at hc <;> simp at hc
    rename_i sz x1 y1 h1 h2 h3
    subst hc
    exact .of (by rw [hex]; simp only [List.map_toArray, List.map]; rfl) (sound_cpy hR hu h1 (hev x x1 h2) (hev y y1 h3) rfl rfl hs)
  · -- unsafe slice data
    rename_i _ _ _ T x
    obtain ⟨y, hy, rfl⟩ : ∃ y, compOpd G x = some y ∧ AOp.sdat y = ap := by simpa using hc
    obtain ⟨rfl, v', h1, h2⟩ := sound_sdat (P := P) (tys := #[T]) (ty := ty) hR (hev x y hy) rfl hs
    exact .of (s := Builtin.unsafeSliceData_ #[T] ty #[a.eval x]) (by rw [hex]; simp only [List.map_toArray, List.map]; rfl) (.pure hR (h2 w) h1)
  · -- unsafe string
    rename_i _ _ _ T U x y
    split at hc <;> try (simp at hc; done)
    rename_i e x1 y1 hu h1 h2
    split at hc <;> simp at hc
    rename_i hk
    subst hc
    exact .of (s := Builtin.unsafeString_ #[T, U] ty #[a.eval x, a.eval y]) (by rw [hex]; simp only [List.map_toArray, List.map]; rfl) (sound_ustr (P := P) (it := U) (ty := ty) hR hu hk (hev x x1 h1) (hev y y1 h2) rfl rfl hs)
  · -- min
    rename_i _ _ _ x xs
    split at hc <;> simp at hc
    rename_i x1 xs1 h1 h2
    subst hc
    simp only [stepOp] at hs
    simp at hs
    obtain ⟨vv, hvv, rfl, rfl⟩ := hs
    obtain ⟨v', e1, e2⟩ := sound_mnx (P := P) (w := w) false _ _ _ _ _ (compOpds_map hev xs xs1 h2) (hev x x1 h1) hvv
    refine .of (by rw [hex]; simp only [List.map_toArray, List.map]; rfl) (.pure hR (v' := v') ?_ e2)
    simpa [Builtin.min_] using e1
  · rename_i _ _ _ x xs
    split at hc <;> simp at hc
    rename_i x1 xs1 h1 h2
    subst hc
    simp only [stepOp] at hs
    simp at hs
    obtain ⟨vv, hvv, rfl, rfl⟩ := hs
    obtain ⟨v', e1, e2⟩ := sound_mnx (P := P) (w := w) true _ _ _ _ _ (compOpds_map hev xs xs1 h2) (hev x x1 h1) hvv
    refine .of (by rw [hex]; simp only [List.map_toArray, List.map]; rfl) (.pure hR (v' := v') ?_ e2)
    simpa [Builtin.max_] using e1
  · rename_i _ _ _ T x
    split at hc <;> try (simp at hc; done)
    rename_i e hu
    split at hc <;> try (simp at hc; done)
    rename_i sz z x1 h1 h2 h3
    split at hc <;> simp at hc
    subst hc
    exact .of (by rw [hex]; simp only [List.map_toArray, List.map]; rfl) (sound_clr hR hu h2 (hev x x1 h3) rfl hs)

end
end Go.AM
namespace Go.AM
set_option linter.unusedVariables false
set_option linter.unusedSimpArgs false

theorem ba_beq (a b : ByteArray) : (a == b) = (a.data == b.data) := by cases a; cases b; rfl
theorem ba_self (a : ByteArray) : (a == a) = true := by rw [ba_beq]; simp
theorem ba_eq {a b : ByteArray} (h : (a == b) = true) : a = b := by
  rw [ba_beq] at h; cases a; cases b; simp at h; simp [h]

theorem findNow_at {s : ByteArray} : ∀ (es : List MapEntry) (j : Nat) {i : Nat} {v : Value}, Instr.findNow .string (.string s) es j = some (some (i, v)) → ∃ e, j ≤ i ∧ es[i - j]? = some e ∧ e.key = .string s ∧ e.val = v
  | [], j, i, v, h => by simp [Instr.findNow] at h
  | e :: es, j, i, v, h => by
    simp only [Instr.findNow] at h
    split at h
    · rename_i hs
      simp at h
      obtain ⟨rfl, rfl⟩ := h
      refine ⟨e, Nat.le_refl _, by simp, ?_, rfl⟩
      unfold Instr.sameNow at hs
      split at hs <;> simp_all
      exact (ba_eq hs).symm
    · obtain ⟨e', h1, h2, h3⟩ := findNow_at es (j + 1) h
      refine ⟨e', by omega, ?_, h3⟩
      rw [show i - j = (i - (j + 1)) + 1 by omega, List.getElem?_cons_succ]
      exact h2
    · cases h

section
variable {P : Program} {G : Nat} {m : AMem} {ρ : Ren} {w : World}

theorem zeroVOf_spec {t : TypeId} {z : Value} (h : zeroVOf P t = some z) (w : World) : (zeroValue t).run P w = .ok z w ∧ Plain z := by
  unfold zeroVOf at h
  cases hi : P.info? t with
  | none => rw [hi] at h; cases h
  | some i =>
    rw [hi] at h
    simp only at h
    cases hz : i.zero with
    | none => rw [hz] at h; cases h
    | some z' =>
      rw [hz] at h
      simp only at h
      split at h
      · rename_i hp
        cases h
        exact ⟨by simp [zeroValue, typeInfo, hi, hz], plain_of2 hp⟩
      · cases h
theorem checkKey_string {b : Bool} {n : Nat} {k : TypeId} {s : ByteArray} (hk : P.underlying k = some .string) : (Instr.checkKey b (n + 1) k (.string s)).run P w = .ok () w := by
  simp [Instr.checkKey, run_underlying hk]
theorem findKey_string {k : TypeId} {v : Value} {es : List MapEntry} {r : Option (Nat × Value)} (hk : P.underlying k = some .string) (h : Instr.findNow .string v es 0 = some r) : (Instr.findKey k v es).run P w = .ok r w := by
  simp [Instr.findKey, run_underlying hk, h]
theorem lkRes_plain {z : Value} {ok : Bool} {o : Option Value} (hz : Plain z) (ho : ∀ v, o = some v → Plain v) : Plain (lkRes z ok o) := by
  have h1 : Plain (o.getD z) := by cases o with
    | none => exact hz
    | some v => exact ho v rfl
  unfold lkRes
  split
  · refine Plain.tuple fun v hv => ?_
    simp at hv
    rcases hv with rfl | rfl
    · exact h1
    · exact .bool _
  · exact h1
theorem sound_lkp (hR : Rep G m ρ w) {T k e : TypeId} {z : Value} {ok : Bool} (hu : P.underlying T = some (.map k e)) (hk : P.underlying k = some .string) (hz : zeroVOf P e = some z) {x x' i' v : Value} {s : ByteArray} {m' : AMem} (hx : VRel ρ x x') (hi : VRel ρ (.string s) i')
    (h : (match x with
      | .map none => some (lkRes z ok none, m)
      | .map (some r) => match m.get r with
        | .map es _ => match Instr.findNow .string (.string s) es.toList 0 with
          | some o => some (lkRes z ok (o.map (·.2)), m)
          | none => none
        | _ => none
      | _ => none) = some (v, m')) : Sound P G m ρ w (Instr.lookup T x' i' ok) v m' := by
  obtain rfl := hi.string_inv
  obtain ⟨hz1, hz2⟩ := zeroVOf_spec hz w
  cases x <;> try (cases h; done)
  rename_i o
  cases o with
  | none =>
    simp at h
    obtain ⟨rfl, rfl⟩ := h
    cases hx
    refine .pure hR (v' := lkRes z ok none) ?_ (lkRes_plain hz2 (fun v h => by cases h) ρ)
    cases ok <;> simp [Instr.lookup, run_underlying hu, checkKey_string hk, findKey_string hk (show Instr.findNow .string (.string s) [] 0 = some none from rfl), hz1, lkRes]
  | some r =>
    simp only at h
    split at h <;> try (cases h; done)
    rename_i es c hm
    split at h <;> try (cases h; done)
    rename_i o ho
    simp at h
    obtain ⟨rfl, rfl⟩ := h
    cases hx with
    | map hL =>
      rename_i L
      have hO := hR.obj r L hL
      rw [hm] at hO
      obtain ⟨hh, hp⟩ := hO
      refine .pure hR (v' := lkRes z ok (o.map (·.2))) ?_ (lkRes_plain hz2 (fun v h => ?_) ρ)
      · have hg : (getObj L.cb).run P w = .ok (.map es c) w := by simp [getObj, Sem.run, hh]
        cases o with
        | none => cases ok <;> simp [Instr.lookup, run_underlying hu, hg, checkKey_string hk, findKey_string hk ho, hz1, lkRes]
        | some q => cases ok <;> simp [Instr.lookup, run_underlying hu, hg, checkKey_string hk, findKey_string hk ho, lkRes]
      · cases o with
        | none => cases h
        | some q =>
          obtain ⟨i, u⟩ := q
          simp at h
          subst h
          obtain ⟨e, h1, h2, h3, rfl⟩ := findNow_at _ _ ho
          exact (hp e (by have := List.mem_of_getElem? h2; simpa using this)).2
theorem simple_plain {v : Value} (h : simpleB v = true) : Plain v := by
  unfold simpleB at h
  split at h
  · exact .bool _
  · exact .int _ _
  · exact .string _
  · cases h
theorem VRel.plain_eq {v v' : Value} (h : simpleB v = true) (hv : VRel ρ v v') : v' = v := by
  unfold simpleB at h
  split at h
  · cases hv; rfl
  · cases hv; rfl
  · cases hv; rfl
  · cases h
theorem sound_mup (hR : Rep G m ρ w) {T k e : TypeId} (hu : P.underlying T = some (.map k e)) (hk : P.underlying k = some .string) {r c : Nat} {es : Array MapEntry} {x' i' v v' : Value} {s : ByteArray} {m' : AMem} (hx : VRel ρ (.map (some r)) x') (hi : VRel ρ (.string s) i') (hsv : simpleB v = true) (hv : VRel ρ v v')
    (hm : m.get r = .map es c)
    (h : (match Instr.findNow .string (.string s) es.toList 0 with
          | some (some (i, _)) => some (undef, m.set r (.map (es.modify i fun e => { e with key := .string s, val := v }) c))
          | some none => some (undef, m.set r (.map (es.push { key := .string s, val := v, born := c }) (c + 1)))
          | none => none) = some (undef, m')) :
    ∃ w', (Instr.mapUpdate T x' i' v').run P w = .ok () w' ∧ Rep G m' ρ w' ∧ Ext m ρ w m' ρ w' := by
  obtain rfl := hi.string_inv
  obtain rfl := hv.plain_eq hsv
  cases hx with
  | map hL =>
    rename_i L
    have hO := hR.obj r L hL
    rw [hm] at hO
    obtain ⟨hh, hp⟩ := hO
    have hg : (getObj L.cb).run P w = .ok (.map es c) w := by simp [getObj, Sem.run, hh]
    have hlt := lt_of_getElem?_some hh
    have fin : ∀ (es' : Array MapEntry) (c' : Nat), (∀ e ∈ es', Plain e.key ∧ Plain e.val) →
        Rep G (m.set r (.map es' c')) ρ { w with heap := w.heap.setIfInBounds L.cb (.map es' c') } ∧ Ext m ρ w (m.set r (.map es' c')) ρ { w with heap := w.heap.setIfInBounds L.cb (.map es' c') } := by
      intro es' c' hp'
      constructor
      · refine hR.set hL ⟨by simp [Array.getElem?_setIfInBounds, hlt], hp'⟩ (by rw [hm]; rfl) (by rw [hm]; rfl) (fun _ => by rw [hm]; rfl) (fun i hi _ => ?_)
        simp [Array.getElem?_setIfInBounds, Ne.symm hi]
      · refine Ext.set hR hL (by rw [hm]; rfl) (fun i hi _ => ?_) rfl rfl rfl (by simp)
        simp [Array.getElem?_setIfInBounds, Ne.symm hi]
    have hset : ∀ o, (setObj L.cb o).run P w = .ok () { w with heap := w.heap.setIfInBounds L.cb o } := fun o => by simp [setObj, Sem.run, hh]
    split at h
    · rename_i i u ho
      simp at h
      subst h
      obtain ⟨e, _, h2, h3, h4⟩ := findNow_at _ _ ho
      have h2' : es[i]? = some e := by simpa using h2
      refine ⟨_, ?_, fin _ _ fun e' he' => ?_⟩
      · simp [Instr.mapUpdate, run_underlying hu, hg, checkKey_string hk, findKey_string hk ho, h2', h3, Instr.keyThatStays, Instr.sameBits, ba_self, hset]
      · obtain ⟨j, hj, rfl⟩ := Array.mem_iff_getElem.1 he'
        rw [Array.getElem_modify]
        split
        · exact ⟨.string _, simple_plain hsv⟩
        · exact hp _ (Array.getElem_mem _)
    · rename_i ho
      simp at h
      subst h
      refine ⟨_, ?_, fin _ _ fun e' he' => ?_⟩
      · simp [Instr.mapUpdate, run_underlying hu, hg, checkKey_string hk, findKey_string hk ho, hset]
      · rcases Array.mem_push.1 he' with h | rfl
        · exact hp _ h
        · exact ⟨.string _, simple_plain hsv⟩
    · cases h
end
end Go.AM
namespace Go.AM
set_option linter.unusedVariables false
set_option linter.unusedSimpArgs false

section
variable {P : Program} {G : Nat} {m : AMem} {ρ : Ren} {w : World} {t : Tmps} {a : Act} {dst : Option Tmp} {ty : TypeId} {pos : String} {after : Array Edge} {guard : Option (Nat × Bool)} {ap : AOp} {v : Value} {m' : AMem}

theorem map_some' {α β : Type} {x : Option α} {f : α → β} {y : β} (h : x.map f = some y) : ∃ a, x = some a ∧ f a = y := by
  cases x <;> simp at h; exact ⟨_, rfl, h⟩

def EvOk (G : Nat) (ρ : Ren) (t : Tmps) (a : Act) : Prop := ∀ x y, compOpd G x = some y → VRel ρ (y.ev t) (a.eval x)

theorem st_move {x : Operand} (hR : Rep G m ρ w) (hev : EvOk G ρ t a) (hc : compOp P G ⟨dst, .move x, ty, pos, after, guard⟩ = some ap) (hs : stepOp ap t m = some (v, m')) :
    StepsTo P G m ρ w a.eval ⟨dst, .move x, ty, pos, after, guard⟩ v m' := by
  simp only [compOp] at hc
  obtain ⟨y, hy, rfl⟩ := map_some' hc
  simp [stepOp] at hs
  obtain ⟨rfl, rfl⟩ := hs
  exact .same hR rfl (hev x y hy)

theorem st_assign {x : Operand} (hR : Rep G m ρ w) (hev : EvOk G ρ t a) (hc : compOp P G ⟨dst, .assign x, ty, pos, after, guard⟩ = some ap) (hs : stepOp ap t m = some (v, m')) :
    StepsTo P G m ρ w a.eval ⟨dst, .assign x, ty, pos, after, guard⟩ v m' := by
  simp only [compOp] at hc
  obtain ⟨y, hy, rfl⟩ := map_some' hc
  simp [stepOp] at hs
  obtain ⟨rfl, rfl⟩ := hs
  exact .same hR rfl (hev x y hy)

theorem st_pick {c x y : Operand} (hR : Rep G m ρ w) (hev : EvOk G ρ t a) (hc : compOp P G ⟨dst, .pick c x y, ty, pos, after, guard⟩ = some ap) (hs : stepOp ap t m = some (v, m')) :
    StepsTo P G m ρ w a.eval ⟨dst, .pick c x y, ty, pos, after, guard⟩ v m' := by
  simp only [compOp] at hc
  split at hc <;> simp at hc
  rename_i c1 x1 y1 h1 h2 h3
  subst hc
  simp only [stepOp] at hs
  split at hs <;> simp at hs
  rename_i b hb
  obtain ⟨rfl, rfl⟩ := hs
  have hcv := hev c c1 h1
  rw [hb] at hcv
  have hcb := hcv.bool_inv
  refine .same hR (v' := if b then a.eval x else a.eval y) (by simp [execOp, hcb, asBool]) ?_
  cases b
  · simpa using hev y y1 h3
  · simpa using hev x x1 h2

theorem st_alloc {e : TypeId} (hR : Rep G m ρ w) (hev : EvOk G ρ t a) (hc : compOp P G ⟨dst, .alloc e, ty, pos, after, guard⟩ = some ap) (hs : stepOp ap t m = some (v, m')) :
    StepsTo P G m ρ w a.eval ⟨dst, .alloc e, ty, pos, after, guard⟩ v m' := by
  simp only [compOp] at hc
  obtain ⟨z, hz, rfl⟩ := map_some' hc
  simp [stepOp] at hs
  obtain ⟨rfl, rfl⟩ := hs
  exact .of rfl (sound_new hR hz)

theorem st_box {e : TypeId} {x : Operand} (hR : Rep G m ρ w) (hev : EvOk G ρ t a) (hc : compOp P G ⟨dst, .box e x, ty, pos, after, guard⟩ = some ap) (hs : stepOp ap t m = some (v, m')) :
    StepsTo P G m ρ w a.eval ⟨dst, .box e x, ty, pos, after, guard⟩ v m' := by
  simp only [compOp] at hc
  obtain ⟨y, hy, rfl⟩ := map_some' hc
  simp only [stepOp] at hs
  split at hs <;> simp at hs
  rename_i c hcs
  obtain ⟨rfl, rfl⟩ := hs
  exact .of rfl (sound_box hR (hev x y hy) hcs)

theorem st_build {T : TypeId} {ps : Array (Nat × Operand)} (hR : Rep G m ρ w) (hev : EvOk G ρ t a) (hc : compOp P G ⟨dst, .build T ps, ty, pos, after, guard⟩ = some ap) (hs : stepOp ap t m = some (v, m')) :
    StepsTo P G m ρ w a.eval ⟨dst, .build T ps, ty, pos, after, guard⟩ v m' := by
  simp only [compOp] at hc
  split at hc <;> try (simp at hc; done)
  rename_i pl z hp hz
  obtain ⟨qs, hq, rfl⟩ := map_some' hc
  simp only [stepOp] at hs
  split at hs <;> simp at hs
  rename_i c hcs
  obtain ⟨rfl, rfl⟩ := hs
  refine .of (s := Instr.build T (ps.map fun (i, x) => (i, a.eval x))) rfl (sound_bld hR hp hz (ps := qs.map fun p => (p.1, p.2.1, p.2.2.ev t)) ?_ hcs)
  have := compParts_rel hev ps.toList qs hq
  simpa using this

theorem st_buildSlice {T : TypeId} {len : Nat} {ps : Array (Nat × Operand)} (hR : Rep G m ρ w) (hev : EvOk G ρ t a) (hc : compOp P G ⟨dst, .buildSlice T len ps, ty, pos, after, guard⟩ = some ap) (hs : stepOp ap t m = some (v, m')) :
    StepsTo P G m ρ w a.eval ⟨dst, .buildSlice T len ps, ty, pos, after, guard⟩ v m' := by
  simp only [compOp] at hc
  split at hc <;> try (simp at hc; done)
  rename_i e hu
  split at hc <;> try (simp at hc; done)
  rename_i s z hsz hz
  split at hc <;> try (simp at hc; done)
  rename_i hb
  obtain ⟨qs, hq, rfl⟩ := map_some' hc
  simp only [stepOp] at hs
  split at hs <;> simp at hs
  rename_i c hcs
  obtain ⟨rfl, rfl⟩ := hs
  obtain ⟨hb1, hb2, hb3⟩ := hb
  have hpr := compParts_rel hev ps.toList qs hq
  have hex : execOp a.eval ⟨dst, .buildSlice T len ps, ty, pos, after, guard⟩ = (do pure (.value (← Instr.buildSlice T len (ps.map fun p => (p.1, a.eval p.2))))) := rfl
  exact .of hex (sound_bldSl (P := P) (w := w) hR hu hsz hz hb1 hb2 hb3 (by simpa using hpr) hcs)

theorem st_load {T : TypeId} {x : Operand} (hR : Rep G m ρ w) (hev : EvOk G ρ t a) (hc : compOp P G ⟨dst, .load T x, ty, pos, after, guard⟩ = some ap) (hs : stepOp ap t m = some (v, m')) :
    StepsTo P G m ρ w a.eval ⟨dst, .load T x, ty, pos, after, guard⟩ v m' := by
  simp only [compOp] at hc
  split at hc <;> try (simp at hc; done)
  rename_i d n y hu hsz hy
  split at hc <;> simp at hc <;> subst hc
  · rename_i hag
    simp only [stepOp] at hs
    split at hs <;> try (simp at hs; done)
    rename_i b o hb
    split at hs <;> simp at hs
    rename_i c hcs
    obtain ⟨rfl, rfl⟩ := hs
    exact .of (s := Instr.loadAt T (a.eval x)) rfl (sound_ldn hR hu hag hsz (hev x y hy) hb hcs)
  · rename_i hag
    simp only [stepOp] at hs
    split at hs <;> try (simp at hs; done)
    rename_i b o hb
    split at hs <;> simp at hs
    rename_i v1 hcs
    obtain ⟨rfl, rfl⟩ := hs
    exact .of (s := Instr.loadAt T (a.eval x)) rfl (sound_ld1 hR hu (by simpa using hag) (hev x y hy) hb hcs)

theorem st_store {T : TypeId} {x y : Operand} (hR : Rep G m ρ w) (hev : EvOk G ρ t a) (hc : compOp P G ⟨dst, .store T x y, ty, pos, after, guard⟩ = some ap) (hs : stepOp ap t m = some (v, m')) :
    StepsTo P G m ρ w a.eval ⟨dst, .store T x y, ty, pos, after, guard⟩ v m' := by
  simp only [compOp] at hc
  split at hc <;> simp at hc
  rename_i n x1 y1 hsz hx hy
  subst hc
  simp only [stepOp] at hs
  split at hs <;> try (simp at hs; done)
  rename_i b o c hb hcs
  split at hs <;> try (simp at hs; done)
  rename_i hl
  obtain ⟨m1, hw, h2⟩ := map_some' hs
  simp at h2
  obtain ⟨rfl, rfl⟩ := h2
  obtain ⟨w', e1, e2, e3⟩ := sound_st hR hsz (hev x x1 hx) hb (hev y y1 hy) hcs hl hw
  refine ⟨ρ, w', undef, .inr ⟨?_, rfl⟩, Plain.undef ρ, e2, e3⟩
  simp [execOp, e1]

theorem st_nilCheck {x : Operand} (hR : Rep G m ρ w) (hev : EvOk G ρ t a) (hc : compOp P G ⟨dst, .nilCheck x, ty, pos, after, guard⟩ = some ap) (hs : stepOp ap t m = some (v, m')) :
    StepsTo P G m ρ w a.eval ⟨dst, .nilCheck x, ty, pos, after, guard⟩ v m' := by
  simp only [compOp] at hc
  obtain ⟨y, hy, rfl⟩ := map_some' hc
  have hx := hev x y hy
  simp only [stepOp] at hs
  generalize hxv : y.ev t = xv at hx hs
  split at hs <;> simp at hs
  rename_i h1 h2 h3 h4
  obtain ⟨rfl, rfl⟩ := hs
  refine .same hR (v' := a.eval x) ?_ hx
  simp only [execOp]
  generalize a.eval x = x' at hx
  cases hx <;> simp_all

theorem st_bin {op : BinOp} {T T' : TypeId} {x y : Operand} {x1 y1 : AOpd} (hR : Rep G m ρ w) (hvx : VRel ρ (x1.ev t) (a.eval x)) (hvy : VRel ρ (y1.ev t) (a.eval y)) (hs : stepOp (.bin op x1 y1) t m = some (v, m')) :
    StepsTo P G m ρ w a.eval ⟨dst, .binOp op T x y T', ty, pos, after, guard⟩ v m' := by
  simp only [stepOp] at hs
  obtain ⟨v1, hv1, h2⟩ := map_some' hs
  simp at h2
  obtain ⟨rfl, rfl⟩ := h2
  obtain ⟨g1, g2, g3⟩ := sound_bin (P := P) hR (xt := T) hvx hvy hv1
  exact .of (s := do eqGuard op T x y (a.eval x) (a.eval y); binOp op T (a.eval x) (a.eval y)) rfl (.pure hR (v' := v1) (by simp [g1, g2]) g3)

theorem st_eq {neg : Bool} {op : BinOp} {T T' : TypeId} {x y : Operand} {x1 y1 : AOpd} {k : EqTy} (hR : Rep G m ρ w) (hvx : VRel ρ (x1.ev t) (a.eval x)) (hvy : VRel ρ (y1.ev t) (a.eval y)) (hop : op = (if neg then BinOp.neq else BinOp.eql))
    (hk : eqTyOf P T x y = some k) (hs : stepOp (.eql neg k x1 y1) t m = some (v, m')) :
    StepsTo P G m ρ w a.eval ⟨dst, .binOp op T x y T', ty, pos, after, guard⟩ v m' := by
  simp only [stepOp] at hs
  obtain ⟨b, hb, h2⟩ := map_some' hs
  simp at h2
  obtain ⟨rfl, rfl⟩ := h2
  have fin : ((eqGuard op T x y (a.eval x) (a.eval y)).run P w = .ok () w) → ((binOp .eql T (a.eval x) (a.eval y)).run P w = .ok (.bool b) w ∧ (binOp .neq T (a.eval x) (a.eval y)).run P w = .ok (.bool !b) w) →
      StepsTo P G m ρ w a.eval ⟨dst, .binOp op T x y T', ty, pos, after, guard⟩ (.bool (if neg then !b else b)) m := by
    intro hg hbin
    refine .of (s := do eqGuard op T x y (a.eval x) (a.eval y); binOp op T (a.eval x) (a.eval y)) rfl (.pure hR (v' := .bool (if neg then !b else b)) ?_ (.bool _))
    cases neg
    · simp at hop; subst hop; simp [hg, hbin.1]
    · simp at hop; subst hop; simp [hg, hbin.2]
  unfold eqTyOf at hk
  split at hk <;> try (simp at hk; done)
  · rename_i hu
    simp at hk; subst hk
    generalize hX : x1.ev t = X at hvx hb
    generalize hY : y1.ev t = Y at hvy hb
    cases X <;> cases Y <;> simp [eqV] at hb
    subst hb
    have ex := hvx.bool_inv
    have ey := hvy.bool_inv
    rw [ex, ey] at fin
    exact fin (eqGuard_plain rfl) (eqlRun 9998 rfl (run_equalIn_bool w _ _ _ _ hu) rfl rfl)
  · rename_i e hu
    split at hk <;> simp at hk
    rename_i s hsz
    subst hk
    obtain ⟨k1, _, k3, k4⟩ := eq_ptr (P := P) (w := w) 0 hu hsz hvx hvy hb
    obtain ⟨_, k2, _, _⟩ := eq_ptr (P := P) (w := w) (9998 + 1) hu hsz hvx hvy hb
    exact fin (eqGuard_plain k1) (eqlRun 9998 rfl k2 k3 k4)
  · rename_i e hu
    simp at hk; subst hk
    obtain ⟨k1, _, k3, k4⟩ := eq_nilS (P := P) (w := w) 0 hu hvx hvy hb
    obtain ⟨_, k2, _, _⟩ := eq_nilS (P := P) (w := w) (9998 + 1) hu hvx hvy hb
    exact fin (eqGuard_plain k1) (eqlRun 9998 rfl k2 k3 k4)
  · rename_i e hu
    simp at hk; subst hk
    obtain ⟨k1, _, k3, k4⟩ := eq_nilM (P := P) (w := w) 0 hu hvx hvy hb
    obtain ⟨_, k2, _, _⟩ := eq_nilM (P := P) (w := w) (9998 + 1) hu hvx hvy hb
    exact fin (eqGuard_plain k1) (eqlRun 9998 rfl k2 k3 k4)
  · rename_i p q vr hu
    simp at hk; subst hk
    obtain ⟨k1, _, k3, k4⟩ := eq_nilF (P := P) (w := w) 0 hu hvx hvy hb
    obtain ⟨_, k2, _, _⟩ := eq_nilF (P := P) (w := w) (9998 + 1) hu hvx hvy hb
    exact fin (eqGuard_plain k1) (eqlRun 9998 rfl k2 k3 k4)
  · rename_i n e hu
    split at hk <;> simp at hk
    rename_i hcond
    obtain ⟨hi, hsz⟩ := hcond
    subst hk
    obtain ⟨kk, hkk⟩ := Option.isSome_iff_exists.1 hi
    have he : P.underlying e = some (.int kk) := by unfold intB at hkk; split at hkk <;> simp at hkk; subst hkk; assumption
    generalize hX : x1.ev t = X at hvx hb
    generalize hY : y1.ev t = Y at hvy hb
    cases X with
    | agg A =>
      cases Y with
      | agg C =>
        obtain ⟨a', c', e1, e2, e3⟩ := eq_cells (P := P) (w := w) 9998 hu he hsz hvx hvy hb
        rw [e1, e2] at fin e3
        exact fin (eqGuard_cells hu he) (eqlRun 9998 rfl e3 rfl rfl)
      | _ => simp [eqV] at hb
    | _ => simp [eqV] at hb
  · rename_i ms hu
    split at hk <;> simp at hk
    rename_i hcond
    subst hk
    obtain ⟨k1, _, k3, k4⟩ := eq_iface (P := P) (w := w) 0 hu hvx hvy hb
    obtain ⟨_, k2, _, _⟩ := eq_iface (P := P) (w := w) (9998 + 1) hu hvx hvy hb
    refine fin ?_ (eqlRun 9998 rfl k2 k3 k4)
    rcases k1 with k1 | ⟨k5, k6⟩
    · exact eqGuard_plain k1
    · rw [k5, k6]; exact eqGuard_nil hcond

theorem st_binOp {op : BinOp} {T T' : TypeId} {x y : Operand} (hR : Rep G m ρ w) (hev : EvOk G ρ t a) (hc : compOp P G ⟨dst, .binOp op T x y T', ty, pos, after, guard⟩ = some ap) (hs : stepOp ap t m = some (v, m')) :
    StepsTo P G m ρ w a.eval ⟨dst, .binOp op T x y T', ty, pos, after, guard⟩ v m' := by
  simp only [compOp] at hc
  split at hc <;> try (simp at hc; done)
  rename_i x1 y1 hx hy
  have hvx := hev x x1 hx
  have hvy := hev y y1 hy
  split at hc
  · simp at hc; subst hc; exact st_bin hR hvx hvy hs
  · simp at hc; subst hc; exact st_bin hR hvx hvy hs
  · simp at hc; subst hc; exact st_bin hR hvx hvy hs
  · simp at hc; subst hc; exact st_bin hR hvx hvy hs
  · obtain ⟨k, hk, rfl⟩ := map_some' hc
    exact st_eq (neg := false) hR hvx hvy rfl hk hs
  · obtain ⟨k, hk, rfl⟩ := map_some' hc
    exact st_eq (neg := true) hR hvx hvy rfl hk hs
  · simp at hc; subst hc; exact st_bin hR hvx hvy hs

theorem st_unOp {op : UnOp} {T : TypeId} {x : Operand} (hR : Rep G m ρ w) (hev : EvOk G ρ t a) (hc : compOp P G ⟨dst, .unOp op T x, ty, pos, after, guard⟩ = some ap) (hs : stepOp ap t m = some (v, m')) :
    StepsTo P G m ρ w a.eval ⟨dst, .unOp op T x, ty, pos, after, guard⟩ v m' := by
  simp only [compOp] at hc
  obtain ⟨y, hy, rfl⟩ := map_some' hc
  simp only [stepOp] at hs
  obtain ⟨v1, hv1, h2⟩ := map_some' hs
  simp at h2
  obtain ⟨rfl, rfl⟩ := h2
  obtain ⟨g1, g2⟩ := sound_un (P := P) hR (hev x y hy) hv1
  exact .of (s := Op.unary op (a.eval x)) rfl (.pure hR g1 g2)

theorem st_convert {s d : TypeId} {x : Operand} (hR : Rep G m ρ w) (hev : EvOk G ρ t a) (hc : compOp P G ⟨dst, .convert s d x, ty, pos, after, guard⟩ = some ap) (hs : stepOp ap t m = some (v, m')) :
    StepsTo P G m ρ w a.eval ⟨dst, .convert s d x, ty, pos, after, guard⟩ v m' := by
  simp only [compOp] at hc
  split at hc <;> try (simp at hc; done)
  · rename_i k k' x1 hu1 hu2 hx
    simp at hc; subst hc
    simp only [stepOp] at hs
    split at hs <;> simp at hs
    rename_i kk n hn
    obtain ⟨rfl, rfl⟩ := hs
    have hv := hev x x1 hx
    rw [hn] at hv
    have := hv.int_inv
    exact .of (s := convert s d (a.eval x)) rfl (.pure hR (by rw [this]; simp [convert, run_underlying hu1, run_underlying hu2, Conv.intToInt]) (.int _ _))
  · rename_i x1 hu1 hu2 hx
    simp at hc; subst hc
    simp only [stepOp] at hs
    split at hs <;> simp at hs
    rename_i str hn
    obtain ⟨rfl, rfl⟩ := hs
    have hv := hev x x1 hx
    rw [hn] at hv
    have := hv.string_inv
    exact .of (s := convert s d (a.eval x)) rfl (.pure hR (by rw [this]; simp [convert, run_underlying hu1, run_underlying hu2]) (.string _))
  · rename_i k x1 hu1 hu2 hx
    simp at hc; subst hc
    simp only [stepOp] at hs
    split at hs <;> simp at hs
    rename_i kk n hn
    obtain ⟨rfl, rfl⟩ := hs
    have hv := hev x x1 hx
    rw [hn] at hv
    have := hv.int_inv
    exact .of (s := convert s d (a.eval x)) rfl (.pure hR (v' := .string (Utf8.encode n)) (by rw [this]; simp [convert, run_underlying hu1, run_underlying hu2, Conv.intToString]) (.string _))
  · rename_i e x1 hu1 hu2 hx
    split at hc <;> simp at hc
    rename_i he
    subst hc
    simp only [stepOp] at hs
    split at hs <;> try (simp at hs; done)
    rename_i str hn
    split at hs <;> simp at hs
    rename_i hle
    obtain ⟨rfl, rfl⟩ := hs
    have hv := hev x x1 hx
    rw [hn] at hv
    exact .of rfl (sound_s2b hR hu1 hu2 he hv hle)
  · rename_i e x1 hu1 hu2 hx
    split at hc <;> simp at hc
    rename_i he
    subst hc
    obtain ⟨rfl, h2⟩ := sound_b2s hR hu1 hu2 he (hev x x1 hx) rfl hs
    exact .of rfl h2
  · rename_i e x1 hu1 hu2 hx
    split at hc <;> simp at hc
    rename_i k hk
    subst hc
    obtain ⟨rfl, h2⟩ := sound_toU hR hu1 hu2 hk (hev x x1 hx) rfl hs
    exact .of rfl h2
  · rename_i u x1 hu1 hu2 hx
    split at hc <;> simp at hc
    rename_i k hk
    subst hc
    obtain ⟨rfl, h2⟩ := sound_frU hR hu1 hu2 hk (hev x x1 hx) rfl hs
    exact .of rfl h2
  · rename_i e0 e x1 hu1 hu2 hx
    split at hc <;> simp at hc
    rename_i hsd
    subst hc
    exact .of rfl (sound_s2s hR hu1 hu2 hsd.1 hsd.2 (hev x x1 hx) rfl hs)

theorem st_arr {T : TypeId} {x : Operand} (hR : Rep G m ρ w) (hev : EvOk G ρ t a) (hc : compOp P G ⟨dst, .sliceToArrayPointer T x, ty, pos, after, guard⟩ = some ap) (hs : stepOp ap t m = some (v, m')) :
    StepsTo P G m ρ w a.eval ⟨dst, .sliceToArrayPointer T x, ty, pos, after, guard⟩ v m' := by
  simp only [compOp] at hc
  split at hc <;> try (simp at hc; done)
  rename_i n e hu
  split at hc <;> try (simp at hc; done)
  rename_i h0
  obtain ⟨y, hy, rfl⟩ := map_some' hc
  have hx := hev x y hy
  simp only [stepOp] at hs
  split at hs <;> try (simp at hs; done)
  rename_i b o l c hv
  split at hs <;> simp at hs
  rename_i hle
  obtain ⟨rfl, rfl⟩ := hs
  rw [hv] at hx
  exact .of rfl (sound_arrAt hR hu hx h0 hle)

theorem st_mkI {T : TypeId} {x : Operand} (hR : Rep G m ρ w) (hev : EvOk G ρ t a) (hc : compOp P G ⟨dst, .makeInterface T x, ty, pos, after, guard⟩ = some ap) (hs : stepOp ap t m = some (v, m')) :
    StepsTo P G m ρ w a.eval ⟨dst, .makeInterface T x, ty, pos, after, guard⟩ v m' := by
  simp only [compOp] at hc
  split at hc <;> try (simp at hc; done)
  rename_i d hnd hu
  obtain ⟨y, hy, rfl⟩ := map_some' hc
  simp [stepOp] at hs
  obtain ⟨rfl, rfl⟩ := hs
  exact .of rfl (sound_mkI hR hu (fun ms hd => hnd ms hd) (hev x y hy))

theorem st_mkF {fn : Fn} {first captured : Array Operand} (hR : Rep G m ρ w) (hev : EvOk G ρ t a) (hc : compOp P G ⟨dst, .makeFunc fn first captured, ty, pos, after, guard⟩ = some ap) (hs : stepOp ap t m = some (v, m')) :
    StepsTo P G m ρ w a.eval ⟨dst, .makeFunc fn first captured, ty, pos, after, guard⟩ v m' := by
  cases fn <;> simp only [compOp] at hc <;> try (simp at hc; done)
  rename_i f
  split at hc <;> simp at hc
  rename_i x1 y1 h1 h2
  subst hc
  simp [stepOp] at hs
  obtain ⟨rfl, rfl⟩ := hs
  have k1 := (compOpds_map hev _ _ h1).toArray
  have k2 := (compOpds_map hev _ _ h2).toArray
  refine .of (s := Instr.makeFunc (.func f) (first.map a.eval) (captured.map a.eval)) rfl (.pure hR (v' := .func (.func f) (first.map a.eval) (captured.map a.eval)) rfl ?_)
  have e1 : (first.toList.map a.eval).toArray = first.map a.eval := by rw [← Array.toList_map, Array.toArray_toList]
  have e2 : (captured.toList.map a.eval).toArray = captured.map a.eval := by rw [← Array.toList_map, Array.toArray_toList]
  rw [e1] at k1
  rw [e2] at k2
  simpa using VRel.func f _ _ _ _ k1.1 k2.1 k1.2 k2.2

theorem st_mkM {T : TypeId} {r : Option Operand} (hR : Rep G m ρ w) (hev : EvOk G ρ t a) (hc : compOp P G ⟨dst, .makeMap T r, ty, pos, after, guard⟩ = some ap) (hs : stepOp ap t m = some (v, m')) :
    StepsTo P G m ρ w a.eval ⟨dst, .makeMap T r, ty, pos, after, guard⟩ v m' := by
  cases r <;> simp [compOp] at hc
  subst hc
  simp [stepOp] at hs
  obtain ⟨rfl, rfl⟩ := hs
  exact .of rfl (sound_mkM hR)

theorem st_mkSl {T : TypeId} {l c : Operand} (hR : Rep G m ρ w) (hev : EvOk G ρ t a) (hc : compOp P G ⟨dst, .makeSlice T l c, ty, pos, after, guard⟩ = some ap) (hs : stepOp ap t m = some (v, m')) :
    StepsTo P G m ρ w a.eval ⟨dst, .makeSlice T l c, ty, pos, after, guard⟩ v m' := by
  simp only [compOp] at hc
  split at hc <;> try (simp at hc; done)
  rename_i e hu
  split at hc <;> try (simp at hc; done)
  rename_i s b z l1 c1 h1 h2 h3 h4 h5
  split at hc <;> simp at hc
  rename_i h0
  subst hc
  simp only [stepOp] at hs
  split at hs <;> try (simp at hs; done)
  rename_i kl l2 kc c2 hl hcc
  split at hs <;> simp at hs
  rename_i hcond
  obtain ⟨rfl, rfl⟩ := hs
  have hvl := hev l l1 h4
  have hvc := hev c c1 h5
  rw [hl] at hvl
  rw [hcc] at hvc
  exact .of rfl (sound_mkSl hR hu h1 h2 h3 h0 hvl hvc hcond)

theorem st_slice {T : TypeId} {x : Operand} {lo hi mx : Option Operand} (hR : Rep G m ρ w) (hev : EvOk G ρ t a) (hc : compOp P G ⟨dst, .slice T x lo hi mx, ty, pos, after, guard⟩ = some ap) (hs : stepOp ap t m = some (v, m')) :
    StepsTo P G m ρ w a.eval ⟨dst, .slice T x lo hi mx, ty, pos, after, guard⟩ v m' := by
  simp only [compOp] at hc
  split at hc <;> try (simp at hc; done)
  rename_i x1 lo1 hi1 mx1 hx h1 h2 h3
  have hv := hev x x1 hx
  split at hc <;> try (simp at hc; done)
  · rename_i hu
    split at hc <;> simp at hc
    rename_i hmx
    subst hc
    simp only [stepOp] at hs
    split at hs <;> try (simp at hs; done)
    rename_i s hsv
    split at hs <;> simp at hs
    rename_i i h k hcut
    obtain ⟨rfl, rfl⟩ := hs
    rw [hsv] at hv
    have hmn : mx.map a.eval = none := (map_none_of h3).2 hmx
    refine .of (s := Instr.sliceAt T (a.eval x) (lo.map a.eval) (hi.map a.eval) (mx.map a.eval)) rfl ?_
    rw [hmn]
    exact sound_slS hR hev hu h1 h2 hv hcut
  · rename_i e hu
    split at hc <;> try (simp at hc; done)
    rename_i s hsz
    split at hc <;> try (simp at hc; done)
    rename_i hcond
    simp at hc
    subst hc
    obtain ⟨rfl, h4⟩ := sound_slV (P := P) hR hev hu hsz hcond.1 hx h1 h2 h3 hcond.2 hs
    exact .of rfl h4
  · rename_i n e hu
    split at hc <;> try (simp at hc; done)
    rename_i s hsz
    split at hc <;> try (simp at hc; done)
    rename_i hcond
    simp at hc
    subst hc
    simp only [stepOp] at hs
    split at hs <;> try (simp at hs; done)
    rename_i b o hb
    split at hs <;> simp at hs
    rename_i i h k hcut
    obtain ⟨rfl, rfl⟩ := hs
    exact .of rfl (sound_slA hR hev hu hsz h1 h2 h3 hcond.1 hcond.2 hv hb hcut)

theorem st_fad {T : TypeId} {x : Operand} {f : Nat} (hR : Rep G m ρ w) (hev : EvOk G ρ t a) (hc : compOp P G ⟨dst, .fieldAddr T x f, ty, pos, after, guard⟩ = some ap) (hs : stepOp ap t m = some (v, m')) :
    StepsTo P G m ρ w a.eval ⟨dst, .fieldAddr T x f, ty, pos, after, guard⟩ v m' := by
  simp only [compOp] at hc
  split at hc <;> try (simp at hc; done)
  rename_i fs hu
  split at hc <;> try (simp at hc; done)
  rename_i fd hf
  split at hc <;> try (simp at hc; done)
  rename_i s hsz
  obtain ⟨y, hy, rfl⟩ := map_some' hc
  simp only [stepOp] at hs
  split at hs <;> simp at hs
  rename_i b o hb
  obtain ⟨rfl, rfl⟩ := hs
  exact .of rfl (sound_fad hR hu hf hsz (hev x y hy) hb)

theorem st_fld {T : TypeId} {x : Operand} {f : Nat} (hR : Rep G m ρ w) (hev : EvOk G ρ t a) (hc : compOp P G ⟨dst, .field T x f, ty, pos, after, guard⟩ = some ap) (hs : stepOp ap t m = some (v, m')) :
    StepsTo P G m ρ w a.eval ⟨dst, .field T x f, ty, pos, after, guard⟩ v m' := by
  simp only [compOp] at hc
  split at hc <;> try (simp at hc; done)
  rename_i fs hu
  split at hc <;> try (simp at hc; done)
  rename_i fd hf
  split at hc <;> try (simp at hc; done)
  rename_i d s hd hsz
  obtain ⟨y, hy, rfl⟩ := map_some' hc
  have hv := hev x y hy
  simp only [stepOp] at hs
  split at hs <;> try (simp at hs; done)
  rename_i c hcv
  rw [hcv] at hv
  refine .of rfl (m' := m') ?_
  split at hs
  · rename_i hag
    simp at hs
    obtain ⟨rfl, rfl⟩ := hs
    exact sound_fld hR hu hf hd hsz hv (by rw [if_pos hag])
  · rename_i hag
    obtain ⟨v1, hv1, h2⟩ := map_some' hs
    simp at h2
    obtain ⟨rfl, rfl⟩ := h2
    exact sound_fld hR hu hf hd hsz hv (by rw [if_neg hag]; exact hv1)

theorem st_iad {T : TypeId} {x i : Operand} (hR : Rep G m ρ w) (hev : EvOk G ρ t a) (hc : compOp P G ⟨dst, .indexAddr T x i, ty, pos, after, guard⟩ = some ap) (hs : stepOp ap t m = some (v, m')) :
    StepsTo P G m ρ w a.eval ⟨dst, .indexAddr T x i, ty, pos, after, guard⟩ v m' := by
  simp only [compOp] at hc
  split at hc <;> try (simp at hc; done)
  · rename_i x1 i1 n e hx hi hu
    obtain ⟨s, hsz, rfl⟩ := map_some' hc
    simp only [stepOp] at hs
    split at hs <;> try (simp at hs; done)
    rename_i b o k j hb hj
    split at hs <;> simp at hs
    rename_i hcond
    obtain ⟨rfl, rfl⟩ := hs
    have hvi := hev i i1 hi
    rw [hj] at hvi
    exact .of rfl (sound_iadA hR hu hsz (hev x x1 hx) hb hvi hcond)
  · rename_i x1 i1 e hx hi hu
    obtain ⟨s, hsz, rfl⟩ := map_some' hc
    simp only [stepOp] at hs
    split at hs <;> try (simp at hs; done)
    rename_i b o l c k j hb hj
    split at hs <;> simp at hs
    rename_i hcond
    obtain ⟨rfl, rfl⟩ := hs
    have hvi := hev i i1 hi
    have hvx := hev x x1 hx
    rw [hj] at hvi
    rw [hb] at hvx
    exact .of rfl (sound_iadV hR hu hsz hvx hvi hcond)

theorem st_ix {T : TypeId} {x i : Operand} (hR : Rep G m ρ w) (hev : EvOk G ρ t a) (hc : compOp P G ⟨dst, .index T x i, ty, pos, after, guard⟩ = some ap) (hs : stepOp ap t m = some (v, m')) :
    StepsTo P G m ρ w a.eval ⟨dst, .index T x i, ty, pos, after, guard⟩ v m' := by
  simp only [compOp] at hc
  split at hc <;> try (simp at hc; done)
  · rename_i x1 i1 n e hx hi hu
    split at hc <;> simp at hc
    rename_i s d hsz hd
    subst hc
    simp only [stepOp] at hs
    split at hs <;> try (simp at hs; done)
    rename_i c k j hcv hj
    split at hs <;> try (simp at hs; done)
    rename_i hcond
    have hvi := hev i i1 hi
    have hvx := hev x x1 hx
    rw [hj] at hvi
    rw [hcv] at hvx
    refine .of rfl (m' := m') ?_
    split at hs
    · rename_i hag
      simp at hs
      obtain ⟨rfl, rfl⟩ := hs
      exact sound_ixA hR hu hsz hd hvx hvi hcond (by rw [if_pos hag])
    · rename_i hag
      obtain ⟨v1, hv1, h2⟩ := map_some' hs
      simp at h2
      obtain ⟨rfl, rfl⟩ := h2
      exact sound_ixA hR hu hsz hd hvx hvi hcond (by rw [if_neg hag]; exact hv1)
  · rename_i x1 i1 hx hi hu
    simp at hc
    subst hc
    simp only [stepOp] at hs
    split at hs <;> try (simp at hs; done)
    rename_i s k j hcv hj
    split at hs <;> try (simp at hs; done)
    rename_i h0
    obtain ⟨b, hb, h2⟩ := map_some' hs
    simp at h2
    obtain ⟨rfl, rfl⟩ := h2
    have hvi := hev i i1 hi
    have hvx := hev x x1 hx
    rw [hj] at hvi
    rw [hcv] at hvx
    exact .of rfl (sound_ixS hR hu hvx hvi h0 hb)

theorem st_ext {x : Operand} {i : Nat} (hR : Rep G m ρ w) (hev : EvOk G ρ t a) (hc : compOp P G ⟨dst, .extract x i, ty, pos, after, guard⟩ = some ap) (hs : stepOp ap t m = some (v, m')) :
    StepsTo P G m ρ w a.eval ⟨dst, .extract x i, ty, pos, after, guard⟩ v m' := by
  simp only [compOp] at hc
  obtain ⟨y, hy, rfl⟩ := map_some' hc
  have hv := hev x y hy
  simp only [stepOp] at hs
  split at hs <;> try (simp at hs; done)
  rename_i vs hvs
  obtain ⟨v1, hv1, h2⟩ := map_some' hs
  simp at h2
  obtain ⟨rfl, rfl⟩ := h2
  rw [hvs] at hv
  exact .of rfl (sound_ext hR hv hv1)

theorem st_rng {T : TypeId} {x : Operand} (hR : Rep G m ρ w) (hev : EvOk G ρ t a) (hc : compOp P G ⟨dst, .range T x, ty, pos, after, guard⟩ = some ap) (hs : stepOp ap t m = some (v, m')) :
    StepsTo P G m ρ w a.eval ⟨dst, .range T x, ty, pos, after, guard⟩ v m' := by
  simp only [compOp] at hc
  split at hc <;> try (simp at hc; done)
  rename_i hu
  obtain ⟨y, hy, rfl⟩ := map_some' hc
  have hv := hev x y hy
  simp only [stepOp] at hs
  split at hs <;> simp at hs
  rename_i s hvs
  obtain ⟨rfl, rfl⟩ := hs
  rw [hvs] at hv
  exact .of rfl (sound_rng hR hu hv)

theorem st_tas1 {x : Operand} {X T : TypeId} (hR : Rep G m ρ w) (hev : EvOk G ρ t a) (hc : compOp P G ⟨dst, .typeAssert x X T true, ty, pos, after, guard⟩ = some ap) (hs : stepOp ap t m = some (v, m')) :
    StepsTo P G m ρ w a.eval ⟨dst, .typeAssert x X T true, ty, pos, after, guard⟩ v m' := by
  simp only [compOp] at hc
  split at hc <;> try (simp at hc; done)
  rename_i d hni hu
  split at hc <;> try (simp at hc; done)
  rename_i z x1 hz hx
  simp at hc; subst hc
  obtain ⟨hz1, hz2⟩ := zeroVOf_spec hz w
  have hv := hev x x1 hx
  have hzp : Plain (.tuple #[z, .bool false]) := .tuple fun v hv => by
    simp at hv
    rcases hv with rfl | rfl
    · exact hz2
    · exact .bool _
  simp only [stepOp] at hs
  split at hs <;> simp at hs
  · rename_i hn
    obtain ⟨rfl, rfl⟩ := hs
    rw [hn] at hv
    have e : a.eval x = .nilIface := by generalize a.eval x = y at hv; cases hv; rfl
    refine .of (s := Instr.typeAssert (a.eval x) X T true) rfl (.pure hR (v' := .tuple #[z, .bool false]) ?_ (hzp ρ))
    rw [e]
    cases d <;> first | exact absurd rfl (hni _) | simp [Instr.typeAssert, run_underlying hu, hz1]
  · rename_i u y hn
    obtain ⟨rfl, rfl⟩ := hs
    rw [hn] at hv
    obtain ⟨y', e, hy⟩ : ∃ y', a.eval x = .iface u y' ∧ VRel ρ y y' := by generalize a.eval x = y0 at hv; cases hv with | iface _ h => exact ⟨_, rfl, h⟩
    by_cases hut : u = T
    · rw [if_pos hut]
      refine .of (s := Instr.typeAssert (a.eval x) X T true) rfl (.pure hR (v' := .tuple #[y', .bool true]) ?_ (.tuple _ _ rfl fun i h1 h2 => ?_))
      · rw [e]
        cases d <;> first | exact absurd rfl (hni _) | simp [Instr.typeAssert, run_underlying hu, hut]
      · have : i = 0 ∨ i = 1 := by simp at h1; omega
        rcases this with rfl | rfl
        · exact hy
        · exact .bool _
    · rw [if_neg hut]
      refine .of (s := Instr.typeAssert (a.eval x) X T true) rfl (.pure hR (v' := .tuple #[z, .bool false]) ?_ (hzp ρ))
      rw [e]
      cases d <;> first | exact absurd rfl (hni _) | simp [Instr.typeAssert, run_underlying hu, hut, hz1]
theorem st_tas0 {x : Operand} {X T : TypeId} (hR : Rep G m ρ w) (hev : EvOk G ρ t a) (hc : compOp P G ⟨dst, .typeAssert x X T false, ty, pos, after, guard⟩ = some ap) (hs : stepOp ap t m = some (v, m')) :
    StepsTo P G m ρ w a.eval ⟨dst, .typeAssert x X T false, ty, pos, after, guard⟩ v m' := by
  simp only [compOp] at hc
  split at hc <;> try (simp at hc; done)
  rename_i d hni hu
  obtain ⟨y, hy, rfl⟩ := map_some' hc
  have hv := hev x y hy
  simp only [stepOp] at hs
  split at hs <;> try (simp at hs; done)
  rename_i u y0 hn
  split at hs <;> try (simp at hs; done)
  rename_i hut
  simp at hs
  obtain ⟨rfl, rfl⟩ := hs
  rw [hn] at hv
  obtain ⟨y', e, hy⟩ : ∃ y', a.eval x = .iface u y' ∧ VRel ρ y0 y' := by generalize a.eval x = y1 at hv; cases hv with | iface _ h => exact ⟨_, rfl, h⟩
  refine .of (s := Instr.typeAssert (a.eval x) X T false) rfl (.pure hR (v' := y') ?_ hy)
  rw [e]
  cases d <;> first | exact absurd rfl (hni _) | simp [Instr.typeAssert, run_underlying hu, hut]
theorem st_tas {x : Operand} {X T : TypeId} {ok : Bool} (hR : Rep G m ρ w) (hev : EvOk G ρ t a) (hc : compOp P G ⟨dst, .typeAssert x X T ok, ty, pos, after, guard⟩ = some ap) (hs : stepOp ap t m = some (v, m')) :
    StepsTo P G m ρ w a.eval ⟨dst, .typeAssert x X T ok, ty, pos, after, guard⟩ v m' := by
  cases ok
  · exact st_tas0 hR hev hc hs
  · exact st_tas1 hR hev hc hs
theorem st_nxt {x : Operand} {b : Bool} (hR : Rep G m ρ w) (hev : EvOk G ρ t a) (hc : compOp P G ⟨dst, .next x b, ty, pos, after, guard⟩ = some ap) (hs : stepOp ap t m = some (v, m')) :
    StepsTo P G m ρ w a.eval ⟨dst, .next x b, ty, pos, after, guard⟩ v m' := by
  cases b <;> simp only [compOp] at hc <;> try (simp at hc; done)
  obtain ⟨y, hy, rfl⟩ := map_some' hc
  have hv := hev x y hy
  simp only [stepOp] at hs
  split at hs <;> try (simp at hs; done)
  rename_i r hr
  split at hs <;> try (simp at hs; done)
  rename_i s pos' hm
  rw [hr] at hv
  exact .of rfl (sound_nxt hR hv hm hs)

theorem st_lookup {T : TypeId} {x i : Operand} {ok : Bool} (hR : Rep G m ρ w) (hev : EvOk G ρ t a) (hc : compOp P G ⟨dst, .lookup T x i ok, ty, pos, after, guard⟩ = some ap) (hs : stepOp ap t m = some (v, m')) :
    StepsTo P G m ρ w a.eval ⟨dst, .lookup T x i ok, ty, pos, after, guard⟩ v m' := by
  simp only [compOp] at hc
  split at hc <;> try (simp at hc; done)
  rename_i k e x1 i1 hu hx hi
  split at hc <;> try (simp at hc; done)
  rename_i z hk hz
  simp at hc
  subst hc
  have hvx := hev x x1 hx
  have hvi := hev i i1 hi
  simp only [stepOp] at hs
  generalize x1.ev t = xv at hvx hs
  generalize i1.ev t = iv at hvi hs
  split at hs
  · exact .of rfl (sound_lkp hR hu hk hz (x := .map none) hvx hvi hs)
  · rename_i r s
    exact .of rfl (sound_lkp hR hu hk hz (x := .map (some r)) hvx hvi hs)
  · cases hs
theorem st_mapUpdate {T : TypeId} {x k y : Operand} (hR : Rep G m ρ w) (hev : EvOk G ρ t a) (hc : compOp P G ⟨dst, .mapUpdate T x k y, ty, pos, after, guard⟩ = some ap) (hs : stepOp ap t m = some (v, m')) :
    StepsTo P G m ρ w a.eval ⟨dst, .mapUpdate T x k y, ty, pos, after, guard⟩ v m' := by
  simp only [compOp] at hc
  split at hc <;> try (simp at hc; done)
  rename_i kt e x1 k1 y1 hu hx hk hy
  split at hc <;> try (simp at hc; done)
  rename_i hks
  simp at hc
  subst hc
  have hvx := hev x x1 hx
  have hvk := hev k k1 hk
  have hvy := hev y y1 hy
  simp only [stepOp] at hs
  generalize x1.ev t = xv at hvx hs
  generalize k1.ev t = kv at hvk hs
  split at hs <;> try (cases hs; done)
  rename_i r s
  split at hs <;> try (cases hs; done)
  rename_i hsv
  split at hs <;> try (cases hs; done)
  rename_i es c hm
  have hv : v = undef := by
    split at hs
    · simp at hs; exact hs.1.symm
    · simp at hs; exact hs.1.symm
    · cases hs
  subst hv
  obtain ⟨w', e1, e2, e3⟩ := sound_mup hR hu hks hvx hvk hsv hvy hm hs
  refine ⟨ρ, w', undef, .inr ⟨?_, rfl⟩, Plain.undef ρ, e2, e3⟩
  simp [execOp, e1]

theorem st_call {c : Call} (hR : Rep G m ρ w) (hev : EvOk G ρ t a) (hc : compOp P G ⟨dst, .call c, ty, pos, after, guard⟩ = some ap) (hs : stepOp ap t m = some (v, m')) :
    StepsTo P G m ρ w a.eval ⟨dst, .call c, ty, pos, after, guard⟩ v m' := by
  obtain ⟨callee, args, tys⟩ := c
  cases callee <;> simp only [compOp] at hc <;> try (simp at hc; done)
  exact compOp_builtin hR hev hc hs

theorem step_ok {o : Oper} (hR : Rep G m ρ w) (hev : EvOk G ρ t a) (hc : compOp P G o = some ap) (hs : stepOp ap t m = some (v, m')) : StepsTo P G m ρ w a.eval o v m' := by
  obtain ⟨dst, op, ty, pos, after, guard⟩ := o
  cases op with
  | move x => exact st_move hR hev hc hs
  | assign x => exact st_assign hR hev hc hs
  | pick c x y => exact st_pick hR hev hc hs
  | alloc e => exact st_alloc hR hev hc hs
  | box e x => exact st_box hR hev hc hs
  | build T ps => exact st_build hR hev hc hs
  | buildSlice T l ps => exact st_buildSlice hR hev hc hs
  | load T x => exact st_load hR hev hc hs
  | store T x y => exact st_store hR hev hc hs
  | nilCheck x => exact st_nilCheck hR hev hc hs
  | binOp op T x y T' => exact st_binOp hR hev hc hs
  | unOp op T x => exact st_unOp hR hev hc hs
  | convert s d x => exact st_convert hR hev hc hs
  | sliceToArrayPointer T x => exact st_arr hR hev hc hs
  | makeInterface T x => exact st_mkI hR hev hc hs
  | makeFunc fn f c => exact st_mkF hR hev hc hs
  | makeMap T r => exact st_mkM hR hev hc hs
  | makeSlice T l c => exact st_mkSl hR hev hc hs
  | slice T x lo hi mx => exact st_slice hR hev hc hs
  | fieldAddr T x f => exact st_fad hR hev hc hs
  | field T x f => exact st_fld hR hev hc hs
  | indexAddr T x i => exact st_iad hR hev hc hs
  | index T x i => exact st_ix hR hev hc hs
  | extract x i => exact st_ext hR hev hc hs
  | range T x => exact st_rng hR hev hc hs
  | next x b => exact st_nxt hR hev hc hs
  | typeAssert x X T ok => exact st_tas hR hev hc hs
  | call c => exact st_call hR hev hc hs
  | lookup T x i ok => exact st_lookup hR hev hc hs
  | mapUpdate T x k y => exact st_mapUpdate hR hev hc hs
  | _ => simp [compOp] at hc

end
end Go.AM
namespace Go.AM
set_option linter.unusedVariables false
set_option linter.unusedSimpArgs false

structure ASt where
  t : Tmps
  m : AMem
  ds : List Deferred

inductive AExit where
  | normal
  | exit (id : Nat)
  | goto (l : Nat)
  | ret
  | pan (chain : List PanicEntry)

inductive AEnd where
  | ret (v : Value)
  | pan (chain : List PanicEntry)

def PRel (ρ : Ren) (c c' : List PanicEntry) : Prop := c.length = c'.length ∧ ∀ i (h : i < c.length) (h' : i < c'.length), VRel ρ c[i].v c'[i].v ∧ c[i].recovered = c'[i].recovered ∧ c[i].goexit = c'[i].goexit

inductive EndRel (ρ : Ren) : AEnd → Ending → Prop
  | ret {v v' : Value} (h : VRel ρ v v') : EndRel ρ (.ret v) (.returned v')
  | pan {c c' : List PanicEntry} (h : PRel ρ c c') : EndRel ρ (.pan c) (.panicked c')

inductive XRel (ρ : Ren) : AExit → Exit → Prop
  | normal : XRel ρ .normal .normal
  | exit (id : Nat) : XRel ρ (.exit id) (.exit id)
  | goto (l : Nat) : XRel ρ (.goto l) (.goto l)
  | ret : XRel ρ .ret .ret
  | pan {c c' : List PanicEntry} (h : PRel ρ c c') : XRel ρ (.pan c) (.panic c')

def DRel (ρ : Ren) (d d' : Deferred) : Prop :=
  (ARel ρ d.args d'.args ∧ ∃ f c c', d.target = .fn (.func f) c ∧ d'.target = .fn (.func f) c' ∧ ARel ρ c c') ∨ ∃ b L, d.target = .collected b ∧ d'.target = .collected L.cb ∧ ρ b = some L

def DsRel (ρ : Ren) (d d' : List Deferred) : Prop := d.length = d'.length ∧ ∀ i (h : i < d.length) (h' : i < d'.length), DRel ρ d[i] d'[i]

theorem PRel.mono {ρ ρ' : Ren} (hr : ρ.le ρ') {c c' : List PanicEntry} (h : PRel ρ c c') : PRel ρ' c c' := ⟨h.1, fun i a b => ⟨(h.2 i a b).1.mono hr, (h.2 i a b).2⟩⟩
theorem DRel.mono {ρ ρ' : Ren} (hr : ρ.le ρ') {d d' : Deferred} (h : DRel ρ d d') : DRel ρ' d d' := by
  rcases h with ⟨h1, f, c, c', h2, h3, h4⟩ | ⟨b, L, h1, h2, h3⟩
  · exact .inl ⟨h1.mono hr, f, c, c', h2, h3, h4.mono hr⟩
  · exact .inr ⟨b, L, h1, h2, hr _ _ h3⟩
theorem DsRel.mono {ρ ρ' : Ren} (hr : ρ.le ρ') {d d' : List Deferred} (h : DsRel ρ d d') : DsRel ρ' d d' := ⟨h.1, fun i a b => (h.2 i a b).mono hr⟩
theorem DsRel.nil (ρ : Ren) : DsRel ρ [] [] := ⟨rfl, fun i h => by simp at h⟩

structure SRel (N : Nat) (ρ : Ren) (s : ASt) (a : Act) : Prop where
  size : a.tmps.size = N
  tmps : ∀ i, VRel ρ (s.t i) (a.tmps.getD i undef)
  ds : DsRel ρ s.ds a.defers

def ACall (P : Program) (G : Nat) (f : FuncId) (args : List Value) (m : AMem) (Q : AEnd → AMem → Prop) : Prop :=
  ∀ (ρ : Ren) (w : World) (args' : Array Value), Rep G m ρ w → LRel ρ args args'.toList →
    match (callFunc f args').run P w with
    | .ok (.enter g as) w1 => Calls P g as w1 fun e w' => ∃ ρ' m' r, Q r m' ∧ EndRel ρ' r e ∧ Rep G m' ρ' w' ∧ Ext m ρ w m' ρ' w'
    | .ok (.value v) w' => ∃ ρ' m' r, Q r m' ∧ EndRel ρ' r (.returned v) ∧ Rep G m' ρ' w' ∧ Ext m ρ w m' ρ' w'
    | _ => False

theorem ACall.mono {P : Program} {G : Nat} {f : FuncId} {args : List Value} {m : AMem} {Q Q' : AEnd → AMem → Prop} (h : ACall P G f args m Q) (hq : ∀ r m', Q r m' → Q' r m') : ACall P G f args m Q' := by
  intro ρ w args' hR hA
  have := h ρ w args' hR hA
  split at this
  · exact this.mono fun e w' ⟨ρ', m', r, h1, h2⟩ => ⟨ρ', m', r, hq _ _ h1, h2⟩
  · obtain ⟨ρ', m', r, h1, h2⟩ := this
    exact ⟨ρ', m', r, hq _ _ h1, h2⟩
  · exact this

def AYield (P : Program) (G : Nat) (l : Nat) (args : List Value) (m : AMem) (Q : AEnd → AMem → Prop) : Prop :=
  ∀ (ρ : Ren) (w : World) (args' : Array Value) (L : Loc), Rep G m ρ w → LRel ρ args args'.toList → ρ l = some L →
    ∃ f tmps as body, (Instr.yield L.cb args').run P w = .ok (.round L.cb f tmps as body) w ∧
      RoundIn Fence.wide 0 P L.cb f tmps as body w fun e w' => ∃ ρ' m' r, Q r m' ∧ EndRel ρ' r e ∧ Rep G m' ρ' w' ∧ Ext m ρ w m' ρ' w'
theorem AYield.mono {P : Program} {G : Nat} {l : Nat} {args : List Value} {m : AMem} {Q Q' : AEnd → AMem → Prop} (h : AYield P G l args m Q) (hq : ∀ r m', Q r m' → Q' r m') : AYield P G l args m Q' := by
  intro ρ w args' L hR hA hL
  obtain ⟨f, tmps, as, body, h1, h2⟩ := h ρ w args' L hR hA hL
  exact ⟨f, tmps, as, body, h1, h2.mono fun e w' ⟨ρ', m', r, k1, k2⟩ => ⟨ρ', m', r, hq _ _ k1, k2⟩⟩

/-! ### Code -/

inductive AIns where
  | op (g : Option (Nat × Bool)) (dst : Option Nat) (o : AOp)
  | call (g : Option (Nat × Bool)) (dst : Option Nat) (f : FuncId) (args : List AOpd)
  | callv (g : Option (Nat × Bool)) (dst : Option Nat) (f : AOpd) (args : List AOpd)
  | panic (g : Option (Nat × Bool)) (dst : Option Nat) (x : AOpd)
  | cap (g : Option (Nat × Bool)) (dst : Option Nat) (sz : Nat) (x : AOpd)
  deriving Inhabited

def wanted (g : Option (Nat × Bool)) (t : Tmps) : Bool :=
  match g with
  | none => true
  | some (d, b) => match t d with | .bool c => c == b | _ => false

def AIns.guard : AIns → Option (Nat × Bool)
  | .op g _ _ | .call g _ _ _ | .callv g _ _ _ | .panic g _ _ | .cap g _ _ _ => g
def AIns.dst : AIns → Option Nat
  | .op _ d _ | .call _ d _ _ | .callv _ d _ _ | .cap _ d _ _ | .panic _ d _ => d

def CallK (dst : Option Nat) (s : ASt) (K : ASt → Prop) (Q : AExit → ASt → Prop) : AEnd → AMem → Prop
  | .ret v, m' => K { s with t := updO s.t dst v, m := m' }
  | .pan c, m' => Q (.pan c) { s with m := m' }

def capW (sz : Nat) (v : Value) (m : AMem) (K : Value → AMem → Prop) : Prop :=
  match v with
  | .slice none _ c => c ≠ openCap ∧ K (.int .i64 c) m
  | .slice (some ⟨b, o, none⟩) l c =>
    if c = openCap then
      match m.get b with
      | .cells x e w sp =>
        match sp with
        | .full k => k = sz ∧ K (.int .i64 ((x.length - o) / sz : Nat)) m
        | .room z => z.length = sz ∧ 0 < sz ∧ o % sz = 0 ∧ w = true ∧ o ≤ x.length ∧
            ∀ n, K (.int .i64 ((x.length - o) / sz + n : Nat)) (m.set b (.cells (x ++ rep z n) e w (.full sz)))
        | .exact => False
      | _ => False
    else K (.int .i64 c) m
  | _ => False

def WI1 (P : Program) (G : Nat) (i : AIns) (K : ASt → Prop) (Q : AExit → ASt → Prop) (s : ASt) : Prop :=
  match i with
  | .op _ dst o => match stepOp o s.t s.m with
    | some (v, m') => K { s with t := updO s.t dst v, m := m' }
    | none => False
  | .call _ dst f args => ACall P G f (args.map (·.ev s.t)) s.m (CallK dst s K Q)
  | .callv _ dst x args => match x.ev s.t with
    | .func (.func f) first captured => ACall P G f (first.toList ++ args.map (·.ev s.t) ++ captured.toList) s.m (CallK dst s K Q)
    | .func (.yield l) _ _ => AYield P G l (args.map (·.ev s.t)) s.m (CallK dst s K Q)
    | _ => False
  | .panic _ _ x => match x.ev s.t with
    | .iface T v => Q (.pan [{ v := .iface T v, recovered := false }]) s
    | _ => False
  | .cap _ dst sz x => capW sz (x.ev s.t) s.m fun v m' => K { s with t := updO s.t dst v, m := m' }

def WI (P : Program) (G : Nat) : List AIns → (AExit → ASt → Prop) → ASt → Prop
  | [], Q, s => Q .normal s
  | i :: r, Q, s => if wanted i.guard s.t then WI1 P G i (WI P G r Q) Q s else WI P G r Q { s with t := updO s.t i.dst undef }

theorem WI_mono {P : Program} {G : Nat} : ∀ (is : List AIns) (Q Q' : AExit → ASt → Prop) (s : ASt), (∀ e s, Q e s → Q' e s) → WI P G is Q s → WI P G is Q' s
  | [], Q, Q', s, hq, h => hq _ _ h
  | i :: r, Q, Q', s, hq, h => by
    have hk : ∀ s, WI P G r Q s → WI P G r Q' s := fun s => WI_mono r Q Q' s hq
    have hcallk : ∀ dst r' m', CallK dst s (WI P G r Q) Q r' m' → CallK dst s (WI P G r Q') Q' r' m' := by
      intro dst r' m' h
      cases r' with
      | ret v => exact hk _ h
      | pan c => exact hq _ _ h
    unfold WI at h ⊢
    split
    · rename_i hw
      rw [if_pos hw] at h
      cases i with
      | op g dst o =>
        simp only [WI1] at h ⊢
        split at h
        · exact hk _ h
        · exact h.elim
      | call g dst f args => exact ACall.mono h fun r m' => hcallk dst r m'
      | callv g dst x args =>
        simp only [WI1] at h ⊢
        split at h
        · exact ACall.mono h fun r m' => hcallk dst r m'
        · exact AYield.mono h fun r m' => hcallk dst r m'
        · exact h.elim
      | panic g dst x =>
        simp only [WI1] at h ⊢
        split at h
        · exact hq _ _ h
        · exact h.elim
      | cap g dst sz x =>
        simp only [WI1] at h ⊢
        unfold capW at h ⊢
        split at h <;> try exact h.elim
        · exact ⟨h.1, hk _ h.2⟩
        · split at h
          · rename_i hc
            rw [if_pos hc]
            split at h <;> try exact h.elim
            split at h <;> try exact h.elim
            · exact ⟨h.1, hk _ h.2⟩
            · exact ⟨h.1, h.2.1, h.2.2.1, h.2.2.2.1, h.2.2.2.2.1, fun n => hk _ (h.2.2.2.2.2 n)⟩
          · rename_i hc
            rw [if_neg hc]
            exact hk _ h
    · rename_i hw
      rw [if_neg hw] at h
      exact hk _ h

end Go.AM
namespace Go.AM
set_option linter.unusedVariables false
set_option linter.unusedSimpArgs false

def optL (x : Option AOpd) : List AOpd := match x with | some x => [x] | none => []

def AOp.opds : AOp → List AOpd
  | .mov x => [x]
  | .pick c a b => [c, a, b]
  | .new _ _ => []
  | .box _ x => [x]
  | .bld _ ps => ps.map (·.2.2)
  | .bldSl _ _ _ ps => ps.map (·.2.2)
  | .ld1 a => [a]
  | .ldn _ a => [a]
  | .st _ a x => [a, x]
  | .nchk x => [x]
  | .bin _ x y => [x, y]
  | .eql _ _ x y => [x, y]
  | .un _ x => [x]
  | .cvt _ x => [x]
  | .idc x => [x]
  | .s2b _ x => [x]
  | .b2s x => [x]
  | .mkI _ x => [x]
  | .mkF _ a b => a ++ b
  | .mkM => []
  | .mkSl _ _ _ _ l c => [l, c]
  | .slS x lo hi => x :: (optL lo ++ optL hi)
  | .slV _ x lo hi mx => x :: (optL lo ++ optL hi ++ optL mx)
  | .slA _ _ x lo hi mx => x :: (optL lo ++ optL hi ++ optL mx)
  | .fad _ x => [x]
  | .fld _ _ _ x => [x]
  | .iadA _ _ x i => [x, i]
  | .iadV _ x i => [x, i]
  | .ixA _ _ _ x i => [x, i]
  | .ixS x i => [x, i]
  | .ext _ x => [x]
  | .arrAt _ x => [x]
  | .rng x => [x]
  | .nxt x => [x]
  | .lenS x => [x]
  | .lenV x => [x]
  | .lenN _ => []
  | .app _ _ _ _ x y => [x, y]
  | .appN _ _ _ _ x y => [x, y]
  | .cpy _ x y => [x, y]
  | .mnx _ x xs => x :: xs
  | .clr _ _ x => [x]
  | .toU x => [x]
  | .frU _ _ x => [x]
  | .sdat x => [x]
  | .ustr _ x n => [x, n]
  | .s2s x => [x]
  | .tas _ _ x => [x]
  | .asr _ x => [x]
  | .i2s x => [x]
  | .lkp _ _ x i => [x, i]
  | .mup x k v => [x, k, v]

theorem bnd_congr {x : Option AOpd} {t t' : Tmps} {d : Nat} (h : ∀ y ∈ optL x, y.ev t = y.ev t') : bnd x t d = bnd x t' d := by
  cases x with
  | none => rfl
  | some x => simp [optL] at h; simp [bnd, h]

theorem cut_congr {n c : Nat} {lo hi mx : Option AOpd} {t t' : Tmps} (h1 : ∀ y ∈ optL lo, y.ev t = y.ev t') (h2 : ∀ y ∈ optL hi, y.ev t = y.ev t') (h3 : ∀ y ∈ optL mx, y.ev t = y.ev t') :
    cut n c lo hi mx t = cut n c lo hi mx t' := by
  simp only [cut, bnd_congr h1, bnd_congr h2, bnd_congr h3]

theorem map_ev_congr {xs : List AOpd} {t t' : Tmps} (h : ∀ y ∈ xs, y.ev t = y.ev t') : xs.map (·.ev t) = xs.map (·.ev t') :=
  List.map_congr_left h

theorem map_ps_congr {ps : List (Nat × Nat × AOpd)} {t t' : Tmps} (h : ∀ y ∈ ps.map (·.2.2), y.ev t = y.ev t') :
    (ps.map fun p => (p.1, p.2.1, p.2.2.ev t)) = ps.map fun p => (p.1, p.2.1, p.2.2.ev t') :=
  List.map_congr_left fun p hp => by rw [h p.2.2 (List.mem_map.2 ⟨p, hp, rfl⟩)]

theorem stepOp_congr {o : AOp} {t t' : Tmps} {m : AMem} (h : ∀ x ∈ o.opds, x.ev t = x.ev t') : stepOp o t m = stepOp o t' m := by
  cases o <;> simp only [AOp.opds] at h
  case bld z ps => simp only [stepOp, map_ps_congr h]
  case bldSl e n z ps => simp only [stepOp, map_ps_congr h]
  case mkF f a b =>
    have h1 := map_ev_congr (xs := a) (t := t) (t' := t') fun y hy => h y (List.mem_append_left _ hy)
    have h2 := map_ev_congr (xs := b) (t := t) (t' := t') fun y hy => h y (List.mem_append_right _ hy)
    simp only [stepOp, h1, h2]
  case mnx mx x xs =>
    have h1 := h x (by simp)
    have h2 := map_ev_congr (xs := xs) (t := t) (t' := t') fun y hy => h y (by simp [hy])
    simp only [stepOp, h1, h2]
  case slS x lo hi =>
    have h0 := h x (by simp)
    have h1 : ∀ n c, cut n c lo hi none t = cut n c lo hi none t' := fun n c => cut_congr (fun y hy => h y (by simp [hy])) (fun y hy => h y (by simp [hy])) (by simp [optL])
    simp only [stepOp, h0, h1]
  case slV s x lo hi mx =>
    have h0 := h x (by simp)
    have h1 : ∀ n c, cut n c lo hi mx t = cut n c lo hi mx t' := fun n c => cut_congr (fun y hy => h y (by simp [hy])) (fun y hy => h y (by simp [hy])) (fun y hy => h y (by simp [hy]))
    simp only [stepOp, h0, h1]
  case slA n s x lo hi mx =>
    have h0 := h x (by simp)
    have h1 : ∀ n c, cut n c lo hi mx t = cut n c lo hi mx t' := fun n c => cut_congr (fun y hy => h y (by simp [hy])) (fun y hy => h y (by simp [hy])) (fun y hy => h y (by simp [hy]))
    simp only [stepOp, h0, h1]
  all_goals (try simp only [List.mem_cons, List.not_mem_nil, or_false, forall_eq_or_imp, forall_eq] at h)
  all_goals first
    | rfl
    | (simp only [stepOp, h]; done)
    | (obtain ⟨h1, h2⟩ := h; simp only [stepOp, h1, h2]; done)
    | (obtain ⟨h1, h2, h3⟩ := h; simp only [stepOp, h1, h2, h3]; done)

def AOp.pure : AOp → Bool
  | .new _ _ | .box _ _ | .bldSl _ _ _ _ | .st _ _ _ | .s2b _ _ | .mkM | .mkSl _ _ _ _ _ _ | .rng _ | .nxt _ | .app _ _ _ _ _ _ | .appN _ _ _ _ _ _ | .cpy _ _ _ | .clr _ _ _ | .ustr _ _ _ | .s2s _ | .mup _ _ _ => false
  | _ => true

def AOp.indep : AOp → Bool
  | .ld1 _ | .ldn _ _ | .slV _ _ _ _ _ | .b2s _ | .sdat _ | .toU _ | .frU _ _ _ | .lkp _ _ _ _ => false
  | o => o.pure

theorem stepOp_pure {o : AOp} (h : o.pure = true) {t : Tmps} {m m' : AMem} {v : Value} (hs : stepOp o t m = some (v, m')) : m' = m := by
  cases o <;> simp only [AOp.pure, Bool.false_eq_true] at h <;> simp only [stepOp] at hs
  all_goals (repeat' split at hs)
  all_goals first
    | (simp at hs; done)
    | (simp at hs; exact hs.2.symm)
    | (simp only [Option.map_eq_some_iff, Prod.mk.injEq] at hs; obtain ⟨a, h1, h2, h3⟩ := hs; exact h3.symm)

theorem stepOp_indep {o : AOp} (h : o.indep = true) {t : Tmps} {m : AMem} {v : Value} (hs : stepOp o t m = some (v, m)) (m2 : AMem) : stepOp o t m2 = some (v, m2) := by
  cases o <;> simp only [AOp.indep, AOp.pure, Bool.false_eq_true] at h <;> simp only [stepOp] at hs ⊢
  all_goals (repeat' split at hs)
  all_goals (try (simp at hs; done))
  all_goals (try simp only [Option.map_eq_some_iff, Prod.mk.injEq, Option.some.injEq, and_true, true_and] at hs)
  all_goals (try obtain ⟨a, h1, rfl⟩ := hs)
  all_goals (try subst hs)
  all_goals (try simp_all)
end Go.AM
namespace Go.AM
set_option linter.unusedVariables false
set_option linter.unusedSimpArgs false

def AIns.opds : AIns → List AOpd
  | .op _ _ o => o.opds
  | .call _ _ _ as => as
  | .callv _ _ x as => x :: as
  | .panic _ _ x => [x]
  | .cap _ _ _ x => [x]

def regsOf : List AOpd → List Nat
  | [] => []
  | .t i :: r => i :: regsOf r
  | .c _ :: r => regsOf r

def AIns.reads (i : AIns) : List Nat := regsOf i.opds ++ (match i.guard with | some (d, _) => [d] | none => [])

def AIns.float : AIns → Bool
  | .op _ _ o => o.pure
  | _ => false
def AIns.indep : AIns → Bool
  | .op _ _ o => o.indep
  | _ => false

def valF (i : AIns) (t : Tmps) (m : AMem) : Option Value :=
  match i with
  | .op g _ o => if wanted g t then (stepOp o t m).map (·.1) else some undef
  | _ => none

theorem regsOf_mem {l : List AOpd} {i : Nat} : i ∈ regsOf l ↔ .t i ∈ l := by
  induction l with
  | nil => simp [regsOf]
  | cons x r ih => cases x <;> simp [regsOf, ih]

theorem ev_congr {l : List AOpd} {t t' : Tmps} (h : ∀ r ∈ regsOf l, t r = t' r) : ∀ x ∈ l, x.ev t = x.ev t' := by
  intro x hx
  cases x with
  | t i => exact h i (regsOf_mem.2 hx)
  | c v => rfl

theorem wanted_congr {i : AIns} {t t' : Tmps} (h : ∀ r ∈ i.reads, t r = t' r) : wanted i.guard t = wanted i.guard t' := by
  unfold wanted
  cases hg : i.guard with
  | none => rfl
  | some g =>
    obtain ⟨d, b⟩ := g
    have : t d = t' d := h d (by simp [AIns.reads, hg])
    simp only [this]

theorem valF_congr {i : AIns} {t t' : Tmps} {m : AMem} (h : ∀ r ∈ i.reads, t r = t' r) : valF i t m = valF i t' m := by
  have hw := wanted_congr h
  cases i with
  | op g d o =>
    have ho := stepOp_congr (m := m) (ev_congr (l := o.opds) (t := t) (t' := t') fun r hr => h r (List.mem_append_left _ hr))
    simp only [AIns.guard] at hw
    simp only [valF, hw, ho]
  | _ => rfl

theorem valF_indep {i : AIns} (hi : i.indep = true) {t : Tmps} {m m2 : AMem} {v : Value} (h : valF i t m = some v) : valF i t m2 = some v := by
  cases i with
  | op g d o =>
    simp only [AIns.indep] at hi
    simp only [valF] at h ⊢
    split at h
    · rename_i hw
      rw [if_pos hw]
      simp only [Option.map_eq_some_iff] at h
      obtain ⟨⟨v', m'⟩, h1, rfl⟩ := h
      have hp : o.pure = true := by cases o <;> simp_all [AOp.indep, AOp.pure]
      have := stepOp_pure hp h1
      subst this
      rw [stepOp_indep hi h1 m2]
      rfl
    · rename_i hw
      rw [if_neg hw]; exact h
  | _ => simp [AIns.indep] at hi

variable {P : Program} {G : Nat}

def Aone (P : Program) (G : Nat) (i : AIns) (K : ASt → Prop) (Q : AExit → ASt → Prop) (s : ASt) : Prop :=
  if wanted i.guard s.t then WI1 P G i K Q s else K { s with t := updO s.t i.dst undef }

theorem Aone_float {i : AIns} (hf : i.float = true) {K : ASt → Prop} {Q : AExit → ASt → Prop} {s : ASt} {v : Value} (h : valF i s.t s.m = some v) (hK : K { s with t := updO s.t i.dst v }) : Aone P G i K Q s := by
  cases i with
  | op g d o =>
    simp only [AIns.float] at hf
    change (if wanted g s.t then WI1 P G (.op g d o) K Q s else K { s with t := updO s.t d undef })
    change K { s with t := updO s.t d v } at hK
    simp only [valF] at h
    split at h
    · rename_i hw
      rw [if_pos hw]
      simp only [Option.map_eq_some_iff] at h
      obtain ⟨⟨v', m'⟩, h1, rfl⟩ := h
      have := stepOp_pure hf h1
      simp only [WI1, h1]
      subst this
      exact hK
    · rename_i hw
      rw [if_neg hw]
      simp at h; subst h
      exact hK
  | _ => simp [AIns.float] at hf

theorem Aone_congr {i : AIns} {K K' : ASt → Prop} {Q Q' : AExit → ASt → Prop} {t t' : Tmps} {m : AMem} {ds : List Deferred} (h : ∀ r ∈ i.reads, t r = t' r)
    (hK : ∀ v m', K ⟨updO t i.dst v, m', ds⟩ → K' ⟨updO t' i.dst v, m', ds⟩) (hQ : ∀ c m', Q (.pan c) ⟨t, m', ds⟩ → Q' (.pan c) ⟨t', m', ds⟩) (hh : Aone P G i K Q ⟨t, m, ds⟩) : Aone P G i K' Q' ⟨t', m, ds⟩ := by
  have hw := wanted_congr h
  have hev := ev_congr (l := i.opds) (t := t) (t' := t') fun r hr => h r (List.mem_append_left _ hr)
  unfold Aone at hh ⊢
  simp only at hh ⊢
  rw [← hw]
  have hcall : ∀ (d : Option Nat), d = i.dst → ∀ r m', CallK d ⟨t, m, ds⟩ K Q r m' → CallK d ⟨t', m, ds⟩ K' Q' r m' := by
    intro d hd r m' h
    subst hd
    cases r with
    | ret v => exact hK _ _ h
    | pan c => exact hQ _ _ h
  split at hh
  · rename_i hwt
    rw [if_pos hwt]
    cases i with
    | op g d o =>
      simp only [WI1] at hh ⊢
      rw [← stepOp_congr hev]
      split at hh
      · exact hK _ _ hh
      · exact hh.elim
    | call g d f as =>
      simp only [WI1] at hh ⊢
      rw [← map_ev_congr (xs := as) hev]
      exact hh.mono (hcall d rfl)
    | callv g d x as =>
      have h1 := hev x (by simp [AIns.opds])
      have h2 := map_ev_congr (xs := as) (t := t) (t' := t') fun y hy => hev y (by simp [AIns.opds, hy])
      simp only [WI1] at hh ⊢
      rw [← h1]
      split at hh
      · rw [← h2]; exact hh.mono (hcall d rfl)
      · rw [← h2]; exact hh.mono (hcall d rfl)
      · exact hh.elim
    | panic g d x =>
      have h1 := hev x (by simp [AIns.opds])
      simp only [WI1] at hh ⊢
      rw [← h1]
      split at hh
      · exact hQ _ _ hh
      · exact hh.elim
    | cap g d sz x =>
      have h1 := hev x (by simp [AIns.opds])
      simp only [WI1] at hh ⊢
      rw [← h1]
      unfold capW at hh ⊢
      split at hh <;> try exact hh.elim
      · exact ⟨hh.1, hK _ _ hh.2⟩
      · split at hh
        · rename_i hc
          rw [if_pos hc]
          split at hh <;> try exact hh.elim
          split at hh <;> try exact hh.elim
          · exact ⟨hh.1, hK _ _ hh.2⟩
          · exact ⟨hh.1, hh.2.1, hh.2.2.1, hh.2.2.2.1, hh.2.2.2.2.1, fun n => hK _ _ (hh.2.2.2.2.2 n)⟩
        · rename_i hc
          rw [if_neg hc]
          exact hK _ _ hh
  · rename_i hwt
    rw [if_neg hwt]
    exact hK _ _ hh

/-! ### One order -/

inductive DIx where
  | f (i : Nat)
  | b (i : Nat) (chk : List Nat)
  deriving Inhabited

def DIx.ix : DIx → Nat | .f i | .b i _ => i

def PanAny (Q : AExit → ASt → Prop) : AExit → ASt → Prop
  | .pan c, s => ∀ t, Q (.pan c) { s with t := t }
  | e, s => Q e s

inductive DItem where
  | f (i : AIns)
  | b (i : AIns) (chk : List AIns)
  deriving Inhabited

def chkOk (s : ASt) : List AIns → Prop
  | [] => True
  | c :: r => (match c.dst with | some d => valF c s.t s.m = some (s.t d) | none => (valF c s.t s.m).isSome = true) ∧ chkOk s r

def DW (P : Program) (G : Nat) : List DItem → (AExit → ASt → Prop) → ASt → Prop
  | [], Q, s => Q .normal s
  | .f i :: r, Q, s => ∃ v, valF i s.t s.m = some v ∧ DW P G r Q { s with t := updO s.t i.dst v }
  | .b i chk :: r, Q, s => Aone P G i (fun s' => chkOk s' chk ∧ DW P G r Q s') (PanAny Q) s

def DIx.item (ins : Nat → AIns) : DIx → DItem
  | .f i => .f (ins i)
  | .b i chk => .b (ins i) (chk.map ins)

/-! ### Which order will do -/

section
variable (n : Nat) (ins : Nat → AIns) (pre : Nat → List Nat) (anc : Nat → List Nat)

def isBar (A : List (Nat × Bool)) : List Nat := (A.filter (·.2)).map (·.1)

def dok : List (Nat × Bool) → List DIx → Bool
  | A, [] => (List.range n).all fun i => (A.map (·.1)).contains i
  | A, x :: r =>
    decide (x.ix < n) && !(A.map (·.1)).contains x.ix && (anc x.ix).all (fun j => (A.map (·.1)).contains j) && (isBar A).all (fun b => (anc x.ix).contains b) &&
    (match x with
     | .f i => (ins i).float && dok ((i, false) :: A) r
     | .b i chk => A.all (fun f => f.2 || (anc i).contains f.1 || (ins f.1).indep || (chk.contains f.1 && (List.range n).all fun k => match (ins k).dst with | some d => !(ins f.1).reads.contains d || (anc f.1).contains k | none => true)) &&
        dok ((i, true) :: A) r)

def dregs : Bool :=
  (List.range n).all fun i => (pre i).all (fun k => decide (k < i) && (anc i).contains k) &&
    (anc i).all (fun k => decide (k < i) && ((pre i).contains k || (pre i).any fun l => (anc l).contains k)) &&
    (List.range n).all fun j => i == j || (match (ins j).dst with
      | some d => (ins i).dst != some d && (!(ins i).reads.contains d || (anc i).contains j || (anc j).contains i)
      | none => true)
end

end Go.AM
namespace Go.AM
set_option linter.unusedVariables false
set_option linter.unusedSimpArgs false

section
variable {P : Program} {G : Nat} {n : Nat} {ins : Nat → AIns} {pre anc : Nat → List Nat} {Q : AExit → ASt → Prop} {t0 : Tmps} {ds : List Deferred}

def Rdy (n : Nat) (pre : Nat → List Nat) (L : Nat → Bool) (j : Nat) : Prop := j < n ∧ L j = false ∧ ∀ k ∈ pre j, L k = true
def setL (L : Nat → Bool) (i : Nat) : Nat → Bool := fun j => if j = i then true else L j

def AAny (P : Program) (G n : Nat) (ins : Nat → AIns) (pre : Nat → List Nat) (Q : AExit → ASt → Prop) : Nat → (Nat → Bool) → ASt → Prop
  | 0, L, s => (∀ j, ¬ Rdy n pre L j) ∧ Q .normal s
  | k + 1, L, s => ((∀ j, ¬ Rdy n pre L j) → Q .normal s) ∧ ∀ i, Rdy n pre L i → Aone P G (ins i) (AAny P G n ins pre Q k (setL L i)) Q s

def Closed (n : Nat) (pre : Nat → List Nat) (L : Nat → Bool) : Prop := ∀ j, j < n → L j = true → ∀ k ∈ pre j, L k = true

structure DReg (n : Nat) (ins : Nat → AIns) (pre anc : Nat → List Nat) : Prop where
  d1 : ∀ i, i < n → ∀ k ∈ pre i, k < i ∧ k ∈ anc i
  d2 : ∀ i, i < n → ∀ k ∈ anc i, k < i ∧ (k ∈ pre i ∨ ∃ l ∈ pre i, k ∈ anc l)
  d3 : ∀ i, i < n → ∀ j, j < n → i ≠ j → ∀ d, (ins j).dst = some d → (ins i).dst ≠ some d ∧ (d ∈ (ins i).reads → j ∈ anc i ∨ i ∈ anc j)

theorem dregs_spec (h : dregs n ins pre anc = true) : DReg n ins pre anc := by
  simp only [dregs, List.all_eq_true, List.mem_range, Bool.and_eq_true, Bool.or_eq_true, beq_iff_eq, decide_eq_true_eq, List.contains_iff_mem, List.any_eq_true] at h
  refine ⟨fun i hi k hk => (h i hi).1.1 k hk, fun i hi k hk => (h i hi).1.2 k hk, fun i hi j hj hne d hd => ?_⟩
  have := ((h i hi).2 j hj).resolve_left hne
  simp only [hd, Bool.and_eq_true, Bool.or_eq_true, bne_iff_ne, Bool.not_eq_true'] at this
  refine ⟨this.1, fun hr => ?_⟩
  rcases this.2 with h1 | h1
  · rcases h1 with h1 | h1
    · have : (ins i).reads.contains d = true := List.contains_iff_mem.2 hr
      rw [this] at h1; cases h1
    · exact .inl (by simpa using h1)
  · exact .inr (by simpa using h1)

theorem anc_closed (D : DReg n ins pre anc) {L : Nat → Bool} (hL : Closed n pre L) : ∀ j, j < n → L j = true → ∀ k ∈ anc j, L k = true := by
  intro j
  induction j using Nat.strongRecOn with
  | _ j ih =>
    intro hj hl k hk
    rcases (D.d2 j hj k hk).2 with h | ⟨l, h1, h2⟩
    · exact hL j hj hl k h
    · have := (D.d1 j hj l h1).1
      exact ih l this (by omega) (hL j hj hl l h1) k h2

theorem anc_ready (D : DReg n ins pre anc) {L : Nat → Bool} (hL : Closed n pre L) {j : Nat} (h : Rdy n pre L j) : ∀ k ∈ anc j, L k = true := by
  intro k hk
  rcases (D.d2 j h.1 k hk).2 with h' | ⟨l, h1, h2⟩
  · exact h.2.2 k h'
  · have := (D.d1 j h.1 l h1).1
    exact anc_closed D hL l (by have := h.1; omega) (h.2.2 l h1) k h2

theorem Closed.set {L : Nat → Bool} (hL : Closed n pre L) {i : Nat} (h : Rdy n pre L i) : Closed n pre (setL L i) := by
  intro j hj hl k hk
  unfold setL at hl ⊢
  split
  · rfl
  · split at hl
    · rename_i he; subst he; exact h.2.2 k hk
    · exact hL j hj hl k hk

def env (ins : Nat → AIns) (anc : Nat → List Nat) (t0 t : Tmps) (i : Nat) : Tmps := fun r => if (anc i).any (fun j => (ins j).dst == some r) then t r else t0 r

def ixs (A : List (Nat × Bool)) : List Nat := A.map (·.1)

structure Inv (P : Program) (G n : Nat) (ins : Nat → AIns) (pre anc : Nat → List Nat) (Q : AExit → ASt → Prop) (t0 : Tmps) (ds : List Deferred)
    (A : List (Nat × Bool)) (r : List DIx) (L : Nat → Bool) (t : Tmps) (m : AMem) (s : ASt) : Prop where
  hm : s.m = m
  hds : s.ds = ds
  a1 : dok n ins anc A r = true
  a2 : ∀ i, L i = true → i ∈ ixs A
  a3 : ∀ i, (i, true) ∈ A → L i = true
  a4 : ∀ i ∈ ixs A, i < n ∧ ∀ k ∈ anc i, k ∈ ixs A
  a5 : Closed n pre L
  u : ∀ r', (∀ j ∈ ixs A, (ins j).dst ≠ some r') → t r' = t0 r'
  x1 : ∀ r', (∀ i ∈ ixs A, L i = false → (ins i).dst ≠ some r') → s.t r' = t r'
  x2 : ∀ i ∈ ixs A, L i = false → ∀ r', (ins i).dst = some r' → s.t r' = t0 r'
  p : ∀ i, (i, false) ∈ A → L i = false → (ins i).float = true ∧ ∃ v, valF (ins i) (env ins anc t0 t i) m = some v ∧ ∀ d, (ins i).dst = some d → t d = v
  w : DW P G (r.map (DIx.item ins)) Q ⟨t, m, ds⟩

theorem upd_other {t : Tmps} {d : Option Nat} {v : Value} {r : Nat} (h : d ≠ some r) : updO t d v r = t r := by
  cases d with
  | none => rfl
  | some d => simp only [updO, upd]; rw [if_neg]; intro e; subst e; exact h rfl

theorem upd_same {t : Tmps} {d : Option Nat} {v : Value} {r : Nat} (h : d = some r) : updO t d v r = v := by
  subst h; simp [updO, upd]

theorem dok_common {A : List (Nat × Bool)} {x : DIx} {r : List DIx} (h : dok n ins anc A (x :: r) = true) :
    x.ix < n ∧ x.ix ∉ ixs A ∧ (∀ j ∈ anc x.ix, j ∈ ixs A) ∧ (∀ b, (b, true) ∈ A → b ∈ anc x.ix) := by
  unfold dok at h
  simp only [Bool.and_eq_true, decide_eq_true_eq, Bool.not_eq_true', List.all_eq_true, List.contains_iff_mem] at h
  obtain ⟨⟨⟨⟨h1, h2⟩, h3⟩, h4⟩, h5⟩ := h
  refine ⟨h1, ?_, h3, fun b hb => h4 b ?_⟩
  · intro hx
    have : (A.map (·.1)).contains x.ix = true := List.contains_iff_mem.2 hx
    rw [h2] at this; cases this
  · simp only [isBar, List.mem_map, List.mem_filter]
    exact ⟨(b, true), ⟨hb, rfl⟩, rfl⟩

theorem dok_f {A : List (Nat × Bool)} {i : Nat} {r : List DIx} (h : dok n ins anc A (.f i :: r) = true) : (ins i).float = true ∧ dok n ins anc ((i, false) :: A) r = true := by
  unfold dok at h
  simp only [Bool.and_eq_true] at h
  exact h.2

theorem dok_b {A : List (Nat × Bool)} {i : Nat} {chk : List Nat} {r : List DIx} (h : dok n ins anc A (.b i chk :: r) = true) :
    dok n ins anc ((i, true) :: A) r = true ∧ ∀ f, (f, false) ∈ A → f ∈ anc i ∨ (ins f).indep = true ∨ (f ∈ chk ∧ ∀ k, k < n → ∀ d, (ins k).dst = some d → d ∈ (ins f).reads → k ∈ anc f) := by
  unfold dok at h
  simp only [Bool.and_eq_true, List.all_eq_true, Bool.or_eq_true, List.contains_iff_mem, List.mem_range] at h
  refine ⟨h.2.2, fun f hf => ?_⟩
  have := h.2.1 _ hf
  rcases this with ((h1 | h1) | h1) | ⟨h1, h2⟩
  · cases h1
  · exact .inl h1
  · exact .inr (.inl h1)
  · refine .inr (.inr ⟨h1, fun k hk d hd hr => ?_⟩)
    have := h2 k hk
    simp only [hd, Bool.or_eq_true, Bool.not_eq_true'] at this
    rcases this with h3 | h3
    · have : (ins f).reads.contains d = true := List.contains_iff_mem.2 hr
      rw [h3] at this; cases this
    · exact List.contains_iff_mem.1 h3

theorem dok_after {b : Nat} : ∀ {r : List DIx} {A : List (Nat × Bool)}, dok n ins anc A r = true → (b, true) ∈ A → ∀ x ∈ r, b ∈ anc x.ix
  | [], A, h, hb, x, hx => by cases hx
  | y :: r, A, h, hb, x, hx => by
    rcases List.mem_cons.1 hx with rfl | hx2
    · exact (dok_common h).2.2.2 b hb
    · cases y with
      | f i => exact dok_after (dok_f h).2 (List.mem_cons_of_mem _ hb) x hx2
      | b i chk => exact dok_after (dok_b h).1 (List.mem_cons_of_mem _ hb) x hx2

theorem dok_all : ∀ {r : List DIx} {A : List (Nat × Bool)}, dok n ins anc A r = true → ∀ i, i < n → i ∈ ixs A ∨ i ∈ r.map DIx.ix
  | [], A, h, i, hi => by
    simp only [dok, List.all_eq_true, List.mem_range, List.contains_iff_mem] at h
    exact .inl (h i hi)
  | y :: r, A, h, i, hi => by
    cases y with
    | f j =>
      rcases dok_all (dok_f h).2 i hi with h1 | h1
      · simp only [ixs, List.map_cons, List.mem_cons] at h1
        rcases h1 with h1 | h1
        · exact .inr (by simp [DIx.ix, h1])
        · exact .inl h1
      · exact .inr (by simp only [List.map_cons, List.mem_cons]; exact .inr h1)
    | b j chk =>
      rcases dok_all (dok_b h).1 i hi with h1 | h1
      · simp only [ixs, List.map_cons, List.mem_cons] at h1
        rcases h1 with h1 | h1
        · exact .inr (by simp [DIx.ix, h1])
        · exact .inl h1
      · exact .inr (by simp only [List.map_cons, List.mem_cons]; exact .inr h1)

theorem mem_ixs {A : List (Nat × Bool)} {i : Nat} (h : i ∈ ixs A) : (i, true) ∈ A ∨ (i, false) ∈ A := by
  simp only [ixs, List.mem_map] at h
  obtain ⟨⟨j, b⟩, h1, rfl⟩ := h
  cases b
  · exact .inr h1
  · exact .inl h1

theorem ixs_mem {A : List (Nat × Bool)} {i : Nat} {b : Bool} (h : (i, b) ∈ A) : i ∈ ixs A := List.mem_map.2 ⟨_, h, rfl⟩

theorem env_keep (D : DReg n ins pre anc) {A : List (Nat × Bool)} (hA : ∀ i ∈ ixs A, i < n ∧ ∀ k ∈ anc i, k ∈ ixs A) {x : Nat} (hx : x < n) (hxA : x ∉ ixs A) {i : Nat} (hi : i ∈ ixs A) (t : Tmps) (v : Value) :
    env ins anc t0 (updO t (ins x).dst v) i = env ins anc t0 t i := by
  funext r
  unfold env
  split
  · rename_i h
    simp only [List.any_eq_true, beq_iff_eq] at h
    obtain ⟨j, h1, h2⟩ := h
    have hj := (hA i hi).2 j h1
    refine upd_other ?_
    have hne : x ≠ j := fun e => hxA (e ▸ hj)
    exact (D.d3 x hx j (hA j hj).1 hne r h2).1
  · rfl

theorem Inv.float (D : DReg n ins pre anc) {A : List (Nat × Bool)} {x : Nat} {r : List DIx} {L : Nat → Bool} {t : Tmps} {m : AMem} {s : ASt} (h : Inv P G n ins pre anc Q t0 ds A (.f x :: r) L t m s) :
    ∃ t', Inv P G n ins pre anc Q t0 ds ((x, false) :: A) r L t' m s := by
  obtain ⟨c1, c2, c3, c4⟩ := dok_common h.a1
  simp only [DIx.ix] at c1 c2 c3 c4
  obtain ⟨hf, hok⟩ := dok_f h.a1
  obtain ⟨v, hv, hw⟩ := h.w
  simp only at hv hw
  have hxL : L x = false := by
    cases hl : L x with
    | false => rfl
    | true => exact absurd (h.a2 x hl) c2
  -- what it reads
  have hread : ∀ r' ∈ (ins x).reads, t r' = env ins anc t0 (updO t (ins x).dst v) x r' := by
    intro r' hr
    unfold env
    split
    · rename_i hh
      simp only [List.any_eq_true, beq_iff_eq] at hh
      obtain ⟨j, h1, h2⟩ := hh
      have hj := c3 j h1
      have hne : x ≠ j := fun e => c2 (e ▸ hj)
      exact (upd_other (D.d3 x c1 j (h.a4 j hj).1 hne r' h2).1).symm
    · rename_i hh
      apply h.u
      intro j hj hjd
      apply hh
      simp only [List.any_eq_true, beq_iff_eq]
      have hne : x ≠ j := fun e => c2 (e ▸ hj)
      rcases (D.d3 x c1 j (h.a4 j hj).1 hne r' hjd).2 hr with h1 | h1
      · exact ⟨j, h1, hjd⟩
      · exact absurd ((h.a4 j hj).2 x h1) c2
  refine ⟨updO t (ins x).dst v, ⟨h.hm, h.hds, hok, fun i hi => List.mem_cons_of_mem _ (h.a2 i hi), ?_, ?_, h.a5, ?_, ?_, ?_, ?_, hw⟩⟩
  · intro i hi
    rcases List.mem_cons.1 hi with h1 | h1
    · cases h1
    · exact h.a3 i h1
  · intro i hi
    simp only [ixs, List.map_cons, List.mem_cons] at hi
    rcases hi with rfl | hi
    · exact ⟨c1, fun k hk => List.mem_cons_of_mem _ (c3 k hk)⟩
    · exact ⟨(h.a4 i hi).1, fun k hk => List.mem_cons_of_mem _ ((h.a4 i hi).2 k hk)⟩
  · intro r' hr
    rw [upd_other (hr x (by simp [ixs]))]
    exact h.u r' fun j hj => hr j (List.mem_cons_of_mem _ hj)
  · intro r' hr
    rw [upd_other (hr x (by simp [ixs]) hxL)]
    exact h.x1 r' fun i hi hl => hr i (List.mem_cons_of_mem _ hi) hl
  · intro i hi hl r' hd
    simp only [ixs, List.map_cons, List.mem_cons] at hi
    rcases hi with rfl | hi
    · have h1 : ∀ j ∈ ixs A, (ins j).dst ≠ some r' := fun j hj hjd => by
        have hne : j ≠ i := fun e => c2 (e ▸ hj)
        exact (D.d3 j (h.a4 j hj).1 i c1 hne r' hd).1 hjd
      rw [h.x1 r' fun j hj _ => h1 j hj, h.u r' h1]
    · exact h.x2 i hi hl r' hd
  · intro i hi hl
    rcases List.mem_cons.1 hi with h1 | h1
    · cases h1
      exact ⟨hf, v, by rw [← valF_congr hread]; exact hv, fun d hd => upd_same hd⟩
    · obtain ⟨p1, v', p2, p3⟩ := h.p i h1 hl
      refine ⟨p1, v', by rw [env_keep D h.a4 c1 c2 (ixs_mem h1)]; exact p2, fun d hd => ?_⟩
      rw [upd_other]
      · exact p3 d hd
      · have hne : x ≠ i := fun e => c2 (e ▸ ixs_mem h1)
        exact (D.d3 x c1 i (h.a4 i (ixs_mem h1)).1 hne d hd).1

theorem Inv.advance (D : DReg n ins pre anc) : ∀ (r : List DIx) {A : List (Nat × Bool)} {L : Nat → Bool} {t : Tmps} {m : AMem} {s : ASt}, Inv P G n ins pre anc Q t0 ds A r L t m s →
    ∃ A' r' t', Inv P G n ins pre anc Q t0 ds A' r' L t' m s ∧ (r' = [] ∨ ∃ x chk r'', r' = .b x chk :: r'')
  | [], A, L, t, m, s, h => ⟨A, [], t, h, .inl rfl⟩
  | .f x :: r, A, L, t, m, s, h => by
    obtain ⟨t', h'⟩ := h.float D
    exact Inv.advance D r h'
  | .b x chk :: r, A, L, t, m, s, h => ⟨A, _, t, h, .inr ⟨x, chk, r, rfl⟩⟩

theorem chkOk_mem {s : ASt} {f : Nat} : ∀ {chk : List Nat}, chkOk s (chk.map ins) → f ∈ chk → ∃ v, valF (ins f) s.t s.m = some v ∧ ∀ d, (ins f).dst = some d → s.t d = v
  | c :: r, h, hf => by
    obtain ⟨h1, h2⟩ := h
    rcases List.mem_cons.1 hf with rfl | hf
    · split at h1
      · rename_i d hd
        exact ⟨_, h1, fun d' hd' => by rw [hd] at hd'; cases hd'; rfl⟩
      · rename_i hd
        obtain ⟨v, hv⟩ := Option.isSome_iff_exists.1 h1
        exact ⟨v, hv, fun d' hd' => by rw [hd] at hd'; cases hd'⟩
    · exact chkOk_mem h2 hf

def unl (n : Nat) (L : Nat → Bool) : Nat := ((List.range n).filter fun i => !L i).length

theorem filter_length_lt {p q : Nat → Bool} {i : Nat} : ∀ {l : List Nat}, i ∈ l → (∀ j, q j = true → p j = true) → p i = true → q i = false → (l.filter q).length < (l.filter p).length
  | x :: l, hi, hpq, hp, hq => by
    have hle : ∀ l : List Nat, (l.filter q).length ≤ (l.filter p).length := by
      intro l
      induction l with
      | nil => simp
      | cons y l ih =>
        simp only [List.filter_cons]
        cases hqy : q y with
        | true => simp [hpq y hqy]; exact ih
        | false => cases p y <;> simp <;> omega
    rcases List.mem_cons.1 hi with rfl | hi
    · simp only [List.filter_cons, hp, hq, if_true]
      have := hle l
      simp; omega
    · have := filter_length_lt hi hpq hp hq
      simp only [List.filter_cons]
      cases hqy : q x with
      | true => simp [hpq x hqy]; exact this
      | false => cases p x <;> simp <;> omega

theorem unl_set {L : Nat → Bool} {i : Nat} (hi : i < n) (hl : L i = false) : unl n (setL L i) < unl n L := by
  refine filter_length_lt (i := i) (List.mem_range.2 hi) (fun j hj => ?_) (by simp [hl]) (by simp [setL])
  simp only [setL, Bool.not_eq_true'] at hj ⊢
  split at hj
  · cases hj
  · exact hj

theorem none_ready {L : Nat → Bool} (D : DReg n ins pre anc) (h : ∀ j, ¬ Rdy n pre L j) : ∀ i, i < n → L i = true := by
  intro i
  induction i using Nat.strongRecOn with
  | _ i ih =>
    intro hi
    cases hl : L i with
    | true => rfl
    | false => exact absurd ⟨hi, hl, fun k hk => ih k (D.d1 i hi k hk).1 (by have := (D.d1 i hi k hk).1; omega)⟩ (h i)

theorem Inv.done (D : DReg n ins pre anc) {A : List (Nat × Bool)} {r : List DIx} {L : Nat → Bool} {t : Tmps} {m : AMem} {s : ASt} (h : Inv P G n ins pre anc Q t0 ds A r L t m s)
    (hr : r = [] ∨ ∃ x chk r'', r = .b x chk :: r'') (hn : ∀ j, ¬ Rdy n pre L j) : Q .normal s := by
  have hall := none_ready D hn
  rcases hr with rfl | ⟨x, chk, r'', rfl⟩
  · have hw := h.w
    have ht : s.t = t := by
      funext r'
      exact h.x1 r' fun i hi hl => by rw [hall i (h.a4 i hi).1] at hl; cases hl
    have : s = ⟨t, m, ds⟩ := by
      obtain ⟨st, sm, sd⟩ := s
      have h1 := h.hm; have h2 := h.hds
      simp only at h1 h2 ht
      subst h1 h2 ht; rfl
    rw [this]
    exact hw
  · obtain ⟨c1, c2, _, _⟩ := dok_common h.a1
    exact absurd (h.a2 _ (hall _ c1)) c2

theorem AAny_of_inv (D : DReg n ins pre anc) : ∀ (k : Nat) {A : List (Nat × Bool)} {r : List DIx} {L : Nat → Bool} {t : Tmps} {m : AMem} {s : ASt},
    Inv P G n ins pre anc Q t0 ds A r L t m s → unl n L ≤ k → AAny P G n ins pre Q k L s := by
  intro k
  induction k with
  | zero =>
    intro A r L t m s h hk
    obtain ⟨A', r', t', h', hr⟩ := h.advance D
    have hn : ∀ j, ¬ Rdy n pre L j := fun j hj => by
      have := unl_set hj.1 hj.2.1
      omega
    exact ⟨hn, h'.done D hr hn⟩
  | succ k ih =>
    intro A r L t m s h hk
    obtain ⟨A, r, t, h, hr⟩ := h.advance D
    refine ⟨h.done D hr, fun i hi => ?_⟩
    have hu := unl_set hi.1 hi.2.1
    have hanc := anc_ready D h.a5 hi
    have hs : s = ⟨s.t, m, ds⟩ := by
      obtain ⟨st, sm, sd⟩ := s
      have h1 := h.hm; have h2 := h.hds
      simp only at h1 h2
      subst h1 h2; rfl
    by_cases hiA : i ∈ ixs A
    · -- a float that waits
      rcases mem_ixs hiA with hb | hf
      · have := h.a3 i hb
        rw [hi.2.1] at this; cases this
      · obtain ⟨p1, v, p2, p3⟩ := h.p i hf hi.2.1
        have hread : ∀ r' ∈ (ins i).reads, s.t r' = env ins anc t0 t i r' := by
          intro r' hr'
          unfold env
          split
          · rename_i hh
            simp only [List.any_eq_true, beq_iff_eq] at hh
            obtain ⟨j, h1, h2⟩ := hh
            refine h.x1 r' fun k hk hl hkd => ?_
            have hjA := (h.a4 i hiA).2 j h1
            have hne : k ≠ j := fun e => by rw [e, hanc j h1] at hl; cases hl
            exact (D.d3 k (h.a4 k hk).1 j (h.a4 j hjA).1 hne r' h2).1 hkd
          · rename_i hh
            by_cases hex : ∃ j ∈ ixs A, (ins j).dst = some r'
            · obtain ⟨j, hj, hjd⟩ := hex
              by_cases hji : j = i
              · subst hji; exact h.x2 j hj hi.2.1 r' hjd
              · rcases (D.d3 i hi.1 j (h.a4 j hj).1 (Ne.symm hji) r' hjd).2 hr' with h1 | h1
                · exact absurd (by simp only [List.any_eq_true, beq_iff_eq]; exact ⟨j, h1, hjd⟩) hh
                · refine h.x2 j hj ?_ r' hjd
                  cases hl : L j with
                  | false => rfl
                  | true =>
                    have := anc_closed D h.a5 j (h.a4 j hj).1 hl i h1
                    rw [hi.2.1] at this; cases this
            · have hno : ∀ j ∈ ixs A, (ins j).dst ≠ some r' := fun j hj hjd => hex ⟨j, hj, hjd⟩
              rw [h.x1 r' fun j hj _ => hno j hj, h.u r' hno]
        have hv : valF (ins i) s.t s.m = some v := by rw [h.hm, valF_congr hread]; exact p2
        refine Aone_float p1 hv (ih (A := A) (r := r) (t := t) (m := m) ⟨h.hm, h.hds, h.a1, ?_, ?_, h.a4, h.a5.set hi, h.u, ?_, ?_, ?_, h.w⟩ (by omega))
        · intro j hj
          simp only [setL] at hj
          split at hj
          · rename_i he; subst he; exact hiA
          · exact h.a2 j hj
        · intro j hj
          simp only [setL]
          split
          · rfl
          · exact h.a3 j hj
        · intro r' hr'
          by_cases hd : (ins i).dst = some r'
          · simp only [upd_same hd]
            exact (p3 r' hd).symm
          · simp only [upd_other hd]
            refine h.x1 r' fun j hj hl => ?_
            by_cases hji : j = i
            · subst hji; exact hd
            · exact hr' j hj (by simp only [setL, if_neg hji]; exact hl)
        · intro j hj hl r' hd
          simp only [setL] at hl
          split at hl
          · cases hl
          · rename_i hji
            have := (D.d3 i hi.1 j (h.a4 j hj).1 (Ne.symm hji) r' hd).1
            simp only [upd_other this]
            exact h.x2 j hj hl r' hd
        · intro j hj hl
          simp only [setL] at hl
          split at hl
          · cases hl
          · exact h.p j hj hl
    · -- the next bar
      obtain ⟨x, chk, r, rfl, rfl⟩ : ∃ x chk r'', r = .b x chk :: r'' ∧ i = x := by
        rcases (dok_all h.a1 i hi.1).resolve_left hiA with hin
        rcases hr with rfl | ⟨x, chk, r'', rfl⟩
        · cases hin
        · refine ⟨x, chk, r'', rfl, ?_⟩
          simp only [List.map_cons, List.mem_cons, DIx.ix] at hin
          rcases hin with h1 | h1
          · exact h1
          · obtain ⟨y, hy, he⟩ := List.mem_map.1 h1
            have := dok_after (b := x) (dok_b h.a1).1 List.mem_cons_self y hy
            rw [he] at this
            have := h.a2 x (hanc x this)
            exact absurd this (dok_common h.a1).2.1
      obtain ⟨c1, c2, c3, c4⟩ := dok_common h.a1
      simp only [DIx.ix] at c1 c2 c3 c4
      obtain ⟨hok, hchk⟩ := dok_b h.a1
      have hw : Aone P G (ins i) (fun s' => chkOk s' (chk.map ins) ∧ DW P G (r.map (DIx.item ins)) Q s') (PanAny Q) ⟨t, m, ds⟩ := h.w
      have hread : ∀ r' ∈ (ins i).reads, t r' = s.t r' := by
        intro r' hr'
        refine (h.x1 r' fun k hk hl hkd => ?_).symm
        have hne : i ≠ k := fun e => c2 (e ▸ hk)
        rcases (D.d3 i c1 k (h.a4 k hk).1 hne r' hkd).2 hr' with h1 | h1
        · rw [hanc k h1] at hl; cases hl
        · exact c2 ((h.a4 k hk).2 i h1)
      rw [hs]
      refine Aone_congr hread ?_ (fun c m' hq => hq s.t) hw
      rintro v m' ⟨hc, hd⟩
      have hAne : ∀ j ∈ ixs A, j ≠ i := fun j hj e => c2 (e ▸ hj)
      have hu' : ∀ r', (∀ j ∈ ixs ((i, true) :: A), (ins j).dst ≠ some r') → updO t (ins i).dst v r' = t0 r' := by
        intro r' hr'
        rw [upd_other (hr' i (by simp [ixs]))]
        exact h.u r' fun j hj => hr' j (List.mem_cons_of_mem _ hj)
      refine ih (A := (i, true) :: A) (r := r) (t := updO t (ins i).dst v) (m := m') ⟨rfl, rfl, hok, ?_, ?_, ?_, h.a5.set hi, hu', ?_, ?_, ?_, hd⟩ (by omega)
      · intro j hj
        simp only [setL] at hj
        split at hj
        · rename_i he; subst he; simp [ixs]
        · exact List.mem_cons_of_mem _ (h.a2 j hj)
      · intro j hj
        simp only [setL]
        split
        · rfl
        · rename_i hne
          rcases List.mem_cons.1 hj with h1 | h1
          · cases h1; exact absurd rfl hne
          · exact h.a3 j h1
      · intro j hj
        simp only [ixs, List.map_cons, List.mem_cons] at hj
        rcases hj with rfl | hj
        · exact ⟨c1, fun k hk => List.mem_cons_of_mem _ (c3 k hk)⟩
        · exact ⟨(h.a4 j hj).1, fun k hk => List.mem_cons_of_mem _ ((h.a4 j hj).2 k hk)⟩
      · intro r' hr'
        by_cases hdd : (ins i).dst = some r'
        · simp only [upd_same hdd]
        · simp only [upd_other hdd]
          refine h.x1 r' fun j hj hl => hr' j (List.mem_cons_of_mem _ hj) ?_
          simp only [setL, if_neg (hAne j hj)]; exact hl
      · intro j hj hl r' hdj
        simp only [setL] at hl
        split at hl
        · cases hl
        · rename_i hne
          simp only [ixs, List.map_cons, List.mem_cons] at hj
          have hj := hj.resolve_left hne
          have := (D.d3 i c1 j (h.a4 j hj).1 (Ne.symm hne) r' hdj).1
          simp only [upd_other this]
          exact h.x2 j hj hl r' hdj
      · intro j hj hl
        simp only [setL] at hl
        split at hl
        · cases hl
        · rename_i hne
          have hj : (j, false) ∈ A := by
            rcases List.mem_cons.1 hj with h1 | h1
            · cases h1
            · exact h1
          have hjA := ixs_mem hj
          obtain ⟨p1, v', p2, p3⟩ := h.p j hj hl
          refine ⟨p1, ?_⟩
          have hkeep := env_keep (t0 := t0) D h.a4 c1 c2 hjA t v
          have hdst : ∀ d, (ins j).dst = some d → updO t (ins i).dst v d = t d := fun d hdj =>
            upd_other (D.d3 i c1 j (h.a4 j hjA).1 (Ne.symm hne) d hdj).1
          rcases hchk j hj with h1 | h1 | ⟨h1, h2⟩
          · rw [hanc j h1] at hl; cases hl
          · exact ⟨v', by rw [hkeep]; exact valF_indep h1 p2, fun d hdj => by rw [hdst d hdj]; exact p3 d hdj⟩
          · obtain ⟨v2, q1, q2⟩ := chkOk_mem hc h1
            refine ⟨v2, ?_, q2⟩
            rw [← valF_congr (t := updO t (ins i).dst v)]
            · exact q1
            · intro r' hr'
              unfold env
              split
              · rfl
              · rename_i hh
                refine hu' r' fun k hk hkd => hh ?_
                have hkn : k < n := by
                  simp only [ixs, List.map_cons, List.mem_cons] at hk
                  rcases hk with rfl | hk
                  · exact c1
                  · exact (h.a4 k hk).1
                simp only [List.any_eq_true, beq_iff_eq]
                exact ⟨k, h2 k hkn r' hkd hr', hkd⟩

theorem AAny_of_DW (hd : dregs n ins pre anc = true) {dsx : List DIx} (ho : dok n ins anc [] dsx = true) {s : ASt} (h : DW P G (dsx.map (DIx.item ins)) Q s) : AAny P G n ins pre Q n (fun _ => false) s := by
  refine AAny_of_inv (dregs_spec hd) n (t0 := s.t) (ds := s.ds) (A := []) (r := dsx) (t := s.t) (m := s.m) ⟨rfl, rfl, ho, ?_, ?_, ?_, ?_, ?_, ?_, ?_, ?_, h⟩ ?_
  · intro i hi; cases hi
  · intro i hi; cases hi
  · intro i hi; cases hi
  · intro j hj hl; cases hl
  · intro r' _; rfl
  · intro r' _; rfl
  · intro i hi; cases hi
  · intro i hi; cases hi
  · simp [unl]
    exact Nat.le_trans (List.length_filter_le _ _) (by simp)

end
end Go.AM
namespace Go.AM
set_option linter.unusedVariables false
set_option linter.unusedSimpArgs false

def AMem.reserve (m : AMem) (k : Nat) : AMem := ⟨m.size + k, fun x => if x < m.size then m.get x else .dead⟩

def allocV (o : AOp) (t : Tmps) (b : Nat) : Option (Value × AObj) :=
  match o with
  | .new e z => some (.pointer (some ⟨b, 0, none⟩), .cells z e true .exact)
  | .box e x => match cellsOf (x.ev t) with
    | some c => some (.pointer (some ⟨b, 0, none⟩), .cells c e true .exact)
    | none => none
  | .bldSl e len z ps => match fill z (ps.map fun p => (p.1, p.2.1, p.2.2.ev t)) with
    | some c => some (.slice (some ⟨b, 0, none⟩) len len, .cells c e true .exact)
    | none => none
  | .s2b e x => match x.ev t with
    | .string s => if s.size ≤ 9223372036854775807 then some (.slice (some ⟨b, 0, none⟩) s.size openCap, .cells (s.data.toList.map byteV) e true (.room [.int .u8 0])) else none
    | _ => none
  | .mkM => some (.map (some b), .map #[] 0)
  | .mkSl e sz z bytes l c => match l.ev t, c.ev t with
    | .int _ l, .int _ c => if 0 ≤ l ∧ l ≤ c ∧ bytes * c ≤ 281474976710656 ∧ c ≤ 281474976710656 ∧ z.length = sz then
        some (.slice (some ⟨b, 0, none⟩) l.toNat c.toNat, .cells (rep z c.toNat) e true .exact) else none
    | _, _ => none
  | _ => none

def constOk : AOpd → Bool
  | .t _ => true
  | .c v => plainB2 v

def AOp.alloc : AOp → Bool
  | .new _ z => z.all plainB
  | .box _ x => constOk x
  | .bldSl _ _ z ps => z.all plainB && ps.all fun p => constOk p.2.2
  | .s2b _ _ => true
  | .mkM => true
  | .mkSl _ _ z _ _ _ => z.all plainB
  | _ => false

variable {P : Program} {G : Nat}

inductive AIx where
  | f (i : Nat)
  | b (i : Nat) (chk sl : List Nat)
  | a (i j : Nat)
  deriving Inhabited
def AIx.ix : AIx → Nat | .f i | .b i _ _ | .a i _ => i

inductive AItem where
  | f (i : AIns)
  | b (i : AIns) (chk : List AIns) (sl : List Nat)
  | a (i : AIns) (j : Nat)
  deriving Inhabited
def AIx.item (ins : Nat → AIns) : AIx → AItem
  | .f i => .f (ins i)
  | .b i chk sl => .b (ins i) (chk.map ins) sl
  | .a i j => .a (ins i) j

def allocI (i : AIns) (t : Tmps) (b : Nat) : Option (Value × AObj) := match i with | .op _ _ o => allocV o t b | _ => none
def AIns.alloc : AIns → Bool | .op _ _ o => o.alloc | _ => false

def slOk (base : Nat) (m m' : AMem) : List Nat → Prop
  | [] => True
  | j :: r => m'.get (base + j) = m.get (base + j) ∧ slOk base m m' r

def DWA (P : Program) (G : Nat) (base : Nat) : List AItem → (AExit → ASt → Prop) → ASt → Prop
  | [], Q, s => Q .normal s
  | .f i :: r, Q, s => ∃ v, valF i s.t s.m = some v ∧ DWA P G base r Q { s with t := updO s.t i.dst v }
  | .b i chk sl :: r, Q, s => Aone P G i (fun s' => slOk base s.m s'.m sl ∧ chkOk s' chk ∧ DWA P G base r Q s') (PanAny Q) s
  | .a i j :: r, Q, s => s.m.get (base + j) = .dead ∧ if wanted i.guard s.t then ∃ v o, allocI i s.t (base + j) = some (v, o) ∧ DWA P G base r Q { s with t := updO s.t i.dst v, m := s.m.set (base + j) o }
      else DWA P G base r Q { s with t := updO s.t i.dst undef }

section
variable (n : Nat) (ins : Nat → AIns) (pre : Nat → List Nat) (anc : Nat → List Nat) (slot : Nat → Option Nat)

def dokA : List (Nat × Bool) → List AIx → Bool
  | A, [] => (List.range n).all fun i => (A.map (·.1)).contains i
  | A, x :: r =>
    decide (x.ix < n) && !(A.map (·.1)).contains x.ix && (anc x.ix).all (fun j => (A.map (·.1)).contains j) && (isBar A).all (fun b => (anc x.ix).contains b) &&
    (match x with
     | .f i => (ins i).float && (slot i).isNone && dokA ((i, false) :: A) r
     | .a i j => (ins i).alloc && slot i == some j && (List.range n).all (fun k => k == i || slot k != some j) && dokA ((i, false) :: A) r
     | .b i chk sl => (slot i).isNone && A.all (fun f => f.2 || (anc i).contains f.1 || (match slot f.1 with
          | some j => sl.contains j
          | none => (ins f.1).indep || (chk.contains f.1 && (List.range n).all fun k => match (ins k).dst with | some d => !(ins f.1).reads.contains d || (anc f.1).contains k | none => true))) &&
        dokA ((i, true) :: A) r)
end

end Go.AM
namespace Go.AM
set_option linter.unusedVariables false

inductive ACode where
  | skip
  | reg (is : List AIns)
  | draw (ds : List DItem)
  | any (is : List AIns) (pres : List (List Nat))
  | drawA (k : Nat) (ds : List AItem)
  | seq (a b : ACode)
  | cond (c : AOpd) (a b : ACode)
  | block (id : Nat) (a : ACode)
  | loop (a : ACode)
  | exit (id : Nat)
  | ret
  | refuse
  | scope (l : Nat) (a r : ACode)
  | label (l : Nat)
  | goto (l : Nat)
  | rangeF (f : AOpd) (ps : List Nat) (a b : ACode)
  | dfr (is : List AIns) (x : AOpd) (args : List AOpd)
  deriving Inhabited

def roundT (t : Tmps) (ps : List Nat) (args : List Value) : Tmps := (ps.zip args).foldl (fun t p => upd t p.1 p.2) t
def AssignK (l : Nat) (t : Tmps) (rec : Loop) (K : ASt → Prop) : AExit → ASt → Prop
  | .normal, s => s.m.get l = .loop .ready none t rec ∧ K { s with m := s.m.set l (.loop .busy none t rec) }
  | _, _ => False
def RoundK (l : Nat) (t : Tmps) (rec : Loop) (K : AEnd → AMem → Prop) : AExit → ASt → Prop
  | .normal, s => s.m.get l = .loop .busy none t rec ∧ K (.ret (.bool true)) (s.m.set l (.loop .ready none t rec))
  | .ret, s => s.m.get l = .loop .busy none t rec ∧ K (.ret (.bool false)) (s.m.set l (.loop .done (some .ret) t rec))
  | .exit id, s => s.m.get l = .loop .busy none t rec ∧ K (.ret (.bool false)) (s.m.set l (.loop .done (some (.exit id)) t rec))
  | .goto l', s => s.m.get l = .loop .busy none t rec ∧ K (.ret (.bool false)) (s.m.set l (.loop .done (some (.goto l')) t rec))
  | .pan c, s => s.ds = [] ∧ K (.pan c) s.m
def JmpK (Q : AExit → ASt → Prop) (s : ASt) : Option Code → Prop
  | none => Q .normal s
  | some .ret => Q .ret s
  | some (.exit id) => Q (.exit id) s
  | some (.goto l) => Q (.goto l) s
  | _ => False
def EndK (D l : Nat) (t : Tmps) (rec : Loop) (Q : AExit → ASt → Prop) (ds : List Deferred) : AEnd → AMem → Prop
  | .ret _, m => ∃ st pend, m.get l = .loop st pend t rec ∧ st ≠ .busy ∧ JmpK Q ⟨t, m.set l .dead, ⟨.collected D, #[]⟩ :: ds⟩ pend
  | .pan c, m => Q (.pan c) ⟨t, m, ⟨.collected D, #[]⟩ :: ds⟩
theorem JmpK.mono {Q Q' : AExit → ASt → Prop} (hq : ∀ e s, Q e s → Q' e s) {s : ASt} {p : Option Code} (h : JmpK Q s p) : JmpK Q' s p := by
  unfold JmpK at h ⊢
  split at h <;> first | exact hq _ _ h | exact h
theorem EndK.mono {D l : Nat} {t : Tmps} {rec : Loop} {ds : List Deferred} {Q Q' : AExit → ASt → Prop} (hq : ∀ e s, Q e s → Q' e s) {r : AEnd} {m : AMem} (h : EndK D l t rec Q ds r m) : EndK D l t rec Q' ds r m := by
  cases r with
  | ret v => obtain ⟨st, pend, h1, h2, h3⟩ := h; exact ⟨st, pend, h1, h2, h3.mono hq⟩
  | pan c => exact hq _ _ h

def SeqK (K : ASt → Prop) (Q : AExit → ASt → Prop) : AExit → ASt → Prop
  | .normal, s => K s
  | e, s => Q e s

def JumpK (l : Nat) (J : ASt → Prop) (Q : AExit → ASt → Prop) : AExit → ASt → Prop
  | .goto l', s => l' = l ∧ J s
  | e, s => Q e s

def findA : ACode → Nat → Option ACode
  | .seq a b, l => match findA a l with
    | some r => some (.seq r b)
    | none => findA b l
  | .label l', l => if l' == l then some .skip else none
  | _, _ => none
def labA : ACode → Option Nat
  | .seq a b => match labA a with
    | some l => some l
    | none => labA b
  | .label l => some l
  | _ => none

def BlockK (id : Nat) (Q : AExit → ASt → Prop) : AExit → ASt → Prop
  | .exit i, s => if i = id then Q .normal s else Q (.exit i) s
  | e, s => Q e s

def LoopK (I : Nat → ASt → Prop) (n : Nat) (Q : AExit → ASt → Prop) : AExit → ASt → Prop
  | .normal, s => ∃ k, k < n ∧ I k s
  | e, s => Q e s

def DfrK (x : AOpd) (args : List AOpd) (Q : AExit → ASt → Prop) (s : ASt) : Prop := match x.ev s.t with
  | .func (.func f) first captured => Q .normal { s with ds := { target := .fn (.func f) captured, args := first ++ (args.map (·.ev s.t)).toArray } :: s.ds }
  | _ => False

def DItem.dst : DItem → Option Nat | .f i => i.dst | .b i _ => i.dst
def dstsD (d : List DItem) : List Nat := d.filterMap DItem.dst
def QD (t0 : Tmps) (E : List Nat) (Q : AExit → ASt → Prop) : AExit → ASt → Prop
  | .pan c, s => (∀ i, E.contains i = false → s.t i = t0 i) → Q (.pan c) s
  | e, s => Q e s
theorem QD.mono {t0 : Tmps} {E : List Nat} {Q Q' : AExit → ASt → Prop} (hq : ∀ e s, Q e s → Q' e s) (e : AExit) (s : ASt) (h : QD t0 E Q e s) : QD t0 E Q' e s := by
  cases e with
  | pan c => exact fun k => hq _ _ (h k)
  | _ => exact hq _ _ h
def W (P : Program) (G : Nat) : ACode → (AExit → ASt → Prop) → ASt → Prop
  | .skip, Q, s => Q .normal s
  | .reg is, Q, s => WI P G is Q s
  | .draw d, Q, s => DW P G d (QD s.t (dstsD d) Q) s
  | .any is pres, Q, s => AAny P G pres.length (fun i => is.getD i default) (fun i => pres.getD i []) Q pres.length (fun _ => false) s
  | .drawA k d, Q, s => DWA P G s.m.size d Q { s with m := s.m.reserve k }
  | .seq a b, Q, s => W P G a (SeqK (W P G b Q) Q) s
  | .cond c a b, Q, s => match c.ev s.t with
    | .bool c => if c then W P G a Q s else W P G b Q s
    | _ => False
  | .block id a, Q, s => W P G a (BlockK id Q) s
  | .loop a, Q, s => ∃ I : Nat → ASt → Prop, (∃ n, I n s) ∧ ∀ n s, I n s → W P G a (LoopK I n Q) s
  | .exit id, Q, s => Q (.exit id) s
  | .ret, Q, s => Q .ret s
  | .refuse, _, _ => False
  | .scope l a r, Q, s => ∃ J : Nat → ASt → Prop, W P G a (JumpK l (fun s => ∃ n, J n s) Q) s ∧ ∀ n s, J n s → W P G r (JumpK l (fun s => ∃ k, k < n ∧ J k s) Q) s
  | .label _, Q, s => Q .normal s
  | .goto l, Q, s => Q (.goto l) s
  | .rangeF f ps a b, Q, s => match f.ev s.t with
    | .func (.func gf) first captured => (∃ fn c, P.funcs[gf]? = some fn ∧ (fn.name == "runtime.NumGoroutine") = false ∧ fn.body = some c) ∧ ∀ rec : Loop,
      (∀ (args : List Value) (m' : AMem) (K : AEnd → AMem → Prop), args.length = ps.length → m'.get (s.m.size + 1) = .loop .ready none s.t rec →
        W P G a (AssignK (s.m.size + 1) s.t rec fun s' => W P G b (RoundK (s.m.size + 1) s.t rec K) s') { t := roundT s.t ps args, m := m', ds := [] } → AYield P G (s.m.size + 1) args m' K) →
      ACall P G gf (first.toList ++ [.func (.yield (s.m.size + 1)) #[] #[]] ++ captured.toList) ((s.m.push .defd).push (.loop .ready none s.t rec)) (EndK s.m.size (s.m.size + 1) s.t rec Q s.ds)
    | _ => False
  | .dfr is x args, Q, s => WI P G is (SeqK (DfrK x args Q) Q) s

theorem DfrK.mono {x : AOpd} {args : List AOpd} {Q Q' : AExit → ASt → Prop} (hq : ∀ e s, Q e s → Q' e s) {s : ASt} (h : DfrK x args Q s) : DfrK x args Q' s := by
  unfold DfrK at h ⊢
  split at h <;> first | exact hq _ _ h | exact h

theorem DW_mono {P : Program} {G : Nat} : ∀ (d : List DItem) (Q Q' : AExit → ASt → Prop) (s : ASt), (∀ e s, Q e s → Q' e s) → DW P G d Q s → DW P G d Q' s
  | [], Q, Q', s, hq, h => hq _ _ h
  | .f i :: r, Q, Q', s, hq, h => by
    obtain ⟨v, h1, h2⟩ := h
    exact ⟨v, h1, DW_mono r Q Q' _ hq h2⟩
  | .b i chk :: r, Q, Q', s, hq, h => by
    obtain ⟨t, m, ds⟩ := s
    refine Aone_congr (Q := PanAny Q) (t := t) (fun r _ => rfl) ?_ ?_ h
    · rintro v m' ⟨h1, h2⟩
      exact ⟨h1, DW_mono r Q Q' _ hq h2⟩
    · intro c m' h t
      exact hq _ _ (h t)

theorem AAny_mono {P : Program} {G n : Nat} {ins : Nat → AIns} {pre : Nat → List Nat} : ∀ (k : Nat) (L : Nat → Bool) (Q Q' : AExit → ASt → Prop) (s : ASt), (∀ e s, Q e s → Q' e s) → AAny P G n ins pre Q k L s → AAny P G n ins pre Q' k L s
  | 0, L, Q, Q', s, hq, h => ⟨h.1, hq _ _ h.2⟩
  | k + 1, L, Q, Q', s, hq, h => ⟨fun hn => hq _ _ (h.1 hn), fun i hi => by
      obtain ⟨t, m, ds⟩ := s
      exact Aone_congr (t := t) (fun r _ => rfl) (fun v m' hh => AAny_mono k _ Q Q' _ hq hh) (fun c m' hh => hq _ _ hh) (h.2 i hi)⟩

theorem DWA_mono {P : Program} {G base : Nat} : ∀ (d : List AItem) (Q Q' : AExit → ASt → Prop) (s : ASt), (∀ e s, Q e s → Q' e s) → DWA P G base d Q s → DWA P G base d Q' s
  | [], Q, Q', s, hq, h => hq _ _ h
  | .f i :: r, Q, Q', s, hq, h => by
    obtain ⟨v, h1, h2⟩ := h
    exact ⟨v, h1, DWA_mono r Q Q' _ hq h2⟩
  | .a i j :: r, Q, Q', s, hq, h => by
    obtain ⟨h0, h⟩ := h
    refine ⟨h0, ?_⟩
    split at h
    · rename_i hw
      rw [if_pos hw]
      obtain ⟨v, o, h1, h2⟩ := h
      exact ⟨v, o, h1, DWA_mono r Q Q' _ hq h2⟩
    · rename_i hw
      rw [if_neg hw]
      exact DWA_mono r Q Q' _ hq h
  | .b i chk sl :: r, Q, Q', s, hq, h => by
    obtain ⟨t, m, ds⟩ := s
    refine Aone_congr (Q := PanAny Q) (t := t) (fun r _ => rfl) ?_ ?_ h
    · rintro v m' ⟨h0, h1, h2⟩
      exact ⟨h0, h1, DWA_mono r Q Q' _ hq h2⟩
    · intro c m' h t
      exact hq _ _ (h t)

theorem W_mono {P : Program} {G : Nat} : ∀ (c : ACode) (Q Q' : AExit → ASt → Prop) (s : ASt), (∀ e s, Q e s → Q' e s) → W P G c Q s → W P G c Q' s
  | .skip, Q, Q', s, hq, h => hq _ _ h
  | .reg is, Q, Q', s, hq, h => WI_mono is Q Q' s hq h
  | .draw d, Q, Q', s, hq, h => DW_mono d _ _ s (QD.mono hq) h
  | .any is pres, Q, Q', s, hq, h => AAny_mono _ _ Q Q' s hq h
  | .drawA k d, Q, Q', s, hq, h => DWA_mono d Q Q' _ hq h
  | .seq a b, Q, Q', s, hq, h => W_mono a _ _ s (fun e s h => by
      cases e with
      | normal => exact W_mono b Q Q' s hq h
      | _ => exact hq _ _ h) h
  | .cond c a b, Q, Q', s, hq, h => by
    simp only [W] at h ⊢
    split at h
    · split at h
      · rename_i hc; rw [if_pos hc]; exact W_mono a Q Q' s hq h
      · rename_i hc; rw [if_neg hc]; exact W_mono b Q Q' s hq h
    · exact h.elim
  | .block id a, Q, Q', s, hq, h => W_mono a _ _ s (fun e s h => by
      cases e with
      | exit i =>
        simp only [BlockK] at h ⊢
        split at h
        · rename_i hi; rw [if_pos hi]; exact hq _ _ h
        · rename_i hi; rw [if_neg hi]; exact hq _ _ h
      | _ => exact hq _ _ h) h
  | .loop a, Q, Q', s, hq, h => by
    obtain ⟨I, h1, h2⟩ := h
    exact ⟨I, h1, fun n s hI => W_mono a _ _ s (fun e s h => by
      cases e with
      | normal => exact h
      | _ => exact hq _ _ h) (h2 n s hI)⟩
  | .exit id, Q, Q', s, hq, h => hq _ _ h
  | .ret, Q, Q', s, hq, h => hq _ _ h
  | .refuse, _, _, _, _, h => h.elim
  | .scope l a r, Q, Q', s, hq, h => by
    obtain ⟨J, h1, h2⟩ := h
    refine ⟨J, W_mono a _ _ s (fun e s h => ?_) h1, fun n s hJ => W_mono r _ _ s (fun e s h => ?_) (h2 n s hJ)⟩
    · cases e with
      | goto l' => exact h
      | _ => exact hq _ _ h
    · cases e with
      | goto l' => exact h
      | _ => exact hq _ _ h
  | .label _, Q, Q', s, hq, h => hq _ _ h
  | .goto _, Q, Q', s, hq, h => hq _ _ h
  | .rangeF f ps a b, Q, Q', s, hq, h => by
    simp only [W] at h ⊢
    split at h
    · exact ⟨h.1, fun rec hy => (h.2 rec hy).mono fun r m' h => h.mono hq⟩
    · exact h.elim
  | .dfr is x args, Q, Q', s, hq, h => WI_mono is _ _ s (fun e s h => by
      cases e with
      | normal => exact DfrK.mono hq h
      | _ => exact hq _ _ h) h


end Go.AM

namespace Go.AM
abbrev zo (d : Nat) (x : AOp) : AIns := .op none (some d) x
abbrev zm (d s : Nat) : AIns := .op none (some d) (.mov (.t s))
abbrev zg (g : Nat) (b : Bool) (d : Nat) (x : AOp) : AIns := .op (some (g, b)) (some d) x
abbrev zk (d : Nat) (f : Nat) (as : List AOpd) : AIns := .call none (some d) f as
abbrev zi (n : Int) : AOpd := .c (.int .i64 n)
abbrev zf : AOpd := .c (.bool false)
abbrev zt : AOpd := .c (.bool true)
end Go.AM
