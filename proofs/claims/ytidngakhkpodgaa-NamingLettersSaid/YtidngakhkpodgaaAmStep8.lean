/-
  Append, copy and clear of the abstract machine are what the model does.
-/
import Derived.Test.YtidngakhkpodgaaAmStep7
set_option linter.unusedVariables false
set_option linter.unusedSimpArgs false
set_option linter.unnecessarySimpa false
namespace Go.AM
set_option linter.unusedVariables false
set_option linter.unusedSimpArgs false

section
variable {P : Program} {G : Nat} {m : AMem} {ρ : Ren} {w : World}

theorem oneCells' {cs cs' : List Value} (hL : LRel ρ cs cs') (hone : cs.all oneCell = true) : ∀ u ∈ cs', u.oneCell' = true := fun u hu => by
  obtain ⟨i, hi, rfl⟩ := List.mem_iff_getElem.1 hu
  have := hL.2 i (by rw [hL.1]; exact hi) hi
  exact this.oneCell (List.all_eq_true.1 hone _ (List.getElem_mem _))

theorem rep_range (z : List Value) (n : Nat) (h : 0 < z.length) : ((List.range (n * z.length)).map fun j => z.getD (j % z.length) undef) = rep z n := by
  apply List.ext_getElem?
  intro j
  by_cases hj : j < n * z.length
  · have h1 := rep_get z n j hj
    have hl : j < (rep z n).length := by rw [rep_length]; exact hj
    rw [List.getD_eq_getElem?_getD, List.getElem?_eq_getElem hl] at h1
    simp [List.getElem?_eq_getElem hl, hj] at h1 ⊢
    rw [h1]
  · rw [List.getElem?_eq_none (by simpa using hj), List.getElem?_eq_none (by rw [rep_length]; omega)]

/-- A row that has grown into a new one. -/
theorem grown (hR : Rep G m ρ w) {e : TypeId} {sz : Nat} {z olds olds' news news' : List Value} (hz : z.length = sz) (h0 : 0 < sz) (hpl : ∀ v ∈ z, plainB v = true) {l n cap : Nat} (hcap : l + n ≤ cap)
    (ho : LRel ρ olds olds') (hn : LRel ρ news news') (hol : olds.length = l * sz) (hnl : news.length = n * sz) :
    ∃ ρ', VRel ρ' (.slice (some ⟨m.size, 0, none⟩) (l + n) openCap) (.slice (some ⟨w.heap.size, 0, none⟩) (l + n) cap) ∧
      Rep G (m.push (.cells (olds ++ news) e true (.room z))) ρ' { w with drawn := w.drawn + 1, heap := w.heap.push (.cells ((olds' ++ news').toArray ++ (rep z (cap - (l + n))).toArray) e (0, 0)) } ∧
      Ext m ρ w (m.push (.cells (olds ++ news) e true (.room z))) ρ' { w with drawn := w.drawn + 1, heap := w.heap.push (.cells ((olds' ++ news').toArray ++ (rep z (cap - (l + n))).toArray) e (0, 0)) } := by
  have hlen : (olds ++ news).length = (l + n) * sz := by simp [hol, hnl, Nat.add_mul]
  have := hR.row e (ho.append hn) (.room z) sz (cap - (l + n)) (w.drawn + 1) (fun h => by cases h) (fun j h => by cases h) (fun z' hz' => by
    cases hz'
    exact ⟨hz, h0, by rw [hlen]; simp, fun v hv => plain_of (hpl v hv)⟩)
  simp only [Spare.z] at this
  have hr := rep_range z (cap - (l + n)) (by omega)
  rw [hz] at hr
  rw [hr] at this
  refine ⟨_, ?_, this.1, this.2.1⟩
  have h2 := VRel.sliceOpen (o := 0) (l := l + n) (c := cap) (add_self (ρ := ρ) (m := m) ⟨w.heap.size, 0, (olds ++ news).length + (cap - (l + n)) * sz, sz⟩) (by
    rw [hlen, ← Nat.add_mul]; simp; congr 1; omega) h0
  simpa using h2

/-- The side of an append that is the same for all its kinds. -/
theorem sound_appendTo (hR : Rep G m ρ w) {t u ty e : TypeId} {sz bytes : Nat} {z : List Value} (hu : P.underlying t = some (.slice e)) (hs : szOf P e = some sz) (hby : byOf P e = some bytes) (hb0 : 0 < bytes)
    (hz : zeroOf P e = some z) (h0 : 0 < sz) (hzl : z.length = sz) {x x' y' : Value} {n : Nat} {news news' : List Value} (hx : VRel ρ x x') (hA : AppSrc P w u sz bytes z y' n news') (hnews : LRel ρ news news')
    (hnl : news.length = n * sz) (hone : news.all oneCell = true) {v : Value} {m' : AMem} (h : appendTo e sz bytes z x n news m = some (v, m')) :
    Sound P G m ρ w (Builtin.append_ #[t, u] ty #[x', y']) v m' := by
  obtain ⟨i, zv, hi, hzv, hcells, hzs, hpl⟩ := zeroOf_spec hz
  have hone' := oneCells' hnews hone
  have hnil : n = 0 → news' = [] := fun hn => List.eq_nil_of_length_eq_zero (by rw [← hnews.1, hnl, hn]; simp)
  unfold appendTo at h
  split at h <;> try (simp at h; done)
  · -- nil
    rename_i _ l c
    split at h <;> try (simp at h; done)
    rename_i hlc
    obtain ⟨rfl, rfl⟩ := hlc
    cases hx with
    | nilSlice =>
      split at h
      · rename_i hn0
        simp at h
        obtain ⟨rfl, rfl⟩ := h
        subst hn0
        refine .pure hR (append_fit hu hs hby hz hA (base := none) (l := 0) (c := 0) (by omega) (w' := w) (fun a ha => by cases ha) (fun _ => rfl)) (.nilSlice _ _)
      · rename_i hn0
        split at h <;> simp at h
        rename_i hc
        obtain ⟨rfl, rfl⟩ := h
        obtain ⟨cap, hcap, hrun⟩ := append_grow (ty := ty) hu hs hby hb0 hz hA (base := none) (l := 0) (c := 0) (by omega) (by simpa using hc.1) (olds := []) (fun k => by simp [Builtin.firstCells])
        obtain ⟨ρ', h1, h2, h3⟩ := grown hR (e := e) hzl h0 hpl hcap (LRel.nil ρ) hnews (by simp) hnl
        simp only [Nat.zero_add, List.nil_append] at h1 h2 h3 hrun
        exact ⟨ρ', _, _, hrun, h1, h2, h3⟩
  · rename_i _ b o l c
    split at h
    · -- open
      rename_i hcap
      subst hcap
      split at h <;> try (simp at h; done)
      rename_i _ cells e' wrb sp hm
      split at h <;> try (simp at h; done)
      rename_i hsp
      -- the concrete slice
      have hcase : (∃ L c', x' = .slice (some ⟨L.cb, L.co + o, none⟩) l c' ∧ ρ b = some L ∧ c' * L.sz + o = L.cc) ∨ (∃ L a', l = 0 ∧ x' = .slice (some a') 0 0 ∧ ρ b = some L ∧ L.cc = o) := by
        cases hx with
        | slice hL hc => exact absurd rfl (Nat.ne_of_lt hc)
        | sliceOpen hL hc hsz => exact .inl ⟨_, _, rfl, hL, hc⟩
        | sliceEnd hL hc =>
          rcases hc with hc | hc
          · have : (0 : Nat) < openCap := openCap_lt (by omega)
            omega
          · exact .inr ⟨_, _, rfl, rfl, hL, hc.2⟩
      split at h
      · -- in place
        rename_i hfit
        rcases hcase with ⟨L, c', rfl, hL, hc⟩ | ⟨L, a', rfl, rfl, hL, hcc⟩
        · obtain ⟨carr, frz, hB⟩ := hR.blk hL hm
          have hLs := hB.spsize hsp h0
          have hlen := hB.len
          rw [hLs] at hc
          have hlc : l + n ≤ c' := by
            have : (l + n) * sz ≤ c' * sz := by omega
            exact Nat.le_of_mul_le_mul_right this h0
          split at h
          · rename_i hn0
            simp at h
            obtain ⟨rfl, rfl⟩ := h
            subst hn0
            have hst : ∀ a, some (⟨L.cb, L.co + o, none⟩ : Addr) = some a → (storeCells (a.add (l * sz)) news').run P w = .ok () w := fun a _ => by rw [hnil rfl]; simp [storeCells]
            exact .pure hR (append_fit hu hs hby hz hA hlc hst (fun hh => by cases hh)) (by
              have := VRel.sliceOpen (l := l) (c := c') hL (by rw [hLs]; exact hc) (by omega)
              simpa using this)
          · rename_i hn0
            split at h <;> simp at h
            rename_i hwr
            subst hwr
            obtain ⟨rfl, rfl⟩ := h
            have hwr' : AM.wr m b (o + l * sz) news = some (m.set b (.cells (splice cells (o + l * sz) news) e' true sp)) := by
              unfold AM.wr
              rw [hm]
              simp only
              rw [if_pos (by rw [hnl, Nat.add_assoc, ← Nat.add_mul]; exact hfit)]
            obtain ⟨k1, k2, k3⟩ := hR.wr hL hwr' hnews P hone'
            refine ⟨ρ, _, _, append_fit hu hs hby hz hA hlc (w' := w.setCells L.cb (L.co + (o + l * sz)) news') (fun a ha => ?_) (fun hh => by cases hh), ?_, k2, k3⟩
            · simp at ha
              subst ha
              rw [add_mk, Nat.add_assoc]
              exact k1
            · exact .sliceOpen hL (by rw [hLs]; exact hc) (by omega)
        · -- no room at the end: nothing is appended
          obtain ⟨carr, frz, hB⟩ := hR.blk hL hm
          have hlen := hB.len
          have hn0 : n = 0 := by
            rcases Nat.eq_zero_or_pos n with h' | h'
            · exact h'
            · have : 1 * sz ≤ n * sz := Nat.mul_le_mul_right _ h'
              simp at hfit
              omega
          subst hn0
          rw [if_pos rfl] at h
          simp at h
          obtain ⟨rfl, rfl⟩ := h
          have hst : ∀ a, some a' = some a → (storeCells (a.add (0 * sz)) news').run P w = .ok () w := fun a _ => by rw [hnil rfl]; simp [storeCells]
          exact .pure hR (append_fit hu hs hby hz hA (l := 0) (c := 0) (by omega) hst (fun hh => by cases hh)) (.sliceEnd hL (.inr ⟨rfl, hcc⟩))
      · rename_i hnfit
        split at h <;> try (simp at h; done)
        rename_i hc1
        obtain ⟨hl1, hl2, hl3⟩ := hc1
        have hrd : AM.rd m b o (l * sz) = some ((cells.drop o).take (l * sz)) := by
          unfold AM.rd; rw [hm]; simp only; rw [if_pos hl1]
        -- what the model has of the elder cells
        have holds : ∃ olds', LRel ρ ((cells.drop o).take (l * sz)) olds' ∧ ∃ c', x' = .slice (match x' with | .slice a _ _ => a | _ => none) l c' ∧
            ∀ k, (Builtin.firstCells sz l x').run P { w with drawn := k } = .ok olds'.toArray { w with drawn := k } := by
          rcases hcase with ⟨L, c', rfl, hL, hc⟩ | ⟨L, a', rfl, rfl, hL, hcc⟩
          · obtain ⟨olds', g1, g2, g3, g4⟩ := hR.rd hL hrd
            refine ⟨olds', g3, c', rfl, fun k => ?_⟩
            have := run_loadCells_list (P := P) { w with drawn := k } ⟨L.cb, L.co + o, none⟩ olds' (fun j v hj => g4 j v hj)
            rw [g1] at this
            simpa [Builtin.firstCells] using this
          · exact ⟨[], by simpa using LRel.nil ρ, 0, rfl, fun k => by simp [Builtin.firstCells, loadCells, loadCellsFrom]⟩
        obtain ⟨olds', ho, c0, hx0, hO⟩ := holds
        have hol : ((cells.drop o).take (l * sz)).length = l * sz := by simp; omega
        have hgrow : c0 < l + n → ∃ ρ' w' v', (Builtin.append_ #[t, u] ty #[x', y']).run P w = .ok v' w' ∧ VRel ρ' (.slice (some ⟨m.size, 0, none⟩) (l + n) openCap) v' ∧
            Rep G (m.push (.cells ((cells.drop o).take (l * sz) ++ news) e true (.room z))) ρ' w' ∧ Ext m ρ w (m.push (.cells ((cells.drop o).take (l * sz) ++ news) e true (.room z))) ρ' w' := by
          intro hlt
          rw [hx0] at hO
          obtain ⟨cap, hcap, hrun⟩ := append_grow (ty := ty) hu hs hby hb0 hz hA hlt hl2 hO
          obtain ⟨ρ', h1, h2, h3⟩ := grown hR (e := e) hzl h0 hpl hcap ho hnews hol hnl
          rw [← hx0] at hrun
          exact ⟨ρ', _, _, hrun, h1, h2, h3⟩
        split at h
        · -- room: in place, or anew: nobody knows
          rename_i _ z'
          split at h <;> simp at h
          rename_i hcond
          obtain ⟨hwr, hoz, rfl, hzz⟩ := hcond
          have := eqPL_eq hzz
          subst this
          subst hwr
          obtain ⟨rfl, rfl⟩ := h
          have hbm : ∀ L, ρ b = some L → b ≠ m.size := fun L hL => by have := hR.dom b L hL; omega
          have hanew : c0 < l + n → Sound P G m ρ w (Builtin.append_ #[t, u] ty #[x', y']) (.slice (some ⟨m.size, 0, none⟩) (l + n) openCap)
              ((m.set b .dead).push (.cells ((cells.drop o).take (l * sz) ++ news) e true (.room z'))) := by
            intro hlt
            obtain ⟨ρ', w', v', e1, e2, e3, e4⟩ := hgrow hlt
            have hLb : ∃ L, ρ b = some L := by rcases hcase with ⟨L, _, _, hL, _⟩ | ⟨L, _, _, _, hL, _⟩ <;> exact ⟨L, hL⟩
            obtain ⟨L, hL⟩ := hLb
            have hmem : (m.set b .dead).push (.cells ((cells.drop o).take (l * sz) ++ news) e true (.room z')) = (m.push (.cells ((cells.drop o).take (l * sz) ++ news) e true (.room z'))).set b .dead := by
              refine AMem.ext' rfl fun x => ?_
              simp only [AMem.get_push, AMem.get_set, AMem.size_set]
              by_cases hxb : x = b
              · subst hxb
                simp [hbm L hL]
              · simp [hxb]
            rw [hmem]
            refine ⟨ρ', w', v', e1, e2, e3.kill b, ?_⟩
            exact { e4 with img := fun i hi ⟨b1, L1, hb1, hw1, hc1⟩ => e4.img i hi ⟨b1, L1, hb1, by
              by_cases hxb : b1 = b
              · subst hxb; rw [AMem.get_set_self] at hw1; simp [AObj.wrt] at hw1
              · rwa [AMem.get_set_ne _ _ hxb] at hw1, hc1⟩ }
          rcases hcase with ⟨L, c', rfl, hL, hc⟩ | ⟨L, a', rfl, rfl, hL, hcc⟩
          · have hc0 : c' = c0 := by simpa using hx0
            subst hc0
            by_cases hlt : c' < l + n
            · exact hanew hlt
            · obtain ⟨carr, frz, hB⟩ := hR.blk hL hm
              have hLs := hB.spsize (sp := .room z') hsp h0
              have hlen := hB.len
              have hsize := hB.size
              rw [hLs] at hc
              have hfit2 : (l + n) * sz ≤ c' * sz := Nat.mul_le_mul_right _ (by omega)
              have hsum : (l + n) * sz = l * sz + n * sz := Nat.add_mul _ _ _
              have hnn := hnews.1
              obtain ⟨carr', g1, g2, g3, g4⟩ := setCells_self L.cb e frz news' (L.co + (o + l * sz)) w carr hB.heap (by omega)
              have hrest := setCells_rest L.cb news' (L.co + (o + l * sz)) w
              have hst : ∀ a, some (⟨L.cb, L.co + o, none⟩ : Addr) = some a → (storeCells (a.add (l * sz)) news').run P w = .ok () (w.setCells L.cb (L.co + (o + l * sz)) news') := by
                intro a ha
                simp at ha; subst ha
                rw [add_mk, Nat.add_assoc]
                have := run_storeCells_cells (P := P) L.cb (L.co + (o + l * sz)) news' 0 w (fun j hj => by
                  rw [cell_of_heap hB.heap]
                  simp only [Nat.add_zero]
                  rw [Array.getElem?_eq_getElem (by omega)]; rfl)
                  (fun j hj => by
                  rw [frozen_of_heap hB.heap]
                  have := hB.free rfl (o + l * sz + j) (by omega)
                  simp only [Bool.and_eq_false_iff, decide_eq_false_iff_not]
                  omega) hone'
                simpa using this
              have hrun := append_fit (ty := ty) hu hs hby hz hA (base := some ⟨L.cb, L.co + o, none⟩) (l := l) (c := c') (by omega) hst (fun hh => by cases hh)
              let L2 : Loc := ⟨L.cb, L.co + o, L.cc - o, sz⟩
              have hothers : ∀ i, i ≠ L.cb → i < w.heap.size → (w.setCells L.cb (L.co + (o + l * sz)) news').heap[i]? = w.heap[i]? := fun i hi _ => setCells_heap _ _ _ _ _ hi
              have hsep : ∀ b1 L1, ρ b1 = some L1 → ((m.set b .dead).get b1).alive = true → L1.cb ≠ L.cb := by
                intro b1 L1 hb1 hal hcb
                have hne : b1 ≠ b := fun hh => by subst hh; rw [AMem.get_set_self] at hal; simp [AObj.alive] at hal
                rw [AMem.get_set_ne _ _ hne] at hal
                exact hR.sep b b1 L L1 hL hb1 (fun hh => hne hh.symm) (by rw [hm]; rfl) hal (by rw [hm]; rfl) hcb.symm
              have hR1 : Rep G (m.set b .dead) ρ (w.setCells L.cb (L.co + (o + l * sz)) news') := (hR.kill b).world fun b1 L1 hb1 hal =>
                hothers _ (hsep b1 L1 hb1 hal) ((hR.kill b).lt hb1 hal)
              have hle : ρ.le (ρ.add m.size L2) := hR.le_add L2
              have hB2 : BlkAt (ρ.add m.size L2) ((cells.drop o).take (l * sz) ++ news) e true (.room z') L2 (w.setCells L.cb (L.co + (o + l * sz)) news') carr' frz := by
                refine ⟨g1, by simp only [L2]; omega, by simp only [L2, List.length_append, hol, hnl]; omega, (fun hh => by cases hh), (fun k hh => by cases hh), fun j hj => ?_, fun zz hzz' => ?_, fun _ j hj => ?_⟩
                · simp only [List.length_append, hol, hnl] at hj
                  by_cases hjl : j < l * sz
                  · rw [List.getElem_append_left (by rw [hol]; exact hjl)]
                    have h5 := hB.cell (o + j) (by omega)
                    rw [show L2.co + j = L.co + (o + j) by simp only [L2]; omega, g3 _ (by omega)]
                    simp only [List.getElem_take, List.getElem_drop]
                    exact h5.mono hle
                  · rw [List.getElem_append_right (by rw [hol]; omega)]
                    have h5 := g4 (j - l * sz) (by omega)
                    rw [show L2.co + j = L.co + (o + l * sz) + (j - l * sz) by simp only [L2]; omega, h5]
                    simp only [hol]
                    exact (hnews.2 _ (by omega) (by omega)).mono hle
                · cases hzz'
                  obtain ⟨q1, q2, q3, q4, q5, q6⟩ := hB.spare z' rfl
                  have hccm : (L.cc - o) % sz = 0 := by rw [← hc]; simp
                  refine ⟨hzl, h0, by simp only [List.length_append, hol, hnl, ← Nat.add_mul]; simp [L2], hccm, q5, fun j hj hj' => ?_⟩
                  simp only [List.length_append, hol, hnl] at hj
                  simp only [L2] at hj'
                  rw [show L2.co + j = L.co + (o + j) by simp only [L2]; omega, g3 _ (by omega), q6 (o + j) (by omega) (by omega), hLs]
                  simp only [L2]
                  congr 1
                  obtain ⟨qq, hqq⟩ : ∃ qq, o = qq * sz := ⟨o / sz, by rw [Nat.div_mul_cancel (Nat.dvd_of_mod_eq_zero hoz)]⟩
                  rw [hqq, Nat.add_comm, Nat.add_mul_mod_self_right]
                · simp only [L2] at hj ⊢
                  have := hB.free rfl (o + j) (by omega)
                  omega
              refine ⟨ρ.add m.size L2, _, _, hrun, ?_, hR1.push (L := L2) hB2.obj (fun b1 L1 hb1 hal => hsep b1 L1 hb1 hal), ?_⟩
              · have := VRel.sliceOpen (o := 0) (l := l + n) (c := c') (add_self (ρ := ρ) (m := m) L2) (by simp only [L2]; omega) h0
                simpa [L2] using this
              · refine ⟨hle, hrest.1, hrest.2.1, hrest.2.2.1, by omega, fun i hi hn => hothers i (fun hh => hn ⟨b, L, hL, by rw [hm]; rfl, hh.symm⟩) hi, fun i hi ⟨b1, L1, hb1, hw1, hc1⟩ => ?_⟩
                by_cases hb1m : b1 = m.size
                · subst hb1m
                  rw [add_self] at hb1
                  cases hb1
                  exact ⟨b, L, hL, by rw [hm]; rfl, hc1⟩
                · simp [Ren.add, hb1m] at hb1
                  rw [AMem.get_push_ne _ _ (by rw [AMem.size_set]; exact hb1m)] at hw1
                  by_cases hbb : b1 = b
                  · subst hbb; rw [AMem.get_set_self] at hw1; simp [AObj.wrt] at hw1
                  · rw [AMem.get_set_ne _ _ hbb] at hw1
                    exact ⟨b1, L1, hb1, hw1, hc1⟩
          · have hc0 : 0 = c0 := by simpa using hx0
            subst hc0
            refine hanew ?_
            obtain ⟨carr, frz, hB⟩ := hR.blk hL hm
            have hlen := hB.len
            rcases Nat.eq_zero_or_pos n with h' | h'
            · subst h'; simp at hnfit; omega
            · omega
        · -- full: anew
          rename_i _ hnroom
          simp at h
          obtain ⟨rfl, rfl⟩ := h
          refine hgrow ?_
          cases sp with
          | exact => simp [Spare.size] at hsp; omega
          | room z' => exact absurd rfl (hnroom z')
          | full k =>
            rcases hcase with ⟨L, c', rfl, hL, hc⟩ | ⟨L, a', rfl, rfl, hL, hcc⟩
            · have hc0 : c' = c0 := by simpa using hx0
              subst hc0
              obtain ⟨carr, frz, hB⟩ := hR.blk hL hm
              have hLs := hB.spsize hsp h0
              have hf := (hB.full k rfl).1
              rw [hLs] at hc
              refine Nat.lt_of_mul_lt_mul_right (a := sz) ?_
              omega
            · have hc0 : 0 = c0 := by simpa using hx0
              subst hc0
              obtain ⟨carr, frz, hB⟩ := hR.blk hL hm
              have hlen := hB.len
              rcases Nat.eq_zero_or_pos n with h' | h'
              · subst h'; simp at hnfit; omega
              · omega
    · -- the capacity is known
      rename_i hcap
      have hcase : (∃ L, x' = .slice (some ⟨L.cb, L.co + o, none⟩) l c ∧ ρ b = some L ∧ c < openCap) ∨ (∃ L a', l = 0 ∧ c = 0 ∧ x' = .slice (some a') 0 0 ∧ ρ b = some L) := by
        cases hx with
        | slice hL hc => exact .inl ⟨_, rfl, hL, hc⟩
        | sliceOpen hL hc hsz => exact absurd rfl hcap
        | sliceEnd hL hc => exact .inr ⟨_, _, rfl, hc.resolve_right (fun hh => hcap hh.1), rfl, hL⟩
      split at h
      · rename_i hfit
        split at h
        · rename_i hn0
          simp at h
          obtain ⟨rfl, rfl⟩ := h
          subst hn0
          rcases hcase with ⟨L, rfl, hL, hc⟩ | ⟨L, a', rfl, rfl, rfl, hL⟩
          · have hst : ∀ a, some (⟨L.cb, L.co + o, none⟩ : Addr) = some a → (storeCells (a.add (l * sz)) news').run P w = .ok () w := fun a _ => by rw [hnil rfl]; simp [storeCells]
            exact .pure hR (append_fit hu hs hby hz hA hfit hst (fun hh => by cases hh)) (by simpa using VRel.slice (l := l) hL hc)
          · have hst : ∀ a, some a' = some a → (storeCells (a.add (0 * sz)) news').run P w = .ok () w := fun a _ => by rw [hnil rfl]; simp [storeCells]
            exact .pure hR (append_fit hu hs hby hz hA (l := 0) (c := 0) (by omega) hst (fun hh => by cases hh)) (.sliceEnd hL (.inl rfl))
        · rename_i hn0
          split at h <;> simp at h
          rename_i _ m1 hw1
          obtain ⟨rfl, rfl⟩ := h
          rcases hcase with ⟨L, rfl, hL, hc⟩ | ⟨L, a', rfl, rfl, rfl, hL⟩
          · obtain ⟨k1, k2, k3⟩ := hR.wr hL hw1 hnews P hone'
            refine ⟨ρ, _, _, append_fit hu hs hby hz hA hfit (w' := w.setCells L.cb (L.co + (o + l * sz)) news') (fun a ha => ?_) (fun hh => by cases hh), .slice hL hc, k2, k3⟩
            simp at ha
            subst ha
            rw [add_mk, Nat.add_assoc]
            exact k1
          · omega
      · rename_i hnfit
        split at h <;> try (simp at h; done)
        rename_i _ olds hrd
        split at h <;> simp at h
        rename_i hc2
        obtain ⟨rfl, rfl⟩ := h
        have hol : olds.length = l * sz := by
          unfold AM.rd at hrd
          split at hrd <;> try (simp at hrd; done)
          split at hrd <;> simp at hrd
          subst hrd
          simp; omega
        rcases hcase with ⟨L, rfl, hL, hc⟩ | ⟨L, a', rfl, rfl, rfl, hL⟩
        · obtain ⟨olds', g1, g2, g3, g4⟩ := hR.rd hL hrd
          obtain ⟨cap, hcap', hrun⟩ := append_grow (ty := ty) hu hs hby hb0 hz hA (base := some ⟨L.cb, L.co + o, none⟩) (l := l) (c := c) (by omega) hc2.1 (olds := olds') (fun k => by
            have := run_loadCells_list (P := P) { w with drawn := k } ⟨L.cb, L.co + o, none⟩ olds' (fun j v hj => g4 j v hj)
            rw [g1] at this
            simpa [Builtin.firstCells] using this)
          obtain ⟨ρ', h1, h2, h3⟩ := grown hR (e := e) hzl h0 hpl hcap' g3 hnews hol hnl
          exact ⟨ρ', _, _, hrun, h1, h2, h3⟩
        · have : olds = [] := List.eq_nil_of_length_eq_zero (by rw [hol]; simp)
          subst this
          obtain ⟨cap, hcap', hrun⟩ := append_grow (ty := ty) hu hs hby hb0 hz hA (base := some a') (l := 0) (c := 0) (by omega) hc2.1 (olds := []) (fun k => by simp [Builtin.firstCells, loadCells, loadCellsFrom])
          obtain ⟨ρ', h1, h2, h3⟩ := grown hR (e := e) hzl h0 hpl hcap' (LRel.nil ρ) hnews (by simp) hnl
          exact ⟨ρ', _, _, hrun, h1, h2, h3⟩

end
end Go.AM
