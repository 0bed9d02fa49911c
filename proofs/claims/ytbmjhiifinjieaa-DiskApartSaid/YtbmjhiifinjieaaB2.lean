/- A file put among others. -/
import Derived.Test.YtbmjhiifinjieaaB1
set_option linter.unusedVariables false
set_option linter.unusedSimpArgs false
set_option linter.unnecessarySimpa false
namespace Go.Proofs.Ytbmjhiifinjieaa
open Go Go.AM
set_option linter.unusedVariables false
set_option linter.unusedSimpArgs false
set_option linter.unusedSectionVars false
set_option maxHeartbeats 1000000
set_option maxRecDepth 100000
variable [Ex]

theorem cut4 {l C i h : Nat} (h1 : i ≤ h) (h2 : h ≤ C) : cutV l C (some (.int .i64 (i : Int))) (some (.int .i64 (h : Int))) none = some (i, h, C) := by
  simp only [cutV]; rw [if_pos (by omega)]; simp
theorem cut4lo {l C i : Nat} (h1 : i ≤ l) (h2 : l ≤ C) : cutV l C (some (.int .i64 (i : Int))) none none = some (i, l, C) := by
  simp only [cutV]; rw [if_pos (by omega)]; simp
theorem cut4hi {l C h : Nat} (h2 : h ≤ C) : cutV l C none (some (.int .i64 (h : Int))) none = some (0, h, C) := by
  simp only [cutV]; rw [if_pos (by omega)]; simp
theorem slV4_lo {M : AMem} {b l i : Nat} {X : List Value} {e : TypeId} {w : Bool} {sp : Spare} (hm : M.get b = .cells X e w sp) (hs : sp.size = 4) (hl : 4 * l ≤ X.length) (hi : i ≤ l) :
    slVv 4 (.slice (some ⟨b, 0, none⟩) l openCap) (some (.int .i64 (i : Int))) none none M = some (.slice (some ⟨b, 4 * i, none⟩) (l - i) openCap, M) := by
  simp only [slVv, if_true, hm]
  rw [if_pos ⟨hs, by omega⟩, cut4lo hi (by omega)]
  simp only [Nat.zero_add, Nat.mul_comm i 4]
theorem slV4_hi {M : AMem} {b l h : Nat} {X : List Value} {e : TypeId} {w : Bool} {sp : Spare} (hm : M.get b = .cells X e w sp) (hs : sp.size = 4) (hl : 4 * l ≤ X.length) (hh : 4 * h ≤ X.length) :
    slVv 4 (.slice (some ⟨b, 0, none⟩) l openCap) none (some (.int .i64 (h : Int))) none M = some (.slice (some ⟨b, 0, none⟩) h openCap, M) := by
  simp only [slVv, if_true, hm]
  rw [if_pos ⟨hs, by omega⟩, cut4hi (by omega)]
  simp
theorem slV4_two {M : AMem} {b l i h : Nat} {X : List Value} {e : TypeId} {w : Bool} {sp : Spare} (hm : M.get b = .cells X e w sp) (hs : sp.size = 4) (hl : 4 * l ≤ X.length) (hi : i ≤ h) (hh : 4 * h ≤ X.length) :
    slVv 4 (.slice (some ⟨b, 0, none⟩) l openCap) (some (.int .i64 (i : Int))) (some (.int .i64 (h : Int))) none M = some (.slice (some ⟨b, 4 * i, none⟩) (h - i) openCap, M) := by
  simp only [slVv, if_true, hm]
  rw [if_pos ⟨hs, by omega⟩, cut4 hi (by omega)]
  simp only [Nat.zero_add, Nat.mul_comm i 4]
theorem cpy4 {M : AMem} {b o dl dc b2 o2 l2 c2 k : Nat} {X src : List Value} {e : TypeId} {sp : Spare} (hm : M.get b = .cells X e true sp) (hk : k = min l2 dl) (h0 : 0 < k) (hr : rd M b2 o2 (4 * k) = some src) (hs : src.length = 4 * k) (hone : src.all oneCell = true) (ho : o + 4 * k ≤ X.length) :
    cpyV 4 (.slice (some ⟨b, o, none⟩) dl dc) (.slice (some ⟨b2, o2, none⟩) l2 c2) M = some (.int .i64 k, M.set b (.cells (splice X o src) e true sp)) := by
  subst hk
  simp only [cpyV, srcLen_slice]
  rw [srcCells_slice (Nat.min_le_left _ _), Nat.mul_comm _ 4, hr]
  simp only
  rw [if_pos ⟨by omega, hone⟩, if_neg (by omega), wr_at hm (by omega)]; rfl
theorem cells_one : ∀ (k : Nat) {Y : List Value}, Y.length = 4 * k → (∀ j, j < k → (cell Y j).all oneCell = true) → Y.all oneCell = true
  | 0, Y, h, _ => by have : Y = [] := List.length_eq_zero_iff.1 (by omega); subst this; rfl
  | k + 1, Y, h, hc => by
    rw [← List.take_append_drop 4 Y, List.all_append, Bool.and_eq_true]
    refine ⟨by have := hc 0 (by omega); unfold cell at this; simpa using this, cells_one k (by rw [List.length_drop]; omega) fun j hj => ?_⟩
    have := hc (1 + j) (by omega)
    rw [← cell_drop Y 1 j] at this
    simpa using this

theorem capW_files {m : AMem} {b n : Nat} {X : List Value} {sp : Spare} {K : Value → AMem → Prop} (hb : b < m.size) (hm : m.get b = .cells X 63 true sp) (hsp : sp = .room zF ∨ sp = .full 4) (hX : 4 * n ≤ X.length) (hX4 : X.length % 4 = 0)
    (hK : ∀ X' C, X'.length = 4 * C → n ≤ C → (∀ k, k < n → cell X' k = cell X k) → K (.int .i64 (C : Nat)) (mx (m.set b (.cells X' 63 true (.full 4))) [])) :
    capW 4 (.slice (some ⟨b, 0, none⟩) n openCap) (mx m []) K := by
  simp only [capW, if_true, mx_old hb, hm]
  rcases hsp with rfl | rfl
  · refine ⟨rfl, by omega, trivial, trivial, Nat.zero_le _, fun j => ?_⟩
    rw [mx_set_old hb, Nat.sub_zero]
    have hl : (rep zF j).length = 4 * j := by simp [rep, zF]; omega
    have h1 : X.length = 4 * (X.length / 4) := by omega
    refine hK _ _ (by rw [List.length_append, hl]; omega) (by omega) fun k hk => ?_
    exact cell_app_l hX hk
  · refine ⟨rfl, ?_⟩
    have := hK X (X.length / 4) (by omega) (by omega) fun _ _ => rfl
    rwa [AMem.set_same hm] at this

/-- The files, one among them. -/
def insR (fs : List FileR) (i : Nat) (f : FileR) : List FileR := fs.take i ++ f :: fs.drop i
theorem insR_len {fs : List FileR} {i : Nat} (hi : i ≤ fs.length) (f : FileR) : (insR fs i f).length = fs.length + 1 := by simp [insR]; omega
theorem ins_cells {M : AMem} {fs : List FileR} {i : Nat} {f : FileR} {X Y row : List Value} (hi : i ≤ fs.length) (hX : ∀ k (h : k < fs.length), FCell M (cell X k) fs[k]) (hr : FCell M row f)
    (h1 : ∀ k, k < i → cell Y k = cell X k) (h2 : cell Y i = row) (h3 : ∀ k, i < k → k ≤ fs.length → cell Y k = cell X (k - 1)) : ∀ k (h : k < (insR fs i f).length), FCell M (cell Y k) (insR fs i f)[k] := by
  intro k hk
  rw [insR_len hi] at hk
  have hti : (fs.take i).length = i := by rw [List.length_take]; omega
  rcases Nat.lt_trichotomy k i with h | h | h
  · rw [h1 k h]
    have : (insR fs i f)[k]'(by rw [insR_len hi]; omega) = fs[k] := by
      simp only [insR]; rw [List.getElem_append_left (by omega)]; simp
    rw [this]; exact hX k (by omega)
  · subst h
    rw [h2]
    have : (insR fs k f)[k]'(by rw [insR_len hi]; omega) = f := by
      simp only [insR]; rw [List.getElem_append_right (by omega)]; simp [hti]
    rw [this]; exact hr
  · rw [h3 k h (by omega)]
    have : (insR fs i f)[k]'(by rw [insR_len hi]; omega) = fs[k - 1] := by
      simp only [insR]; rw [List.getElem_append_right (by omega)]
      rw [List.getElem_cons, dif_neg (by omega), List.getElem_drop]
      congr 1; omega
    rw [this]; exact hX (k - 1) (by omega)

theorem insert_ok (m : AMem) (v : Value) (fs : List FileR) (i nb : Nat) (f : FileR) {row : List Value} {e : TypeId} (hF : FilesV m v fs) (hn : fs.length ≤ 100000) (hi : i ≤ fs.length) (hnb : nb < m.size) (hr : m.get nb = .cells row e true .exact) (hc : FCell m row f) (hno : ¬ ownV v nb) :
    RelC Try.prog 0 61 [v, .int .i64 i, .slice (some ⟨nb, 0, none⟩) 1 1] m fun v' m' => FilesV m' v' (insR fs i f) ∧ VStep v m v' m' := by
  refine rel_of_W (fn := Try.f61) rfl rfl F61_ok (by simp [F61]) ?_
  obtain ⟨a, cap, rfl⟩ := hF.len
  by_cases hin : i = fs.length
  · subst hin
    have hs : ∀ M, slVv 4 (.slice a fs.length cap) (some (.int .i64 (fs.length : Int))) none none (mx m []) = M → ∃ x, M = some (x, mx m []) := by
      rintro _ rfl
      rcases hF with ⟨h, h' | ⟨b, h', hb, hm⟩⟩ | ⟨b, X, sp', h', hb, hm, hsp, hX, hX4, hcell⟩
      · subst h
        simp only [List.length_nil, Value.slice.injEq] at h'
        obtain ⟨rfl, -, rfl⟩ := h'
        simp only [slVv, if_neg (Nat.ne_of_lt zeroCap_lt)]; exact ⟨_, rfl⟩
      · subst h
        simp only [List.length_nil, Value.slice.injEq] at h'
        obtain ⟨rfl, -, rfl⟩ := h'
        simp only [slVv, if_neg (Nat.ne_of_lt zeroCap_lt)]; exact ⟨_, rfl⟩
      · cases h'
        exact ⟨_, slV4_lo ((mx_old hb).trans hm) (by rcases hsp with rfl | rfl <;> rfl) hX (Nat.le_refl _)⟩
    obtain ⟨x, hx⟩ := hs _ rfl
    obtain ⟨v', M', happ, hF', hst⟩ := app_files hF (by omega) hnb hr hc hno
    simp only [zF] at happ
    simp (implicitDefEqProofs := false) (maxSteps := 1000000) (disch := first | omega | with_reducible assumption | (simp only [List.length_map, List.length_cons, List.length_nil, List.length_set, List.length_append, List.length_replicate, List.length_take, List.length_drop, mk_size, AMem.size_set, Nat.reduceAdd]; omega)) only [amT, cut, bnd, Nat.reduceBEq, reduceCtorEq, Nat.reduceEqDiff, Nat.reduceAdd, Nat.reduceMul, Nat.reduceSub, Int.reduceToNat, Int.reduceEq, Int.reduceLT, Int.reduceLE, Int.reduceAdd, Int.reduceSub, Int.reduceMul, reduceIte, resVs, resV, packV, initT, addr, F61, stepOp_slV_v, hx, stepOp_app_v, happ]
    refine ⟨_, rfl, fun _ => ?_⟩
    have e : insR fs fs.length f = fs ++ [f] := by simp [insR]
    rw [e]
    exact ⟨hF'.old (Old.here _ _), hst.1.mx _, hst.2⟩
  · rcases hF with ⟨h, _⟩ | ⟨b, X, sp', h', hb, hm, hsp, hX, hX4, hcell⟩
    · subst h; simp at hi hin; omega
    cases h'
    have hs1 := slV4_lo (M := mx m []) (i := i) ((mx_old hb).trans hm) (show sp'.size = 4 by rcases hsp with rfl | rfl <;> rfl) hX (by omega)
    have hne : ¬ ((i : Int) = (fs.length : Int)) := by omega
    have hF0 : FilesV m (.slice (some ⟨b, 0, none⟩) fs.length openCap) fs := .inr ⟨b, X, sp', rfl, hb, hm, hsp, hX, hX4, hcell⟩
    have hnbb : nb ≠ b := fun e => hno ⟨_, _, _, by rw [e]⟩
    have hrl := hc.len
    simp (implicitDefEqProofs := false) (maxSteps := 1000000) (disch := first | omega | with_reducible assumption | (simp only [List.length_map, List.length_cons, List.length_nil, List.length_set, List.length_append, List.length_replicate, List.length_take, List.length_drop, mk_size, AMem.size_set, Nat.reduceAdd]; omega)) only [amT, cut, bnd, Nat.reduceBEq, reduceCtorEq, Nat.reduceEqDiff, Nat.reduceAdd, Nat.reduceMul, Nat.reduceSub, Int.reduceToNat, Int.reduceEq, Int.reduceLT, Int.reduceLE, Int.reduceAdd, Int.reduceSub, Int.reduceMul, reduceIte, resVs, resV, packV, initT, addr, F61, stepOp_slV_v, hs1, hne]
    refine capW_files hb hm hsp hX hX4 fun X' C hXC hnC hcl => ?_
    have hk1 : Keep (ownV (.slice (some ⟨b, 0, none⟩) fs.length openCap)) m (m.set b (.cells X' 63 true (.full 4))) := (Keep.refl _ m).set (fun _ => ⟨_, _, _, rfl⟩) _
    have g1 : (m.set b (.cells X' 63 true (.full 4))).get b = .cells X' 63 true (.full 4) := AMem.get_set_self _ _ _
    have g2 : (m.set b (.cells X' 63 true (.full 4))).get nb = .cells row e true .exact := by rw [AMem.get_set_ne _ _ hnbb]; exact hr
    have hms : (m.set b (.cells X' 63 true (.full 4))).size = m.size := rfl
    generalize m.set b (.cells X' 63 true (.full 4)) = M1 at hk1 g1 g2 hms
    have hn5 := no5 hF0
    have hcell' : ∀ k (h : k < fs.length), FCell M1 (cell X' k) fs[k] := fun k h => by rw [hcl k h]; exact (hcell k h).keep hk1 hn5
    have hrow' : FCell M1 row f := hc.keep hk1 hn5
    have hone : ((X'.drop (4 * i)).take (4 * (fs.length - i))).all oneCell = true := cells_one (fs.length - i) (by rw [List.length_take, List.length_drop]; omega) fun j hj => by
      rw [cell_take hj, cell_drop]; exact (hcell' (i + j) (by omega)).one
    by_cases hcap : (C : Int) < (fs.length : Int) + 1
    · have hCn : C = fs.length := by omega
      have q1 := slV4_hi (M := mx M1 []) (h := i) ((mx_old (by omega)).trans g1) rfl (show 4 * fs.length ≤ X'.length by omega) (by omega)
      have hl0 : (X'.take (4 * i)).length = 4 * i := by rw [List.length_take]; omega
      have hl1 : (rep zF (fs.length + 1 - i)).length = 4 * (fs.length + 1 - i) := by simp [rep, zF]; omega
      have hY0 : (X'.take (4 * i) ++ rep zF (fs.length + 1 - i)).length = 4 * (fs.length + 1) := by rw [List.length_append, hl0, hl1]; omega
      have eA : ((fs.length : Int) + 1 - (i : Int)).toNat = fs.length + 1 - i := by omega
      have qA : appendTo 63 4 72 zF (.slice (some ⟨b, 0, none⟩) i openCap) (fs.length + 1 - i) (rep zF (fs.length + 1 - i)) (mx M1 []) = some (.slice (some ⟨M1.size, 0, none⟩) (fs.length + 1) openCap, mx M1 [.cells (X'.take (4 * i) ++ rep zF (fs.length + 1 - i)) 63 true (.room zF)]) := by
        simp only [appendTo, if_true, (mx_old (show b < M1.size by omega)).trans g1, Spare.size]
        rw [if_neg (by omega), if_pos ⟨by omega, by omega, by omega⟩, mx_push, mx_nil_size, List.drop_zero, Nat.mul_comm i 4, show i + (fs.length + 1 - i) = fs.length + 1 by omega]; rfl
      generalize hYe : X'.take (4 * i) ++ rep zF (fs.length + 1 - i) = Y0 at hY0 qA
      have q2 := slV4_lo (M := mx M1 [.cells Y0 63 true (.room zF)]) (b := M1.size) (l := fs.length + 1) (i := i) (mx_new0 _ _) rfl (by omega) (by omega)
      have q3 := cpy4 (M := mx M1 [.cells Y0 63 true (.room zF)]) (b := M1.size) (o := 4 * i) (dl := fs.length + 1 - i) (dc := openCap) (b2 := nb) (o2 := 0) (l2 := 1) (c2 := 1) (k := 1) (mx_new0 _ _) (by omega) (by omega)
        (by rw [rd_def, mx_old (by omega), g2, rdO_cells]; exact cutL_all hrl) hrl hc.one (by omega)
      rw [mx_set0 _ _ _ (by simp)] at q3
      simp only [List.set_cons_zero] at q3
      have hY1 : (splice Y0 (4 * i) row).length = 4 * (fs.length + 1) := by rw [splice_len (by omega)]; exact hY0
      generalize hY1e : splice Y0 (4 * i) row = Y1 at hY1 q3
      have q4 := slV4_lo (M := mx M1 [.cells Y1 63 true (.room zF)]) (b := M1.size) (l := fs.length + 1) (i := i + 1) (mx_new0 _ _) rfl (by omega) (by omega)
      have q5 := slV4_lo (M := mx M1 [.cells Y1 63 true (.room zF)]) (b := b) (l := fs.length) (i := i) ((mx_old (by omega)).trans g1) rfl (by omega) (by omega)
      have q6 := cpy4 (M := mx M1 [.cells Y1 63 true (.room zF)]) (b := M1.size) (o := 4 * (i + 1)) (dl := fs.length + 1 - (i + 1)) (dc := openCap) (b2 := b) (o2 := 4 * i) (l2 := fs.length - i) (c2 := openCap) (k := fs.length - i) (src := (X'.drop (4 * i)).take (4 * (fs.length - i))) (mx_new0 _ _) (by omega) (by omega)
        (by rw [rd_def, mx_old (by omega), g1, rdO_cells]; unfold cutL; rw [if_pos (by omega)]) (by rw [List.length_take, List.length_drop]; omega) hone (by omega)
      rw [mx_set0 _ _ _ (by simp)] at q6
      simp only [List.set_cons_zero] at q6
      simp only [Int.natCast_add, Int.cast_ofNat_Int] at q4
      have hcY : ∀ k, k ≤ fs.length → cell (splice Y1 (4 * (i + 1)) ((X'.drop (4 * i)).take (4 * (fs.length - i)))) k = if k < i then cell X' k else if k = i then row else cell X' (k - 1) := by
        intro k hk
        rw [cell_splice (n := fs.length - i) (by rw [List.length_take, List.length_drop]; omega) (by rw [List.length_take, List.length_drop]; omega)]
        by_cases hki : i + 1 ≤ k
        · rw [if_pos (by omega), if_neg (by omega), if_neg (by omega), cell_take (by omega), cell_drop]; congr 1; omega
        · rw [if_neg (by omega), ← hY1e, cell_splice (n := 1) hrl (by omega)]
          by_cases hke : k = i
          · rw [if_pos (by omega), if_neg (by omega), if_pos hke, hke, Nat.sub_self, cell_four hrl]
          · rw [if_neg (by omega), if_pos (by omega), ← hYe, cell_app_l (n := i) (by omega) (by omega), cell_take (by omega)]
      have hYl : (splice Y1 (4 * (i + 1)) ((X'.drop (4 * i)).take (4 * (fs.length - i)))).length = 4 * (fs.length + 1) := by rw [splice_len (by rw [List.length_take, List.length_drop]; omega)]; exact hY1
      generalize splice Y1 (4 * (i + 1)) ((X'.drop (4 * i)).take (4 * (fs.length - i))) = Y2 at hcY hYl q6
      simp only [zF] at qA q2 q3 q4 q5 q6
      simp (implicitDefEqProofs := false) (maxSteps := 1000000) (disch := first | omega | with_reducible assumption | (simp only [List.length_map, List.length_cons, List.length_nil, List.length_set, List.length_append, List.length_replicate, List.length_take, List.length_drop, mk_size, AMem.size_set, Nat.reduceAdd]; omega)) only [amT, cut, bnd, Nat.reduceBEq, reduceCtorEq, Nat.reduceEqDiff, Nat.reduceAdd, Nat.reduceMul, Nat.reduceSub, Int.reduceToNat, Int.reduceEq, Int.reduceLT, Int.reduceLE, Int.reduceAdd, Int.reduceSub, Int.reduceMul, reduceIte, resVs, resV, packV, initT, addr, hcap, stepOp_slV_v, q1, stepOp_appN, eA, qA, q2, stepOp_cpy_v, q3, q4, q5, q6]
      refine ⟨_, rfl, fun _ => ⟨.inr ⟨M1.size, Y2, .room zF, by rw [insR_len hi], by rw [mx_size]; simp, mx_new0 _ _, .inl rfl, by rw [insR_len hi]; omega, by omega, ?_⟩, hk1.mx _, fun x ⟨o, l, c, hx⟩ => by cases hx; right; omega⟩⟩
      have ko : Keep (fun _ => False) M1 (mx M1 [.cells Y2 63 true (.room zF)]) := (Old.here M1 _).keep _
      refine ins_cells (X := X') (row := row) hi (fun k h => (hcell' k h).keep ko fun _ _ _ _ _ h => h) (hrow'.keep ko fun _ _ _ _ _ h => h) (fun k hk => ?_) ?_ fun k hk1 hk2 => ?_
      · rw [hcY k (by omega), if_pos hk]
      · rw [hcY i hi, if_neg (by omega), if_pos rfl]
      · rw [hcY k hk2, if_neg (by omega), if_neg (by omega)]
    · have hC : fs.length + 1 ≤ C := by omega
      have g3 : ∀ (Z : List Value), (mx (M1.set b (.cells Z 63 true (.full 4))) []).get b = .cells Z 63 true (.full 4) := fun Z => by rw [mx_old (by rw [AMem.size_set]; omega), AMem.get_set_self]
      have g4 : ∀ (Z : List Value), (mx (M1.set b (.cells Z 63 true (.full 4))) []).get nb = .cells row e true .exact := fun Z => by rw [mx_old (by rw [AMem.size_set]; omega), AMem.get_set_ne _ _ hnbb, g2]
      have g1' : (mx M1 []).get b = .cells X' 63 true (.full 4) := (mx_old (by omega)).trans g1
      have q1 := slV4_hi (M := mx M1 []) (h := fs.length + 1) g1' rfl (show 4 * fs.length ≤ X'.length by omega) (by omega)
      have q2 := slV4_lo (M := mx M1 []) (l := fs.length + 1) (i := i + 1) g1' rfl (by omega) (by omega)
      have k71 := DetC.known (overlaps_ok (mx M1 []) (b := nb) (o := 0) (l := 1) (c := 1) (b2 := b) (o2 := 4 * (i + 1)) (l2 := fs.length + 1 - (i + 1)) (c2 := openCap) hnbb ((mx_old (by omega)).trans g2) (by simp [Spare.size]) (by omega) g1' (by simp [Spare.size]) (fun _ => by omega))
      have q3 := slV4_lo (M := mx M1 []) (l := fs.length + 1) (i := i) g1' rfl (by omega) (by omega)
      have q4 := cpy4 (M := mx M1 []) (b := b) (o := 4 * (i + 1)) (dl := fs.length + 1 - (i + 1)) (dc := openCap) (b2 := b) (o2 := 4 * i) (l2 := fs.length + 1 - i) (c2 := openCap) (k := fs.length - i) (src := (X'.drop (4 * i)).take (4 * (fs.length - i))) g1' (by omega) (by omega)
        (by rw [rd_def, g1', rdO_cells]; unfold cutL; rw [if_pos (by omega)]) (by rw [List.length_take, List.length_drop]; omega) hone (by omega)
      have hY1 : (splice X' (4 * (i + 1)) ((X'.drop (4 * i)).take (4 * (fs.length - i)))).length = 4 * C := by rw [splice_len (by rw [List.length_take, List.length_drop]; omega)]; exact hXC
      rw [mx_set_old (by omega)] at q4
      generalize hY1e : splice X' (4 * (i + 1)) ((X'.drop (4 * i)).take (4 * (fs.length - i))) = Y1 at hY1 q4
      have q5 := slV4_lo (M := mx (M1.set b (.cells Y1 63 true (.full 4))) []) (l := fs.length + 1) (i := i) (g3 Y1) rfl (by omega) (by omega)
      have q6 := cpy4 (M := mx (M1.set b (.cells Y1 63 true (.full 4))) []) (b := b) (o := 4 * i) (dl := fs.length + 1 - i) (dc := openCap) (b2 := nb) (o2 := 0) (l2 := 1) (c2 := 1) (k := 1) (g3 Y1) (by omega) (by omega)
        (by rw [rd_def, g4, rdO_cells]; exact cutL_all hrl) hrl hc.one (by omega)
      rw [mx_set_old (by rw [AMem.size_set]; omega), AMem.set_set] at q6
      have hcY : ∀ k, k ≤ fs.length → cell (splice Y1 (4 * i) row) k = if k < i then cell X' k else if k = i then row else cell X' (k - 1) := by
        intro k hk
        rw [cell_splice (n := 1) hrl (by omega)]
        by_cases hke : k = i
        · rw [if_pos (by omega), if_neg (by omega), if_pos hke, hke, Nat.sub_self, cell_four hrl]
        · rw [if_neg (by omega), ← hY1e, cell_splice (n := fs.length - i) (by rw [List.length_take, List.length_drop]; omega) (by rw [List.length_take, List.length_drop]; omega)]
          by_cases hki : i + 1 ≤ k
          · rw [if_pos (by omega), if_neg (by omega), if_neg (by omega), cell_take (by omega), cell_drop]; congr 1; omega
          · rw [if_neg (by omega), if_pos (by omega)]
      have hYl : (splice Y1 (4 * i) row).length = 4 * C := by rw [splice_len (by omega)]; exact hY1
      generalize splice Y1 (4 * i) row = Y2 at hcY hYl q6
      simp only [Int.natCast_add, Int.cast_ofNat_Int] at q1 q2
      simp (implicitDefEqProofs := false) (maxSteps := 1000000) (disch := first | omega | with_reducible assumption | (simp only [List.length_map, List.length_cons, List.length_nil, List.length_set, List.length_append, List.length_replicate, List.length_take, List.length_drop, mk_size, AMem.size_set, Nat.reduceAdd]; omega)) only [amT, cut, bnd, Nat.reduceBEq, reduceCtorEq, Nat.reduceEqDiff, Nat.reduceAdd, Nat.reduceMul, Nat.reduceSub, Int.reduceToNat, Int.reduceEq, Int.reduceLT, Int.reduceLE, Int.reduceAdd, Int.reduceSub, Int.reduceMul, reduceIte, resVs, resV, packV, initT, addr, hcap, stepOp_slV_v, q1, q2, k71, stepOp_cpy_v, q3, q4, q5, q6]; repeat (refine OrW.go ?_; try simp (implicitDefEqProofs := false) (maxSteps := 1000000) (disch := first | omega | with_reducible assumption | (simp only [List.length_map, List.length_cons, List.length_nil, List.length_set, List.length_append, List.length_replicate, List.length_take, List.length_drop, mk_size, AMem.size_set, Nat.reduceAdd]; omega)) only [amT, cut, bnd, Nat.reduceBEq, reduceCtorEq, Nat.reduceEqDiff, Nat.reduceAdd, Nat.reduceMul, Nat.reduceSub, Int.reduceToNat, Int.reduceEq, Int.reduceLT, Int.reduceLE, Int.reduceAdd, Int.reduceSub, Int.reduceMul, reduceIte, resVs, resV, packV, initT, addr, hcap, stepOp_slV_v, q1, q2, k71, stepOp_cpy_v, q3, q4, q5, q6])
      have hk2 : Keep (ownV (.slice (some ⟨b, 0, none⟩) fs.length openCap)) m (M1.set b (.cells Y2 63 true (.full 4))) := hk1.set (fun _ => ⟨_, _, _, rfl⟩) _
      refine ⟨_, rfl, fun _ => ⟨.inr ⟨b, Y2, .full 4, by rw [insR_len hi], by rw [mx_nil_size, AMem.size_set]; omega, g3 _, .inr rfl, by rw [insR_len hi]; omega, by omega, ?_⟩, hk2.mx _, fun x ⟨o, l, c, hx⟩ => by cases hx; left; exact ⟨_, _, _, rfl⟩⟩⟩
      have ko := hk2.mx []
      refine ins_cells (X := X') (row := row) hi (fun k h => ?_) (hc.keep ko hn5) (fun k hk => ?_) ?_ fun k hk1 hk2 => ?_
      · rw [hcl k h]; exact (hcell k h).keep ko hn5
      · rw [hcY k (by omega), if_pos hk]
      · rw [hcY i hi, if_neg (by omega), if_pos rfl]
      · rw [hcY k hk2, if_neg (by omega), if_neg (by omega)]
end Go.Proofs.Ytbmjhiifinjieaa
namespace Go.Proofs.Ytbmjhiifinjieaa
open Go Go.AM
set_option linter.unusedVariables false
set_option linter.unusedSimpArgs false
set_option linter.unusedSectionVars false
set_option maxHeartbeats 1000000
set_option maxRecDepth 100000
variable [Ex]

theorem rep1 (z : List Value) : rep z 1 = z := by simp [rep]
theorem slV4_mx {M : AMem} {b l i h : Nat} {X : List Value} {e : TypeId} {w : Bool} {sp : Spare} (hm : M.get b = .cells X e w sp) (hs : sp.size = 4) (hl : 4 * l ≤ X.length) (hi : i ≤ h) (hh : h ≤ l) (hil : i < l) (hb : l ≤ 9223372036854775807) :
    slVv 4 (.slice (some ⟨b, 0, none⟩) l openCap) (some (.int .i64 (i : Int))) (some (.int .i64 (h : Int))) (some (.int .i64 (l : Int))) M = some (.slice (some ⟨b, 4 * i, none⟩) (h - i) (l - i), M) := by
  have hc : cutV l (X.length / 4) (some (.int .i64 (i : Int))) (some (.int .i64 (h : Int))) (some (.int .i64 (l : Int))) = some (i, h, l) := by
    simp only [cutV]; rw [if_pos (by omega)]; simp
  simp only [slVv, if_true, hm, Nat.sub_zero]
  rw [if_pos ⟨hs, by omega⟩, hc]
  simp only
  rw [if_pos hb, if_neg (by omega), Nat.zero_add, Nat.mul_comm i 4]

theorem delete_ok (m : AMem) (v : Value) (fs : List FileR) (i : Nat) (hF : FilesV m v fs) (hn : fs.length ≤ 100000) (hi : i < fs.length) :
    RelC Try.prog 0 54 [v, .int .i64 i, .int .i64 ((i : Int) + 1)] m fun v' m' => FilesV m' v' (fs.eraseIdx i) ∧ VStep v m v' m' := by
  refine rel_of_W (fn := Try.f54) rfl rfl F54_ok (by simp [F54]) ?_
  have hF0 := hF
  rcases hF with ⟨h, _⟩ | ⟨b, X, sp, rfl, hb, hm, hsp, hX, hX4, hcell⟩
  · subst h; simp at hi
  have hn5 := no5 hF0
  have hs : sp.size = 4 := by rcases hsp with rfl | rfl <;> rfl
  have hm' : (mx m []).get b = .cells X 63 true sp := (mx_old hb).trans hm
  have q1 := slV4_mx (M := mx m []) (i := i) (h := i + 1) hm' hs hX (by omega) (by omega) hi (by omega)
  have q2 := slV4_hi (M := mx m []) (h := i) hm' hs hX (by omega)
  have q3 := slV4_lo (M := mx m []) (i := i + 1) hm' hs hX (by omega)
  obtain ⟨Y, happ, hYl, hYc⟩ : ∃ Y, appV 63 4 72 zF (.slice (some ⟨b, 0, none⟩) i openCap) (.slice (some ⟨b, 4 * (i + 1), none⟩) (fs.length - (i + 1)) openCap) (mx m []) = some (.slice (some ⟨b, 0, none⟩) (fs.length - 1) openCap, mx (m.set b (.cells Y 63 true sp)) []) ∧
      Y.length = X.length ∧ ∀ k, k < fs.length - 1 → cell Y k = if k < i then cell X k else cell X (k + 1) := by
    have hone : ((X.drop (4 * (i + 1))).take (4 * (fs.length - (i + 1)))).all oneCell = true := cells_one (fs.length - (i + 1)) (by rw [List.length_take, List.length_drop]; omega) fun j hj => by
      rw [cell_take hj, cell_drop]; exact (hcell (i + 1 + j) (by omega)).one
    have hsrc : srcCells 4 (fs.length - (i + 1)) (.slice (some ⟨b, 4 * (i + 1), none⟩) (fs.length - (i + 1)) openCap) (mx m []) = some ((X.drop (4 * (i + 1))).take (4 * (fs.length - (i + 1)))) := by
      rw [srcCells_slice (Nat.le_refl _), rd_def, hm', rdO_cells, Nat.mul_comm _ 4]; unfold cutL; rw [if_pos (by omega)]
    have hlen : ((X.drop (4 * (i + 1))).take (4 * (fs.length - (i + 1)))).length = 4 * (fs.length - (i + 1)) := by rw [List.length_take, List.length_drop]; omega
    have hv : appV 63 4 72 zF (.slice (some ⟨b, 0, none⟩) i openCap) (.slice (some ⟨b, 4 * (i + 1), none⟩) (fs.length - (i + 1)) openCap) (mx m []) = appendTo 63 4 72 zF (.slice (some ⟨b, 0, none⟩) i openCap) (fs.length - (i + 1)) ((X.drop (4 * (i + 1))).take (4 * (fs.length - (i + 1)))) (mx m []) := by
      simp only [appV, srcLen_slice, hsrc]
      rw [if_pos ⟨rfl, by omega, hone, by omega⟩]
    rw [hv]
    simp only [appendTo, if_true, hm', hs]
    rw [if_pos (by omega)]
    by_cases h0 : fs.length - (i + 1) = 0
    · refine ⟨X, ?_, rfl, fun k hk => by rw [if_pos (by omega)]⟩
      rw [if_pos h0, AMem.set_same hm, show i = fs.length - 1 by omega]
    · refine ⟨splice X (4 * i) ((X.drop (4 * (i + 1))).take (4 * (fs.length - (i + 1)))), ?_, splice_len (by omega), fun k hk => ?_⟩
      · rw [if_neg h0, mx_set_old hb, Nat.zero_add, Nat.mul_comm i 4, show i + (fs.length - (i + 1)) = fs.length - 1 by omega]
      · rw [cell_splice (n := fs.length - (i + 1)) hlen (by omega)]
        by_cases hk : k < i
        · rw [if_neg (by omega), if_pos hk]
        · rw [if_pos (by omega), if_neg hk, cell_take (by omega), cell_drop]; congr 1; omega
  have g3 : (mx (m.set b (.cells Y 63 true sp)) []).get b = .cells Y 63 true sp := by rw [mx_old (by rw [AMem.size_set]; exact hb), AMem.get_set_self]
  have q4 := slV4_two (M := mx (m.set b (.cells Y 63 true sp)) []) (l := fs.length - 1) (i := fs.length - 1) (h := fs.length) g3 hs (by omega) (by omega) (by omega)
  rw [show fs.length - (fs.length - 1) = 1 by omega] at q4
  have hne : ¬ ((i : Int) = (i : Int) + 1) := by omega
  simp only [zF] at happ
  simp only [Int.natCast_add, Int.cast_ofNat_Int] at q1 q3
  simp (implicitDefEqProofs := false) (maxSteps := 1000000) (disch := first | omega | with_reducible assumption | (simp only [List.length_map, List.length_cons, List.length_nil, List.length_set, List.length_append, List.length_replicate, List.length_take, List.length_drop, mk_size, AMem.size_set, Nat.reduceAdd]; omega)) only [amT, cut, bnd, Nat.reduceBEq, reduceCtorEq, Nat.reduceEqDiff, Nat.reduceAdd, Nat.reduceMul, Nat.reduceSub, Int.reduceToNat, Int.reduceEq, Int.reduceLT, Int.reduceLE, Int.reduceAdd, Int.reduceSub, Int.reduceMul, reduceIte, resVs, resV, packV, initT, addr, F54, stepOp_slV_v, q1, q2, q3, hne, stepOp_app_v, happ, q4, stepOp_clr, rep1]
  have hl2 : (splice Y (4 * (fs.length - 1)) zF).length = X.length := by rw [splice_len (by simp [zF]; omega)]; exact hYl
  have hc2 : ∀ k, k < fs.length - 1 → cell (splice Y (4 * (fs.length - 1)) zF) k = if k < i then cell X k else cell X (k + 1) := fun k hk => by
    rw [cell_splice (n := 1) rfl (by simp [zF]; omega), if_neg (by omega)]; exact hYc k hk
  have hk2 : Keep (ownV (.slice (some ⟨b, 0, none⟩) fs.length openCap)) m (m.set b (.cells (splice Y (4 * (fs.length - 1)) zF) 63 true sp)) := (Keep.refl _ m).set (fun _ => ⟨_, _, _, rfl⟩) _
  have hel : (fs.eraseIdx i).length = fs.length - 1 := by rw [List.length_eraseIdx, if_pos hi]
  refine ⟨_, rfl, fun _ => ⟨.inr ⟨b, splice Y (4 * (fs.length - 1)) zF, sp, by rw [hel], by rw [mx_nil_size, AMem.size_set]; omega, by rw [mx_old (by rw [AMem.size_set]; exact hb), AMem.get_set_self]; rfl, hsp, by omega, by omega, fun k hk => ?_⟩, hk2.mx _, fun x ⟨o, l, c, hx⟩ => by cases hx; left; exact ⟨_, _, _, rfl⟩⟩⟩
  rw [hc2 k (by omega), List.getElem_eraseIdx]
  split
  · exact (hcell k (by omega)).keep (hk2.mx _) hn5
  · exact (hcell (k + 1) (by omega)).keep (hk2.mx _) hn5
end Go.Proofs.Ytbmjhiifinjieaa
namespace Go.Proofs.Ytbmjhiifinjieaa
open Go Go.AM
set_option linter.unusedVariables false
set_option linter.unusedSimpArgs false
set_option linter.unusedSectionVars false
set_option maxHeartbeats 1000000
set_option maxRecDepth 100000
variable [Ex]

/-- Only the disk at p, and what belongs to its files, has changed. -/
def DStep (p : Nat) (v : Value) (m : AMem) (v' : Value) (m' : AMem) : Prop := Keep (fun x => x = p ∨ ownV v x) m m' ∧ ∀ x, ownV v' x → ownV v x ∨ m.size ≤ x
theorem DStep.refl (p : Nat) (v : Value) (m : AMem) : DStep p v m v m := ⟨.refl _ _, fun _ h => .inl h⟩
theorem DStep.trans {p : Nat} {v v1 v2 : Value} {m m1 m2 : AMem} (h : DStep p v m v1 m1) (k : DStep p v1 m1 v2 m2) : DStep p v m v2 m2 :=
  ⟨h.1.trans k.1 fun x hx ho => ho.imp id fun ho => (h.2 x ho).resolve_right (by omega), fun x hx => (k.2 x hx).elim (h.2 x) fun hs => .inr (Nat.le_trans h.1.1 hs)⟩
theorem VStep.d {v v' : Value} {m m' : AMem} (h : VStep v m v' m') (p : Nat) : DStep p v m v' m' := ⟨h.1.weak fun _ _ => .inr, h.2⟩
theorem DStep.old {p : Nat} {v v' : Value} {m m1 m' : AMem} (h : DStep p v m1 v' m') (ho : Old m m1) : DStep p v m v' m' :=
  ⟨(ho.keep fun x => x = p ∨ ownV v x).trans h.1 fun _ _ => id, fun x hx => (h.2 x hx).imp id fun hs => Nat.le_trans ho.1 hs⟩
theorem not_own {m : AMem} {v : Value} {fs : List FileR} (h : FilesV m v fs) {p : Nat} {X : List Value} {e : TypeId} {w : Bool} {sp : Spare} (hp : m.get p = .cells X e w sp) (he : e ≠ 63) : ¬ ownV v p := by
  rintro ⟨o, l, c, rfl⟩
  rcases h with ⟨_, h | ⟨b, h, _, h2⟩⟩ | ⟨b, Y, sp', h, _, h2, _⟩
  · cases h
  · cases h; rw [h2] at hp; cases hp; exact he rfl
  · cases h; rw [h2] at hp; cases hp; exact he rfl
theorem own_lt {m : AMem} {v : Value} {fs : List FileR} (h : FilesV m v fs) {x : Nat} (hx : ownV v x) : x < m.size := by
  obtain ⟨o, l, c, rfl⟩ := hx
  rcases h with ⟨_, h | ⟨b, h, h1, _⟩⟩ | ⟨b, Y, sp', h, h1, _⟩
  · cases h
  · cases h; exact h1
  · cases h; exact h1
/-- The disk's own block, written. -/
theorem FilesV.setp {m : AMem} {v : Value} {fs : List FileR} (h : FilesV m v fs) {p : Nat} {X : List Value} {e : TypeId} {w : Bool} {sp : Spare} (hp : m.get p = .cells X e w sp) (he : e ≠ 63) (he5 : e ≠ 5) (o : AObj) : FilesV (m.set p o) v fs := by
  refine h.keep (O := fun x => x = p) ((Keep.refl (fun x => x = p) m).set (fun _ => rfl) o) (fun x Y w' sp' hx e => ?_) (fun x hx e => ?_)
  · subst e; rw [hp] at hx; cases hx; exact he5 rfl
  · subst e; exact not_own h hp he hx
/-- One of them is another one. -/
theorem FilesV.put {m : AMem} {v : Value} {fs : List FileR} (h : FilesV m v fs) {k : Nat} (hk : k < fs.length) {row : List Value} {f : FileR} (hr : FCell m row f) :
    ∃ b X sp, v = .slice (some ⟨b, 0, none⟩) fs.length openCap ∧ b < m.size ∧ m.get b = .cells X 63 true sp ∧ 4 * k + 4 ≤ X.length ∧ FilesV (m.set b (.cells (splice X (4 * k) row) 63 true sp)) v (fs.set k f) := by
  have h0 := h
  rcases h with ⟨h, _⟩ | ⟨b, X, sp, rfl, hb, hm, hsp, hX, hX4, hcell⟩
  · subst h; simp at hk
  have hk1 : Keep (ownV (.slice (some ⟨b, 0, none⟩) fs.length openCap)) m (m.set b (.cells (splice X (4 * k) row) 63 true sp)) := (Keep.refl _ m).set (fun _ => ⟨_, _, _, rfl⟩) _
  have hl := hr.len
  refine ⟨b, X, sp, rfl, hb, hm, by omega, .inr ⟨b, _, sp, by rw [List.length_set], by rw [AMem.size_set]; exact hb, AMem.get_set_self _ _ _, hsp, by rw [splice_len (by omega), List.length_set]; exact hX, by rw [splice_len (by omega)]; exact hX4, fun j hj => ?_⟩⟩
  rw [List.length_set] at hj
  rw [cell_splice (n := 1) hl (by omega), List.getElem_set]
  by_cases hjk : k = j
  · subst hjk
    rw [if_pos (by omega), if_pos rfl, Nat.sub_self, cell_four hl]
    exact hr.keep hk1 (no5 h0)
  · rw [if_neg (by omega), if_neg hjk]
    exact (hcell j hj).keep hk1 (no5 h0)

def layR (fs : List FileR) (f : FileR) : List FileR := if isAt fs f.name then fs.set (place fs f.name) f else insR fs (place fs f.name) f
theorem place_le (fs : List FileR) (s : List UInt8) : place fs s ≤ fs.length := List.findIdx_le_length
theorem isAt_lt {fs : List FileR} {s : List UInt8} (h : isAt fs s = true) : ∃ hl : place fs s < fs.length, fs[place fs s].name = s := by
  unfold isAt at h
  split at h
  · rename_i f hf
    obtain ⟨hl, rfl⟩ := List.getElem?_eq_some_iff.1 hf
    exact ⟨hl, by simpa using h⟩
  · cases h
theorem insR_set (fs : List FileR) (i : Nat) (f : FileR) (hi : i ≤ fs.length) : (insR fs i f).set i f = insR fs i f := by
  have : (fs.take i).length = i := by rw [List.length_take]; omega
  simp only [insR]
  rw [List.set_append_right _ _ (by omega), this, Nat.sub_self]; rfl

theorem lay_ok (m : AMem) (p : Nat) (v : Value) (fs : List FileR) (f : FileR) (a1 : Option Addr) (c1 : Nat) (a2 : Option Addr) (c2 : Nat) (hp : p < m.size) {q st se off : Value} (hd : m.get p = .cells [v, q, st, se, off] 60 true .exact)
    (hF : FilesV m v fs) (hS : Sorted fs) (hn : fs.length ≤ 100000) (hc : FCell m (fRow f a1 c1 a2 c2) f) :
    RelC Try.prog 0 36 [.pointer (some ⟨p, 0, none⟩), .agg (fRow f a1 c1 a2 c2).toArray] m fun r m' => r = .tuple #[] ∧ ∃ v', m'.get p = .cells [v', q, st, se, off] 60 true .exact ∧ FilesV m' v' (layR fs f) ∧ DStep p v m v' m' := by
  refine rel_of_W (fn := Try.f36) rfl rfl F36_ok (by simp [F36]) ?_
  obtain ⟨a, cap, rfl⟩ := hF.len
  have hOx := Old.here m [.cells (fRow f a1 c1 a2 c2) 63 true .exact]
  have k33 := DetC.known (find_ok (mx m [.cells (fRow f a1 c1 a2 c2) 63 true .exact]) p a cap fs f.name (by rw [mx_size]; omega) (by rw [mx_old hp]; exact hd) (hF.old hOx) hS (by omega))
  simp only [fRow] at k33
  cases hat : isAt fs f.name with
  | true =>
    rw [hat] at k33
    obtain ⟨hlt, hnm⟩ := isAt_lt hat
    obtain ⟨b, X, sp, hv, hb, hm, hle, hF'⟩ := hF.put hlt hc
    have hpb : p ≠ b := fun e => by subst e; rw [hd] at hm; cases hm
    have hown : ownV (.slice a fs.length cap) b := ⟨_, _, _, hv⟩
    cases hv
    simp (implicitDefEqProofs := false) (maxSteps := 1000000) (disch := first | omega | with_reducible assumption | (simp only [List.length_map, List.length_cons, List.length_nil, List.length_set, List.length_append, List.length_replicate, List.length_take, List.length_drop, mk_size, AMem.size_set, Nat.reduceAdd]; omega)) only [amT, cut, bnd, Nat.reduceBEq, reduceCtorEq, Nat.reduceEqDiff, Nat.reduceAdd, Nat.reduceMul, Nat.reduceSub, Int.reduceToNat, Int.reduceEq, Int.reduceLT, Int.reduceLE, Int.reduceAdd, Int.reduceSub, Int.reduceMul, reduceIte, resVs, resV, packV, initT, addr, F36, fRow, cellsOf_row4, k33, hd, hm, cutL4, Nat.mul_comm _ 4]; repeat (refine OrW.go ?_; try simp (implicitDefEqProofs := false) (maxSteps := 1000000) (disch := first | omega | with_reducible assumption | (simp only [List.length_map, List.length_cons, List.length_nil, List.length_set, List.length_append, List.length_replicate, List.length_take, List.length_drop, mk_size, AMem.size_set, Nat.reduceAdd]; omega)) only [amT, cut, bnd, Nat.reduceBEq, reduceCtorEq, Nat.reduceEqDiff, Nat.reduceAdd, Nat.reduceMul, Nat.reduceSub, Int.reduceToNat, Int.reduceEq, Int.reduceLT, Int.reduceLE, Int.reduceAdd, Int.reduceSub, Int.reduceMul, reduceIte, resVs, resV, packV, initT, addr, F36, fRow, cellsOf_row4, k33, hd, hm, cutL4, Nat.mul_comm _ 4])
    simp only [fRow] at hF'
    have hk := (Keep.refl (fun x => x = p ∨ ownV (.slice (some ⟨b, 0, none⟩) fs.length openCap) x) m).set (b := b) (fun _ => .inr hown) (.cells (splice X (4 * place fs f.name) [.string ⟨f.name.toArray⟩, .slice a1 f.dry.length c1, .slice a2 f.wet.length c2, .bool f.born]) 63 true sp)
    refine ⟨_, rfl, fun _ => ⟨rfl, _, ?_, ?_, hk.mx _, fun x hx => .inl hx⟩⟩
    · rfl
    · have : layR fs f = fs.set (place fs f.name) f := by simp [layR, hat]
      rw [this]; exact hF'.old (Old.here _ _)
  | false =>
    rw [hat] at k33
    have hOy := Old.here m [.cells (fRow f a1 c1 a2 c2) 63 true .exact, .cells (fRow f a1 c1 a2 c2) 63 true .exact]
    have hFy := hF.old hOy
    have hno : ¬ ownV (.slice a fs.length cap) (m.size + 1) := fun h => by have := own_lt hF h; omega
    have hins := insert_ok _ _ fs (place fs f.name) (m.size + 1) f (e := 63) hFy hn (place_le _ _) (by rw [mx_size]; simp) (mx_new _ _ 1) (hc.keep (hOy.keep fun _ => False) fun _ _ _ _ _ h => h) hno
    simp only [fRow] at hins
    simp (implicitDefEqProofs := false) (maxSteps := 1000000) (disch := first | omega | with_reducible assumption | (simp only [List.length_map, List.length_cons, List.length_nil, List.length_set, List.length_append, List.length_replicate, List.length_take, List.length_drop, mk_size, AMem.size_set, Nat.reduceAdd]; omega)) only [amT, cut, bnd, Nat.reduceBEq, reduceCtorEq, Nat.reduceEqDiff, Nat.reduceAdd, Nat.reduceMul, Nat.reduceSub, Int.reduceToNat, Int.reduceEq, Int.reduceLT, Int.reduceLE, Int.reduceAdd, Int.reduceSub, Int.reduceMul, reduceIte, resVs, resV, packV, initT, addr, F36, fRow, cellsOf_row4, k33, hd, cutL4, fill_row4]; repeat (refine OrW.go ?_; try simp (implicitDefEqProofs := false) (maxSteps := 1000000) (disch := first | omega | with_reducible assumption | (simp only [List.length_map, List.length_cons, List.length_nil, List.length_set, List.length_append, List.length_replicate, List.length_take, List.length_drop, mk_size, AMem.size_set, Nat.reduceAdd]; omega)) only [amT, cut, bnd, Nat.reduceBEq, reduceCtorEq, Nat.reduceEqDiff, Nat.reduceAdd, Nat.reduceMul, Nat.reduceSub, Int.reduceToNat, Int.reduceEq, Int.reduceLT, Int.reduceLE, Int.reduceAdd, Int.reduceSub, Int.reduceMul, reduceIte, resVs, resV, packV, initT, addr, F36, fRow, cellsOf_row4, k33, hd, cutL4, fill_row4])
    refine RelC.call hins ?_
    rintro v' M ⟨hF2, hst⟩
    have hdM : M.get p = .cells [.slice a fs.length cap, q, st, se, off] 60 true .exact := by
      rw [hst.1.2 p (by rw [mx_size]; omega) (not_own hF hd (by decide)), mx_old hp]; exact hd
    have hMs : m.size + 2 ≤ M.size := Nat.le_trans (by rw [mx_size]; simp) hst.1.1
    have hbx : M.get m.size = .cells (fRow f a1 c1 a2 c2) 63 true .exact := by
      rw [hst.1.2 m.size (by rw [mx_size]; simp) fun h => by have := own_lt hF h; omega]; exact mx_new0 _ _
    simp only [fRow] at hbx
    have hpl : place fs f.name < (insR fs (place fs f.name) f).length := by rw [insR_len (place_le _ _)]; have := place_le fs f.name; omega
    have hdp := (hst.d p).old hOy
    have hF3 := hF2.setp hdM (by decide) (by decide) (.cells [v', q, st, se, off] 60 true .exact)
    have hc3 : FCell (M.set p (.cells [v', q, st, se, off] 60 true .exact)) (fRow f a1 c1 a2 c2) f :=
      hc.keep (hdp.1.set (fun _ => .inl rfl) _) fun x X w sp hx h => h.elim (fun e => by subst e; rw [hd] at hx; cases hx) (no5 hF x X w sp hx)
    obtain ⟨b, X, sp, hv, hb, hm, hle, hF'⟩ := hF3.put hpl hc3
    have hpM : p < M.size := by omega
    have hpb : p ≠ b := fun e => by subst e; rw [AMem.get_set_self] at hm; cases hm
    have hdp' : DStep p (.slice a fs.length cap) m v' ((M.set p (.cells [v', q, st, se, off] 60 true .exact)).set b (.cells (splice X (4 * place fs f.name) (fRow f a1 c1 a2 c2)) 63 true sp)) :=
      ⟨(hdp.1.set (fun _ => .inl rfl) _).set (fun hbm => .inr ((hdp.2 b ⟨_, _, _, hv⟩).resolve_right (by omega))) _, hdp.2⟩
    have hmb : M.get b = .cells X 63 true sp := by rw [AMem.get_set_ne _ _ (Ne.symm hpb)] at hm; exact hm
    subst hv
    simp only [AMem.size_set] at hb
    simp (implicitDefEqProofs := false) (maxSteps := 1000000) (disch := first | omega | with_reducible assumption | (simp only [List.length_map, List.length_cons, List.length_nil, List.length_set, List.length_append, List.length_replicate, List.length_take, List.length_drop, mk_size, AMem.size_set, Nat.reduceAdd]; omega)) only [amT, cut, bnd, Nat.reduceBEq, reduceCtorEq, Nat.reduceEqDiff, Nat.reduceAdd, Nat.reduceMul, Nat.reduceSub, Int.reduceToNat, Int.reduceEq, Int.reduceLT, Int.reduceLE, Int.reduceAdd, Int.reduceSub, Int.reduceMul, reduceIte, resVs, resV, packV, initT, addr, hdM, hbx, hm, hmb, cutL4, cellsOf_row4, Nat.mul_comm _ 4]; repeat (refine OrW.go ?_; try simp (implicitDefEqProofs := false) (maxSteps := 1000000) (disch := first | omega | with_reducible assumption | (simp only [List.length_map, List.length_cons, List.length_nil, List.length_set, List.length_append, List.length_replicate, List.length_take, List.length_drop, mk_size, AMem.size_set, Nat.reduceAdd]; omega)) only [amT, cut, bnd, Nat.reduceBEq, reduceCtorEq, Nat.reduceEqDiff, Nat.reduceAdd, Nat.reduceMul, Nat.reduceSub, Int.reduceToNat, Int.reduceEq, Int.reduceLT, Int.reduceLE, Int.reduceAdd, Int.reduceSub, Int.reduceMul, reduceIte, resVs, resV, packV, initT, addr, hdM, hbx, hm, hmb, cutL4, cellsOf_row4, Nat.mul_comm _ 4])
    have e : layR fs f = (insR fs (place fs f.name) f).set (place fs f.name) f := by simp [layR, hat, insR_set _ _ _ (place_le _ _)]
    rw [e]
    simp only [fRow] at hF' hdp'
    exact ⟨_, rfl, fun _ => ⟨rfl, _, rfl, hF'.old (Old.here _ _), hdp'.1.mx _, hdp'.2⟩⟩
end Go.Proofs.Ytbmjhiifinjieaa
namespace Go.AM
theorem Buf.byv [Ex] {m M : AMem} {v : Value} {c : List UInt8} {e : TypeId} (h : Buf m M v (c.map byteV) e (.int .u8 0)) (hx : Ex.x < m.size) : ByV e M v c := by
  rcases h with ⟨h, rfl⟩ | ⟨b, h1, h2, rfl, h4⟩
  · exact .inl ⟨by simpa using h, rfl⟩
  · rw [List.length_map]; exact ByV.whole (by omega) h2 h4
theorem mx_old' {m : AMem} (l : List AObj) {x : Nat} (h : x < m.size) : (mx m l).get x = m.get x := mx_old h
end Go.AM
namespace Go.Proofs.Ytbmjhiifinjieaa
open Go Go.AM
set_option linter.unusedVariables false
set_option linter.unusedSimpArgs false
set_option linter.unusedSectionVars false
set_option maxHeartbeats 1000000
set_option maxRecDepth 100000
variable [Ex]

structure DiskR where
  files : List FileR
  quota : Int
  steps : Int
  set : Int
  off : Bool
def DiskR.cells (d : DiskR) (v : Value) : List Value := [v, .int .i64 d.quota, .int .i64 d.steps, .int .i64 d.set, .bool d.off]
theorem cells_0 (d : DiskR) (v : Value) : (d.cells v)[0]? = some v := rfl
theorem cells_set0 (d : DiskR) (v v1 : Value) : (d.cells v).set 0 v1 = d.cells v1 := rfl
theorem cells_len (d : DiskR) (v : Value) : (d.cells v).length = 5 := rfl
structure DAt (m : AMem) (p : Nat) (v : Value) (d : DiskR) : Prop where
  lt : p < m.size
  get : m.get p = .cells (d.cells v) 60 true .exact
  files : FilesV m v d.files
  ex : Ex.x < m.size
structure DOk (d : DiskR) : Prop where
  sorted : Sorted d.files
  few : d.files.length ≤ 10000
  used : usedR d.files ≤ 50000000
  q0 : 0 ≤ d.quota
  q1 : d.quota ≤ 9223372036854775807
  s0 : 0 ≤ d.steps
  s1 : d.steps ≤ 1000000000
  t0 : -1 ≤ d.set
  t1 : d.set ≤ 9223372036854775807
theorem DAt.old {m m' : AMem} {p : Nat} {v : Value} {d : DiskR} (h : DAt m p v d) (ho : Old m m') : DAt m' p v d := ⟨Nat.lt_of_lt_of_le h.lt ho.1, by rw [ho.2 p h.lt]; exact h.get, h.files.old ho, Nat.lt_of_lt_of_le h.ex ho.1⟩
theorem size_le {fs : List FileR} {k : Nat} (h : k < fs.length) : fs[k].size ≤ usedR fs := by
  unfold usedR
  have : ∀ (l : List Nat) (x : Nat), x ∈ l → x ≤ l.sum := by
    intro l
    induction l with
    | nil => intro x hx; cases hx
    | cons y l ih =>
      intro x hx
      rw [List.sum_cons]
      rcases List.mem_cons.1 hx with rfl | hx
      · omega
      · have := ih x hx; omega
  exact this _ _ (List.mem_map.2 ⟨_, List.getElem_mem h, rfl⟩)

/-- The file of a name. -/
def fileAt (fs : List FileR) (s : List UInt8) : FileR := fs.getD (place fs s) ⟨s, [], [], false⟩
theorem fileAt_eq {fs : List FileR} {s : List UInt8} (h : place fs s < fs.length) : fileAt fs s = fs[place fs s] := by simp [fileAt, h]

def readR (d : DiskR) (s : List UInt8) : Int × List UInt8 := if barsE d.off [s] = 0 then (if isAt d.files s then (0, (fileAt d.files s).all) else (5, [])) else (barsE d.off [s], [])
theorem read_ok (m : AMem) (p : Nat) (v : Value) (d : DiskR) (s : List UInt8) (hs : s.length ≤ 9223372036854775807) (hD : DAt m p v d) (hO : DOk d) :
    RelC Try.prog 0 18 [.pointer (some ⟨p, 0, none⟩), .string ⟨s.toArray⟩] m fun r m' => ∃ b, r = .tuple #[b, .int .i64 (readR d s).1] ∧ Old m m' ∧ Buf m m' b ((readR d s).2.map byteV) 5 (.int .u8 0) := by
  refine rel_of_W (fn := Try.f18) rfl rfl F18_ok (by simp [F18]) ?_
  have hp := hD.lt
  have hd := hD.get
  obtain ⟨a, cap, rfl⟩ := hD.files.len
  have hOx := Old.here m [.cells [.string ⟨s.toArray⟩] 9 true .exact]
  have hDx := hD.old hOx
  have k32 : Known Try.prog 0 32 [.pointer (some ⟨p, 0, none⟩), .slice (some ⟨m.size, 0, none⟩) 1 1] (mx m [.cells [.string ⟨s.toArray⟩] 9 true .exact]) (.int .i64 (barsE d.off [s])) _ :=
    DetC.known (bars_ok _ p m.size 1 [s] (by simp) (by simpa using hs) (by rw [mx_size]; simp) (mx_new0 _ _) hDx.lt hDx.get)
  have k33 := DetC.known (find_ok _ p a cap d.files s hDx.lt hDx.get hDx.files hO.sorted (by have := hO.few; omega))
  simp only [DiskR.cells] at hd
  by_cases hb : barsE d.off [s] = 0
  · rw [hb] at k32
    cases hat : isAt d.files s with
    | false =>
      rw [hat] at k33
      simp (implicitDefEqProofs := false) (maxSteps := 1000000) (disch := first | omega | with_reducible assumption | (simp only [List.length_map, List.length_cons, List.length_nil, List.length_set, List.length_append, List.length_replicate, List.length_take, List.length_drop, mk_size, AMem.size_set, Nat.reduceAdd]; omega)) only [amT, cut, bnd, Nat.reduceBEq, reduceCtorEq, Nat.reduceEqDiff, Nat.reduceAdd, Nat.reduceMul, Nat.reduceSub, Int.reduceToNat, Int.reduceEq, Int.reduceLT, Int.reduceLE, Int.reduceAdd, Int.reduceSub, Int.reduceMul, reduceIte, resVs, resV, packV, initT, addr, F18, k32, k33]; repeat (refine OrW.go ?_; try simp (implicitDefEqProofs := false) (maxSteps := 1000000) (disch := first | omega | with_reducible assumption | (simp only [List.length_map, List.length_cons, List.length_nil, List.length_set, List.length_append, List.length_replicate, List.length_take, List.length_drop, mk_size, AMem.size_set, Nat.reduceAdd]; omega)) only [amT, cut, bnd, Nat.reduceBEq, reduceCtorEq, Nat.reduceEqDiff, Nat.reduceAdd, Nat.reduceMul, Nat.reduceSub, Int.reduceToNat, Int.reduceEq, Int.reduceLT, Int.reduceLE, Int.reduceAdd, Int.reduceSub, Int.reduceMul, reduceIte, resVs, resV, packV, initT, addr, F18, k32, k33])
      have e : readR d s = (5, []) := by simp [readR, hb, hat]
      rw [e]
      exact ⟨_, rfl, fun _ => ⟨_, rfl, .nil _ _ _ _⟩⟩
    | true =>
      rw [hat] at k33
      obtain ⟨hlt, _⟩ := isAt_lt hat
      obtain ⟨b, a1, c1, a2, c2, rfl, hbs, hr, hb1, hb2⟩ := hDx.files.get hlt
      have ha := all_ok _ d.files[place d.files s] a1 c1 a2 c2 hb1 hb2 (by have := size_le hlt; have := hO.used; omega)
      rw [rd_def] at hr
      simp only [fRow] at hr ha
      have hbs' : b < m.size := by
        rcases hD.files with ⟨h, _⟩ | ⟨b', X, sp, h0, h1, _⟩
        · simp [h] at hlt
        · cases h0; exact h1
      rw [mx_old hbs'] at hr
      simp (implicitDefEqProofs := false) (maxSteps := 1000000) (disch := first | omega | with_reducible assumption | (simp only [List.length_map, List.length_cons, List.length_nil, List.length_set, List.length_append, List.length_replicate, List.length_take, List.length_drop, mk_size, AMem.size_set, Nat.reduceAdd]; omega)) only [amT, cut, bnd, Nat.reduceBEq, reduceCtorEq, Nat.reduceEqDiff, Nat.reduceAdd, Nat.reduceMul, Nat.reduceSub, Int.reduceToNat, Int.reduceEq, Int.reduceLT, Int.reduceLE, Int.reduceAdd, Int.reduceSub, Int.reduceMul, reduceIte, resVs, resV, packV, initT, addr, F18, k32, k33, hd, hr]; repeat (refine OrW.go ?_; try simp (implicitDefEqProofs := false) (maxSteps := 1000000) (disch := first | omega | with_reducible assumption | (simp only [List.length_map, List.length_cons, List.length_nil, List.length_set, List.length_append, List.length_replicate, List.length_take, List.length_drop, mk_size, AMem.size_set, Nat.reduceAdd]; omega)) only [amT, cut, bnd, Nat.reduceBEq, reduceCtorEq, Nat.reduceEqDiff, Nat.reduceAdd, Nat.reduceMul, Nat.reduceSub, Int.reduceToNat, Int.reduceEq, Int.reduceLT, Int.reduceLE, Int.reduceAdd, Int.reduceSub, Int.reduceMul, reduceIte, resVs, resV, packV, initT, addr, F18, k32, k33, hd, hr])
      refine RelC.call ha ?_
      rintro r M ⟨hM, hB⟩
      simp (implicitDefEqProofs := false) (maxSteps := 1000000) (disch := first | omega | with_reducible assumption | (simp only [List.length_map, List.length_cons, List.length_nil, List.length_set, List.length_append, List.length_replicate, List.length_take, List.length_drop, mk_size, AMem.size_set, Nat.reduceAdd]; omega)) only [amT, cut, bnd, Nat.reduceBEq, reduceCtorEq, Nat.reduceEqDiff, Nat.reduceAdd, Nat.reduceMul, Nat.reduceSub, Int.reduceToNat, Int.reduceEq, Int.reduceLT, Int.reduceLE, Int.reduceAdd, Int.reduceSub, Int.reduceMul, reduceIte, resVs, resV, packV, initT, addr]; repeat (refine OrW.go ?_; try simp (implicitDefEqProofs := false) (maxSteps := 1000000) (disch := first | omega | with_reducible assumption | (simp only [List.length_map, List.length_cons, List.length_nil, List.length_set, List.length_append, List.length_replicate, List.length_take, List.length_drop, mk_size, AMem.size_set, Nat.reduceAdd]; omega)) only [amT, cut, bnd, Nat.reduceBEq, reduceCtorEq, Nat.reduceEqDiff, Nat.reduceAdd, Nat.reduceMul, Nat.reduceSub, Int.reduceToNat, Int.reduceEq, Int.reduceLT, Int.reduceLE, Int.reduceAdd, Int.reduceSub, Int.reduceMul, reduceIte, resVs, resV, packV, initT, addr])
      have e : readR d s = (0, d.files[place d.files s].all) := by simp [readR, hb, hat, fileAt_eq hlt]
      rw [e]
      exact ⟨_, rfl, fun _ => ⟨_, rfl, (hOx.trans hM).mx _, (hB.keep (by rw [mx_nil_size]; exact Nat.le_refl _) fun b _ hb => mx_old hb).base (by rw [mx_size]; omega)⟩⟩
  · simp (implicitDefEqProofs := false) (maxSteps := 1000000) (disch := first | omega | with_reducible assumption | (simp only [List.length_map, List.length_cons, List.length_nil, List.length_set, List.length_append, List.length_replicate, List.length_take, List.length_drop, mk_size, AMem.size_set, Nat.reduceAdd]; omega)) only [amT, cut, bnd, Nat.reduceBEq, reduceCtorEq, Nat.reduceEqDiff, Nat.reduceAdd, Nat.reduceMul, Nat.reduceSub, Int.reduceToNat, Int.reduceEq, Int.reduceLT, Int.reduceLE, Int.reduceAdd, Int.reduceSub, Int.reduceMul, reduceIte, resVs, resV, packV, initT, addr, F18, k32, k33, hb]; repeat (refine OrW.go ?_; try simp (implicitDefEqProofs := false) (maxSteps := 1000000) (disch := first | omega | with_reducible assumption | (simp only [List.length_map, List.length_cons, List.length_nil, List.length_set, List.length_append, List.length_replicate, List.length_take, List.length_drop, mk_size, AMem.size_set, Nat.reduceAdd]; omega)) only [amT, cut, bnd, Nat.reduceBEq, reduceCtorEq, Nat.reduceEqDiff, Nat.reduceAdd, Nat.reduceMul, Nat.reduceSub, Int.reduceToNat, Int.reduceEq, Int.reduceLT, Int.reduceLE, Int.reduceAdd, Int.reduceSub, Int.reduceMul, reduceIte, resVs, resV, packV, initT, addr, F18, k32, k33, hb])
    have e : readR d s = (barsE d.off [s], []) := by simp [readR, hb]
    rw [e]
    exact ⟨_, rfl, fun _ => ⟨_, rfl, .nil _ _ _ _⟩⟩

/-- What is left of bytes. -/
def LeftOk (m : AMem) (f : FuncId) (cap : List Value) (L : List UInt8 → Option (List UInt8)) : Prop :=
  ∀ M, Old m M → ∀ v c, c.length ≤ 100000000 → ByV 5 M v c → match L c with
    | some c' => ∃ v', ByV 5 M v' c' ∧ DetC Try.prog 0 f ([v] ++ cap) M (.tuple #[v', .int .i64 0]) (mx M [])
    | none => DetC Try.prog 0 f ([v] ++ cap) M (.tuple #[.slice none 0 0, .int .i64 2]) (mx M [])
def DiskR.step (d : DiskR) : DiskR := if d.set = 0 then { d with steps := d.steps + 1, set := -1, off := true } else { d with steps := d.steps + 1, set := max (-1) (d.set - 1) }
theorem step_cells (d : DiskR) (v : Value) : stepCells v (.int .i64 d.quota) d.steps d.set d.off = d.step.cells v := by
  unfold stepCells DiskR.step; split <;> rfl
theorem step_files (d : DiskR) : d.step.files = d.files := by unfold DiskR.step; split <;> rfl
theorem step_d' (m : AMem) (p : Nat) (v : Value) (d : DiskR) (hD : DAt m p v d) (s0 : 0 ≤ d.steps) (s1 : d.steps ≤ 1000000000) (t0 : -1 ≤ d.set) (t1 : d.set ≤ 9223372036854775807) :
    DetC Try.prog 0 37 [.pointer (some ⟨p, 0, none⟩)] m (.bool (!decide (d.set = 0))) (mx (m.set p (.cells (d.step.cells v) 60 true .exact)) []) := by
  have := step_ok m p hD.lt hD.get s0 (by omega) t0 t1
  rwa [step_cells] at this
theorem step_d (m : AMem) (p : Nat) (v : Value) (d : DiskR) (hD : DAt m p v d) (hO : DOk d) :
    DetC Try.prog 0 37 [.pointer (some ⟨p, 0, none⟩)] m (.bool (!decide (d.set = 0))) (mx (m.set p (.cells (d.step.cells v) 60 true .exact)) []) := step_d' m p v d hD hO.s0 hO.s1 hO.t0 hO.t1
theorem DAt.put {m : AMem} {p : Nat} {v : Value} {d d' : DiskR} (h : DAt m p v d) (he : d'.files = d.files) : DAt (m.set p (.cells (d'.cells v) 60 true .exact)) p v d' :=
  ⟨h.lt, AMem.get_set_self _ _ _, by rw [he]; exact h.files.setp h.get (by decide) (by decide) _, h.ex⟩
theorem DStep.setp (p : Nat) (v : Value) (m : AMem) (o : AObj) : DStep p v m v (m.set p o) := ⟨(Keep.refl (fun x => x = p ∨ ownV v x) m).set (fun _ => .inl rfl) o, fun _ h => .inl h⟩

def driesR (d : DiskR) (frm to : List UInt8) (L : List UInt8 → Option (List UInt8)) : Int × DiskR :=
  if barsE d.off [frm, to] = 0 then
    if isAt d.files frm then match L (fileAt d.files frm).all with
      | none => (2, d)
      | some b => if d.set = 0 then (40, d.step) else (0, { d.step with files := layR (d.files.eraseIdx (place d.files frm)) ⟨to, b, [], true⟩ })
    else (5, d)
  else (barsE d.off [frm, to], d)
theorem Sorted.erase {fs : List FileR} (h : Sorted fs) (i : Nat) : Sorted (fs.eraseIdx i) := List.Pairwise.sublist (List.eraseIdx_sublist _ _) h

theorem dries_ok (m : AMem) (p : Nat) (v : Value) (d : DiskR) (frm to : List UInt8) (f : FuncId) (cp : List Value) (L : List UInt8 → Option (List UInt8)) (hs : frm.length ≤ 9223372036854775807) (ht : to.length ≤ 9223372036854775807) (hD : DAt m p v d) (hO : DOk d) (hL : LeftOk m f cp L) :
    RelC Try.prog 0 38 [.pointer (some ⟨p, 0, none⟩), .string ⟨frm.toArray⟩, .string ⟨to.toArray⟩, .func (.func f) [].toArray cp.toArray] m fun r m' => r = .int .i64 (driesR d frm to L).1 ∧ ∃ v', DAt m' p v' (driesR d frm to L).2 ∧ DStep p v m v' m' := by
  refine rel_of_W (fn := Try.f38) rfl rfl F38_ok (by simp [F38]) ?_
  have hp := hD.lt
  have hd := hD.get
  obtain ⟨a, cap, rfl⟩ := hD.files.len
  have hOx := Old.here m [.cells [.string ⟨frm.toArray⟩, .string ⟨to.toArray⟩] 9 true .exact]
  have hDx := hD.old hOx
  have k32 : Known Try.prog 0 32 [.pointer (some ⟨p, 0, none⟩), .slice (some ⟨m.size, 0, none⟩) 2 2] (mx m [.cells [.string ⟨frm.toArray⟩, .string ⟨to.toArray⟩] 9 true .exact]) (.int .i64 (barsE d.off [frm, to])) _ :=
    DetC.known (bars_ok _ p m.size 2 [frm, to] (by simp) (by intro x hx; simp at hx; rcases hx with rfl | rfl <;> assumption) (by rw [mx_size]; simp) (mx_new0 _ _) hDx.lt hDx.get)
  have k33 := DetC.known (find_ok _ p a cap d.files frm hDx.lt hDx.get hDx.files hO.sorted (by have := hO.few; omega))
  simp only [DiskR.cells] at hd
  have same : ∀ e, driesR d frm to L = (e, d) → ∃ v', DAt (mx m [.cells [.string ⟨frm.toArray⟩, .string ⟨to.toArray⟩] 9 true .exact]) p v' (driesR d frm to L).2 ∧ DStep p (.slice a d.files.length cap) m v' (mx m [.cells [.string ⟨frm.toArray⟩, .string ⟨to.toArray⟩] 9 true .exact]) := fun e h => by
    rw [h]; exact ⟨_, hDx, (Old.here m _).keep _, fun _ h => .inl h⟩
  by_cases hb : barsE d.off [frm, to] = 0
  · rw [hb] at k32
    cases hat : isAt d.files frm with
    | false =>
      rw [hat] at k33
      simp (implicitDefEqProofs := false) (maxSteps := 1000000) (disch := first | omega | with_reducible assumption | (simp only [List.length_map, List.length_cons, List.length_nil, List.length_set, List.length_append, List.length_replicate, List.length_take, List.length_drop, mk_size, AMem.size_set, Nat.reduceAdd]; omega)) only [amT, cut, bnd, Nat.reduceBEq, reduceCtorEq, Nat.reduceEqDiff, Nat.reduceAdd, Nat.reduceMul, Nat.reduceSub, Int.reduceToNat, Int.reduceEq, Int.reduceLT, Int.reduceLE, Int.reduceAdd, Int.reduceSub, Int.reduceMul, reduceIte, resVs, resV, packV, initT, addr, F38, k32, k33]; repeat (refine OrW.go ?_; try simp (implicitDefEqProofs := false) (maxSteps := 1000000) (disch := first | omega | with_reducible assumption | (simp only [List.length_map, List.length_cons, List.length_nil, List.length_set, List.length_append, List.length_replicate, List.length_take, List.length_drop, mk_size, AMem.size_set, Nat.reduceAdd]; omega)) only [amT, cut, bnd, Nat.reduceBEq, reduceCtorEq, Nat.reduceEqDiff, Nat.reduceAdd, Nat.reduceMul, Nat.reduceSub, Int.reduceToNat, Int.reduceEq, Int.reduceLT, Int.reduceLE, Int.reduceAdd, Int.reduceSub, Int.reduceMul, reduceIte, resVs, resV, packV, initT, addr, F38, k32, k33])
      have e : driesR d frm to L = (5, d) := by simp [driesR, hb, hat]
      exact ⟨_, rfl, fun _ => ⟨by rw [e], same 5 e⟩⟩
    | true =>
      rw [hat] at k33
      obtain ⟨hlt, _⟩ := isAt_lt hat
      obtain ⟨b, a1, c1, a2, c2, rfl, hbs, hr, hb1, hb2⟩ := hDx.files.get hlt
      have ha := all_ok _ d.files[place d.files frm] a1 c1 a2 c2 hb1 hb2 (by have := size_le hlt; have := hO.used; omega)
      rw [rd_def] at hr
      simp only [fRow] at hr ha
      have hbs' : b < m.size := by
        rcases hD.files with ⟨h, _⟩ | ⟨b', X, sp, h0, h1, _⟩
        · simp [h] at hlt
        · cases h0; exact h1
      rw [mx_old hbs'] at hr
      simp (implicitDefEqProofs := false) (maxSteps := 1000000) (disch := first | omega | with_reducible assumption | (simp only [List.length_map, List.length_cons, List.length_nil, List.length_set, List.length_append, List.length_replicate, List.length_take, List.length_drop, mk_size, AMem.size_set, Nat.reduceAdd]; omega)) only [amT, cut, bnd, Nat.reduceBEq, reduceCtorEq, Nat.reduceEqDiff, Nat.reduceAdd, Nat.reduceMul, Nat.reduceSub, Int.reduceToNat, Int.reduceEq, Int.reduceLT, Int.reduceLE, Int.reduceAdd, Int.reduceSub, Int.reduceMul, reduceIte, resVs, resV, packV, initT, addr, F38, k32, k33, hd, hr]; repeat (refine OrW.go ?_; try simp (implicitDefEqProofs := false) (maxSteps := 1000000) (disch := first | omega | with_reducible assumption | (simp only [List.length_map, List.length_cons, List.length_nil, List.length_set, List.length_append, List.length_replicate, List.length_take, List.length_drop, mk_size, AMem.size_set, Nat.reduceAdd]; omega)) only [amT, cut, bnd, Nat.reduceBEq, reduceCtorEq, Nat.reduceEqDiff, Nat.reduceAdd, Nat.reduceMul, Nat.reduceSub, Int.reduceToNat, Int.reduceEq, Int.reduceLT, Int.reduceLE, Int.reduceAdd, Int.reduceSub, Int.reduceMul, reduceIte, resVs, resV, packV, initT, addr, F38, k32, k33, hd, hr])
      refine RelC.call ha ?_
      rintro r M ⟨hM, hB⟩
      have hbv := hB.byv hDx.ex
      have hOM := hOx.trans hM
      have hDM := hD.old hOM
      have hl := hL M hOM r _ (by have := size_le hlt; have := hO.used; simp only [FileR.all, List.length_append]; simp only [FileR.size] at *; omega) hbv
      have hall : (fileAt d.files frm).all = d.files[place d.files frm].all := by rw [fileAt_eq hlt]
      cases hLc : L d.files[place d.files frm].all with
      | none =>
        rw [hLc] at hl
        have k := DetC.known hl.start
        simp only [List.cons_append, List.nil_append] at k
        have e : driesR d frm to L = (2, d) := by simp [driesR, hb, hat, hall, hLc]
        simp (implicitDefEqProofs := false) (maxSteps := 1000000) (disch := first | omega | with_reducible assumption | (simp only [List.length_map, List.length_cons, List.length_nil, List.length_set, List.length_append, List.length_replicate, List.length_take, List.length_drop, mk_size, AMem.size_set, Nat.reduceAdd]; omega)) only [amT, cut, bnd, Nat.reduceBEq, reduceCtorEq, Nat.reduceEqDiff, Nat.reduceAdd, Nat.reduceMul, Nat.reduceSub, Int.reduceToNat, Int.reduceEq, Int.reduceLT, Int.reduceLE, Int.reduceAdd, Int.reduceSub, Int.reduceMul, reduceIte, resVs, resV, packV, initT, addr, k]; repeat (refine OrW.go ?_; try simp (implicitDefEqProofs := false) (maxSteps := 1000000) (disch := first | omega | with_reducible assumption | (simp only [List.length_map, List.length_cons, List.length_nil, List.length_set, List.length_append, List.length_replicate, List.length_take, List.length_drop, mk_size, AMem.size_set, Nat.reduceAdd]; omega)) only [amT, cut, bnd, Nat.reduceBEq, reduceCtorEq, Nat.reduceEqDiff, Nat.reduceAdd, Nat.reduceMul, Nat.reduceSub, Int.reduceToNat, Int.reduceEq, Int.reduceLT, Int.reduceLE, Int.reduceAdd, Int.reduceSub, Int.reduceMul, reduceIte, resVs, resV, packV, initT, addr, k])
        exact ⟨_, rfl, fun _ => ⟨by rw [e], by rw [e]; exact ⟨_, hDM.old (Old.here _ _), (hOM.mx _).keep _, fun _ h => .inl h⟩⟩⟩
      | some c' =>
        rw [hLc] at hl
        obtain ⟨v', hbv', hp'⟩ := hl
        obtain ⟨av, cv, rfl⟩ := hbv'.len
        have k := DetC.known hp'.start
        simp only [List.cons_append, List.nil_append] at k
        have k37 := DetC.known (step_d (mx M []) p _ d (hDM.old (Old.here _ _)) hO)
        have hDS : DAt (M.set p (.cells (d.step.cells (.slice (some ⟨b, 0, none⟩) d.files.length cap)) 60 true .exact)) p (.slice (some ⟨b, 0, none⟩) d.files.length cap) d.step := hDM.put (step_files d)
        have hst1 : DStep p (.slice (some ⟨b, 0, none⟩) d.files.length cap) m (.slice (some ⟨b, 0, none⟩) d.files.length cap) (M.set p (.cells (d.step.cells (.slice (some ⟨b, 0, none⟩) d.files.length cap)) 60 true .exact)) := (DStep.setp p _ M _).old hOM
        have hpM : p < M.size := hDM.lt
        by_cases hset : d.set = 0
        · have e : driesR d frm to L = (40, d.step) := by simp [driesR, hb, hat, hall, hLc, hset]
          simp (implicitDefEqProofs := false) (maxSteps := 1000000) (disch := first | omega | with_reducible assumption | (simp only [List.length_map, List.length_cons, List.length_nil, List.length_set, List.length_append, List.length_replicate, List.length_take, List.length_drop, mk_size, AMem.size_set, Nat.reduceAdd]; omega)) only [amT, cut, bnd, Nat.reduceBEq, reduceCtorEq, Nat.reduceEqDiff, Nat.reduceAdd, Nat.reduceMul, Nat.reduceSub, Int.reduceToNat, Int.reduceEq, Int.reduceLT, Int.reduceLE, Int.reduceAdd, Int.reduceSub, Int.reduceMul, reduceIte, resVs, resV, packV, initT, addr, k, k37, hset]; repeat (refine OrW.go ?_; try simp (implicitDefEqProofs := false) (maxSteps := 1000000) (disch := first | omega | with_reducible assumption | (simp only [List.length_map, List.length_cons, List.length_nil, List.length_set, List.length_append, List.length_replicate, List.length_take, List.length_drop, mk_size, AMem.size_set, Nat.reduceAdd]; omega)) only [amT, cut, bnd, Nat.reduceBEq, reduceCtorEq, Nat.reduceEqDiff, Nat.reduceAdd, Nat.reduceMul, Nat.reduceSub, Int.reduceToNat, Int.reduceEq, Int.reduceLT, Int.reduceLE, Int.reduceAdd, Int.reduceSub, Int.reduceMul, reduceIte, resVs, resV, packV, initT, addr, k, k37, hset])
          exact ⟨_, rfl, fun _ => ⟨by rw [e], by rw [e]; exact ⟨_, hDS.old (Old.here _ _), hst1.1.mx _, hst1.2⟩⟩⟩
        · have e : driesR d frm to L = (0, { d.step with files := layR (d.files.eraseIdx (place d.files frm)) ⟨to, c', [], true⟩ }) := by simp [driesR, hb, hat, hall, hLc, hset]
          have hfs := hDS.files
          have hfew := hO.few
          rw [step_files] at hfs
          have hdel := (delete_ok _ _ d.files (place d.files frm) hfs (by have := hO.few; omega) hlt).at
          simp (implicitDefEqProofs := false) (maxSteps := 1000000) (disch := first | omega | with_reducible assumption | (simp only [List.length_map, List.length_cons, List.length_nil, List.length_set, List.length_append, List.length_replicate, List.length_take, List.length_drop, mk_size, AMem.size_set, Nat.reduceAdd]; omega)) only [amT, cut, bnd, Nat.reduceBEq, reduceCtorEq, Nat.reduceEqDiff, Nat.reduceAdd, Nat.reduceMul, Nat.reduceSub, Int.reduceToNat, Int.reduceEq, Int.reduceLT, Int.reduceLE, Int.reduceAdd, Int.reduceSub, Int.reduceMul, reduceIte, resVs, resV, packV, initT, addr, k, k37, hset, cells_0]; repeat (refine OrW.go ?_; try simp (implicitDefEqProofs := false) (maxSteps := 1000000) (disch := first | omega | with_reducible assumption | (simp only [List.length_map, List.length_cons, List.length_nil, List.length_set, List.length_append, List.length_replicate, List.length_take, List.length_drop, mk_size, AMem.size_set, Nat.reduceAdd]; omega)) only [amT, cut, bnd, Nat.reduceBEq, reduceCtorEq, Nat.reduceEqDiff, Nat.reduceAdd, Nat.reduceMul, Nat.reduceSub, Int.reduceToNat, Int.reduceEq, Int.reduceLT, Int.reduceLE, Int.reduceAdd, Int.reduceSub, Int.reduceMul, reduceIte, resVs, resV, packV, initT, addr, k, k37, hset, cells_0])
          refine RelC.call hdel ?_
          rintro v1 M1 ⟨hF1, hst2⟩
          obtain ⟨av1, cv1, rfl⟩ := hF1.len
          have hM1p : M1.get p = .cells (d.step.cells (.slice (some ⟨b, 0, none⟩) d.files.length cap)) 60 true .exact := by
            rw [hst2.1.2 p (by rw [AMem.size_set]; exact hpM) (not_own hfs (AMem.get_set_self _ _ _) (by decide)), AMem.get_set_self]
          have hpM1 : p < M1.size := Nat.lt_of_lt_of_le (by rw [AMem.size_set]; exact hpM) hst2.1.1
          have hF2 := hF1.setp hM1p (by decide) (by decide) (.cells (d.step.cells (.slice av1 (d.files.eraseIdx (place d.files frm)).length cv1)) 60 true .exact)
          have hst3 := hst1.trans ((hst2.d p).trans (DStep.setp p (.slice av1 (d.files.eraseIdx (place d.files frm)).length cv1) M1 (.cells (d.step.cells (.slice av1 (d.files.eraseIdx (place d.files frm)).length cv1)) 60 true .exact)))
          have hbv2 : ByV 5 (M1.set p (.cells (d.step.cells (.slice av1 (d.files.eraseIdx (place d.files frm)).length cv1)) 60 true .exact)) (.slice av c'.length cv) c' := by
            have s1 := (DStep.setp p (.slice (some ⟨b, 0, none⟩) d.files.length cap) M (.cells (d.step.cells (.slice (some ⟨b, 0, none⟩) d.files.length cap)) 60 true .exact)).trans ((hst2.d p).trans (DStep.setp p (.slice av1 (d.files.eraseIdx (place d.files frm)).length cv1) M1 (.cells (d.step.cells (.slice av1 (d.files.eraseIdx (place d.files frm)).length cv1)) 60 true .exact)))
            exact hbv'.keep s1.1 fun x X w sp hx h => h.elim (fun e => by subst e; rw [hDM.get] at hx; cases hx) (no5 hDM.files x X w sp hx)
          have hlay := (lay_ok (M1.set p (.cells (d.step.cells (.slice av1 (d.files.eraseIdx (place d.files frm)).length cv1)) 60 true .exact)) p (.slice av1 (d.files.eraseIdx (place d.files frm)).length cv1) (d.files.eraseIdx (place d.files frm)) ⟨to, c', [], true⟩ av cv none 0 (by rw [AMem.size_set]; exact hpM1) (AMem.get_set_self _ _ _) hF2 (hO.sorted.erase _)
            (by have := List.length_eraseIdx_le d.files (place d.files frm); have := hO.few; omega) ⟨_, _, _, _, rfl, hbv2, ByV.nil _ _⟩).at
          simp only [fRow, List.length_nil] at hlay
          have hcl := cells_len d.step (.slice (some ⟨b, 0, none⟩) d.files.length cap)
          simp (implicitDefEqProofs := false) (maxSteps := 1000000) (disch := first | omega | with_reducible assumption | (simp only [List.length_map, List.length_cons, List.length_nil, List.length_set, List.length_append, List.length_replicate, List.length_take, List.length_drop, mk_size, AMem.size_set, Nat.reduceAdd]; omega)) only [amT, cut, bnd, Nat.reduceBEq, reduceCtorEq, Nat.reduceEqDiff, Nat.reduceAdd, Nat.reduceMul, Nat.reduceSub, Int.reduceToNat, Int.reduceEq, Int.reduceLT, Int.reduceLE, Int.reduceAdd, Int.reduceSub, Int.reduceMul, reduceIte, resVs, resV, packV, initT, addr, hM1p, cells_set0, cells_len]; repeat (refine OrW.go ?_; try simp (implicitDefEqProofs := false) (maxSteps := 1000000) (disch := first | omega | with_reducible assumption | (simp only [List.length_map, List.length_cons, List.length_nil, List.length_set, List.length_append, List.length_replicate, List.length_take, List.length_drop, mk_size, AMem.size_set, Nat.reduceAdd]; omega)) only [amT, cut, bnd, Nat.reduceBEq, reduceCtorEq, Nat.reduceEqDiff, Nat.reduceAdd, Nat.reduceMul, Nat.reduceSub, Int.reduceToNat, Int.reduceEq, Int.reduceLT, Int.reduceLE, Int.reduceAdd, Int.reduceSub, Int.reduceMul, reduceIte, resVs, resV, packV, initT, addr, hM1p, cells_set0, cells_len])
          refine RelC.call hlay ?_
          rintro r2 M2 ⟨rfl, v2, hg2, hF4, hst4⟩
          simp (implicitDefEqProofs := false) (maxSteps := 1000000) (disch := first | omega | with_reducible assumption | (simp only [List.length_map, List.length_cons, List.length_nil, List.length_set, List.length_append, List.length_replicate, List.length_take, List.length_drop, mk_size, AMem.size_set, Nat.reduceAdd]; omega)) only [amT, cut, bnd, Nat.reduceBEq, reduceCtorEq, Nat.reduceEqDiff, Nat.reduceAdd, Nat.reduceMul, Nat.reduceSub, Int.reduceToNat, Int.reduceEq, Int.reduceLT, Int.reduceLE, Int.reduceAdd, Int.reduceSub, Int.reduceMul, reduceIte, resVs, resV, packV, initT, addr]; repeat (refine OrW.go ?_; try simp (implicitDefEqProofs := false) (maxSteps := 1000000) (disch := first | omega | with_reducible assumption | (simp only [List.length_map, List.length_cons, List.length_nil, List.length_set, List.length_append, List.length_replicate, List.length_take, List.length_drop, mk_size, AMem.size_set, Nat.reduceAdd]; omega)) only [amT, cut, bnd, Nat.reduceBEq, reduceCtorEq, Nat.reduceEqDiff, Nat.reduceAdd, Nat.reduceMul, Nat.reduceSub, Int.reduceToNat, Int.reduceEq, Int.reduceLT, Int.reduceLE, Int.reduceAdd, Int.reduceSub, Int.reduceMul, reduceIte, resVs, resV, packV, initT, addr])
          exact ⟨_, rfl, fun _ => ⟨by rw [e], by rw [e]; exact ⟨v2, (DAt.mk (Nat.lt_of_lt_of_le (by rw [AMem.size_set]; exact hpM1) hst4.1.1) hg2 hF4 (Nat.lt_of_lt_of_le hD.ex (hst3.trans hst4).1.1) : DAt M2 p v2 { d.step with files := layR (d.files.eraseIdx (place d.files frm)) ⟨to, c', [], true⟩ }).old (Old.here _ _), (hst3.trans hst4).1.mx _, (hst3.trans hst4).2⟩⟩⟩
  · simp (implicitDefEqProofs := false) (maxSteps := 1000000) (disch := first | omega | with_reducible assumption | (simp only [List.length_map, List.length_cons, List.length_nil, List.length_set, List.length_append, List.length_replicate, List.length_take, List.length_drop, mk_size, AMem.size_set, Nat.reduceAdd]; omega)) only [amT, cut, bnd, Nat.reduceBEq, reduceCtorEq, Nat.reduceEqDiff, Nat.reduceAdd, Nat.reduceMul, Nat.reduceSub, Int.reduceToNat, Int.reduceEq, Int.reduceLT, Int.reduceLE, Int.reduceAdd, Int.reduceSub, Int.reduceMul, reduceIte, resVs, resV, packV, initT, addr, F38, k32, k33, hb]; repeat (refine OrW.go ?_; try simp (implicitDefEqProofs := false) (maxSteps := 1000000) (disch := first | omega | with_reducible assumption | (simp only [List.length_map, List.length_cons, List.length_nil, List.length_set, List.length_append, List.length_replicate, List.length_take, List.length_drop, mk_size, AMem.size_set, Nat.reduceAdd]; omega)) only [amT, cut, bnd, Nat.reduceBEq, reduceCtorEq, Nat.reduceEqDiff, Nat.reduceAdd, Nat.reduceMul, Nat.reduceSub, Int.reduceToNat, Int.reduceEq, Int.reduceLT, Int.reduceLE, Int.reduceAdd, Int.reduceSub, Int.reduceMul, reduceIte, resVs, resV, packV, initT, addr, F38, k32, k33, hb])
    have e : driesR d frm to L = (barsE d.off [frm, to], d) := by simp [driesR, hb]
    exact ⟨_, rfl, fun _ => ⟨by rw [e], same _ e⟩⟩
end Go.Proofs.Ytbmjhiifinjieaa
namespace Go.AM
theorem ByV.head [Ex] {e : TypeId} {M : AMem} {v : Value} {c : List UInt8} (h : ByV e M v c) {n : Nat} (hn : n ≤ c.length) (hl : c.length < openCap) :
    ∃ v', slVv 1 v none (some (.int .i64 (n : Int))) none M = some (v', M) ∧ ByV e M v' (c.take n) := by
  have hc : ∀ len cap : Nat, n ≤ cap → cutV len cap none (some (.int .i64 (n : Int))) none = some (0, n, cap) := fun len cap h1 => by
    simp only [cutV]; rw [if_pos (by omega)]; simp
  rcases h with ⟨rfl, rfl⟩ | ⟨b, o, cap, X, w, sp, rfl, h1, h2, h3, h4, hx⟩
  · obtain rfl : n = 0 := by simpa using hn
    refine ⟨.slice none 0 0, ?_, .inl ⟨rfl, rfl⟩⟩
    simp only [slVv, if_neg (Nat.ne_of_lt zeroCap_lt), hc 0 0 (Nat.le_refl _)]
  · have hle := cutL_le h3
    have ht : (c.take n).length = n := by rw [List.length_take]; omega
    have hcut : cutL X o (c.take n).length = some ((c.take n).map byteV) := by rw [ht, List.map_take]; exact cutL_take h3 hn
    rcases h4 with ⟨rfl, hs⟩ | ⟨hlt, hle2⟩
    · refine ⟨.slice (some ⟨b, o, none⟩) n openCap, ?_, .inr ⟨b, o, openCap, X, w, sp, by rw [ht], h1, h2, hcut, .inl ⟨rfl, hs⟩, hx⟩⟩
      simp only [slVv, if_true, h2]
      rw [if_pos ⟨hs, by simp; omega⟩, hc _ _ (by simp; omega)]
      simp
    · refine ⟨.slice (some ⟨b, o, none⟩) n cap, ?_, .inr ⟨b, o, cap, X, w, sp, by rw [ht], h1, h2, hcut, .inr ⟨hlt, by omega⟩, hx⟩⟩
      simp only [slVv, if_neg (Nat.ne_of_lt hlt), hc _ _ (show n ≤ cap by omega)]
      simp
theorem ByV.unmx [Ex] {M : AMem} {v : Value} {e : TypeId} {c : List UInt8} (h : ByV e (mx M []) v c) : ByV e M v c := by
  rcases h with h | ⟨b, o, cap, X, w, sp, h0, h1, h2, h3⟩
  · exact .inl h
  · rw [mx_nil_size] at h1
    exact .inr ⟨b, o, cap, X, w, sp, h0, h1, by rw [mx_old h1] at h2; exact h2, h3⟩
end Go.AM
namespace Go.Proofs.Ytbmjhiifinjieaa
open Go Go.AM
set_option linter.unusedVariables false
set_option linter.unusedSimpArgs false
set_option linter.unusedSectionVars false
set_option maxHeartbeats 1000000
set_option maxRecDepth 100000
variable [Ex]

theorem whole_left (m : AMem) : LeftOk m 39 [] some := by
  intro M hM v c hcl hv
  obtain ⟨a, cap, rfl⟩ := hv.len
  refine ⟨_, hv, ?_⟩
  refine det_exact (fn := Try.f39) rfl rfl F39_ok (by simp [F39]) ?_
  simp (implicitDefEqProofs := false) (maxSteps := 1000000) (disch := first | omega | with_reducible assumption | (simp only [List.length_map, List.length_cons, List.length_nil, List.length_set, List.length_append, List.length_replicate, List.length_take, List.length_drop, mk_size, AMem.size_set, Nat.reduceAdd]; omega)) only [amT, cut, bnd, Nat.reduceBEq, reduceCtorEq, Nat.reduceEqDiff, Nat.reduceAdd, Nat.reduceMul, Nat.reduceSub, Int.reduceToNat, Int.reduceEq, Int.reduceLT, Int.reduceLE, Int.reduceAdd, Int.reduceSub, Int.reduceMul, reduceIte, resVs, resV, packV, initT, addr, F39, List.cons_append, List.nil_append]

def cutN (n : Int) (c : List UInt8) : Option (List UInt8) := if n < 0 ∨ (c.length : Int) < n then none else some (c.take n.toNat)
theorem cut_left (m : AMem) (nb : Nat) (n : Int) {e : TypeId} {w : Bool} {sp : Spare} (hnb : nb < m.size) (h : m.get nb = .cells [.int .i64 n] e w sp) : LeftOk m 53 [.pointer (some ⟨nb, 0, none⟩)] (cutN n) := by
  intro M hM v c hcl hv
  have hM1 := hM.1
  have hg : M.get nb = .cells [.int .i64 n] e w sp := by rw [hM.2 nb hnb]; exact h
  unfold cutN
  by_cases h1 : n < 0
  · rw [if_pos (.inl h1)]
    refine det_exact (fn := Try.f53) rfl rfl F53_ok (by simp [F53]) ?_
    simp (implicitDefEqProofs := false) (maxSteps := 1000000) (disch := first | omega | with_reducible assumption | (simp only [List.length_map, List.length_cons, List.length_nil, List.length_set, List.length_append, List.length_replicate, List.length_take, List.length_drop, mk_size, AMem.size_set, Nat.reduceAdd]; omega)) only [amT, cut, bnd, Nat.reduceBEq, reduceCtorEq, Nat.reduceEqDiff, Nat.reduceAdd, Nat.reduceMul, Nat.reduceSub, Int.reduceToNat, Int.reduceEq, Int.reduceLT, Int.reduceLE, Int.reduceAdd, Int.reduceSub, Int.reduceMul, reduceIte, resVs, resV, packV, initT, addr, F53, List.cons_append, List.nil_append, hg, h1]
  · obtain ⟨a, cap, rfl⟩ := hv.len
    by_cases h2 : (c.length : Int) < n
    · rw [if_pos (.inr h2)]
      refine det_exact (fn := Try.f53) rfl rfl F53_ok (by simp [F53]) ?_
      simp (implicitDefEqProofs := false) (maxSteps := 1000000) (disch := first | omega | with_reducible assumption | (simp only [List.length_map, List.length_cons, List.length_nil, List.length_set, List.length_append, List.length_replicate, List.length_take, List.length_drop, mk_size, AMem.size_set, Nat.reduceAdd]; omega)) only [amT, cut, bnd, Nat.reduceBEq, reduceCtorEq, Nat.reduceEqDiff, Nat.reduceAdd, Nat.reduceMul, Nat.reduceSub, Int.reduceToNat, Int.reduceEq, Int.reduceLT, Int.reduceLE, Int.reduceAdd, Int.reduceSub, Int.reduceMul, reduceIte, resVs, resV, packV, initT, addr, F53, List.cons_append, List.nil_append, hg, h1, h2]
    · rw [if_neg (by omega)]
      have hl : c.length < openCap := openCap_lt (by omega)
      obtain ⟨v', h3, h4⟩ := (hv.old (Old.here M [])).head (n := n.toNat) (by omega) hl
      rw [show ((n.toNat : Nat) : Int) = n by omega] at h3
      refine ⟨v', h4.unmx, ?_⟩
      refine det_exact (fn := Try.f53) rfl rfl F53_ok (by simp [F53]) ?_
      simp (implicitDefEqProofs := false) (maxSteps := 1000000) (disch := first | omega | with_reducible assumption | (simp only [List.length_map, List.length_cons, List.length_nil, List.length_set, List.length_append, List.length_replicate, List.length_take, List.length_drop, mk_size, AMem.size_set, Nat.reduceAdd]; omega)) only [amT, cut, bnd, Nat.reduceBEq, reduceCtorEq, Nat.reduceEqDiff, Nat.reduceAdd, Nat.reduceMul, Nat.reduceSub, Int.reduceToNat, Int.reduceEq, Int.reduceLT, Int.reduceLE, Int.reduceAdd, Int.reduceSub, Int.reduceMul, reduceIte, resVs, resV, packV, initT, addr, F53, List.cons_append, List.nil_append, hg, h1, h2, stepOp_slV_v, h3]

theorem sync_ok (m : AMem) (p : Nat) (v : Value) (d : DiskR) (s : List UInt8) (hs : s.length ≤ 9223372036854775807) (hD : DAt m p v d) (hO : DOk d) :
    RelC Try.prog 0 15 [.pointer (some ⟨p, 0, none⟩), .string ⟨s.toArray⟩] m fun r m' => r = .int .i64 (driesR d s s some).1 ∧ ∃ v', DAt m' p v' (driesR d s s some).2 ∧ DStep p v m v' m' := by
  refine rel_of_W (fn := Try.f15) rfl rfl F15_ok (by simp [F15]) ?_
  have h := (dries_ok m p v d s s 39 [] some hs hs hD hO (whole_left m)).at
  simp (implicitDefEqProofs := false) (maxSteps := 1000000) (disch := first | omega | with_reducible assumption | (simp only [List.length_map, List.length_cons, List.length_nil, List.length_set, List.length_append, List.length_replicate, List.length_take, List.length_drop, mk_size, AMem.size_set, Nat.reduceAdd]; omega)) only [amT, cut, bnd, Nat.reduceBEq, reduceCtorEq, Nat.reduceEqDiff, Nat.reduceAdd, Nat.reduceMul, Nat.reduceSub, Int.reduceToNat, Int.reduceEq, Int.reduceLT, Int.reduceLE, Int.reduceAdd, Int.reduceSub, Int.reduceMul, reduceIte, resVs, resV, packV, initT, addr, F15]
  refine RelC.call h ?_
  rintro r M ⟨rfl, v', h1, h2⟩
  simp (implicitDefEqProofs := false) (maxSteps := 1000000) (disch := first | omega | with_reducible assumption | (simp only [List.length_map, List.length_cons, List.length_nil, List.length_set, List.length_append, List.length_replicate, List.length_take, List.length_drop, mk_size, AMem.size_set, Nat.reduceAdd]; omega)) only [amT, cut, bnd, Nat.reduceBEq, reduceCtorEq, Nat.reduceEqDiff, Nat.reduceAdd, Nat.reduceMul, Nat.reduceSub, Int.reduceToNat, Int.reduceEq, Int.reduceLT, Int.reduceLE, Int.reduceAdd, Int.reduceSub, Int.reduceMul, reduceIte, resVs, resV, packV, initT, addr]
  exact ⟨_, rfl, fun _ => ⟨rfl, v', h1.old (Old.here _ _), h2.1.mx _, h2.2⟩⟩
theorem rename_ok (m : AMem) (p : Nat) (v : Value) (d : DiskR) (s t : List UInt8) (hs : s.length ≤ 9223372036854775807) (ht : t.length ≤ 9223372036854775807) (hD : DAt m p v d) (hO : DOk d) :
    RelC Try.prog 0 21 [.pointer (some ⟨p, 0, none⟩), .string ⟨s.toArray⟩, .string ⟨t.toArray⟩] m fun r m' => r = .int .i64 (driesR d s t some).1 ∧ ∃ v', DAt m' p v' (driesR d s t some).2 ∧ DStep p v m v' m' := by
  refine rel_of_W (fn := Try.f21) rfl rfl F21_ok (by simp [F21]) ?_
  have h := (dries_ok m p v d s t 39 [] some hs ht hD hO (whole_left m)).at
  simp (implicitDefEqProofs := false) (maxSteps := 1000000) (disch := first | omega | with_reducible assumption | (simp only [List.length_map, List.length_cons, List.length_nil, List.length_set, List.length_append, List.length_replicate, List.length_take, List.length_drop, mk_size, AMem.size_set, Nat.reduceAdd]; omega)) only [amT, cut, bnd, Nat.reduceBEq, reduceCtorEq, Nat.reduceEqDiff, Nat.reduceAdd, Nat.reduceMul, Nat.reduceSub, Int.reduceToNat, Int.reduceEq, Int.reduceLT, Int.reduceLE, Int.reduceAdd, Int.reduceSub, Int.reduceMul, reduceIte, resVs, resV, packV, initT, addr, F21]
  refine RelC.call h ?_
  rintro r M ⟨rfl, v', h1, h2⟩
  simp (implicitDefEqProofs := false) (maxSteps := 1000000) (disch := first | omega | with_reducible assumption | (simp only [List.length_map, List.length_cons, List.length_nil, List.length_set, List.length_append, List.length_replicate, List.length_take, List.length_drop, mk_size, AMem.size_set, Nat.reduceAdd]; omega)) only [amT, cut, bnd, Nat.reduceBEq, reduceCtorEq, Nat.reduceEqDiff, Nat.reduceAdd, Nat.reduceMul, Nat.reduceSub, Int.reduceToNat, Int.reduceEq, Int.reduceLT, Int.reduceLE, Int.reduceAdd, Int.reduceSub, Int.reduceMul, reduceIte, resVs, resV, packV, initT, addr]
  exact ⟨_, rfl, fun _ => ⟨rfl, v', h1.old (Old.here _ _), h2.1.mx _, h2.2⟩⟩
theorem cut_ok (m : AMem) (p : Nat) (v : Value) (d : DiskR) (s : List UInt8) (n : Int) (hs : s.length ≤ 9223372036854775807) (hD : DAt m p v d) (hO : DOk d) :
    RelC Try.prog 0 30 [.pointer (some ⟨p, 0, none⟩), .string ⟨s.toArray⟩, .int .i64 n] m fun r m' => r = .int .i64 (driesR d s s (cutN n)).1 ∧ ∃ v', DAt m' p v' (driesR d s s (cutN n)).2 ∧ DStep p v m v' m' := by
  refine rel_of_W (fn := Try.f30) rfl rfl F30_ok (by simp [F30]) ?_
  have hOx := Old.here m [.cells [.int .i64 n] 3 true .exact]
  have h := dries_ok (mx m [.cells [.int .i64 n] 3 true .exact]) p v d s s 53 [.pointer (some ⟨m.size, 0, none⟩)] (cutN n) hs hs (hD.old hOx) hO (cut_left _ m.size n (by rw [mx_size]; simp) (mx_new0 _ _))
  simp (implicitDefEqProofs := false) (maxSteps := 1000000) (disch := first | omega | with_reducible assumption | (simp only [List.length_map, List.length_cons, List.length_nil, List.length_set, List.length_append, List.length_replicate, List.length_take, List.length_drop, mk_size, AMem.size_set, Nat.reduceAdd]; omega)) only [amT, cut, bnd, Nat.reduceBEq, reduceCtorEq, Nat.reduceEqDiff, Nat.reduceAdd, Nat.reduceMul, Nat.reduceSub, Int.reduceToNat, Int.reduceEq, Int.reduceLT, Int.reduceLE, Int.reduceAdd, Int.reduceSub, Int.reduceMul, reduceIte, resVs, resV, packV, initT, addr, F30]
  refine RelC.call h ?_
  rintro r M ⟨rfl, v', h1, h2⟩
  simp (implicitDefEqProofs := false) (maxSteps := 1000000) (disch := first | omega | with_reducible assumption | (simp only [List.length_map, List.length_cons, List.length_nil, List.length_set, List.length_append, List.length_replicate, List.length_take, List.length_drop, mk_size, AMem.size_set, Nat.reduceAdd]; omega)) only [amT, cut, bnd, Nat.reduceBEq, reduceCtorEq, Nat.reduceEqDiff, Nat.reduceAdd, Nat.reduceMul, Nat.reduceSub, Int.reduceToNat, Int.reduceEq, Int.reduceLT, Int.reduceLE, Int.reduceAdd, Int.reduceSub, Int.reduceMul, reduceIte, resVs, resV, packV, initT, addr]
  have h3 := h2.old hOx
  exact ⟨_, rfl, fun _ => ⟨rfl, v', h1.old (Old.here _ _), h3.1.mx _, h3.2⟩⟩

def removeR (d : DiskR) (s : List UInt8) : Int × DiskR :=
  if barsE d.off [s] = 0 then
    if isAt d.files s then (if d.set = 0 then (40, d.step) else (0, { d.step with files := d.files.eraseIdx (place d.files s) })) else (5, d)
  else (barsE d.off [s], d)
theorem remove_ok (m : AMem) (p : Nat) (v : Value) (d : DiskR) (s : List UInt8) (hs : s.length ≤ 9223372036854775807) (hD : DAt m p v d) (hO : DOk d) :
    RelC Try.prog 0 31 [.pointer (some ⟨p, 0, none⟩), .string ⟨s.toArray⟩] m fun r m' => r = .int .i64 (removeR d s).1 ∧ ∃ v', DAt m' p v' (removeR d s).2 ∧ DStep p v m v' m' := by
  refine rel_of_W (fn := Try.f31) rfl rfl F31_ok (by simp [F31]) ?_
  have hp := hD.lt
  have hfew := hO.few
  obtain ⟨a, cap, rfl⟩ := hD.files.len
  have hOx := Old.here m [.cells [.string ⟨s.toArray⟩] 9 true .exact]
  have hDx := hD.old hOx
  have k32 : Known Try.prog 0 32 [.pointer (some ⟨p, 0, none⟩), .slice (some ⟨m.size, 0, none⟩) 1 1] (mx m [.cells [.string ⟨s.toArray⟩] 9 true .exact]) (.int .i64 (barsE d.off [s])) _ :=
    DetC.known (bars_ok _ p m.size 1 [s] (by simp) (by simpa using hs) (by rw [mx_size]; simp) (mx_new0 _ _) hDx.lt hDx.get)
  have k33 := DetC.known (find_ok _ p a cap d.files s hDx.lt hDx.get hDx.files hO.sorted (by have := hO.few; omega))
  have same : ∀ e, removeR d s = (e, d) → ∃ v', DAt (mx m [.cells [.string ⟨s.toArray⟩] 9 true .exact]) p v' (removeR d s).2 ∧ DStep p (.slice a d.files.length cap) m v' (mx m [.cells [.string ⟨s.toArray⟩] 9 true .exact]) := fun e h => by
    rw [h]; exact ⟨_, hDx, (Old.here m _).keep _, fun _ h => .inl h⟩
  by_cases hb : barsE d.off [s] = 0
  · rw [hb] at k32
    cases hat : isAt d.files s with
    | false =>
      rw [hat] at k33
      simp (implicitDefEqProofs := false) (maxSteps := 1000000) (disch := first | omega | with_reducible assumption | (simp only [List.length_map, List.length_cons, List.length_nil, List.length_set, List.length_append, List.length_replicate, List.length_take, List.length_drop, mk_size, AMem.size_set, Nat.reduceAdd]; omega)) only [amT, cut, bnd, Nat.reduceBEq, reduceCtorEq, Nat.reduceEqDiff, Nat.reduceAdd, Nat.reduceMul, Nat.reduceSub, Int.reduceToNat, Int.reduceEq, Int.reduceLT, Int.reduceLE, Int.reduceAdd, Int.reduceSub, Int.reduceMul, reduceIte, resVs, resV, packV, initT, addr, F31, k32, k33]; repeat (refine OrW.go ?_; try simp (implicitDefEqProofs := false) (maxSteps := 1000000) (disch := first | omega | with_reducible assumption | (simp only [List.length_map, List.length_cons, List.length_nil, List.length_set, List.length_append, List.length_replicate, List.length_take, List.length_drop, mk_size, AMem.size_set, Nat.reduceAdd]; omega)) only [amT, cut, bnd, Nat.reduceBEq, reduceCtorEq, Nat.reduceEqDiff, Nat.reduceAdd, Nat.reduceMul, Nat.reduceSub, Int.reduceToNat, Int.reduceEq, Int.reduceLT, Int.reduceLE, Int.reduceAdd, Int.reduceSub, Int.reduceMul, reduceIte, resVs, resV, packV, initT, addr, F31, k32, k33])
      have e : removeR d s = (5, d) := by simp [removeR, hb, hat]
      exact ⟨_, rfl, fun _ => ⟨by rw [e], same 5 e⟩⟩
    | true =>
      rw [hat] at k33
      obtain ⟨hlt, _⟩ := isAt_lt hat
      have k37 := DetC.known (step_d _ p _ d hDx hO)
      rw [mx_set_old hp, mx_mx, List.append_nil] at k37
      have hDS : DAt (mx (m.set p (.cells (d.step.cells (.slice a d.files.length cap)) 60 true .exact)) [.cells [.string ⟨s.toArray⟩] 9 true .exact]) p (.slice a d.files.length cap) d.step := (hD.put (step_files d)).old (Old.here _ _)
      have hst1 : DStep p (.slice a d.files.length cap) m (.slice a d.files.length cap) (mx (m.set p (.cells (d.step.cells (.slice a d.files.length cap)) 60 true .exact)) [.cells [.string ⟨s.toArray⟩] 9 true .exact]) := ⟨(DStep.setp p _ m _).1.mx _, fun _ h => .inl h⟩
      by_cases hset : d.set = 0
      · have e : removeR d s = (40, d.step) := by simp [removeR, hb, hat, hset]
        simp (implicitDefEqProofs := false) (maxSteps := 1000000) (disch := first | omega | with_reducible assumption | (simp only [List.length_map, List.length_cons, List.length_nil, List.length_set, List.length_append, List.length_replicate, List.length_take, List.length_drop, mk_size, AMem.size_set, Nat.reduceAdd]; omega)) only [amT, cut, bnd, Nat.reduceBEq, reduceCtorEq, Nat.reduceEqDiff, Nat.reduceAdd, Nat.reduceMul, Nat.reduceSub, Int.reduceToNat, Int.reduceEq, Int.reduceLT, Int.reduceLE, Int.reduceAdd, Int.reduceSub, Int.reduceMul, reduceIte, resVs, resV, packV, initT, addr, F31, k32, k33, k37, hset]; repeat (refine OrW.go ?_; try simp (implicitDefEqProofs := false) (maxSteps := 1000000) (disch := first | omega | with_reducible assumption | (simp only [List.length_map, List.length_cons, List.length_nil, List.length_set, List.length_append, List.length_replicate, List.length_take, List.length_drop, mk_size, AMem.size_set, Nat.reduceAdd]; omega)) only [amT, cut, bnd, Nat.reduceBEq, reduceCtorEq, Nat.reduceEqDiff, Nat.reduceAdd, Nat.reduceMul, Nat.reduceSub, Int.reduceToNat, Int.reduceEq, Int.reduceLT, Int.reduceLE, Int.reduceAdd, Int.reduceSub, Int.reduceMul, reduceIte, resVs, resV, packV, initT, addr, F31, k32, k33, k37, hset])
        exact ⟨_, rfl, fun _ => ⟨by rw [e], by rw [e]; exact ⟨_, hDS, hst1⟩⟩⟩
      · have e : removeR d s = (0, { d.step with files := d.files.eraseIdx (place d.files s) }) := by simp [removeR, hb, hat, hset]
        have hfs := hDS.files
        rw [step_files] at hfs
        have hdel := delete_ok _ _ d.files (place d.files s) hfs (by omega) hlt
        simp (implicitDefEqProofs := false) (maxSteps := 1000000) (disch := first | omega | with_reducible assumption | (simp only [List.length_map, List.length_cons, List.length_nil, List.length_set, List.length_append, List.length_replicate, List.length_take, List.length_drop, mk_size, AMem.size_set, Nat.reduceAdd]; omega)) only [amT, cut, bnd, Nat.reduceBEq, reduceCtorEq, Nat.reduceEqDiff, Nat.reduceAdd, Nat.reduceMul, Nat.reduceSub, Int.reduceToNat, Int.reduceEq, Int.reduceLT, Int.reduceLE, Int.reduceAdd, Int.reduceSub, Int.reduceMul, reduceIte, resVs, resV, packV, initT, addr, F31, k32, k33, k37, hset, cells_0]; repeat (refine OrW.go ?_; try simp (implicitDefEqProofs := false) (maxSteps := 1000000) (disch := first | omega | with_reducible assumption | (simp only [List.length_map, List.length_cons, List.length_nil, List.length_set, List.length_append, List.length_replicate, List.length_take, List.length_drop, mk_size, AMem.size_set, Nat.reduceAdd]; omega)) only [amT, cut, bnd, Nat.reduceBEq, reduceCtorEq, Nat.reduceEqDiff, Nat.reduceAdd, Nat.reduceMul, Nat.reduceSub, Int.reduceToNat, Int.reduceEq, Int.reduceLT, Int.reduceLE, Int.reduceAdd, Int.reduceSub, Int.reduceMul, reduceIte, resVs, resV, packV, initT, addr, F31, k32, k33, k37, hset, cells_0])
        refine RelC.call hdel ?_
        rintro v1 M1 ⟨hF1, hst2⟩
        obtain ⟨av1, cv1, rfl⟩ := hF1.len
        have hM1p : M1.get p = .cells (d.step.cells (.slice a d.files.length cap)) 60 true .exact := by
          rw [hst2.1.2 p hDS.lt (not_own hfs hDS.get (by decide))]; exact hDS.get
        have hpM1 : p < M1.size := Nat.lt_of_lt_of_le hDS.lt hst2.1.1
        have hst3 := hst1.trans ((hst2.d p).trans (DStep.setp p _ M1 (.cells (d.step.cells (.slice av1 (d.files.eraseIdx (place d.files s)).length cv1)) 60 true .exact)))
        have hcl := cells_len d.step (.slice a d.files.length cap)
        simp (implicitDefEqProofs := false) (maxSteps := 1000000) (disch := first | omega | with_reducible assumption | (simp only [List.length_map, List.length_cons, List.length_nil, List.length_set, List.length_append, List.length_replicate, List.length_take, List.length_drop, mk_size, AMem.size_set, Nat.reduceAdd]; omega)) only [amT, cut, bnd, Nat.reduceBEq, reduceCtorEq, Nat.reduceEqDiff, Nat.reduceAdd, Nat.reduceMul, Nat.reduceSub, Int.reduceToNat, Int.reduceEq, Int.reduceLT, Int.reduceLE, Int.reduceAdd, Int.reduceSub, Int.reduceMul, reduceIte, resVs, resV, packV, initT, addr, hM1p, cells_set0, cells_len]; repeat (refine OrW.go ?_; try simp (implicitDefEqProofs := false) (maxSteps := 1000000) (disch := first | omega | with_reducible assumption | (simp only [List.length_map, List.length_cons, List.length_nil, List.length_set, List.length_append, List.length_replicate, List.length_take, List.length_drop, mk_size, AMem.size_set, Nat.reduceAdd]; omega)) only [amT, cut, bnd, Nat.reduceBEq, reduceCtorEq, Nat.reduceEqDiff, Nat.reduceAdd, Nat.reduceMul, Nat.reduceSub, Int.reduceToNat, Int.reduceEq, Int.reduceLT, Int.reduceLE, Int.reduceAdd, Int.reduceSub, Int.reduceMul, reduceIte, resVs, resV, packV, initT, addr, hM1p, cells_set0, cells_len])
        exact ⟨_, rfl, fun _ => ⟨by rw [e], by rw [e]; exact ⟨_, (DAt.mk hpM1 (AMem.get_set_self _ _ _) (hF1.setp hM1p (by decide) (by decide) _) (Nat.lt_of_lt_of_le hD.ex hst3.1.1) : DAt (M1.set p (.cells (d.step.cells (.slice av1 (d.files.eraseIdx (place d.files s)).length cv1)) 60 true .exact)) p _ { d.step with files := d.files.eraseIdx (place d.files s) }).old (Old.here _ _), hst3.1.mx _, hst3.2⟩⟩⟩
  · simp (implicitDefEqProofs := false) (maxSteps := 1000000) (disch := first | omega | with_reducible assumption | (simp only [List.length_map, List.length_cons, List.length_nil, List.length_set, List.length_append, List.length_replicate, List.length_take, List.length_drop, mk_size, AMem.size_set, Nat.reduceAdd]; omega)) only [amT, cut, bnd, Nat.reduceBEq, reduceCtorEq, Nat.reduceEqDiff, Nat.reduceAdd, Nat.reduceMul, Nat.reduceSub, Int.reduceToNat, Int.reduceEq, Int.reduceLT, Int.reduceLE, Int.reduceAdd, Int.reduceSub, Int.reduceMul, reduceIte, resVs, resV, packV, initT, addr, F31, k32, k33, hb]; repeat (refine OrW.go ?_; try simp (implicitDefEqProofs := false) (maxSteps := 1000000) (disch := first | omega | with_reducible assumption | (simp only [List.length_map, List.length_cons, List.length_nil, List.length_set, List.length_append, List.length_replicate, List.length_take, List.length_drop, mk_size, AMem.size_set, Nat.reduceAdd]; omega)) only [amT, cut, bnd, Nat.reduceBEq, reduceCtorEq, Nat.reduceEqDiff, Nat.reduceAdd, Nat.reduceMul, Nat.reduceSub, Int.reduceToNat, Int.reduceEq, Int.reduceLT, Int.reduceLE, Int.reduceAdd, Int.reduceSub, Int.reduceMul, reduceIte, resVs, resV, packV, initT, addr, F31, k32, k33, hb])
    have e : removeR d s = (barsE d.off [s], d) := by simp [removeR, hb]
    exact ⟨_, rfl, fun _ => ⟨by rw [e], same _ e⟩⟩
end Go.Proofs.Ytbmjhiifinjieaa
namespace Go.Proofs.Ytbmjhiifinjieaa
open Go Go.AM
set_option linter.unusedVariables false
set_option linter.unusedSimpArgs false
set_option linter.unusedSectionVars false
set_option maxHeartbeats 2000000
set_option maxRecDepth 100000
variable [Ex]

/-- The file of a name; a new one, if there is none. -/
def fileOr (fs : List FileR) (s : List UInt8) : FileR := if isAt fs s then fileAt fs s else ⟨s, [], [], false⟩
theorem fileOr_name (fs : List FileR) (s : List UInt8) : (fileOr fs s).name = s := by
  unfold fileOr
  split
  · rename_i h
    obtain ⟨hl, hn⟩ := isAt_lt h
    rw [fileAt_eq hl]; exact hn
  · rfl
def appendR (d : DiskR) (s b : List UInt8) : Int × DiskR :=
  if barsE d.off [s] = 0 then
    if (8388608 : Int) - (fileOr d.files s).size < b.length then (3, d)
    else if d.quota - usedR d.files < b.length then (41, d)
    else (if d.set = 0 then 40 else 0, DiskR.step { d with files := layR d.files { fileOr d.files s with wet := (fileOr d.files s).wet ++ b } })
  else (barsE d.off [s], d)

theorem bss2' {M : AMem} {b : Nat} {v1 : Value} {a2 : Option Addr} {k2 : Nat} {c1 c2 : List UInt8} {e : TypeId} (hb : b < M.size) (h : M.get b = .cells [v1, .slice a2 c2.length k2] e true .exact) (h1 : ByV 5 M v1 c1) (h2 : BSl M a2 k2 c2) : BSS M (some ⟨b, 0, none⟩) [c1, c2] := by
  obtain ⟨a1, k1, rfl, g1⟩ := h1.bsl
  refine .inr ⟨b, 0, _, _, _, _, rfl, hb, h, fun i hi => ?_⟩
  have : i = 0 ∨ i = 1 := by simp at hi; omega
  rcases this with rfl | rfl
  · exact ⟨a1, k1, rfl, g1⟩
  · exact ⟨a2, k2, rfl, h2⟩
def F14_r : ACode := F14.code.tl.tl.tl.tl
theorem F14_cut : F14.code = .seq F14.code.hd (.seq F14.code.tl.hd (.seq F14.code.tl.tl.hd (.seq F14.code.tl.tl.tl.hd F14_r))) := rfl
theorem append_rest (m : AMem) (p : Nat) (a : Option Addr) (cap : Nat) (d : DiskR) (s : List UInt8) (a3 : Option Addr) (cap3 : Nat) (c : List UInt8) (hc : BSl m a3 cap3 c) (hcl : c.length ≤ 9223372036854775807) (hD : DAt m p (.slice a d.files.length cap) d) (hO : DOk d)
    (hb : barsE d.off [s] = 0) (t : Tmps) (t0 : t 0 = .pointer (some ⟨p, 0, none⟩)) (t2 : t 2 = .slice a3 c.length cap3) (t8 : t 8 = .pointer (some ⟨m.size + 1, 0, none⟩)) (a1 : Option Addr) (c1 : Nat) (a2 : Option Addr) (c2 : Nat)
    (hf : FCell m (fRow (fileOr d.files s) a1 c1 a2 c2) (fileOr d.files s)) (h2 : ByV 5 m (.slice a2 (fileOr d.files s).wet.length c2) (fileOr d.files s).wet) (hsz : (fileOr d.files s).size ≤ 50000000) :
    W Try.prog 0 F14_r (RetK F14.res fun r m' => ∃ v, r = .ret v ∧ (m.size ≤ m'.size → v = .int .i64 (appendR d s c).1 ∧ ∃ v', DAt m' p v' (appendR d s c).2 ∧ DStep p (.slice a d.files.length cap) m v' m'))
      ⟨t, mx m [.cells [.string ⟨s.toArray⟩] 9 true .exact, .cells (fRow (fileOr d.files s) a1 c1 a2 c2) 63 true .exact], []⟩ := by
  have hp := hD.lt
  have hfew := hO.few
  have hused := hO.used
  have hq0 := hO.q0
  have hq1 := hO.q1
  have hd := hD.get
  simp only [DiskR.cells] at hd
  have same : ∀ (l : List AObj) e, appendR d s c = (e, d) → ∃ v', DAt (mx m l) p v' (appendR d s c).2 ∧ DStep p (.slice a d.files.length cap) m v' (mx m l) := fun l e h => by
    rw [h]; exact ⟨_, hD.old (Old.here _ _), (Old.here m _).keep _, fun _ h => .inl h⟩
  have hO2 : ∀ l, Old m (mx m l) := fun l => Old.here m l
  have k24 := fun l => DetC.known (used_ok (mx m l) p a cap d.files (hD.old (hO2 l)).lt (hD.old (hO2 l)).get (hD.old (hO2 l)).files (by omega) (by omega))
  have k34 := fun X => DetC.known (size34_ok X (fileOr d.files s) a1 c1 a2 c2 (by omega))
  simp only [fRow] at k34
  by_cases g1 : (8388608 : Int) - (fileOr d.files s).size < c.length
  · have e : appendR d s c = (3, d) := by simp [appendR, hb, g1]
    simp (implicitDefEqProofs := false) (maxSteps := 1000000) (disch := first | omega | with_reducible assumption | (simp only [List.length_map, List.length_cons, List.length_nil, List.length_set, List.length_append, List.length_replicate, List.length_take, List.length_drop, mk_size, AMem.size_set, Nat.reduceAdd]; omega)) only [amT, cut, bnd, Nat.reduceBEq, reduceCtorEq, Nat.reduceEqDiff, Nat.reduceAdd, Nat.reduceMul, Nat.reduceSub, Int.reduceToNat, Int.reduceEq, Int.reduceLT, Int.reduceLE, Int.reduceAdd, Int.reduceSub, Int.reduceMul, reduceIte, resVs, resV, packV, initT, addr, F14_r, F14, tl_seq, t0, t2, t8, fRow, cutL4, k34, g1]; repeat (refine OrW.go ?_; try simp (implicitDefEqProofs := false) (maxSteps := 1000000) (disch := first | omega | with_reducible assumption | (simp only [List.length_map, List.length_cons, List.length_nil, List.length_set, List.length_append, List.length_replicate, List.length_take, List.length_drop, mk_size, AMem.size_set, Nat.reduceAdd]; omega)) only [amT, cut, bnd, Nat.reduceBEq, reduceCtorEq, Nat.reduceEqDiff, Nat.reduceAdd, Nat.reduceMul, Nat.reduceSub, Int.reduceToNat, Int.reduceEq, Int.reduceLT, Int.reduceLE, Int.reduceAdd, Int.reduceSub, Int.reduceMul, reduceIte, resVs, resV, packV, initT, addr, F14_r, F14, tl_seq, t0, t2, t8, fRow, cutL4, k34, g1])
    exact ⟨_, rfl, fun _ => ⟨by rw [e], same _ _ e⟩⟩
  · by_cases g2 : d.quota - usedR d.files < c.length
    · have e : appendR d s c = (41, d) := by simp [appendR, hb, g1, g2]
      simp (implicitDefEqProofs := false) (maxSteps := 1000000) (disch := first | omega | with_reducible assumption | (simp only [List.length_map, List.length_cons, List.length_nil, List.length_set, List.length_append, List.length_replicate, List.length_take, List.length_drop, mk_size, AMem.size_set, Nat.reduceAdd]; omega)) only [amT, cut, bnd, Nat.reduceBEq, reduceCtorEq, Nat.reduceEqDiff, Nat.reduceAdd, Nat.reduceMul, Nat.reduceSub, Int.reduceToNat, Int.reduceEq, Int.reduceLT, Int.reduceLE, Int.reduceAdd, Int.reduceSub, Int.reduceMul, reduceIte, resVs, resV, packV, initT, addr, F14_r, F14, tl_seq, t0, t2, t8, fRow, cutL4, k34, g1, hd, k24, g2]; repeat (refine OrW.go ?_; try simp (implicitDefEqProofs := false) (maxSteps := 1000000) (disch := first | omega | with_reducible assumption | (simp only [List.length_map, List.length_cons, List.length_nil, List.length_set, List.length_append, List.length_replicate, List.length_take, List.length_drop, mk_size, AMem.size_set, Nat.reduceAdd]; omega)) only [amT, cut, bnd, Nat.reduceBEq, reduceCtorEq, Nat.reduceEqDiff, Nat.reduceAdd, Nat.reduceMul, Nat.reduceSub, Int.reduceToNat, Int.reduceEq, Int.reduceLT, Int.reduceLE, Int.reduceAdd, Int.reduceSub, Int.reduceMul, reduceIte, resVs, resV, packV, initT, addr, F14_r, F14, tl_seq, t0, t2, t8, fRow, cutL4, k34, g1, hd, k24, g2])
      exact ⟨_, rfl, fun _ => ⟨by rw [e], same _ _ e⟩⟩
    · simp (implicitDefEqProofs := false) (maxSteps := 1000000) (disch := first | omega | with_reducible assumption | (simp only [List.length_map, List.length_cons, List.length_nil, List.length_set, List.length_append, List.length_replicate, List.length_take, List.length_drop, mk_size, AMem.size_set, Nat.reduceAdd]; omega)) only [amT, cut, bnd, Nat.reduceBEq, reduceCtorEq, Nat.reduceEqDiff, Nat.reduceAdd, Nat.reduceMul, Nat.reduceSub, Int.reduceToNat, Int.reduceEq, Int.reduceLT, Int.reduceLE, Int.reduceAdd, Int.reduceSub, Int.reduceMul, reduceIte, resVs, resV, packV, initT, addr, F14_r, F14, tl_seq, t0, t2, t8, fRow, cutL4, k34, g1, hd, k24, g2]; repeat (refine OrW.go ?_; try simp (implicitDefEqProofs := false) (maxSteps := 1000000) (disch := first | omega | with_reducible assumption | (simp only [List.length_map, List.length_cons, List.length_nil, List.length_set, List.length_append, List.length_replicate, List.length_take, List.length_drop, mk_size, AMem.size_set, Nat.reduceAdd]; omega)) only [amT, cut, bnd, Nat.reduceBEq, reduceCtorEq, Nat.reduceEqDiff, Nat.reduceAdd, Nat.reduceMul, Nat.reduceSub, Int.reduceToNat, Int.reduceEq, Int.reduceLT, Int.reduceLE, Int.reduceAdd, Int.reduceSub, Int.reduceMul, reduceIte, resVs, resV, packV, initT, addr, F14_r, F14, tl_seq, t0, t2, t8, fRow, cutL4, k34, g1, hd, k24, g2])
      have hbss := bss2' (e := 30) (M := mx m [.cells [.string ⟨s.toArray⟩] 9 true .exact, .cells (fRow (fileOr d.files s) a1 c1 a2 c2) 63 true .exact, .cells [.slice a2 (fileOr d.files s).wet.length c2, .slice a3 c.length cap3] 30 true .exact]) (b := m.size + 2) (by rw [mx_size]; simp) (mx_new _ _ 2) (h2.old (hO2 _)) (hc.old (hO2 _))
      have hwl : (fileOr d.files s).wet.length ≤ (fileOr d.files s).size := by simp only [FileR.size]; omega
      have hcc := concat_ok _ _ 2 [(fileOr d.files s).wet, c] hbss (by simp) (by simp; omega)
      have hfl : [(fileOr d.files s).wet, c].flatten = (fileOr d.files s).wet ++ c := by simp
      rw [hfl] at hcc
      simp only [fRow] at hcc
      refine RelC.call hcc ?_
      rintro vw M ⟨hM, hB⟩
      have hOM : Old m M := (hO2 _).trans hM
      have hMs : m.size + 3 ≤ M.size := Nat.le_trans (by rw [mx_size]; simp) hM.1
      have hrow : M.get (m.size + 1) = .cells (fRow (fileOr d.files s) a1 c1 a2 c2) 63 true .exact := by
        rw [hM.2 _ (by rw [mx_size]; simp)]; exact mx_new _ _ 1
      have hbw := hB.byv (Nat.lt_of_lt_of_le hD.ex (hO2 _).1)
      obtain ⟨aw, cw, rfl⟩ := hbw.len
      have hO3 : Old m (M.set (m.size + 1) (.cells (fRow { fileOr d.files s with wet := (fileOr d.files s).wet ++ c } a1 c1 aw cw) 63 true .exact)) := hOM.set (by omega) _
      have hbw3 : ByV 5 (M.set (m.size + 1) (.cells (fRow { fileOr d.files s with wet := (fileOr d.files s).wet ++ c } a1 c1 aw cw) 63 true .exact)) (.slice aw ((fileOr d.files s).wet ++ c).length cw) ((fileOr d.files s).wet ++ c) :=
        hbw.keep (O := fun x => x = m.size + 1) ((Keep.refl (fun x => x = m.size + 1) M).set (fun _ => rfl) _) fun x X w sp hx e => by subst e; rw [hrow] at hx; cases hx
      obtain ⟨b1, e1, b2, e2, hfr, hf1, _⟩ := hf
      cases hfr
      have hD3 := hD.old hO3
      have hlay := (lay_ok _ p _ d.files { fileOr d.files s with wet := (fileOr d.files s).wet ++ c } a1 c1 aw cw hD3.lt hD3.get hD3.files hO.sorted (by omega) ⟨_, _, _, _, rfl, hf1.old hO3, hbw3⟩).at
      simp only [fRow] at hrow
      simp only [fRow, List.length_append] at hlay hO3 hD3
      simp (implicitDefEqProofs := false) (maxSteps := 1000000) (disch := first | omega | with_reducible assumption | (simp only [List.length_map, List.length_cons, List.length_nil, List.length_set, List.length_append, List.length_replicate, List.length_take, List.length_drop, mk_size, AMem.size_set, Nat.reduceAdd]; omega)) only [amT, cut, bnd, Nat.reduceBEq, reduceCtorEq, Nat.reduceEqDiff, Nat.reduceAdd, Nat.reduceMul, Nat.reduceSub, Int.reduceToNat, Int.reduceEq, Int.reduceLT, Int.reduceLE, Int.reduceAdd, Int.reduceSub, Int.reduceMul, reduceIte, resVs, resV, packV, initT, addr, hrow, t0, t2, t8, cutL4]
      refine RelC.call hlay ?_
      rintro r2 M2 ⟨rfl, v2, hg2, hF4, hst4⟩
      have hp2 : p < M2.size := Nat.lt_of_lt_of_le hD3.lt hst4.1.1
      have hDA : DAt M2 p v2 { d with files := layR d.files { fileOr d.files s with wet := (fileOr d.files s).wet ++ c } } := ⟨hp2, hg2, hF4, Nat.lt_of_lt_of_le hD3.ex hst4.1.1⟩
      have k37 := DetC.known (step_d' _ p _ _ (hDA.old (Old.here M2 [])) hO.s0 hO.s1 hO.t0 hO.t1)
      have hst5 := (hst4.old (hO3)).trans (DStep.setp p v2 M2 (.cells (DiskR.cells (DiskR.step { d with files := layR d.files { fileOr d.files s with wet := (fileOr d.files s).wet ++ c } }) v2) 60 true .exact))
      have hDS := hDA.put (step_files _)
      by_cases hset : d.set = 0
      · have e : appendR d s c = (40, DiskR.step { d with files := layR d.files { fileOr d.files s with wet := (fileOr d.files s).wet ++ c } }) := by simp [appendR, hb, g1, g2, hset]
        have hd0 : decide (d.set = 0) = true := by simp [hset]
        simp (implicitDefEqProofs := false) (maxSteps := 1000000) (disch := first | omega | with_reducible assumption | (simp only [List.length_map, List.length_cons, List.length_nil, List.length_set, List.length_append, List.length_replicate, List.length_take, List.length_drop, mk_size, AMem.size_set, Nat.reduceAdd]; omega)) only [amT, cut, bnd, Nat.reduceBEq, reduceCtorEq, Nat.reduceEqDiff, Nat.reduceAdd, Nat.reduceMul, Nat.reduceSub, Int.reduceToNat, Int.reduceEq, Int.reduceLT, Int.reduceLE, Int.reduceAdd, Int.reduceSub, Int.reduceMul, reduceIte, resVs, resV, packV, initT, addr, k37, hd0, t0]; repeat (refine OrW.go ?_; try simp (implicitDefEqProofs := false) (maxSteps := 1000000) (disch := first | omega | with_reducible assumption | (simp only [List.length_map, List.length_cons, List.length_nil, List.length_set, List.length_append, List.length_replicate, List.length_take, List.length_drop, mk_size, AMem.size_set, Nat.reduceAdd]; omega)) only [amT, cut, bnd, Nat.reduceBEq, reduceCtorEq, Nat.reduceEqDiff, Nat.reduceAdd, Nat.reduceMul, Nat.reduceSub, Int.reduceToNat, Int.reduceEq, Int.reduceLT, Int.reduceLE, Int.reduceAdd, Int.reduceSub, Int.reduceMul, reduceIte, resVs, resV, packV, initT, addr, k37, hd0, t0])
        exact ⟨_, rfl, fun _ => ⟨by rw [e], by rw [e]; exact ⟨_, hDS.old (Old.here _ _), hst5.1.mx _, hst5.2⟩⟩⟩
      · have e : appendR d s c = (0, DiskR.step { d with files := layR d.files { fileOr d.files s with wet := (fileOr d.files s).wet ++ c } }) := by simp [appendR, hb, g1, g2, hset]
        have hd0 : decide (d.set = 0) = false := by simp [hset]
        simp (implicitDefEqProofs := false) (maxSteps := 1000000) (disch := first | omega | with_reducible assumption | (simp only [List.length_map, List.length_cons, List.length_nil, List.length_set, List.length_append, List.length_replicate, List.length_take, List.length_drop, mk_size, AMem.size_set, Nat.reduceAdd]; omega)) only [amT, cut, bnd, Nat.reduceBEq, reduceCtorEq, Nat.reduceEqDiff, Nat.reduceAdd, Nat.reduceMul, Nat.reduceSub, Int.reduceToNat, Int.reduceEq, Int.reduceLT, Int.reduceLE, Int.reduceAdd, Int.reduceSub, Int.reduceMul, reduceIte, resVs, resV, packV, initT, addr, k37, hd0, t0]; repeat (refine OrW.go ?_; try simp (implicitDefEqProofs := false) (maxSteps := 1000000) (disch := first | omega | with_reducible assumption | (simp only [List.length_map, List.length_cons, List.length_nil, List.length_set, List.length_append, List.length_replicate, List.length_take, List.length_drop, mk_size, AMem.size_set, Nat.reduceAdd]; omega)) only [amT, cut, bnd, Nat.reduceBEq, reduceCtorEq, Nat.reduceEqDiff, Nat.reduceAdd, Nat.reduceMul, Nat.reduceSub, Int.reduceToNat, Int.reduceEq, Int.reduceLT, Int.reduceLE, Int.reduceAdd, Int.reduceSub, Int.reduceMul, reduceIte, resVs, resV, packV, initT, addr, k37, hd0, t0])
        exact ⟨_, rfl, fun _ => ⟨by rw [e], by rw [e]; exact ⟨_, hDS.old (Old.here _ _), hst5.1.mx _, hst5.2⟩⟩⟩

theorem append_ok (m : AMem) (p : Nat) (v : Value) (d : DiskR) (s : List UInt8) (a3 : Option Addr) (cap3 : Nat) (c : List UInt8) (hs : s.length ≤ 9223372036854775807) (hc : BSl m a3 cap3 c) (hcl : c.length ≤ 9223372036854775807) (hD : DAt m p v d) (hO : DOk d) :
    RelC Try.prog 0 14 [.pointer (some ⟨p, 0, none⟩), .string ⟨s.toArray⟩, .slice a3 c.length cap3] m fun r m' => r = .int .i64 (appendR d s c).1 ∧ ∃ v', DAt m' p v' (appendR d s c).2 ∧ DStep p v m v' m' := by
  refine rel_of_W (fn := Try.f14) rfl rfl F14_ok (by simp [F14]) ?_
  have hp := hD.lt
  have hfew := hO.few
  have hused := hO.used
  have hq0 := hO.q0
  have hq1 := hO.q1
  have hd := hD.get
  obtain ⟨a, cap, rfl⟩ := hD.files.len
  have hOx := Old.here m [.cells [.string ⟨s.toArray⟩] 9 true .exact]
  have hDx := hD.old hOx
  have k32 : Known Try.prog 0 32 [.pointer (some ⟨p, 0, none⟩), .slice (some ⟨m.size, 0, none⟩) 1 1] (mx m [.cells [.string ⟨s.toArray⟩] 9 true .exact]) (.int .i64 (barsE d.off [s])) _ :=
    DetC.known (bars_ok _ p m.size 1 [s] (by simp) (by simpa using hs) (by rw [mx_size]; simp) (mx_new0 _ _) hDx.lt hDx.get)
  have same : ∀ (l : List AObj) e, appendR d s c = (e, d) → ∃ v', DAt (mx m l) p v' (appendR d s c).2 ∧ DStep p (.slice a d.files.length cap) m v' (mx m l) := fun l e h => by
    rw [h]; exact ⟨_, hD.old (Old.here _ _), (Old.here m _).keep _, fun _ h => .inl h⟩
  by_cases hb : barsE d.off [s] = 0
  · rw [hb] at k32
    have hO2 : ∀ l, Old m (mx m l) := fun l => Old.here m l
    have k33 := fun l => DetC.known (find_ok (mx m l) p a cap d.files s (hD.old (hO2 l)).lt (hD.old (hO2 l)).get (hD.old (hO2 l)).files hO.sorted (by omega))
    simp only [DiskR.cells] at hd
    rw [F14_cut]
    cases hat : isAt d.files s with
    | false =>
      have k33' := k33 [.cells [.string ⟨s.toArray⟩] 9 true .exact, .cells [.string ⟨s.toArray⟩, .slice none 0 0, .slice none 0 0, .bool false] 63 true .exact]
      rw [hat] at k33'
      have ef : fileOr d.files s = ⟨s, [], [], false⟩ := by simp [fileOr, hat]
      simp (implicitDefEqProofs := false) (maxSteps := 1000000) (disch := first | omega | with_reducible assumption | (simp only [List.length_map, List.length_cons, List.length_nil, List.length_set, List.length_append, List.length_replicate, List.length_take, List.length_drop, mk_size, AMem.size_set, Nat.reduceAdd]; omega)) only [amT, cut, bnd, Nat.reduceBEq, reduceCtorEq, Nat.reduceEqDiff, Nat.reduceAdd, Nat.reduceMul, Nat.reduceSub, Int.reduceToNat, Int.reduceEq, Int.reduceLT, Int.reduceLE, Int.reduceAdd, Int.reduceSub, Int.reduceMul, reduceIte, resVs, resV, packV, initT, addr, F14, hd_seq, tl_seq, k32, k33', cellsOf_row4, splice4, cutL4]; repeat (refine OrW.go ?_; try simp (implicitDefEqProofs := false) (maxSteps := 1000000) (disch := first | omega | with_reducible assumption | (simp only [List.length_map, List.length_cons, List.length_nil, List.length_set, List.length_append, List.length_replicate, List.length_take, List.length_drop, mk_size, AMem.size_set, Nat.reduceAdd]; omega)) only [amT, cut, bnd, Nat.reduceBEq, reduceCtorEq, Nat.reduceEqDiff, Nat.reduceAdd, Nat.reduceMul, Nat.reduceSub, Int.reduceToNat, Int.reduceEq, Int.reduceLT, Int.reduceLE, Int.reduceAdd, Int.reduceSub, Int.reduceMul, reduceIte, resVs, resV, packV, initT, addr, F14, hd_seq, tl_seq, k32, k33', cellsOf_row4, splice4, cutL4])
      have h := fun t h0 h2 h8 => append_rest m p a cap d s a3 cap3 c hc hcl hD hO hb t h0 h2 h8 none 0 none 0 (by rw [ef]; exact ⟨_, _, _, _, rfl, ByV.nil _ _, ByV.nil _ _⟩) (by rw [ef]; exact ByV.nil _ _) (by rw [ef]; simp [FileR.size])
      rw [ef] at h
      exact h _ (by simp (implicitDefEqProofs := false) (maxSteps := 1000000) (disch := first | omega | with_reducible assumption | (simp only [List.length_map, List.length_cons, List.length_nil, List.length_set, List.length_append, List.length_replicate, List.length_take, List.length_drop, mk_size, AMem.size_set, Nat.reduceAdd]; omega)) only [amT, cut, bnd, Nat.reduceBEq, reduceCtorEq, Nat.reduceEqDiff, Nat.reduceAdd, Nat.reduceMul, Nat.reduceSub, Int.reduceToNat, Int.reduceEq, Int.reduceLT, Int.reduceLE, Int.reduceAdd, Int.reduceSub, Int.reduceMul, reduceIte, resVs, resV, packV, initT, addr]) (by simp (implicitDefEqProofs := false) (maxSteps := 1000000) (disch := first | omega | with_reducible assumption | (simp only [List.length_map, List.length_cons, List.length_nil, List.length_set, List.length_append, List.length_replicate, List.length_take, List.length_drop, mk_size, AMem.size_set, Nat.reduceAdd]; omega)) only [amT, cut, bnd, Nat.reduceBEq, reduceCtorEq, Nat.reduceEqDiff, Nat.reduceAdd, Nat.reduceMul, Nat.reduceSub, Int.reduceToNat, Int.reduceEq, Int.reduceLT, Int.reduceLE, Int.reduceAdd, Int.reduceSub, Int.reduceMul, reduceIte, resVs, resV, packV, initT, addr]) (by simp (implicitDefEqProofs := false) (maxSteps := 1000000) (disch := first | omega | with_reducible assumption | (simp only [List.length_map, List.length_cons, List.length_nil, List.length_set, List.length_append, List.length_replicate, List.length_take, List.length_drop, mk_size, AMem.size_set, Nat.reduceAdd]; omega)) only [amT, cut, bnd, Nat.reduceBEq, reduceCtorEq, Nat.reduceEqDiff, Nat.reduceAdd, Nat.reduceMul, Nat.reduceSub, Int.reduceToNat, Int.reduceEq, Int.reduceLT, Int.reduceLE, Int.reduceAdd, Int.reduceSub, Int.reduceMul, reduceIte, resVs, resV, packV, initT, addr])
    | true =>
      have k33' := k33 [.cells [.string ⟨s.toArray⟩] 9 true .exact, .cells [.string ⟨s.toArray⟩, .slice none 0 0, .slice none 0 0, .bool false] 63 true .exact]
      rw [hat] at k33'
      obtain ⟨hlt, _⟩ := isAt_lt hat
      have ef : fileOr d.files s = d.files[place d.files s] := by simp [fileOr, hat, fileAt_eq hlt]
      obtain ⟨b, a1, c1, a2, c2, rfl, hbs, hr, hb1, hb2⟩ := hD.files.get hlt
      rw [rd_def] at hr
      simp only [fRow] at hr
      simp (implicitDefEqProofs := false) (maxSteps := 1000000) (disch := first | omega | with_reducible assumption | (simp only [List.length_map, List.length_cons, List.length_nil, List.length_set, List.length_append, List.length_replicate, List.length_take, List.length_drop, mk_size, AMem.size_set, Nat.reduceAdd]; omega)) only [amT, cut, bnd, Nat.reduceBEq, reduceCtorEq, Nat.reduceEqDiff, Nat.reduceAdd, Nat.reduceMul, Nat.reduceSub, Int.reduceToNat, Int.reduceEq, Int.reduceLT, Int.reduceLE, Int.reduceAdd, Int.reduceSub, Int.reduceMul, reduceIte, resVs, resV, packV, initT, addr, F14, hd_seq, tl_seq, k32, k33', cellsOf_row4, splice4, cutL4, hd, hr]; repeat (refine OrW.go ?_; try simp (implicitDefEqProofs := false) (maxSteps := 1000000) (disch := first | omega | with_reducible assumption | (simp only [List.length_map, List.length_cons, List.length_nil, List.length_set, List.length_append, List.length_replicate, List.length_take, List.length_drop, mk_size, AMem.size_set, Nat.reduceAdd]; omega)) only [amT, cut, bnd, Nat.reduceBEq, reduceCtorEq, Nat.reduceEqDiff, Nat.reduceAdd, Nat.reduceMul, Nat.reduceSub, Int.reduceToNat, Int.reduceEq, Int.reduceLT, Int.reduceLE, Int.reduceAdd, Int.reduceSub, Int.reduceMul, reduceIte, resVs, resV, packV, initT, addr, F14, hd_seq, tl_seq, k32, k33', cellsOf_row4, splice4, cutL4, hd, hr])
      have h := fun t h0 h2 h8 => append_rest m p _ cap d s a3 cap3 c hc hcl hD hO hb t h0 h2 h8 a1 c1 a2 c2 (by rw [ef]; exact ⟨_, _, _, _, rfl, hb1, hb2⟩) (by rw [ef]; exact hb2) (by rw [ef]; have := size_le hlt; omega)
      simp only [fRow, ef] at h
      exact h _ (by simp (implicitDefEqProofs := false) (maxSteps := 1000000) (disch := first | omega | with_reducible assumption | (simp only [List.length_map, List.length_cons, List.length_nil, List.length_set, List.length_append, List.length_replicate, List.length_take, List.length_drop, mk_size, AMem.size_set, Nat.reduceAdd]; omega)) only [amT, cut, bnd, Nat.reduceBEq, reduceCtorEq, Nat.reduceEqDiff, Nat.reduceAdd, Nat.reduceMul, Nat.reduceSub, Int.reduceToNat, Int.reduceEq, Int.reduceLT, Int.reduceLE, Int.reduceAdd, Int.reduceSub, Int.reduceMul, reduceIte, resVs, resV, packV, initT, addr]) (by simp (implicitDefEqProofs := false) (maxSteps := 1000000) (disch := first | omega | with_reducible assumption | (simp only [List.length_map, List.length_cons, List.length_nil, List.length_set, List.length_append, List.length_replicate, List.length_take, List.length_drop, mk_size, AMem.size_set, Nat.reduceAdd]; omega)) only [amT, cut, bnd, Nat.reduceBEq, reduceCtorEq, Nat.reduceEqDiff, Nat.reduceAdd, Nat.reduceMul, Nat.reduceSub, Int.reduceToNat, Int.reduceEq, Int.reduceLT, Int.reduceLE, Int.reduceAdd, Int.reduceSub, Int.reduceMul, reduceIte, resVs, resV, packV, initT, addr]) (by simp (implicitDefEqProofs := false) (maxSteps := 1000000) (disch := first | omega | with_reducible assumption | (simp only [List.length_map, List.length_cons, List.length_nil, List.length_set, List.length_append, List.length_replicate, List.length_take, List.length_drop, mk_size, AMem.size_set, Nat.reduceAdd]; omega)) only [amT, cut, bnd, Nat.reduceBEq, reduceCtorEq, Nat.reduceEqDiff, Nat.reduceAdd, Nat.reduceMul, Nat.reduceSub, Int.reduceToNat, Int.reduceEq, Int.reduceLT, Int.reduceLE, Int.reduceAdd, Int.reduceSub, Int.reduceMul, reduceIte, resVs, resV, packV, initT, addr])
  · rw [F14_cut]
    simp (implicitDefEqProofs := false) (maxSteps := 1000000) (disch := first | omega | with_reducible assumption | (simp only [List.length_map, List.length_cons, List.length_nil, List.length_set, List.length_append, List.length_replicate, List.length_take, List.length_drop, mk_size, AMem.size_set, Nat.reduceAdd]; omega)) only [amT, cut, bnd, Nat.reduceBEq, reduceCtorEq, Nat.reduceEqDiff, Nat.reduceAdd, Nat.reduceMul, Nat.reduceSub, Int.reduceToNat, Int.reduceEq, Int.reduceLT, Int.reduceLE, Int.reduceAdd, Int.reduceSub, Int.reduceMul, reduceIte, resVs, resV, packV, initT, addr, F14, hd_seq, tl_seq, k32, hb]; repeat (refine OrW.go ?_; try simp (implicitDefEqProofs := false) (maxSteps := 1000000) (disch := first | omega | with_reducible assumption | (simp only [List.length_map, List.length_cons, List.length_nil, List.length_set, List.length_append, List.length_replicate, List.length_take, List.length_drop, mk_size, AMem.size_set, Nat.reduceAdd]; omega)) only [amT, cut, bnd, Nat.reduceBEq, reduceCtorEq, Nat.reduceEqDiff, Nat.reduceAdd, Nat.reduceMul, Nat.reduceSub, Int.reduceToNat, Int.reduceEq, Int.reduceLT, Int.reduceLE, Int.reduceAdd, Int.reduceSub, Int.reduceMul, reduceIte, resVs, resV, packV, initT, addr, F14, hd_seq, tl_seq, k32, hb])
    have e : appendR d s c = (barsE d.off [s], d) := by simp [appendR, hb]
    exact ⟨_, rfl, fun _ => ⟨by rw [e], same _ _ e⟩⟩
end Go.Proofs.Ytbmjhiifinjieaa
namespace Go.AM
/-- A slice of numbers. -/
def IntV (m : AMem) (v : Value) (l : List Int) : Prop :=
  ∃ a cap, v = .slice a l.length cap ∧ ∀ i (h : i < l.length), ∃ b o, a = some ⟨b, o, none⟩ ∧ b < m.size ∧ rd m b (o + i) 1 = some [.int .i64 l[i]]
theorem IntV.old {m m' : AMem} {v : Value} {l : List Int} (h : IntV m v l) (ho : Old m m') : IntV m' v l := by
  obtain ⟨a, cap, h1, h2⟩ := h
  refine ⟨a, cap, h1, fun i hi => ?_⟩
  obtain ⟨b, o, h3, h4, h5⟩ := h2 i hi
  exact ⟨b, o, h3, Nat.lt_of_lt_of_le h4 ho.1, by rw [rd_def, ho.2 b h4, ← rd_def]; exact h5⟩
theorem IntV.keep {m m' : AMem} {v : Value} {l : List Int} (h : IntV m v l) {O : Nat → Prop} (ho : Keep O m m') (hO : ∀ b o n c, v = .slice (some ⟨b, o, none⟩) n c → ¬ O b) : IntV m' v l := by
  obtain ⟨a, cap, rfl, h2⟩ := h
  refine ⟨a, cap, rfl, fun i hi => ?_⟩
  obtain ⟨b, o, rfl, h4, h5⟩ := h2 i hi
  exact ⟨b, o, rfl, Nat.lt_of_lt_of_le h4 ho.1, by rw [rd_def, ho.2 b h4 (hO b o _ _ rfl), ← rd_def]; exact h5⟩
end Go.AM
namespace Go.Proofs.Ytbmjhiifinjieaa
open Go Go.AM
set_option linter.unusedVariables false
set_option linter.unusedSimpArgs false
set_option linter.unusedSectionVars false
set_option maxHeartbeats 2000000
set_option maxRecDepth 100000
variable [Ex]

def newR (q : Int) : DiskR := ⟨[], max 0 q, 0, -1, false⟩
theorem cellsOf_disk (a : Option Addr) (l c : Nat) (q s e : Int) (o : Bool) : cellsOf (.agg [.slice a l c, .int .i64 q, .int .i64 s, .int .i64 e, .bool o].toArray) = some [.slice a l c, .int .i64 q, .int .i64 s, .int .i64 e, .bool o] := rfl
theorem splice5 (a b c d e x y z u v : Value) : splice [a, b, c, d, e] 0 [x, y, z, u, v] = [x, y, z, u, v] := rfl
theorem cutL5 (a b c d e : Value) : cutL [a, b, c, d, e] 0 5 = some [a, b, c, d, e] := rfl
theorem new_ok (m : AMem) (q : Int) : DetC Try.prog 0 11 [.int .i64 q] m (.pointer (some ⟨m.size, 0, none⟩)) (mx m [.cells ((newR q).cells (.slice none 0 0)) 60 true .exact]) := by
  refine det_exact (fn := Try.f11) rfl rfl F11_ok (by simp [F11]) ?_
  simp (implicitDefEqProofs := false) (maxSteps := 1000000) (disch := first | omega | with_reducible assumption | (simp only [List.length_map, List.length_cons, List.length_nil, List.length_set, List.length_append, List.length_replicate, List.length_take, List.length_drop, mk_size, AMem.size_set, Nat.reduceAdd]; omega)) only [amT, cut, bnd, Nat.reduceBEq, reduceCtorEq, Nat.reduceEqDiff, Nat.reduceAdd, Nat.reduceMul, Nat.reduceSub, Int.reduceToNat, Int.reduceEq, Int.reduceLT, Int.reduceLE, Int.reduceAdd, Int.reduceSub, Int.reduceMul, reduceIte, resVs, resV, packV, initT, addr, F11, stepOp_mnx, mnx_max, cellsOf_disk, newR, DiskR.cells]
theorem new_at (m : AMem) (q : Int) (hx : Ex.x ≤ m.size) : DAt (mx m [.cells ((newR q).cells (.slice none 0 0)) 60 true .exact]) m.size (.slice none 0 0) (newR q) :=
  ⟨by rw [mx_size]; simp, mx_new0 _ _, .inl ⟨rfl, .inl rfl⟩, by rw [mx_size]; simp; omega⟩

theorem eqV_nil (l c l' c' : Nat) : eqV .nilS (.slice none l c) (.slice none l' c') = some true := rfl
theorem eqV_some (a : Addr) (l c l' c' : Nat) : eqV .nilS (.slice (some a) l c) (.slice none l' c') = some false := rfl
theorem clone_ok (m : AMem) (v : Value) (fs : List FileR) (hF : FilesV m v fs) (hn : fs.length ≤ 100000) :
    RelC Try.prog 0 52 [v] m fun v' m' => FilesV m' v' fs ∧ Old m m' ∧ ∀ x, ownV v' x → m.size ≤ x := by
  refine rel_of_W (fn := Try.f52) rfl rfl F52_ok (by simp [F52]) ?_
  have zero : ∀ (a : Option Addr) (cap : Nat), FilesV m (.slice (a) 0 cap) [] → (∃ x, a = some x) → appV 63 4 72 zF (.slice (some ⟨m.size, 0, none⟩) 0 0) (.slice a 0 cap) (mx m [.cells [] 63 true .exact]) = some (.slice (some ⟨m.size, 0, none⟩) 0 0, mx m [.cells [] 63 true .exact]) := by
    rintro a cap hf ⟨x, rfl⟩
    have : ∃ b, x = ⟨b, 0, none⟩ ∧ b < m.size ∧ ∃ X sp, m.get b = .cells X 63 true sp := by
      rcases hf with ⟨_, h | ⟨b, h, h1, h2⟩⟩ | ⟨b, X, sp, h, h1, h2, _⟩
      · cases h
      · cases h; exact ⟨b, rfl, h1, _, _, h2⟩
      · cases h; exact ⟨b, rfl, h1, _, _, h2⟩
    obtain ⟨b, rfl, hb, X, sp, hm⟩ := this
    have hsrc : srcCells 4 0 (.slice (some ⟨b, 0, none⟩) 0 cap) (mx m [.cells [] 63 true .exact]) = some [] := by
      rw [srcCells_slice (Nat.le_refl _), rd_def, mx_old hb, hm, rdO_cells]; exact cutL_zero (Nat.zero_le _)
    simp only [appV, srcLen_slice, hsrc]
    rw [if_pos ⟨rfl, by omega, rfl, rfl⟩]
    simp only [appendTo, if_neg (Nat.ne_of_lt zeroCap_lt)]
    simp
  have fin0 : FilesV (mx m [.cells [] 63 true .exact]) (.slice (some ⟨m.size, 0, none⟩) 0 0) [] := .inl ⟨rfl, .inr ⟨m.size, rfl, by rw [mx_size]; simp, mx_new0 _ _⟩⟩
  by_cases h0 : fs = []
  · subst h0
    obtain ⟨a, cap, rfl⟩ := hF.len
    cases a with
    | none =>
      rcases hF with ⟨_, h | ⟨b, h, _⟩⟩ | ⟨b, X, sp, h, _⟩
      · cases h
        simp (implicitDefEqProofs := false) (maxSteps := 1000000) (disch := first | omega | with_reducible assumption | (simp only [List.length_map, List.length_cons, List.length_nil, List.length_set, List.length_append, List.length_replicate, List.length_take, List.length_drop, mk_size, AMem.size_set, Nat.reduceAdd]; omega)) only [amT, cut, bnd, Nat.reduceBEq, reduceCtorEq, Nat.reduceEqDiff, Nat.reduceAdd, Nat.reduceMul, Nat.reduceSub, Int.reduceToNat, Int.reduceEq, Int.reduceLT, Int.reduceLE, Int.reduceAdd, Int.reduceSub, Int.reduceMul, reduceIte, resVs, resV, packV, initT, addr, F52, eqV_nil]; repeat (refine OrW.go ?_; try simp (implicitDefEqProofs := false) (maxSteps := 1000000) (disch := first | omega | with_reducible assumption | (simp only [List.length_map, List.length_cons, List.length_nil, List.length_set, List.length_append, List.length_replicate, List.length_take, List.length_drop, mk_size, AMem.size_set, Nat.reduceAdd]; omega)) only [amT, cut, bnd, Nat.reduceBEq, reduceCtorEq, Nat.reduceEqDiff, Nat.reduceAdd, Nat.reduceMul, Nat.reduceSub, Int.reduceToNat, Int.reduceEq, Int.reduceLT, Int.reduceLE, Int.reduceAdd, Int.reduceSub, Int.reduceMul, reduceIte, resVs, resV, packV, initT, addr, F52, eqV_nil])
        exact ⟨_, rfl, fun _ => ⟨.inl ⟨rfl, .inl rfl⟩, fun x ⟨o, l, c, h⟩ => by cases h⟩⟩
      · cases h
      · cases h
    | some x =>
      have h1 := zero _ _ hF ⟨x, rfl⟩
      simp only [zF] at h1
      simp (implicitDefEqProofs := false) (maxSteps := 1000000) (disch := first | omega | with_reducible assumption | (simp only [List.length_map, List.length_cons, List.length_nil, List.length_set, List.length_append, List.length_replicate, List.length_take, List.length_drop, mk_size, AMem.size_set, Nat.reduceAdd]; omega)) only [amT, cut, bnd, Nat.reduceBEq, reduceCtorEq, Nat.reduceEqDiff, Nat.reduceAdd, Nat.reduceMul, Nat.reduceSub, Int.reduceToNat, Int.reduceEq, Int.reduceLT, Int.reduceLE, Int.reduceAdd, Int.reduceSub, Int.reduceMul, reduceIte, resVs, resV, packV, initT, addr, F52, eqV_some, List.length_nil, stepOp_app_v, h1]; repeat (refine OrW.go ?_; try simp (implicitDefEqProofs := false) (maxSteps := 1000000) (disch := first | omega | with_reducible assumption | (simp only [List.length_map, List.length_cons, List.length_nil, List.length_set, List.length_append, List.length_replicate, List.length_take, List.length_drop, mk_size, AMem.size_set, Nat.reduceAdd]; omega)) only [amT, cut, bnd, Nat.reduceBEq, reduceCtorEq, Nat.reduceEqDiff, Nat.reduceAdd, Nat.reduceMul, Nat.reduceSub, Int.reduceToNat, Int.reduceEq, Int.reduceLT, Int.reduceLE, Int.reduceAdd, Int.reduceSub, Int.reduceMul, reduceIte, resVs, resV, packV, initT, addr, F52, eqV_some, List.length_nil, stepOp_app_v, h1])
      exact ⟨_, rfl, fun _ => ⟨fin0, fun x ⟨o, l, c, h⟩ => by cases h; exact Nat.le_refl _⟩⟩
  · have hF0 := hF
    rcases hF with ⟨h, _⟩ | ⟨b, X, sp, rfl, hb, hm, hsp, hX, hX4, hcell⟩
    · exact absurd h h0
    have hpos : 0 < fs.length := List.length_pos_iff.2 h0
    have hone : (X.take (4 * fs.length)).all oneCell = true := cells_one fs.length (by rw [List.length_take]; omega) fun j hj => by rw [cell_take hj]; exact (hcell j hj).one
    have hlen : (X.take (4 * fs.length)).length = 4 * fs.length := by rw [List.length_take]; omega
    have hsrc : srcCells 4 fs.length (.slice (some ⟨b, 0, none⟩) fs.length openCap) (mx m [.cells [] 63 true .exact]) = some (X.take (4 * fs.length)) := by
      rw [srcCells_slice (Nat.le_refl _), rd_def, mx_old hb, hm, rdO_cells, Nat.mul_comm _ 4]; unfold cutL; rw [if_pos (by omega), List.drop_zero]
    have h1 : appV 63 4 72 zF (.slice (some ⟨m.size, 0, none⟩) 0 0) (.slice (some ⟨b, 0, none⟩) fs.length openCap) (mx m [.cells [] 63 true .exact]) = some (.slice (some ⟨m.size + 1, 0, none⟩) fs.length openCap, mx m [.cells [] 63 true .exact, .cells (X.take (4 * fs.length)) 63 true (.room zF)]) := by
      simp only [appV, srcLen_slice, hsrc]
      rw [if_pos ⟨rfl, by omega, hone, by omega⟩]
      simp only [appendTo, if_neg (Nat.ne_of_lt zeroCap_lt)]
      rw [if_neg (by omega), rd_def, mx_new0, List.getD_cons_zero, rdO_cells, show cutL ([] : List Value) 0 (0 * 4) = some [] from rfl]
      simp only
      rw [if_pos (by omega), mx_push, mx_size]; simp
    simp only [zF] at h1
    simp (implicitDefEqProofs := false) (maxSteps := 1000000) (disch := first | omega | with_reducible assumption | (simp only [List.length_map, List.length_cons, List.length_nil, List.length_set, List.length_append, List.length_replicate, List.length_take, List.length_drop, mk_size, AMem.size_set, Nat.reduceAdd]; omega)) only [amT, cut, bnd, Nat.reduceBEq, reduceCtorEq, Nat.reduceEqDiff, Nat.reduceAdd, Nat.reduceMul, Nat.reduceSub, Int.reduceToNat, Int.reduceEq, Int.reduceLT, Int.reduceLE, Int.reduceAdd, Int.reduceSub, Int.reduceMul, reduceIte, resVs, resV, packV, initT, addr, F52, eqV_some, stepOp_app_v, h1]; repeat (refine OrW.go ?_; try simp (implicitDefEqProofs := false) (maxSteps := 1000000) (disch := first | omega | with_reducible assumption | (simp only [List.length_map, List.length_cons, List.length_nil, List.length_set, List.length_append, List.length_replicate, List.length_take, List.length_drop, mk_size, AMem.size_set, Nat.reduceAdd]; omega)) only [amT, cut, bnd, Nat.reduceBEq, reduceCtorEq, Nat.reduceEqDiff, Nat.reduceAdd, Nat.reduceMul, Nat.reduceSub, Int.reduceToNat, Int.reduceEq, Int.reduceLT, Int.reduceLE, Int.reduceAdd, Int.reduceSub, Int.reduceMul, reduceIte, resVs, resV, packV, initT, addr, F52, eqV_some, stepOp_app_v, h1])
    refine ⟨_, rfl, fun _ => ⟨.inr ⟨m.size + 1, _, .room zF, rfl, by rw [mx_size]; simp, mx_new m _ 1, .inl rfl, by omega, by omega, fun k hk => ?_⟩, fun x ⟨o, l, c, h⟩ => by cases h; omega⟩⟩
    rw [cell_take hk]
    exact (hcell k hk).keep ((Old.here m _).keep fun _ => False) fun _ _ _ _ _ h => h

theorem copy_ok (m : AMem) (p : Nat) (v : Value) (d : DiskR) (hD : DAt m p v d) (hn : d.files.length ≤ 100000) :
    RelC Try.prog 0 29 [.pointer (some ⟨p, 0, none⟩)] m fun r m' => ∃ p' v', r = .pointer (some ⟨p', 0, none⟩) ∧ m.size ≤ p' ∧ DAt m' p' v' d ∧ (∀ x, ownV v' x → m.size ≤ x) ∧ Old m m' := by
  refine rel_of_W (fn := Try.f29) rfl rfl F29_ok (by simp [F29]) ?_
  have hd := hD.get
  have hp := hD.lt
  obtain ⟨a, cap, rfl⟩ := hD.files.len
  have hOx := Old.here m [.cells (d.cells (.slice a d.files.length cap)) 60 true .exact]
  have hcl := clone_ok _ _ d.files (hD.files.old hOx) hn
  simp only [DiskR.cells] at hd hcl
  simp (implicitDefEqProofs := false) (maxSteps := 1000000) (disch := first | omega | with_reducible assumption | (simp only [List.length_map, List.length_cons, List.length_nil, List.length_set, List.length_append, List.length_replicate, List.length_take, List.length_drop, mk_size, AMem.size_set, Nat.reduceAdd]; omega)) only [amT, cut, bnd, Nat.reduceBEq, reduceCtorEq, Nat.reduceEqDiff, Nat.reduceAdd, Nat.reduceMul, Nat.reduceSub, Int.reduceToNat, Int.reduceEq, Int.reduceLT, Int.reduceLE, Int.reduceAdd, Int.reduceSub, Int.reduceMul, reduceIte, resVs, resV, packV, initT, addr, F29, eqV_pn, hd, cutL5, cellsOf_disk, splice5]; repeat (refine OrW.go ?_; try simp (implicitDefEqProofs := false) (maxSteps := 1000000) (disch := first | omega | with_reducible assumption | (simp only [List.length_map, List.length_cons, List.length_nil, List.length_set, List.length_append, List.length_replicate, List.length_take, List.length_drop, mk_size, AMem.size_set, Nat.reduceAdd]; omega)) only [amT, cut, bnd, Nat.reduceBEq, reduceCtorEq, Nat.reduceEqDiff, Nat.reduceAdd, Nat.reduceMul, Nat.reduceSub, Int.reduceToNat, Int.reduceEq, Int.reduceLT, Int.reduceLE, Int.reduceAdd, Int.reduceSub, Int.reduceMul, reduceIte, resVs, resV, packV, initT, addr, F29, eqV_pn, hd, cutL5, cellsOf_disk, splice5])
  refine RelC.call hcl ?_
  rintro v1 M ⟨hF1, hO1, hown⟩
  obtain ⟨av, cv, rfl⟩ := hF1.len
  have hMs : m.size + 1 ≤ M.size := Nat.le_trans (by rw [mx_size]; simp) hO1.1
  have hg : M.get m.size = .cells (d.cells (.slice a d.files.length cap)) 60 true .exact := by rw [hO1.2 _ (by rw [mx_size]; simp)]; exact mx_new0 _ _
  have hF2 := hF1.setp hg (by decide) (by decide) (.cells (d.cells (.slice av d.files.length cv)) 60 true .exact)
  have hO2 : Old m (M.set m.size (.cells (d.cells (.slice av d.files.length cv)) 60 true .exact)) := (hOx.trans hO1).set (Nat.le_refl _) _
  have hDA : DAt (M.set m.size (.cells (d.cells (.slice av d.files.length cv)) 60 true .exact)) m.size (.slice av d.files.length cv) d := ⟨by rw [AMem.size_set]; omega, AMem.get_set_self _ _ _, hF2, by rw [AMem.size_set]; have := hD.ex; omega⟩
  simp only [DiskR.cells] at hg hDA hO2
  simp (implicitDefEqProofs := false) (maxSteps := 1000000) (disch := first | omega | with_reducible assumption | (simp only [List.length_map, List.length_cons, List.length_nil, List.length_set, List.length_append, List.length_replicate, List.length_take, List.length_drop, mk_size, AMem.size_set, Nat.reduceAdd]; omega)) only [amT, cut, bnd, Nat.reduceBEq, reduceCtorEq, Nat.reduceEqDiff, Nat.reduceAdd, Nat.reduceMul, Nat.reduceSub, Int.reduceToNat, Int.reduceEq, Int.reduceLT, Int.reduceLE, Int.reduceAdd, Int.reduceSub, Int.reduceMul, reduceIte, resVs, resV, packV, initT, addr, hg]; repeat (refine OrW.go ?_; try simp (implicitDefEqProofs := false) (maxSteps := 1000000) (disch := first | omega | with_reducible assumption | (simp only [List.length_map, List.length_cons, List.length_nil, List.length_set, List.length_append, List.length_replicate, List.length_take, List.length_drop, mk_size, AMem.size_set, Nat.reduceAdd]; omega)) only [amT, cut, bnd, Nat.reduceBEq, reduceCtorEq, Nat.reduceEqDiff, Nat.reduceAdd, Nat.reduceMul, Nat.reduceSub, Int.reduceToNat, Int.reduceEq, Int.reduceLT, Int.reduceLE, Int.reduceAdd, Int.reduceSub, Int.reduceMul, reduceIte, resVs, resV, packV, initT, addr, hg])
  exact ⟨_, rfl, fun _ => ⟨m.size, _, rfl, Nat.le_refl _, hDA.old (Old.here _ _), fun x hx => Nat.le_trans (by rw [mx_size]; omega) (hown x hx), hO2.mx _⟩⟩
theorem copy_nil (m : AMem) : PureC Try.prog 0 29 [.pointer none] m (.pointer none) := by
  refine pure_of_W (fn := Try.f29) rfl rfl F29_ok (by simp [F29]) .nilPtr ?_
  simp (implicitDefEqProofs := false) (maxSteps := 1000000) (disch := first | omega | with_reducible assumption | (simp only [List.length_map, List.length_cons, List.length_nil, List.length_set, List.length_append, List.length_replicate, List.length_take, List.length_drop, mk_size, AMem.size_set, Nat.reduceAdd]; omega)) only [amT, cut, bnd, Nat.reduceBEq, reduceCtorEq, Nat.reduceEqDiff, Nat.reduceAdd, Nat.reduceMul, Nat.reduceSub, Int.reduceToNat, Int.reduceEq, Int.reduceLT, Int.reduceLE, Int.reduceAdd, Int.reduceSub, Int.reduceMul, reduceIte, resVs, resV, packV, initT, addr, F29, eqV_nn]; repeat (refine OrW.go ?_; try simp (implicitDefEqProofs := false) (maxSteps := 1000000) (disch := first | omega | with_reducible assumption | (simp only [List.length_map, List.length_cons, List.length_nil, List.length_set, List.length_append, List.length_replicate, List.length_take, List.length_drop, mk_size, AMem.size_set, Nat.reduceAdd]; omega)) only [amT, cut, bnd, Nat.reduceBEq, reduceCtorEq, Nat.reduceEqDiff, Nat.reduceAdd, Nat.reduceMul, Nat.reduceSub, Int.reduceToNat, Int.reduceEq, Int.reduceLT, Int.reduceLE, Int.reduceAdd, Int.reduceSub, Int.reduceMul, reduceIte, resVs, resV, packV, initT, addr, F29, eqV_nn])
end Go.Proofs.Ytbmjhiifinjieaa
