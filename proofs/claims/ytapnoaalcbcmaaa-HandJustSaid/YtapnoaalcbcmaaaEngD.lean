/- The operations of the abstract machine are sound: memory. -/
import Derived.Test.YtapnoaalcbcmaaaEngCa
namespace Go.Eng
open Go Go.RowKit

variable {P : Program} {T : Tab} {base : Env} {w : World} {S : Nat → Prop} {m : Locs} {M : Mem}

theorem Rel.one {v : Value} {a : AV} (h : Rel w S m v a) (hc : isCell a = true) : v.oneCell' = true := by
  cases h with
  | tsl _ t l f _ h => obtain ⟨a, cap, rfl, _⟩ := h.slice_inv; rfl
  | _ => first | rfl | (simp [isCell] at hc)

theorem allCells_nth {cs : List AV} (h : allCells cs = true) {i : Nat} (hi : i < lenA cs) : isCell (nth cs i) = true := by
  induction cs generalizing i with
  | nil => simp [lenA] at hi
  | cons a l ih =>
    simp only [allCells] at h
    split at h
    · cases i with
      | zero => assumption
      | succ i => exact ih h (by simp [lenA] at hi; omega)
    · simp at h

/-- The cells of a value. -/
theorem Rel.cells {v : Value} {a : AV} (h : Rel w S m v a) (hc : allCells (cellsOf a) = true) :
    v.cells.size = lenA (cellsOf a) ∧ (∀ i, i < lenA (cellsOf a) → (v.cells.getD i Go.undef).oneCell' = true) ∧ ∀ i, i < lenA (cellsOf a) → Rel w S m (v.cells.getD i Go.undef) (nth (cellsOf a) i) := by
  by_cases ha : ∃ cs, a = .agg cs
  · obtain ⟨cs, rfl⟩ := ha
    cases h with
    | agg _ vs _ hl h1 h => exact ⟨hl, h1, h⟩
  · have e : cellsOf a = [a] := by cases a <;> first | rfl | exact absurd ⟨_, rfl⟩ ha
    rw [e] at hc ⊢
    have hcell : isCell a = true := allCells_nth hc (i := 0) (by simp [lenA])
    have h1 := h.one hcell
    have e2 : v.cells = #[v] := by cases v <;> first | rfl | (simp [Value.oneCell'] at h1)
    rw [e2]
    refine ⟨rfl, fun i hi => ?_, fun i hi => ?_⟩
    · have : i = 0 := by simp [lenA] at hi; omega
      subst this; exact h1
    · have : i = 0 := by simp [lenA] at hi; omega
      subst this; exact h

theorem newLoc_box (hM : MRel base w S m M) {t : TypeId} {vs : Array Value} {cs : List AV} (hl : vs.size = lenA cs) (h1 : ∀ i, i < lenA cs → (vs.getD i Go.undef).oneCell' = true)
    (h : ∀ i, i < lenA cs → Rel w S m (vs.getD i Go.undef) (nth cs i)) {x : Sem Value} (hx : x.run P w = .ok (.pointer (some ⟨w.heap.size, 0, none⟩)) (w.alloc (.cells vs t))) :
    Res base w S m P (newBlk M (.cells t cs)) x := by
  let l : Loc := ⟨w.heap.size, 0, 0, 0, false, []⟩
  have hst : ∀ b, S b → (w.alloc (.cells vs t)).heap[b]? = w.heap[b]? := fun b hb => Below.heap_alloc w _ b (hM.sb b hb)
  have hlm : ∀ (i : Nat) (l' : Option Loc), m[i]? = some l' → (m ++ [some l])[i]? = some l' := fun i l' hi => by
    rw [List.getElem?_append_left (by exact (List.getElem?_eq_some_iff.1 hi).1)]; exact hi
  obtain ⟨ht, hm⟩ := hM.alloc (.cells vs t) l (.cells t cs) rfl
    ⟨vs, Go.heap_alloc_new w _, hl, h1, fun i hi => (h i hi).mono (fun _ h => h) hst _ hlm⟩
  exact ⟨_, _, _, _, hx, ht, hm, .ref _ _ _ l (by rw [← hM.len]; simp)⟩

theorem aBox_ok (hM : MRel base w S m M) (t : TypeId) {v : Value} {a : AV} (ha : Rel w S m v a) (hk : AllT (aBox T M t a).ks) : Res base w S m P (aBox T M t a) (Instr.box t v) := by
  unfold aBox at hk ⊢
  simp only [] at hk ⊢
  split at hk
  case h_2 => exact (not_bad hk).elim
  rename_i hc
  obtain ⟨hl, h1, h2⟩ := ha.cells hc
  exact newLoc_box hM hl h1 h2 (by simp [Instr.box, newVar, newRow])

theorem lenU_eq (l : List UInt8) : lenU l = l.length := by induction l with | nil => rfl | cons a l ih => simp [lenU, ih]
theorem bytes_data (s : ByteArray) : bytes s.data.toList = s := by simp [bytes]

theorem rel_ofVal (v : Value) : Rel w S m v (ofVal v) := by
  unfold ofVal
  split
  · split
    · rename_i h; exact .int _ _ _ h
    · exact .undef _ _
  · exact .bool _ _
  · rename_i s
    split
    · rename_i h
      have h := Nat.le_of_ble_eq_true h
      rw [lenU_eq] at h
      have := Rel.str (w := w) (S := S) m s.data.toList (by unfold maxLen; omega)
      rw [bytes_data] at this; exact this
    · exact .undef _ _
  · exact .nilptr _
  · exact .nilsl _
  · exact .nilfn _
  · exact .nilmap _
  · exact .niliface _
  · exact .undef _ _

theorem nth_ofVals (l : List Value) (i : Nat) (hi : i < l.length) : nth (ofVals l) i = ofVal (l.getD i Go.undef) := by
  induction l generalizing i with
  | nil => simp at hi
  | cons a l ih => cases i with
    | zero => rfl
    | succ i => simpa [ofVals, nth] using ih i (by simpa using hi)
theorem lenA_ofVals (l : List Value) : lenA (ofVals l) = l.length := by induction l with | nil => rfl | cons a l ih => simp [ofVals, lenA, ih]

theorem rel_ofVals (vs : Array Value) (i : Nat) (hi : i < vs.size) : Rel w S m (vs.getD i Go.undef) (nth (ofVals vs.toList) i) := by
  rw [nth_ofVals _ _ (by simpa using hi)]
  have : vs.toList.getD i Go.undef = vs.getD i Go.undef := by simp [List.getD]
  rw [this]; exact rel_ofVal _

theorem one_of_ofVal {v : Value} (h : isCell (ofVal v) = true) : v.oneCell' = true := by
  have := rel_ofVal (w := default) (S := fun _ => True) (m := []) v
  exact this.one h

theorem zero_cells {ti : TyI} {t : Nat} {d : TypeDesc} {i : TypeInfo} {z : Value} (f : TyFacts P ti t d i z) (hc : allCells ti.z = true) :
    z.cells.size = lenA ti.z ∧ (∀ j, j < lenA ti.z → (z.cells.getD j Go.undef).oneCell' = true) ∧ ∀ j, j < lenA ti.z → Rel w S m (z.cells.getD j Go.undef) (nth ti.z j) := by
  rw [f.z] at hc ⊢
  have hl : lenA (ofVals z.cells.toList) = z.cells.size := by rw [lenA_ofVals]; simp
  have hr : ∀ j, j < lenA (ofVals z.cells.toList) → Rel w S m (z.cells.getD j Go.undef) (nth (ofVals z.cells.toList) j) := fun j hj => rel_ofVals _ _ (by omega)
  exact ⟨hl.symm, fun j hj => (hr j hj).one (allCells_nth hc hj), hr⟩

theorem aAlloc_ok (hT : TabOk P T) (hM : MRel base w S m M) (t : TypeId) (hk : AllT (aAlloc T M t).ks) : Res base w S m P (aAlloc T M t) (Instr.alloc t true (.tuple #[])) := by
  unfold aAlloc at hk ⊢
  split at hk
  case h_2 => exact (not_bad hk).elim
  rename_i h1 hc
  have h1 := Nat.le_of_ble_eq_true h1
  obtain ⟨d, i, z, f⟩ := hT.of_sz h1
  obtain ⟨hl, h1, h2⟩ := zero_cells (w := w) (S := S) (m := m) f hc
  exact newLoc_box hM hl h1 h2 (by simp [Instr.alloc, zeroValue, typeInfo, f.info, f.zero, newVar, newRow])

theorem addr_add (g o n : Nat) : (⟨g, o, none⟩ : Addr).add n = ⟨g, o + n, none⟩ := by unfold Addr.add; split <;> simp_all

theorem isAgg_true (hT : TabOk P T) {t : Nat} (h : isAggT T t = true) : ∃ d i z, TyFacts P (tyi T t) t d i z ∧ (isAgg t).run P w = .ok true w := by
  unfold isAggT at h
  cases hd : (tyi T t).d with
  | struct fs =>
    obtain ⟨d, i, z, f⟩ := hT.of_d hd (by simp)
    refine ⟨d, i, z, f, ?_⟩
    have := f.d; rw [hd] at this
    obtain ⟨l, rfl, _⟩ := td_struct this.symm
    simp [isAgg, run_underlying f.und]
  | array n e =>
    obtain ⟨d, i, z, f⟩ := hT.of_d hd (by simp)
    refine ⟨d, i, z, f, ?_⟩
    have := f.d; rw [hd] at this
    have := td_array this.symm; subst this
    simp [isAgg, run_underlying f.und]
  | _ => simp [hd] at h

theorem isAgg_false (hT : TabOk P T) {t : Nat} (h : isAggT T t = false) (hd : (tyi T t).d ≠ .other) : (isAgg t).run P w = .ok false w := by
  obtain ⟨d, i, z, f⟩ := hT.of_d rfl hd
  unfold isAggT at h
  rw [f.d] at h hd
  cases d with
  | struct l => exfalso; revert h hd; simp only [tdOf]; split <;> simp
  | array n e => simp [tdOf] at h
  | _ => simp [isAgg, run_underlying f.und]

/-- A load of a row of cells. -/
theorem load_agg (hT : TabOk P T) {t : Nat} (h : isAggT T t = true) {b o : Nat} (f : Nat → Value) (hc : ∀ j, j < (tyi T t).sz → w.cell? ⟨b, o + j, none⟩ = some (f j)) :
    (Instr.loadAt t (.pointer (some ⟨b, o, none⟩))).run P w = .ok (.agg ((List.range (tyi T t).sz).map f).toArray) w := by
  obtain ⟨d, i, z, ff, ha⟩ := isAgg_true (w := w) hT h
  rw [ff.sz] at hc ⊢
  have hl := run_loadCells (P := P) w ⟨b, o, none⟩ i.size f (fun j hj => by rw [addr_add]; exact hc j hj)
  simp [Instr.loadAt, Instr.sureAddr, loadVar, ha, sizeOf, typeInfo, ff.info, hl]

theorem load_cell (hT : TabOk P T) {t : Nat} (h : isAggT T t = false) (hd : (tyi T t).d ≠ .other) {b o : Nat} {v : Value} (hc : w.cell? ⟨b, o, none⟩ = some v) :
    (Instr.loadAt t (.pointer (some ⟨b, o, none⟩))).run P w = .ok v w := by
  simp [Instr.loadAt, Instr.sureAddr, loadVar, isAgg_false hT h hd, run_load, hc]

theorem getD_map_range (n : Nat) (f : Nat → Value) (i : Nat) (hi : i < n) : (((List.range n).map f).toArray).getD i Go.undef = f i := by
  simp [hi]

theorem blk_cell {g : Nat} {vs : Array Value} {e : TypeId} {fr : Nat × Nat} (h : w.heap[g]? = some (.cells vs e fr)) {o : Nat} (ho : o < vs.size) : w.cell? ⟨g, o, none⟩ = some (vs.getD o Go.undef) := by
  rw [cell_of_row w g o vs e fr h]; simp [ho]

theorem bk_of (hM : MRel base w S m M) {i : Nat} {l : Loc} (h : m[i]? = some (some l)) : BRel w S m (some l) (blk M i) := hM.bk i _ h

theorem isOther_ne {t : Nat} (h : isOther (tyi T t).d = false) : (tyi T t).d ≠ .other := by intro e; rw [e] at h; simp [isOther] at h

theorem eref_lt {r n sz off k : Nat} (hr : r < n) (hk : off + k ≤ sz) : r * sz + off + k ≤ n * sz := by
  have : (r + 1) * sz ≤ n * sz := Nat.mul_le_mul_right _ hr
  rw [Nat.add_mul] at this
  omega

theorem mkV {x : Sem Value} {v : Value} {a : AV} (hx : x.run P w = .ok v w) (hr : Rel w S m v a) : ∃ v, x.run P w = .ok v w ∧ Rel w S m v a := ⟨v, hx, hr⟩

theorem aLoad_okV (hT : TabOk P T) (hM : MRel base w S m M) (t : TypeId) {v : Value} {a : AV} (ha : Rel w S m v a) (hk : AllT (aLoad T M t a).ks) : ∃ u, (Instr.loadAt t v).run P w = .ok u w ∧ Rel w S m u (aLoad T M t a).v := by
  unfold aLoad at hk ⊢
  split at hk
  · -- cptr, aggregate
    rename_i n c hag
    split at hk
    case h_2 => exact (not_bad hk).elim
    rename_i hn
    have hn := Nat.le_of_ble_eq_true hn
    cases ha with
    | cptr _ b o _ _ f hs hc h =>
      exact mkV (load_agg hT hag f fun j hj => (hc j (by omega)).1) (.agg _ _ _ (by rw [lenA_tab]; simp) (fun i hi => by rw [lenA_tab] at hi; rw [getD_map_range _ _ _ hi]; exact (hc i (by omega)).2)
        fun i hi => by rw [lenA_tab] at hi; rw [getD_map_range _ _ _ hi, nth_tab _ _ _ _ hi, Nat.zero_add]; exact (h i (by omega)).weak)
  · rename_i b off hag
    split at hk
    case h_3 => exact (not_bad hk).elim
    case h_2 =>
      rename_i e u x hb
      split at hk
      case h_2 => exact (not_bad hk).elim
      have hn : off + (tyi T t).sz ≤ x.length := Nat.le_of_ble_eq_true (AllT.cons.1 hk).1
      cases ha with
      | ref _ _ _ l h =>
        have hB := bk_of hM h
        rw [hb] at hB
        obtain ⟨vs, h1, h2, h3⟩ := hB
        exact mkV (load_agg hT hag (fun j => vs.getD (off + j) Go.undef) fun j hj => blk_cell h1 (by omega)) (.agg _ _ _ (by rw [lenA_tab]; simp) (fun i hi => by rw [lenA_tab] at hi; rw [getD_map_range _ _ _ hi]; exact (h3 _ (by omega)).1)
          fun i hi => by rw [lenA_tab] at hi; rw [getD_map_range _ _ _ hi, nth_tab _ _ _ _ hi, Nat.zero_add]; exact (h3 _ (by omega)).2.weak)
    rename_i e cs hb
    split at hk
    case h_2 => exact (not_bad hk).elim
    rename_i hn
    have hn := Nat.le_of_ble_eq_true hn
    cases ha with
    | ref _ _ _ l h =>
      have hB := bk_of hM h
      rw [hb] at hB
      obtain ⟨vs, h1, h2, h3, h4⟩ := hB
      have e : lenA (takeN (tyi T t).sz (dropN off cs)) = (tyi T t).sz := lenA_take _ _ (by rw [lenA_drop]; omega)
      exact mkV (load_agg hT hag (fun j => vs.getD (off + j) Go.undef) fun j hj => blk_cell h1 (by omega)) (.agg _ _ _ (by rw [e]; simp) (fun i hi => by rw [e] at hi; rw [getD_map_range _ _ _ hi]; exact h3 _ (by omega))
        fun i hi => by rw [e] at hi; rw [getD_map_range _ _ _ hi, nth_take_drop _ _ _ _ hi]; exact h4 _ (by omega))
  · rename_i b i off hag
    split at hk
    case h_3 => exact (not_bad hk).elim
    case h_2 =>
      rename_i e u x hb
      split at hk
      case h_2 => exact (not_bad hk).elim
      rename_i hn
      have hn := Nat.le_of_ble_eq_true hn
      cases ha with
      | eref _ _ _ _ l h hr =>
        have hB := bk_of hM h
        rw [hb] at hB
        obtain ⟨k0, k1, h2, h3, vs, h4, h5, h6⟩ := hB
        have e : lenA (takeN (tyi T t).sz (dropN off (rowT u x i))) = (tyi T t).sz := lenA_take _ _ (by rw [lenA_drop, lenA_rowT]; omega)
        rw [← k0] at hn h5 h6; rw [← k1] at h2 h6
        have hlim : ∀ j, j < (tyi T t).sz → i * l.sz + off + j < vs.size := fun j hj => by
          have := eref_lt (off := off) (k := j + 1) hr (show off + (j + 1) ≤ l.sz by omega)
          have h8 : l.n * l.sz ≤ l.cap * l.sz := Nat.mul_le_mul_right _ h2
          omega
        exact mkV (load_agg hT hag (fun j => vs.getD (i * l.sz + off + j) Go.undef) fun j hj => blk_cell h4 (hlim j hj)) (.agg _ _ _ (by rw [e]; simp)
          (fun j hj => by rw [e] at hj; rw [getD_map_range _ _ _ hj, Nat.add_assoc]; exact (h6 i hr (off + j) (by omega)).1)
          fun j hj => by rw [e] at hj; rw [getD_map_range _ _ _ hj, nth_take_drop _ _ _ _ hj, Nat.add_assoc]; exact (h6 i hr (off + j) (by omega)).2.weak)
    rename_i e sz n c hb
    split at hk
    case h_2 => exact (not_bad hk).elim
    rename_i hn
    have hn := Nat.le_of_ble_eq_true hn
    cases ha with
    | eref _ _ _ _ l h hr =>
      have hB := bk_of hM h
      rw [hb] at hB
      obtain ⟨rfl, rfl, h2, h3, vs, h4, h5, h6⟩ := hB
      have hlim : ∀ j, j < (tyi T t).sz → i * l.sz + off + j < vs.size := fun j hj => by
        have := eref_lt (off := off) (k := j + 1) hr (show off + (j + 1) ≤ l.sz by omega)
        have h8 : l.n * l.sz ≤ l.cap * l.sz := Nat.mul_le_mul_right _ h2
        omega
      exact mkV (load_agg hT hag (fun j => vs.getD (i * l.sz + off + j) Go.undef) fun j hj => blk_cell h4 (hlim j hj)) (.agg _ _ _ (by rw [lenA_tab]; simp)
        (fun j hj => by rw [lenA_tab] at hj; rw [getD_map_range _ _ _ hj, Nat.add_assoc]; exact (h6 i hr (off + j) (by omega)).1)
        fun j hj => by rw [lenA_tab] at hj; rw [getD_map_range _ _ _ hj, nth_tab _ _ _ _ hj, Nat.add_assoc]; exact (h6 i hr (off + j) (by omega)).2.weak)
  · rename_i hag
    split at hk
    · rename_i n c hd
      split at hk
      case h_2 => exact (not_bad hk).elim
      rename_i hn
      have hn := Nat.le_of_ble_eq_true hn
      cases ha with
      | cptr _ b o _ _ f hs hc h =>
        exact mkV (load_cell hT hag (isOther_ne hd) (by simpa using (hc 0 (by omega)).1)) (h 0 (by omega)).weak
    · rename_i k cs hd
      split at hk
      case h_2 => exact (not_bad hk).elim
      cases ha with
      | lst1 _ b o _ _ f hs hi hc h =>
        exact mkV (load_cell hT hag (isOther_ne hd) (hc k hi).1) (h k hi)
    · rename_i b off hd
      split at hk
      case h_3 => exact (not_bad hk).elim
      case h_2 =>
        rename_i e u x hb
        split at hk
        case h_2 => exact (not_bad hk).elim
        have hn : off + 1 ≤ x.length := Nat.le_of_ble_eq_true (AllT.cons.1 hk).1
        cases ha with
        | ref _ _ _ l h =>
          have hB := bk_of hM h
          rw [hb] at hB
          obtain ⟨vs, h1, h2, h3⟩ := hB
          exact mkV (load_cell hT hag (isOther_ne hd) (blk_cell h1 (by omega))) (h3 _ (by omega)).2.weak
      rename_i e cs hb
      split at hk
      case h_2 => exact (not_bad hk).elim
      rename_i hn
      have hn := Nat.le_of_ble_eq_true hn
      cases ha with
      | ref _ _ _ l h =>
        have hB := bk_of hM h
        rw [hb] at hB
        obtain ⟨vs, h1, h2, h3, h4⟩ := hB
        exact mkV (load_cell hT hag (isOther_ne hd) (blk_cell h1 (by omega))) (h4 _ (by omega))
    · rename_i b i off hd
      split at hk
      case h_3 => exact (not_bad hk).elim
      case h_2 =>
        rename_i e u x hb
        split at hk
        case h_2 => exact (not_bad hk).elim
        rename_i hn
        have hn := Nat.le_of_ble_eq_true hn
        cases ha with
        | eref _ _ _ _ l h hr =>
          have hB := bk_of hM h
          rw [hb] at hB
          obtain ⟨k0, k1, h2, h3, vs, h4, h5, h6⟩ := hB
          rw [← k0] at hn h5 h6; rw [← k1] at h2 h6
          have hlim : i * l.sz + off < vs.size := by
            have := eref_lt (off := off) (k := 1) hr hn
            have h8 : l.n * l.sz ≤ l.cap * l.sz := Nat.mul_le_mul_right _ h2
            omega
          exact mkV (load_cell hT hag (isOther_ne hd) (blk_cell h4 hlim)) (h6 i hr off (by omega)).2.weak
      rename_i e sz n c hb
      split at hk
      case h_2 => exact (not_bad hk).elim
      rename_i hn
      have hn := Nat.le_of_ble_eq_true hn
      cases ha with
      | eref _ _ _ _ l h hr =>
        have hB := bk_of hM h
        rw [hb] at hB
        obtain ⟨rfl, rfl, h2, h3, vs, h4, h5, h6⟩ := hB
        have hlim : i * l.sz + off < vs.size := by
          have := eref_lt (off := off) (k := 1) hr hn
          have h8 : l.n * l.sz ≤ l.cap * l.sz := Nat.mul_le_mul_right _ h2
          omega
        exact mkV (load_cell hT hag (isOther_ne hd) (blk_cell h4 hlim)) (h6 i hr off (by omega)).2.weak
    · exact (not_bad hk).elim
  · exact (not_bad hk).elim

theorem aLoad_mem (t : Nat) (x : AV) : (aLoad T M t x).m = M ∧ (aLoad T M t x).inv = none := by
  unfold aLoad
  repeat' split
  all_goals exact ⟨rfl, rfl⟩

theorem aLoad_ok (hT : TabOk P T) (hM : MRel base w S m M) (t : TypeId) {v : Value} {a : AV} (ha : Rel w S m v a) (hk : AllT (aLoad T M t a).ks) : Res base w S m P (aLoad T M t a) (Instr.loadAt t v) := by
  obtain ⟨u, h1, h2⟩ := aLoad_okV hT hM t ha hk
  obtain ⟨e1, e2⟩ := aLoad_mem (T := T) (M := M) t a
  exact ⟨u, w, S, m, h1, by rw [e2]; exact .refl _ _ _ _, by rw [e1]; exact hM, h2⟩

theorem lenA_putL (cs : List AV) (off : Nat) (l : List AV) : lenA (putL cs off l) = lenA cs := by
  induction l generalizing cs off with
  | nil => rfl
  | cons v l ih => simp only [putL]; rw [ih, lenA_put]
theorem lenA_cons (v : AV) (l : List AV) : lenA (v :: l) = lenA l + 1 := rfl
theorem nth_putL (cs : List AV) (off : Nat) (l : List AV) (i : Nat) (h : off + lenA l ≤ lenA cs) : nth (putL cs off l) i = if off ≤ i ∧ i < off + lenA l then nth l (i - off) else nth cs i := by
  induction l generalizing cs off with
  | nil => rw [if_neg (by simp [lenA])]; rfl
  | cons v l ih =>
    rw [lenA_cons] at h
    show nth (putL (put cs off v) (off + 1) l) i = _
    rw [ih _ _ (by rw [lenA_put]; omega), nth_put]
    by_cases h1 : off = i
    · subst h1
      rw [if_neg (by omega), if_pos ⟨rfl, by omega⟩, if_pos (by rw [lenA_cons]; omega)]
      simp [nth]
    · by_cases h2 : off + 1 ≤ i ∧ i < off + 1 + lenA l
      · rw [if_pos h2, if_pos (by rw [lenA_cons]; omega)]
        obtain ⟨j, rfl⟩ : ∃ j, i = off + 1 + j := ⟨i - (off + 1), by omega⟩
        rw [show off + 1 + j - (off + 1) = j from by omega, show off + 1 + j - off = j + 1 from by omega]
        rfl
      · rw [if_neg h2, if_neg (fun x => h1 x.1), if_neg (by rw [lenA_cons]; omega)]

def seg (vs : Array Value) (off : Nat) (cs : List Value) : Array Value := (vs.toList.take off ++ cs ++ vs.toList.drop (off + cs.length)).toArray
theorem seg_size (vs : Array Value) (off : Nat) (cs : List Value) (h : off + cs.length ≤ vs.size) : (seg vs off cs).size = vs.size := by
  simp [seg]; omega
theorem seg_getD (vs : Array Value) (off : Nat) (cs : List Value) (h : off + cs.length ≤ vs.size) (i : Nat) :
    (seg vs off cs).getD i Go.undef = if off ≤ i ∧ i < off + cs.length then cs.getD (i - off) Go.undef else vs.getD i Go.undef := by
  have h0 : (vs.toList.take off).length = off := by simp; omega
  simp only [seg, Array.getD_eq_getD_getElem?, List.getElem?_toArray, List.getD]
  rw [List.append_assoc, List.getElem?_append]
  rw [h0]
  by_cases h1 : i < off
  · rw [if_pos h1, if_neg (by omega)]
    rw [List.getElem?_take_of_lt h1]; simp
  · rw [if_neg h1, List.getElem?_append]
    by_cases h2 : i - off < cs.length
    · rw [if_pos h2, if_pos (by omega)]
    · rw [if_neg h2, if_neg (by omega), List.getElem?_drop]
      rw [show off + cs.length + (i - off - cs.length) = i from by omega]
      simp

theorem setRow_below (g : Nat) (cs : Array Value) (hg : ¬ base.Z g) : Prot base.Z w (w.setRow g cs) :=
  ⟨rfl, rfl, rfl, by simp, fun k hk => setRow_other w g k _ (fun e => hg (e ▸ hk))⟩

theorem toList_getD (vs : Array Value) (i : Nat) : vs.toList.getD i Go.undef = vs.getD i Go.undef := by simp [List.getD]

theorem mem_getD {vs : Array Value} {v : Value} (h : v ∈ vs.toList) : ∃ i, i < vs.size ∧ vs.getD i Go.undef = v := by
  obtain ⟨i, hi, rfl⟩ := List.getElem_of_mem h
  have hi' : i < vs.size := by simpa using hi
  exact ⟨i, hi', by simp [hi']⟩

/-- What a store comes to. -/
def ResU (base : Env) (w : World) (S : Nat → Prop) (m : Locs) (P : Program) (r : R) (x : Sem Unit) : Prop :=
  ∃ w' S' m', x.run P w = .ok () w' ∧ Trans base w S m w' S' m' r.inv ∧ MRel base w' S' m' (r.m) ∧ r.v = .undef

/-- No cell of a row is frozen. -/
def FzOk (fz : Nat × Nat) (n : Nat) : Prop := fz = (0, 0) ∨ n ≤ fz.1
theorem Loc.fzOk {l : Loc} {n : Nat} (h : n = l.cap * l.sz) : FzOk l.fz n := by
  unfold Loc.fz
  cases l.st
  · exact .inl rfl
  · exact .inr (by rw [h]; exact Nat.le_refl _)
theorem FzOk.free {fz : Nat × Nat} {n k : Nat} (h : FzOk fz n) (hk : k < n) {g : Nat} {cur : Array Value} {t : TypeId} (hg : w.heap[g]? = some (.cells cur t fz)) : w.frozen? ⟨g, k, none⟩ = false := by
  obtain ⟨lo, hi⟩ := fz
  rcases h with h | h
  · cases h; simp [World.frozen?, hg]
  · have h : n ≤ lo := h
    have : ¬ lo ≤ k := by omega
    simp [World.frozen?, hg, this]
theorem run_storeRow (P : Program) (g o : Nat) (t : TypeId) {fz : Nat × Nat} : ∀ (l : List Value) (i : Nat) (cur : Array Value) (w : World), FzOk fz cur.size → w.heap[g]? = some (.cells cur t fz) → o + i + l.length ≤ cur.size → (∀ v ∈ l, v.oneCell' = true) →
    (storeCells ⟨g, o, none⟩ l i).run P w = .ok () (w.setRow g (cur.toList.take (o + i) ++ l ++ cur.toList.drop (o + i + l.length)).toArray) := by
  intro l
  induction l with
  | nil =>
    intro i cur w _ hg _ _
    simp only [storeCells, List.append_nil, List.length_nil, Nat.add_zero, List.take_append_drop, Array.toArray_toList, setRow_self w g cur t fz hg]
    rfl
  | cons v rest ih =>
    intro i cur w hf hg hl h1
    have hi : o + i < cur.size := by simp at hl; omega
    have hadd : (⟨g, o, none⟩ : Addr).add i = ⟨g, o + i, none⟩ := by unfold Addr.add; split <;> simp_all
    have hcell : w.cell? ⟨g, o + i, none⟩ = some cur[o + i] := by simp [World.cell?, hg, hi]
    have hst : (store ((⟨g, o, none⟩ : Addr).add i) v).run P w = .ok () (w.setRow g (cur.setIfInBounds (o + i) v)) := by
      rw [hadd, run_store P w _ v _ (h1 v (by simp)), hcell]
      simp [hf.free hi hg, setCell_eq_setRow w g (o + i) cur t fz v hg]
    have h := ih (i + 1) (cur.setIfInBounds (o + i) v) (w.setRow g (cur.setIfInBounds (o + i) v)) (by simpa using hf) (setRow_heap w g cur _ t _ hg) (by simp at hl ⊢; omega) fun x hx => h1 x (by simp [hx])
    simp only [storeCells, Sem.run_bind, hst, Result.andThen_ok, h, setRow_setRow]
    congr 3
    simpa [Array.toList_setIfInBounds, Nat.add_assoc] using list_seg_step cur.toList (o + i) v rest (by simp at hl ⊢; omega)

theorem run_storeAt (hT : TabOk P T) {t : Nat} (hsz : 1 ≤ (tyi T t).sz) {g o : Nat} {vs : Array Value} {e : TypeId} {fz : Nat × Nat} (hfz : FzOk fz vs.size) (hg : w.heap[g]? = some (.cells vs e fz)) {v : Value} (hv : v.cells.size = (tyi T t).sz)
    (hone : ∀ i, i < v.cells.size → (v.cells.getD i Go.undef).oneCell' = true) (hfit : o + (tyi T t).sz ≤ vs.size) :
    (Instr.storeAt t (.pointer (some ⟨g, o, none⟩)) v).run P w = .ok () (w.setRow g (seg vs o v.cells.toList)) := by
  obtain ⟨d, i, z, f⟩ := hT.of_sz hsz
  have hst := run_storeRow P g o e v.cells.toList 0 vs w hfz hg (by simp; omega) (fun u hu => by obtain ⟨i, hi, rfl⟩ := mem_getD hu; exact hone i hi)
  simp only [Nat.add_zero] at hst
  rw [f.sz] at hv
  simp [Instr.storeAt, Instr.sureAddr, storeVar, sizeOf, typeInfo, f.info, hv, hst, seg]

theorem allOutside_nth {cs : List AV} (h : allOutside cs = true) {i : Nat} (hi : i < lenA cs) : outside (nth cs i) = true := by
  induction cs generalizing i with
  | nil => simp [lenA] at hi
  | cons a l ih =>
    simp only [allOutside] at h
    split at h
    · cases i with
      | zero => assumption
      | succ i => exact ih h (by simp [lenA] at hi; omega)
    · simp at h

/-- What lies outside says nothing of the call's own memory. -/
theorem Rel.out {v : Value} {a : AV} (h : Rel w S m v a) (ho : outside a = true) (m' : Locs) : Rel w S m' v a := by
  cases h with
  | undef => exact .undef _ _
  | int _ k n h => exact .int _ _ _ h
  | bool => exact .bool _ _
  | str _ s h => exact .str _ _ h
  | nilptr => exact .nilptr _
  | cptr _ b o n c f hs hc h => exact .cptr _ _ _ _ _ _ hs hc h
  | slice _ b o sz n cap full c f hs hn hcap hf hc h => exact .slice _ _ _ _ _ _ _ _ _ hs hn hcap hf hc h
  | slice0 _ a cap sz full c hcap hf => exact .slice0 _ _ _ _ _ _ hcap hf
  | tsl _ t l f _ h => exact .tsl _ _ _ _ _ (h.slice_m _)
  | nilsl => exact .nilsl _
  | emp _ a => exact .emp _ _
  | clo _ id fs cs as0 bs hl0 hl h0 h => exact .clo _ _ _ _ _ _ hl0 hl h0 h
  | nilfn => exact .nilfn _
  | mv _ b es ck t u x hs hg hl h1 h2 hok => exact .mv _ _ _ _ _ _ _ hs hg hl h1 h2 hok
  | mv0 => exact .mv0 _
  | nilmap => exact .nilmap _
  | niliface => exact .niliface _
  | _ => simp [outside] at ho

theorem Rel.plainV {v : Value} {a : AV} (h : Rel w S m v a) (ho : Eng.plainV a = true) (m' : Locs) : Rel w S m' v a := by
  cases a with
  | agg cs =>
    cases h with
    | agg _ vs _ hl h1 h => exact .agg _ _ _ hl h1 fun i hi => (h i hi).out (allOutside_nth ho hi) _
  | _ => exact h.out ho _
theorem allPlain_nth {cs : List AV} (h : allPlain cs = true) {i : Nat} (hi : i < lenA cs) : Eng.plainV (nth cs i) = true := by
  induction cs generalizing i with
  | nil => simp [lenA] at hi
  | cons a l ih =>
    simp only [allPlain] at h
    split at h
    · cases i with
      | zero => assumption
      | succ i => exact ih h (by simp [lenA] at hi; omega)
    · simp at h


theorem heap_lt {g : Nat} {o : Obj} (h : w.heap[g]? = some o) : g < w.heap.size := (Array.getElem?_eq_some_iff.1 h).1

theorem aStore_ok0 (hT : TabOk P T) (hM : MRel base w S m M) (t : TypeId) {va vv : Value} {a v : AV} (ha : Rel w S m va a) (hv : Rel w S m vv v) (hk : AllT (aStore T M t a v).ks)
    (hty : ∀ b i off e u x, a = .eref b i off → blk M b = .trows e u x → False) :
    ResU base w S m P (aStore T M t a v) (Instr.storeAt t va vv) := by
  unfold aStore at hk ⊢
  split at hk
  · rename_i b off h1 h2 h3
    have h1 := Nat.le_of_ble_eq_true h1
    have h2 := Nat.eq_of_beq_eq_true h2
    obtain ⟨c1, c2, c3⟩ := hv.cells h3
    split at hk
    case h_3 => exact (not_bad hk).elim
    case h_2 =>
      rename_i e u x hb
      split at hk
      case h_2 => exact (not_bad hk).elim
      rename_i y g1 g2 g3 g4
      have g1 := Nat.eq_of_beq_eq_true g1
      have g2 := Nat.eq_of_beq_eq_true g2
      have hn : off + 1 ≤ x.length := Nat.le_of_ble_eq_true (AllT.cons.1 hk).1
      obtain ⟨r1, r2⟩ := rdE_ok g4
      cases ha with
      | ref _ _ _ l h =>
        have hB := bk_of hM h
        rw [hb] at hB
        obtain ⟨vs, e1, e2, e3⟩ := hB
        have hlen : vv.cells.toList.length = lenA (cellsOf v) := by simpa using c1
        have hseg : off + vv.cells.toList.length ≤ vs.size := by omega
        have hl := hM.lt _ _ h
        have hst : ∀ b, b < w.heap.size → b ≠ l.g → (w.setRow l.g (seg vs off vv.cells.toList)).heap[b]? = w.heap[b]? := fun b _ hne => setRow_other w l.g b _ hne
        have hS : ∀ b, S b → (w.setRow l.g (seg vs off vv.cells.toList)).heap[b]? = w.heap[b]? := fun b hb => hst b (hM.sb b hb) (fun e => hl.2.2 (e ▸ hb))
        obtain ⟨ht, hm'⟩ := hM.turn b l h (.arr e u (x.set off y)) (fun h => by rw [hb] at h; cases h) (setRow_below l.g _ hl.1) hst
          ⟨seg vs off vv.cells.toList, setRow_heap w l.g vs _ e _ e1, by rw [seg_size _ _ _ hseg, List.length_set]; exact e2,
            fun i hi => by
              rw [List.length_set] at hi
              rw [seg_getD _ _ _ hseg, hlen]
              by_cases hin : off ≤ i ∧ i < off + lenA (cellsOf v)
              · rw [if_pos hin]
                obtain rfl : i = off := by omega
                rw [Nat.sub_self, toList_getD]
                have ev : vw u (x.set i y) i 0 = nth (cellsT u y) 0 := by
                  show nth (cellsT u ((x.set i y).getD i (dfl u))) 0 = _
                  rw [List.getD, List.getElem?_set_self hi]; rfl
                refine ⟨c2 _ (by omega), ?_⟩
                rw [ev]
                exact r2 0 (by omega) _ _ _ _ (((c3 _ (by omega)).out (allOutside_nth g3 (by omega)) []).mono (fun _ h => h) hS _ (fun _ _ h => h))
              · rw [if_neg hin]
                have hne : i ≠ off := fun e => hin (by omega)
                have ev : vw u (x.set off y) i 0 = vw u x i 0 := by
                  show nth (cellsT u ((x.set off y).getD i (dfl u))) 0 = nth (cellsT u (x.getD i (dfl u))) 0
                  rw [List.getD, List.getElem?_set_ne (Ne.symm hne)]; rfl
                rw [ev]
                exact ⟨(e3 i hi).1, (e3 i hi).2.mono (fun _ h => h) hS _ (fun _ _ h => h)⟩⟩
        exact ⟨_, _, _, run_storeAt hT h1 (.inl rfl) e1 (by omega) (fun i hi => c2 i (by omega)) (by omega), ht, hm', rfl⟩
    rename_i e old hb
    split at hk
    case h_2 => exact (not_bad hk).elim
    rename_i hn
    have hn := Nat.le_of_ble_eq_true hn
    cases ha with
    | ref _ _ _ l h =>
      have hB := bk_of hM h
      rw [hb] at hB
      obtain ⟨vs, e1, e2, e3, e4⟩ := hB
      have hlen : vv.cells.toList.length = lenA (cellsOf v) := by simpa using c1
      have hseg : off + vv.cells.toList.length ≤ vs.size := by omega
      have hl := hM.lt _ _ h
      have hst : ∀ b, b < w.heap.size → b ≠ l.g → (w.setRow l.g (seg vs off vv.cells.toList)).heap[b]? = w.heap[b]? := fun b _ hne => setRow_other w l.g b _ hne
      have hS : ∀ b, S b → (w.setRow l.g (seg vs off vv.cells.toList)).heap[b]? = w.heap[b]? := fun b hb => hst b (hM.sb b hb) (fun e => hl.2.2 (e ▸ hb))
      obtain ⟨ht, hm'⟩ := hM.turn b l h (.cells e (putL old off (cellsOf v))) (fun _ => rfl) (setRow_below l.g _ hl.1) hst
        ⟨seg vs off vv.cells.toList, setRow_heap w l.g vs _ e _ e1, by rw [seg_size _ _ _ hseg, lenA_putL]; exact e2,
          fun i hi => by
            rw [lenA_putL] at hi
            rw [seg_getD _ _ _ hseg, hlen]
            split
            · rw [toList_getD]; exact c2 _ (by omega)
            · exact e3 _ hi,
          fun i hi => by
            rw [lenA_putL] at hi
            rw [seg_getD _ _ _ hseg, hlen, nth_putL _ _ _ _ (by omega)]
            split
            · rw [toList_getD]; exact (c3 _ (by omega)).mono (fun _ h => h) hS _ (fun _ _ h => h)
            · exact (e4 _ hi).mono (fun _ h => h) hS _ (fun _ _ h => h)⟩
      exact ⟨_, _, _, run_storeAt hT h1 (.inl rfl) e1 (by omega) (fun i hi => c2 i (by omega)) (by omega), ht, hm', rfl⟩
  · rename_i b i off h1 h2 h3
    have h1 := Nat.le_of_ble_eq_true h1
    have h2 := Nat.eq_of_beq_eq_true h2
    obtain ⟨c1, c2, c3⟩ := hv.cells h3
    split at hk
    case h_3 => exact (not_bad hk).elim
    case h_2 =>
      rename_i e u x hb hout
      split at hk
      case h_2 => exact (not_bad hk).elim
      rename_i y hn hrd
      exact (hty b i off e u x rfl hb).elim
    rename_i e sz n c hb hout
    split at hk
    case h_2 => exact (not_bad hk).elim
    rename_i hn
    have hn := Nat.le_of_ble_eq_true hn
    cases ha with
    | eref _ _ _ _ l h hr =>
      have hB := bk_of hM h
      rw [hb] at hB
      obtain ⟨rfl, rfl, k2, k3, vs, e1, e2, e3⟩ := hB
      have hlen : vv.cells.toList.length = lenA (cellsOf v) := by simpa using c1
      have hlim := eref_lt (off := off) (k := (tyi T t).sz) hr hn
      have h8 : l.n * l.sz ≤ l.cap * l.sz := Nat.mul_le_mul_right _ k2
      have hseg : (i * l.sz + off) + vv.cells.toList.length ≤ vs.size := by omega
      have hl := hM.lt _ _ h
      have hst : ∀ b, b < w.heap.size → b ≠ l.g → (w.setRow l.g (seg vs (i * l.sz + off) vv.cells.toList)).heap[b]? = w.heap[b]? := fun b _ hne => setRow_other w l.g b _ hne
      have hS : ∀ b, S b → (w.setRow l.g (seg vs (i * l.sz + off) vv.cells.toList)).heap[b]? = w.heap[b]? := fun b hb => hst b (hM.sb b hb) (fun e => hl.2.2 (e ▸ hb))
      have hpos : ∀ r j, j < l.sz → ((i * l.sz + off ≤ r * l.sz + j ∧ r * l.sz + j < i * l.sz + off + lenA (cellsOf v)) ↔ (r = i ∧ off ≤ j ∧ j < off + (tyi T t).sz)) := fun r j hj => by
        constructor
        · rintro ⟨a1, a2⟩
          have hri : r = i := by
            rcases Nat.lt_trichotomy r i with hlt | heq | hgt
            · have : (r + 1) * l.sz ≤ i * l.sz := Nat.mul_le_mul_right _ hlt
              rw [Nat.add_mul] at this; omega
            · exact heq
            · have : (i + 1) * l.sz ≤ r * l.sz := Nat.mul_le_mul_right _ hgt
              rw [Nat.add_mul] at this; omega
          subst hri
          exact ⟨rfl, by omega, by omega⟩
        · rintro ⟨rfl, a1, a2⟩; omega
      obtain ⟨ht, hm'⟩ := hM.turn b l h (.rows e l.sz l.n (rowPut c i off (tyi T t).sz (cellsOf v))) (fun h => by rw [hb] at h; cases h) (setRow_below l.g _ hl.1) hst
        ⟨rfl, rfl, k2, k3, seg vs (i * l.sz + off) vv.cells.toList, setRow_heap w l.g vs _ e _ e1, by rw [seg_size _ _ _ hseg]; exact e2,
          fun r hr' j hj => by
            rw [seg_getD _ _ _ hseg, hlen]
            simp only [rowPut]
            by_cases hin : r = i ∧ off ≤ j ∧ j < off + (tyi T t).sz
            · rw [if_pos ((hpos r j hj).2 hin), if_pos hin.1, if_pos hin.2, toList_getD]
              obtain ⟨rfl, a1, a2⟩ := hin
              rw [show r * l.sz + j - (r * l.sz + off) = j - off from by omega]
              exact ⟨c2 _ (by omega), ((c3 _ (by omega)).out (allOutside_nth hout (by omega)) []).mono (fun _ h => h) hS _ (fun _ _ h => h)⟩
            · rw [if_neg (fun x => hin ((hpos r j hj).1 x))]
              have e4 := e3 r hr' j hj
              have e5 : (if r = i then (if off ≤ j ∧ j < off + (tyi T t).sz then nth (cellsOf v) (j - off) else c r j) else c r j) = c r j := by
                split
                · rename_i hri; rw [if_neg (fun x => hin ⟨hri, x⟩)]
                · rfl
              rw [e5]
              exact ⟨e4.1, e4.2.mono (fun _ h => h) hS _ (fun _ _ h => h)⟩⟩
      exact ⟨_, _, _, run_storeAt hT h1 (Loc.fzOk e2) e1 (by omega) (fun i hi => c2 i (by omega)) (by omega), ht, hm', rfl⟩
  · exact (not_bad hk).elim

theorem aStore_ok (hT : TabOk P T) (hM : MRel base w S m M) (t : TypeId) {va vv : Value} {a v : AV} (ha : Rel w S m va a) (hv : Rel w S m vv v) (hk : AllT (aStore T M t a v).ks) :
    ResU base w S m P (aStore T M t a v) (Instr.storeAt t va vv) := by
  by_cases hty : ∃ b i off e u x, a = .eref b i off ∧ blk M b = .trows e u x
  · obtain ⟨b, i, off, e, u, x, rfl, hb⟩ := hty
    have h0 := aStore_ok0 (M := unM M) hT hM.un t ha hv
    have hbu : blk (unM M) b = .rows e (szT u) x.length (vw u x) := by rw [blk_un, hb]; rfl
    unfold aStore at h0 hk ⊢
    split at hk
    · cases ‹AV.eref _ _ _ = AV.ref _ _›
    · rename_i b' i' off' h1 h2 h3 heq
      injection heq with e1 e2 e3; subst e1 e2 e3
      simp only [h1, h2, h3, hb, hbu] at h0 hk ⊢
      cases hout : allOutside (cellsOf v) with
      | false => simp only [hout] at hk; exact (not_bad hk).elim
      | true =>
        simp only [hout] at h0 hk ⊢
        cases hn : Nat.ble (off + (tyi T t).sz) (szT u) with
        | false => simp only [hn] at hk; exact (not_bad hk).elim
        | true =>
          cases hrd : rdE u (putL (rowT u x i) off (cellsOf v)) with
          | none => simp only [hn, hrd] at hk; exact (not_bad hk).elim
          | some y =>
            simp only [hn] at h0 ⊢
            obtain ⟨w', S', m', q1, q2, q3, q4⟩ := h0 trivial (fun b i off e u x h1 h2 => by rw [blk_un] at h2; cases hB : blk M b <;> rw [hB] at h2 <;> cases h2)
            obtain ⟨r1, r2⟩ := rdE_ok hrd
            have hn' := Nat.le_of_ble_eq_true hn
            have hlen := Nat.eq_of_beq_eq_true h2
            refine ⟨w', S', m', q1, q2, ?_, rfl⟩
            rw [blk_un_set _ _ _ rfl] at q3
            refine q3.to ?_ (fun j l _ hB => ?_) (fun j hc => ?_)
            · simp only [lenM_un, lenM_set]
            · simp only [blk_un, blk_set] at hB ⊢
              split
              · rename_i hj
                rw [if_pos hj] at hB
                refine BRel.typed hB rfl (by simp) (fun r hr j hj => ?_)
                rw [vw_set _ _ _ _ _ _ hr]
                unfold rowPut
                split
                · rename_i hri
                  subst hri
                  rw [if_pos rfl]
                  have := r2 j hj
                  rw [nth_putL _ _ _ _ (by rw [lenA_rowT]; omega), hlen] at this
                  exact this
                · rename_i hri
                  rw [if_neg (fun e => hri e.symm)]
                  exact Le.refl _
              · rename_i hj
                rw [if_neg hj] at hB
                exact BRel.un.1 hB
            · simp only [blk_un, blk_set] at hc ⊢
              split
              · rename_i hj; rw [if_pos hj] at hc; cases hc
              · rename_i hj; rw [if_neg hj, isCells_un] at hc; exact hc
    · exact (not_bad hk).elim
  · exact aStore_ok0 hT hM t ha hv hk fun b i off e u x h1 h2 => hty ⟨b, i, off, e, u, x, h1, h2⟩

end Go.Eng
