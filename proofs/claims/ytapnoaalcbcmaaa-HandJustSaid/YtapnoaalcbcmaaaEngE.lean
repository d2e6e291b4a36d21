/- The operations of the abstract machine are sound: slices, strings, the builtins. -/
import Derived.Test.YtapnoaalcbcmaaaEngD
namespace Go.Eng
open Go Go.RowKit

variable {P : Program} {T : Tab} {base : Env} {w : World} {S : Nat → Prop} {m : Locs} {M : Mem}

theorem aUn_ok (hM : MRel base w S m M) (op : UnOp) {v : Value} {a : AV} (ha : Rel w S m v a) (hk : AllT (aUn std M op a).ks) : Res base w S m P (aUn std M op a) (Op.unary op v) := by
  unfold aUn at hk ⊢
  split at hk
  · cases ha; exact .val hM (v := .bool _) rfl (.bool _ _)
  · cases ha; exact .val hM (v := .int _ _) rfl (.int _ _ _ (wf_wrap _ _))
  · rename_i k n
    cases ha
    refine .val hM (v := .int k (stdArith .xor k (match k.signed with | true => -1 | false => k.max) n)) ?_ (.int _ _ _ (wf_wrap _ _))
    cases k <;> rfl
  · exact (not_bad hk).elim

theorem aConv_ok (hT : TabOk P T) (hM : MRel base w S m M) (s d : TypeId) {v : Value} {a : AV} (ha : Rel w S m v a) (hk : AllT (aConv std T M s d a).ks) : Res base w S m P (aConv std T M s d a) (convert s d v) := by
  unfold aConv at hk ⊢
  split at hk
  · rename_i hs hd
    obtain ⟨_, _, _, f⟩ := hT.of_d hs (by simp)
    obtain ⟨_, _, _, g⟩ := hT.of_d hd (by simp)
    have := f.d; rw [hs] at this; have := td_int this.symm; subst this
    have := g.d; rw [hd] at this; have := td_int this.symm; subst this
    cases ha
    exact .val hM (v := .int _ _) (by simp [convert, run_underlying f.und, run_underlying g.und, Conv.intToInt]; rfl) (.int _ _ _ (wf_wrap _ _))
  · rename_i hs hd
    obtain ⟨_, _, _, f⟩ := hT.of_d hs (by simp)
    obtain ⟨_, _, _, g⟩ := hT.of_d hd (by simp)
    have := f.d; rw [hs] at this; have := td_str this.symm; subst this
    have := g.d; rw [hd] at this; have := td_str this.symm; subst this
    cases ha with
    | str _ _ h => exact .val hM (by simp [convert, run_underlying f.und, run_underlying g.und]) (.str _ _ h)
  · exact (not_bad hk).elim

theorem nthF_map (l : List Field) (f : Nat) {t off : Nat} (h : nthF (l.map fun f => (f.type, f.offset)) f = some (t, off)) : ∃ fd, l[f]? = some fd ∧ fd.type = t ∧ fd.offset = off := by
  induction l generalizing f with
  | nil => simp [nthF] at h
  | cons a l ih => cases f with
    | zero => simp [nthF] at h; exact ⟨a, rfl, h.1, h.2⟩
    | succ f => simpa using ih f (by simpa [nthF] using h)

theorem aFieldAddr_ok (hT : TabOk P T) (hM : MRel base w S m M) (t f : Nat) {v : Value} {a : AV} (ha : Rel w S m v a) (hk : AllT (aFieldAddr T M t a f).ks) :
    Res base w S m P (aFieldAddr T M t a f) (Instr.fieldAt t v f) := by
  unfold aFieldAddr at hk ⊢
  split at hk
  case h_2 => exact (not_bad hk).elim
  rename_i fs htd
  obtain ⟨_, _, _, g⟩ := hT.of_d htd (by simp)
  have hd := g.d; rw [htd] at hd
  obtain ⟨l, rfl, rfl, _⟩ := td_struct hd.symm
  split at hk
  case h_2 => exact (not_bad hk).elim
  rename_i ft off hf
  obtain ⟨fd, hfd, rfl, rfl⟩ := nthF_map l.toList f hf
  have run : ∀ (b o : Nat), 1 ≤ (tyi T fd.type).sz → (Instr.fieldAt t (.pointer (some ⟨b, o, none⟩)) f).run P w = .ok (.pointer (some ⟨b, o + fd.offset, none⟩)) w := fun b o hsz => by
    obtain ⟨_, i, z, g'⟩ := hT.of_sz hsz
    have hne : ¬ i.size = 0 := by have := g'.sz; omega
    have hfd' : l[f]? = some fd := by simpa using hfd
    simp [Instr.fieldAt, run_underlying g.und, hfd', Instr.sureAddr, fieldPlace, sizeOf, typeInfo, g'.info, hne, addr_add]
  split at hk
  · rename_i b o hsz
    cases ha with
    | ref _ _ _ lc h => exact .val hM (run _ _ (Nat.le_of_ble_eq_true hsz)) (.ref _ _ _ lc h)
  · rename_i b i o hsz
    cases ha with
    | eref _ _ _ _ lc h hr => exact .val hM (by rw [run _ _ (Nat.le_of_ble_eq_true hsz), Nat.add_assoc]) (.eref _ _ _ _ lc h hr)
  · rename_i n c hsz
    split at hk
    case h_2 => exact (not_bad hk).elim
    rename_i hoff
    have hoff := Nat.le_of_ble_eq_true hoff
    cases ha with
    | cptr _ b o _ _ g hs hc h =>
      exact .val hM (run _ _ (Nat.le_of_ble_eq_true hsz)) (.cptr _ _ _ _ _ (fun j => g (fd.offset + j)) hs (fun j hj => by rw [Nat.add_assoc]; exact hc _ (by omega)) (fun j hj => h _ (by omega)))
  · exact (not_bad hk).elim

theorem aField_ok (hT : TabOk P T) (hM : MRel base w S m M) (t f : Nat) {v : Value} {a : AV} (ha : Rel w S m v a) (hk : AllT (aField T M t a f).ks) :
    Res base w S m P (aField T M t a f) (Instr.field t v f) := by
  unfold aField at hk ⊢
  split at hk
  case h_2 => exact (not_bad hk).elim
  rename_i fs cs htd
  obtain ⟨_, _, _, g⟩ := hT.of_d htd (by simp)
  have hd := g.d; rw [htd] at hd
  obtain ⟨l, rfl, rfl, _⟩ := td_struct hd.symm
  split at hk
  case h_2 => exact (not_bad hk).elim
  rename_i ft off hf
  obtain ⟨fd, hfd, rfl, rfl⟩ := nthF_map l.toList f hf
  have hfd' : l[f]? = some fd := by simpa using hfd
  have hcell : ∃ vs, v = .agg vs := by cases ha; exact ⟨_, rfl⟩
  obtain ⟨vs, rfl⟩ := hcell
  split at hk
  · rename_i hag
    split at hk
    case h_2 => exact (not_bad hk).elim
    rename_i hsz hn
    obtain ⟨u, hu, hr⟩ := part_agg hT ha hag (Nat.le_of_ble_eq_true hsz) (Nat.le_of_ble_eq_true hn)
    exact .val hM (by simp [Instr.field, run_underlying g.und, hfd', asAgg, hu]) hr
  · rename_i hag
    split at hk
    case h_2 => exact (not_bad hk).elim
    rename_i hd hn
    obtain ⟨hu, hr⟩ := part_cell hT ha hag (isOther_ne hd) (Nat.le_of_ble_eq_true hn)
    exact .val hM (by simp [Instr.field, run_underlying g.und, hfd', asAgg, hu]) hr

theorem litNat_eq {lit : Option Nat} {i : AV} (hlit : ∀ k kk n, lit = some k → i = .int kk n → n = (k : Int)) {k : IntKind} {r : Nat} (h : i = .int k (r : Int)) : litNat std lit (r : Int) = r := by
  cases lit with
  | none => rfl
  | some k' => have := hlit k' k r rfl h; simp only [litNat]; omega

theorem aIndexAddr_ok (hT : TabOk P T) (hM : MRel base w S m M) (t : TypeId) {lit : Option Nat} {vx vi : Value} {x i : AV} (hlit : ∀ k kk n, lit = some k → i = .int kk n → n = (k : Int)) (hx : Rel w S m vx x) (hi : Rel w S m vi i) (hk : AllT (aIndexAddr std T M t lit x i).ks) :
    Res base w S m P (aIndexAddr std T M t lit x i) (Instr.indexAt t vx vi) := by
  unfold aIndexAddr at hk ⊢
  split at hk
  · rename_i e sz n full c k i htd
    obtain ⟨_, _, _, g⟩ := hT.of_d htd (by simp)
    have hd := g.d; rw [htd] at hd
    have := td_slice hd.symm; subst this
    split at hk
    case h_2 => exact (not_bad hk).elim
    rename_i hsz hpos
    have hsz := Nat.eq_of_beq_eq_true hsz
    have hpos := Nat.le_of_ble_eq_true hpos
    obtain ⟨_, ie, ze, ge⟩ := hT.of_sz hpos
    have hin : 0 ≤ i ∧ i < n := by simpa [valIf, AllT, std] using hk
    obtain ⟨r, rfl⟩ := Int.eq_ofNat_of_zero_le hin.1
    cases hi
    have hr : r < n := by omega
    cases hx with
    | slice _ b o _ _ cap _ _ f hs hn hcap hf hc h =>
      refine .val hM (v := .pointer (some ⟨b, o + r * sz, none⟩)) ?_ (.cptr _ _ _ _ _ (f r) hs (fun j hj => hc r hr j hj) (fun j hj => h r hr j hj))
      simp [Instr.indexAt, run_underlying g.und, asIntOf, hr, sizeOf, typeInfo, ge.info, addr_add, ← ge.sz, hsz]
    | slice0 => omega
  · rename_i e u x full k i htd
    obtain ⟨_, _, _, g⟩ := hT.of_d htd (by simp)
    have hd := g.d; rw [htd] at hd
    have := td_slice hd.symm; subst this
    split at hk
    case h_2 => exact (not_bad hk).elim
    rename_i hsz hpos
    have hsz := Nat.eq_of_beq_eq_true hsz
    have hpos := Nat.le_of_ble_eq_true hpos
    obtain ⟨_, ie, ze, ge⟩ := hT.of_sz hpos
    have hin : 0 ≤ i ∧ i < x.length := by simpa [valIf, AllT, std] using hk
    obtain ⟨r, rfl⟩ := Int.eq_ofNat_of_zero_le hin.1
    cases hi
    have hr : r < x.length := by omega
    obtain ⟨a, cap, rfl, hn, hcap, hf, h | ⟨b, o, f, rfl, hs, hc, h⟩⟩ := (Le.un _ _ _ _ hx).slice_inv
    · omega
    · refine .val hM (v := .pointer (some ⟨b, o + r * szT u, none⟩)) ?_ (.cptr _ _ _ _ _ (f r) hs (fun j hj => hc r hr j hj) (fun j hj => h r hr j hj))
      simp [Instr.indexAt, run_underlying g.und, asIntOf, hr, sizeOf, typeInfo, ge.info, addr_add, ← ge.sz, hsz]
  · rename_i e b n k i htd
    obtain ⟨_, _, _, g⟩ := hT.of_d htd (by simp)
    have hd := g.d; rw [htd] at hd
    have := td_slice hd.symm; subst this
    split at hk
    case h_2 => exact (not_bad hk).elim
    rename_i e' sz n' c hb
    split at hk
    case h_2 => exact (not_bad hk).elim
    rename_i hsz hpos
    have hsz := Nat.eq_of_beq_eq_true hsz
    have hpos := Nat.le_of_ble_eq_true hpos
    obtain ⟨_, ie, ze, ge⟩ := hT.of_sz hpos
    have hin : 0 ≤ i ∧ i < n := by simpa [valIf, AllT, std] using hk
    obtain ⟨r, rfl⟩ := Int.eq_ofNat_of_zero_le hin.1
    cases hi
    have hr : r < n := by omega
    cases hx with
    | own0 => omega
    | own _ _ _ l h hn hc =>
      have hB := bk_of hM h
      rw [hb] at hB
      obtain ⟨hlsz, hln, _⟩ := hB
      refine .val hM (v := .pointer (some ⟨l.g, r * l.sz + 0, none⟩)) ?_ (.eref _ _ _ _ l h (by omega))
      simp [Instr.indexAt, run_underlying g.und, asIntOf, hr, sizeOf, typeInfo, ge.info, addr_add, ← ge.sz, hlsz, hsz]
  · rename_i e b k i htd
    obtain ⟨_, _, _, g⟩ := hT.of_d htd (by simp)
    have hd := g.d; rw [htd] at hd
    have := td_slice hd.symm; subst this
    split at hk
    case h_2 => exact (not_bad hk).elim
    rename_i e' u x hb
    split at hk
    case h_2 => exact (not_bad hk).elim
    rename_i hsz hpos
    have hsz := Nat.eq_of_beq_eq_true hsz
    have hpos := Nat.le_of_ble_eq_true hpos
    obtain ⟨_, ie, ze, ge⟩ := hT.of_sz hpos
    have hin : 0 ≤ i ∧ i < x.length := by simpa [valIf, AllT, std] using hk
    obtain ⟨r, rfl⟩ := Int.eq_ofNat_of_zero_le hin.1
    cases hi
    have hr : r < x.length := by omega
    cases hx with
    | ownT0 _ a _ h =>
      have hB := hM.bk _ _ h
      rw [hb] at hB
      have hB : x.length = 0 := hB
      omega
    | ownT _ _ l h hc =>
      have hB := bk_of hM h
      rw [hb] at hB
      obtain ⟨hlsz, hln, _⟩ := hB
      have hr' : r < l.n := by omega
      refine .val hM (v := .pointer (some ⟨l.g, r * l.sz + 0, none⟩)) ?_ (.eref _ _ _ _ l h hr')
      simp [Instr.indexAt, run_underlying g.und, asIntOf, hr', sizeOf, typeInfo, ge.info, addr_add, ← ge.sz, hlsz, hsz]
  · rename_i e b lo n k i htd
    obtain ⟨_, _, _, g⟩ := hT.of_d htd (by simp)
    have hd := g.d; rw [htd] at hd
    have := td_slice hd.symm; subst this
    split at hk
    case h_3 => exact (not_bad hk).elim
    · rename_i e' u x hb
      split at hk
      case h_2 => exact (not_bad hk).elim
      rename_i hsz hpos
      have hsz := Nat.eq_of_beq_eq_true hsz
      have hpos := Nat.le_of_ble_eq_true hpos
      obtain ⟨_, ie, ze, ge⟩ := hT.of_sz hpos
      have hin : 0 ≤ i ∧ i < n := by simpa [valIf, AllT, std] using hk
      obtain ⟨r, rfl⟩ := Int.eq_ofNat_of_zero_le hin.1
      cases hi
      have hr : r < n := by omega
      cases hx with
      | tail _ a _ _ _ cp hn h =>
        obtain ⟨l, h1, rfl, h2⟩ := h (by omega)
        have hB := bk_of hM h1
        rw [hb] at hB
        obtain ⟨hlsz, hln, _⟩ := hB
        refine .val hM (v := .pointer (some ⟨l.g, (lo + r) * l.sz + 0, none⟩)) ?_ (.eref _ _ _ _ l h1 (show lo + r < l.n by omega))
        simp [Instr.indexAt, run_underlying g.und, asIntOf, hr, sizeOf, typeInfo, ge.info, addr_add, ← ge.sz, hlsz, hsz, Nat.add_mul]
    rename_i e' sz n' c hb
    split at hk
    case h_2 => exact (not_bad hk).elim
    rename_i hsz hpos
    have hsz := Nat.eq_of_beq_eq_true hsz
    have hpos := Nat.le_of_ble_eq_true hpos
    obtain ⟨_, ie, ze, ge⟩ := hT.of_sz hpos
    have hin : 0 ≤ i ∧ i < n := by simpa [valIf, AllT, std] using hk
    obtain ⟨r, rfl⟩ := Int.eq_ofNat_of_zero_le hin.1
    cases hi
    have hr : r < n := by omega
    cases hx with
    | tail _ a _ _ _ cp hn h =>
      obtain ⟨l, h1, rfl, h2⟩ := h (by omega)
      have hB := bk_of hM h1
      rw [hb] at hB
      obtain ⟨hlsz, hln, _⟩ := hB
      refine .val hM (v := .pointer (some ⟨l.g, (lo + r) * l.sz + 0, none⟩)) ?_ (.eref _ _ _ _ l h1 (show lo + r < l.n by omega))
      simp [Instr.indexAt, run_underlying g.und, asIntOf, hr, sizeOf, typeInfo, ge.info, addr_add, ← ge.sz, hlsz, hsz, Nat.add_mul]
  · rename_i e cs k i htd
    obtain ⟨_, _, _, g⟩ := hT.of_d htd (by simp)
    have hd := g.d; rw [htd] at hd
    have := td_slice hd.symm; subst this
    split at hk
    case h_2 => exact (not_bad hk).elim
    rename_i q hsz hq0
    have hsz := Nat.eq_of_beq_eq_true hsz
    have hq1 : i = (q : Int) := by
      cases lit with
      | some k' => simp only [litV] at hq0; injection hq0 with hq0; subst hq0; exact hlit _ k i rfl rfl
      | none => cases i with
        | ofNat k' => simp only [litV] at hq0; injection hq0 with hq0; subst hq0; rfl
        | negSucc k' => cases hq0
    subst hq1
    split at hk
    case h_2 => exact (not_bad hk).elim
    rename_i hq
    have hq : q < lenA cs := Nat.blt_eq ▸ hq
    obtain ⟨_, ie, ze, ge⟩ := hT.of_sz (t := e) (by omega)
    cases hi
    cases hx with
    | lst0 _ b o n _ f hs hn hl hc h =>
      refine .val hM (v := .pointer (some ⟨b, o + q, none⟩)) ?_ (.lst1 _ _ _ _ _ f hs hq hc h)
      simp [Instr.indexAt, run_underlying g.und, asIntOf, hl, hq, sizeOf, typeInfo, ge.info, addr_add, ← ge.sz, hsz]
  · rename_i n e b o k i htd
    obtain ⟨_, _, _, g⟩ := hT.of_d htd (by simp)
    have hd := g.d; rw [htd] at hd
    have := td_array hd.symm; subst this
    split at hk
    case h_2 => exact (not_bad hk).elim
    rename_i hpos
    have hpos := Nat.le_of_ble_eq_true hpos
    obtain ⟨_, ie, ze, ge⟩ := hT.of_sz hpos
    have hin : 0 ≤ i ∧ i < n := by simpa [valIf, AllT, std] using hk
    obtain ⟨r, rfl⟩ := Int.eq_ofNat_of_zero_le hin.1
    have hl := litNat_eq hlit (k := k) (r := r) rfl
    simp only [hl, offA_eq]
    cases hi
    have hr : r < n := by omega
    cases hx with
    | ref _ _ _ l h =>
      refine .val hM (v := .pointer (some ⟨l.g, o + r * (tyi T e).sz, none⟩)) ?_ (.ref _ _ _ l h)
      simp [Instr.indexAt, run_underlying g.und, asIntOf, hr, sizeOf, typeInfo, ge.info, addr_add, ge.sz, Instr.sureAddr]
  · rename_i n e b r0 o k i htd
    obtain ⟨_, _, _, g⟩ := hT.of_d htd (by simp)
    have hd := g.d; rw [htd] at hd
    have := td_array hd.symm; subst this
    split at hk
    case h_2 => exact (not_bad hk).elim
    rename_i hpos
    have hpos := Nat.le_of_ble_eq_true hpos
    obtain ⟨_, ie, ze, ge⟩ := hT.of_sz hpos
    have hin : 0 ≤ i ∧ i < n := by simpa [valIf, AllT, std] using hk
    obtain ⟨r, rfl⟩ := Int.eq_ofNat_of_zero_le hin.1
    have hl := litNat_eq hlit (k := k) (r := r) rfl
    simp only [hl]
    cases hi
    have hr : r < n := by omega
    cases hx with
    | eref _ _ _ _ l h hr0 =>
      refine .val hM (v := .pointer (some ⟨l.g, r0 * l.sz + (o + r * (tyi T e).sz), none⟩)) ?_ (.eref _ _ _ _ l h hr0)
      simp [Instr.indexAt, run_underlying g.und, asIntOf, hr, sizeOf, typeInfo, ge.info, addr_add, ge.sz, Instr.sureAddr, Nat.add_assoc]
  · rename_i n e kk c k i htd
    obtain ⟨_, _, _, g⟩ := hT.of_d htd (by simp)
    have hd := g.d; rw [htd] at hd
    have := td_array hd.symm; subst this
    split at hk
    case h_2 => exact (not_bad hk).elim
    rename_i hpos hkk
    have hpos := Nat.le_of_ble_eq_true hpos
    have hkk := Nat.le_of_ble_eq_true hkk
    obtain ⟨_, ie, ze, ge⟩ := hT.of_sz hpos
    have hin : 0 ≤ i ∧ i < n := by simpa [valIf, AllT, std] using hk
    obtain ⟨r, rfl⟩ := Int.eq_ofNat_of_zero_le hin.1
    have hl := litNat_eq hlit (k := k) (r := r) rfl
    simp only [hl]
    cases hi
    have hr : r < n := by omega
    have hle : ∀ j, j < (tyi T e).sz → r * (tyi T e).sz + j < kk := fun j hj => by
      have := eref_lt (off := j) (k := 1) hr (show j + 1 ≤ (tyi T e).sz by omega)
      omega
    cases hx with
    | cptr _ b o _ _ f hs hc h =>
      refine .val hM (v := .pointer (some ⟨b, o + r * (tyi T e).sz, none⟩)) ?_ (.cptr _ _ _ _ _ (fun j => f (r * (tyi T e).sz + j)) hs (fun j hj => ?_) (fun j hj => h _ (hle j hj)))
      · simp [Instr.indexAt, run_underlying g.und, asIntOf, hr, sizeOf, typeInfo, ge.info, addr_add, ge.sz, Instr.sureAddr]
      · have := hc _ (hle j hj); rw [Nat.add_assoc]; exact this
  · exact (not_bad hk).elim

theorem aIndex_ok (hT : TabOk P T) (hM : MRel base w S m M) (t : TypeId) {lit : Option Nat} {vx vi : Value} {x i : AV} (hlit : ∀ k kk n, lit = some k → i = .int kk n → n = (k : Int)) (hx : Rel w S m vx x) (hi : Rel w S m vi i) (hk : AllT (aIndex std T M t lit x i).ks) :
    Res base w S m P (aIndex std T M t lit x i) (Instr.index t vx vi) := by
  unfold aIndex at hk ⊢
  split at hk
  case h_3 => exact (not_bad hk).elim
  case h_2 =>
    rename_i n e cs k i htd
    obtain ⟨_, _, _, g⟩ := hT.of_d htd (by simp)
    have hd := g.d; rw [htd] at hd
    have := td_array hd.symm; subst this
    split at hk
    case h_2 => exact (not_bad hk).elim
    rename_i q hq0
    have hq1 : i = (q : Int) := by
      cases lit with
      | some k' => simp only [litV] at hq0; injection hq0 with hq0; subst hq0; exact hlit _ k i rfl rfl
      | none => cases i with
        | ofNat k' => simp only [litV] at hq0; injection hq0 with hq0; subst hq0; rfl
        | negSucc k' => cases hq0
    subst hq1
    cases hi
    have hcell : ∃ vs, vx = .agg vs := by cases hx; exact ⟨_, rfl⟩
    obtain ⟨vs, rfl⟩ := hcell
    split at hk
    · rename_i hag
      split at hk
      case h_2 => exact (not_bad hk).elim
      rename_i hsz hn
      obtain ⟨_, ie, ze, ge⟩ := hT.of_sz (Nat.le_of_ble_eq_true hsz)
      have hin : (q : Int) < n := by have : 0 ≤ (q : Int) ∧ (q : Int) < n := by simpa [valIf, AllT, std] using hk
                                     exact this.2
      obtain ⟨u, hu, hr⟩ := part_agg hT hx hag (Nat.le_of_ble_eq_true hsz) (Nat.le_of_ble_eq_true hn)
      refine .val hM ?_ hr
      rw [ge.sz] at hu
      have hq : q < n := by omega
      simp [Instr.index, run_underlying g.und, asIntOf, hq, sizeOf, typeInfo, ge.info, hu]
    · rename_i hag
      split at hk
      case h_2 => exact (not_bad hk).elim
      rename_i hdd hn
      obtain ⟨_, ie, ze, ge⟩ := hT.of_d rfl (isOther_ne hdd)
      have hin : (q : Int) < n := by have : 0 ≤ (q : Int) ∧ (q : Int) < n := by simpa [valIf, AllT, std] using hk
                                     exact this.2
      obtain ⟨hu, hr⟩ := part_cell hT hx hag (isOther_ne hdd) (Nat.le_of_ble_eq_true hn)
      refine .val hM ?_ hr
      rw [ge.sz] at hu
      have hq : q < n := by omega
      simp [Instr.index, run_underlying g.und, asIntOf, hq, sizeOf, typeInfo, ge.info, hu, ge.sz]
  rename_i s k i htd
  obtain ⟨_, _, _, g⟩ := hT.of_d htd (by simp)
  have hd := g.d; rw [htd] at hd
  have := td_str hd.symm; subst this
  have hin : 0 ≤ i ∧ i < s.length := by simpa [valIf, AllT, std] using hk
  obtain ⟨r, rfl⟩ := Int.eq_ofNat_of_zero_le hin.1
  cases hi
  have hr : r < s.length := by omega
  cases hx
  have hget : (bytes s)[r]? = some s[r] := by
    have : r < (bytes s).size := by rw [bytes_size]; exact hr
    rw [getElem?_pos (bytes s) r this]
    rfl
  refine .val hM (v := .int .u8 (s[r].toNat : Int)) ?_ ?_
  · simp [Instr.index, run_underlying g.und, asIntOf, hget]
  · have e : std.sget s (std.toNat (r : Int)) = (s[r].toNat : Int) := by simp [std, List.getD, hr]
    rw [e]
    exact .int _ _ _ (by rw [wf_iff]; have := s[r].toNat_lt; simp [IntKind.min, IntKind.max, IntKind.signed, IntKind.bits]; omega)

theorem run_extract (vs : Array Value) (i : Nat) (h : i < vs.size) : (Instr.extract (.tuple vs) i).run P w = .ok (vs.getD i Go.undef) w := by simp [Instr.extract, h]

theorem aExtract_ok (hM : MRel base w S m M) (i : Nat) {v : Value} {a : AV} (ha : Rel w S m v a) (hk : AllT (aExtract M a i).ks) : Res base w S m P (aExtract M a i) (Instr.extract v i) := by
  unfold aExtract at hk ⊢
  split at hk
  · split at hk
    case h_2 => exact (not_bad hk).elim
    rename_i hi
    have hi := Nat.le_of_ble_eq_true hi
    cases ha with
    | tup _ vs _ hl h => exact .val hM (run_extract vs i (by omega)) (h i (by omega))
  · rename_i b cs
    split at hk
    · cases ha with
      | nxtT _ vs _ hl h0 h =>
        have := run_extract (P := P) (w := w) vs 0 (by omega)
        rw [h0] at this
        exact .val hM this (.bool _ _)
      | nxtF => exact .val hM (v := .bool false) rfl (.bool _ _)
    · rename_i i
      split at hk
      case h_2 => exact (not_bad hk).elim
      rename_i hi
      have hi := Nat.le_of_ble_eq_true hi
      have hb : b = true := by simpa [valIf, AllT] using hk
      subst hb
      cases ha with
      | nxtT _ vs _ hl h0 h => exact .val hM (run_extract vs (i + 1) (by omega)) (h i (by omega)).weak
  · exact (not_bad hk).elim

theorem aRange_ok (hT : TabOk P T) (hM : MRel base w S m M) (t : TypeId) {v : Value} {a : AV} (ha : Rel w S m v a) (hk : AllT (aRange T M t a).ks) : Res base w S m P (aRange T M t a) (Instr.range t v) := by
  unfold aRange at hk ⊢
  split at hk
  case h_2 => exact (not_bad hk).elim
  rename_i s htd
  obtain ⟨_, _, _, g⟩ := hT.of_d htd (by simp)
  have hd := g.d; rw [htd] at hd
  have := td_str hd.symm; subst this
  cases ha with
  | str _ _ hs =>
    let l : Loc := ⟨w.heap.size, 0, 0, 0, false, []⟩
    obtain ⟨ht, hm⟩ := hM.alloc (.stringIter (bytes s) 0) l (.siter s 0) rfl ⟨Go.heap_alloc_new w _, hs⟩
    exact ⟨_, _, _, _, by simp [Instr.range, run_underlying g.und]; rfl, ht, hm, .ref _ _ _ l (by rw [← hM.len]; simp)⟩

theorem aLen_ok (hT : TabOk P T) (hM : MRel base w S m M) (t ty : TypeId) {v : Value} {a : AV} (ha : Rel w S m v a) (hk : AllT (aLen std T M t a).ks) : Res base w S m P (aLen std T M t a) (Builtin.len_ #[t] ty #[v]) := by
  have wf : ∀ n : Nat, n ≤ maxLen → (Lit.int .i64 (std.ofNat n)).wf = true := fun n hn => by
    rw [wf_iff]; unfold maxLen at hn; simp [IntKind.min, IntKind.max, IntKind.signed, IntKind.bits, std]; omega
  unfold aLen at hk ⊢
  split at hk
  · rename_i s htd
    obtain ⟨_, _, _, g⟩ := hT.of_d htd (by simp)
    have hd := g.d; rw [htd] at hd
    have := td_str hd.symm; subst this
    cases ha with
    | str _ _ hs => exact .val hM (v := .int .i64 (std.ofNat s.length)) (by simp [Builtin.len_, run_underlying g.und, bytes_size, goInt, std]) (.int _ _ _ (wf _ hs))
  · rename_i e sz n f c htd
    obtain ⟨_, _, _, g⟩ := hT.of_d htd (by simp)
    have hd := g.d; rw [htd] at hd
    have := td_slice hd.symm; subst this
    cases ha with
    | slice _ b o _ _ cap _ _ f hs hn hcap hf hc h => exact .val hM (v := .int .i64 (std.ofNat _)) (by simp [Builtin.len_, run_underlying g.und, goInt, std]) (.int _ _ _ (wf _ (by omega)))
    | slice0 => exact .val hM (v := .int .i64 (std.ofNat _)) (by simp [Builtin.len_, run_underlying g.und, goInt, std]) (.int _ _ _ (wf _ (by omega)))
  · rename_i e u x full htd
    obtain ⟨_, _, _, g⟩ := hT.of_d htd (by simp)
    have hd := g.d; rw [htd] at hd
    have := td_slice hd.symm; subst this
    obtain ⟨a, cap, rfl, hn, hcap, _⟩ := (Le.un _ _ _ _ ha).slice_inv
    exact .val hM (v := .int .i64 (std.ofNat _)) (by simp [Builtin.len_, run_underlying g.und, goInt, std]) (.int _ _ _ (wf _ (by omega)))
  · rename_i e b htd
    obtain ⟨_, _, _, g⟩ := hT.of_d htd (by simp)
    have hd := g.d; rw [htd] at hd
    have := td_slice hd.symm; subst this
    split at hk
    case h_2 => exact (not_bad hk).elim
    rename_i e' u x hb
    have ha := ha.T_own hM hb
    generalize x.length = n at ha
    cases ha with
    | own _ _ _ l h hn hc => exact .val hM (v := .int .i64 (std.ofNat _)) (by simp [Builtin.len_, run_underlying g.und, goInt, std]) (.int _ _ _ (wf _ (by omega)))
    | own0 => exact .val hM (v := .int .i64 (std.ofNat _)) (by simp [Builtin.len_, run_underlying g.und, goInt, std]) (.int _ _ _ (wf _ (by omega)))
  · rename_i e b n htd
    obtain ⟨_, _, _, g⟩ := hT.of_d htd (by simp)
    have hd := g.d; rw [htd] at hd
    have := td_slice hd.symm; subst this
    cases ha with
    | own _ _ _ l h hn hc => exact .val hM (v := .int .i64 (std.ofNat _)) (by simp [Builtin.len_, run_underlying g.und, goInt, std]) (.int _ _ _ (wf _ (by omega)))
    | own0 => exact .val hM (v := .int .i64 (std.ofNat _)) (by simp [Builtin.len_, run_underlying g.und, goInt, std]) (.int _ _ _ (wf _ (by omega)))
  · rename_i e b lo n htd
    obtain ⟨_, _, _, g⟩ := hT.of_d htd (by simp)
    have hd := g.d; rw [htd] at hd
    have := td_slice hd.symm; subst this
    cases ha with
    | tail _ a _ _ _ cp hn h => exact .val hM (v := .int .i64 (std.ofNat _)) (by simp [Builtin.len_, run_underlying g.und, goInt, std]) (.int _ _ _ (wf _ (by omega)))
  · rename_i e htd
    obtain ⟨_, _, _, g⟩ := hT.of_d htd (by simp)
    have hd := g.d; rw [htd] at hd
    have := td_slice hd.symm; subst this
    cases ha
    exact .val hM (by simp [Builtin.len_, run_underlying g.und, goInt]) (.int _ _ _ (by decide))
  · rename_i e htd
    obtain ⟨_, _, _, g⟩ := hT.of_d htd (by simp)
    have hd := g.d; rw [htd] at hd
    have := td_slice hd.symm; subst this
    cases ha
    exact .val hM (by simp [Builtin.len_, run_underlying g.und, goInt]) (.int _ _ _ (by decide))
  · rename_i e cs htd
    obtain ⟨_, _, _, g⟩ := hT.of_d htd (by simp)
    have hd := g.d; rw [htd] at hd
    have := td_slice hd.symm; subst this
    cases ha with
    | lst0 _ b o n _ f hs hn hl hc h => exact .val hM (v := .int .i64 (std.ofNat _)) (by simp [Builtin.len_, run_underlying g.und, goInt, std, hl]) (.int _ _ _ (wf _ (by omega)))
  · rename_i n e htd
    obtain ⟨_, _, _, g⟩ := hT.of_d htd (by simp)
    have hd := g.d; rw [htd] at hd
    have := td_array hd.symm; subst this
    have hn : n ≤ maxLen := by simp [valIf, AllT, std] at hk; unfold maxLen; omega
    exact .val hM (v := .int .i64 (std.ofNat _)) (by simp [Builtin.len_, run_underlying g.und, goInt, std]) (.int _ _ _ (wf _ hn))
  · rename_i k e htd
    obtain ⟨_, _, _, g⟩ := hT.of_d htd (by simp)
    have hd := g.d; rw [htd] at hd
    have := td_map hd.symm; subst this
    cases ha
    exact .val hM (by simp [Builtin.len_, run_underlying g.und, goInt]) (.int _ _ _ (by decide))
  · rename_i k e t' u' l' htd
    obtain ⟨_, _, _, g⟩ := hT.of_d htd (by simp)
    have hd := g.d; rw [htd] at hd
    have := td_map hd.symm; subst this
    cases ha with
    | mv0 => exact .val hM (v := .int .i64 0) (by simp [Builtin.len_, run_underlying g.und, goInt]) (.int _ _ _ (by decide))
    | mv _ b es ck _ _ _ hs hg h2 _ _ h4 =>
      refine .val hM (v := .int .i64 (std.ofNat l'.length)) ?_ (.int _ _ _ (wf _ h4.few))
      simp [Builtin.len_, run_underlying g.und, getObj, Sem.run, hg, goInt, h2, std]
  · rename_i k e b htd
    obtain ⟨_, _, _, g⟩ := hT.of_d htd (by simp)
    have hd := g.d; rw [htd] at hd
    have := td_map hd.symm; subst this
    split at hk
    · rename_i t' u' l' hb
      cases ha with
      | mp _ _ l h =>
        have hB := bk_of hM h
        rw [hb] at hB
        obtain ⟨es, ck, h1, h2, _, h4⟩ := hB
        refine .val hM (v := .int .i64 (std.ofNat l'.length)) ?_ (.int _ _ _ (wf _ h4.few))
        simp [Builtin.len_, run_underlying g.und, getObj, Sem.run, h1, goInt, h2, std]
      | mp0 _ _ h =>
        have hB := hM.bk _ _ h
        rw [hb] at hB
        exact hB.elim
    · exact (not_bad hk).elim
  · exact (not_bad hk).elim

theorem aCap_ok (hT : TabOk P T) (hM : MRel base w S m M) (t ty : TypeId) {v : Value} {a : AV} (ha : Rel w S m v a) (hk : AllT (aCap std T M t a).ks) : Res base w S m P (aCap std T M t a) (Builtin.cap_ #[t] ty #[v]) := by
  have wf : ∀ n : Nat, n ≤ maxLen → (Lit.int .i64 (std.ofNat n)).wf = true := fun n hn => by
    rw [wf_iff]; unfold maxLen at hn; simp [IntKind.min, IntKind.max, IntKind.signed, IntKind.bits, std]; omega
  unfold aCap at hk ⊢
  split at hk
  · rename_i e sz n c htd
    obtain ⟨_, _, _, g⟩ := hT.of_d htd (by simp)
    have hd := g.d; rw [htd] at hd
    have := td_slice hd.symm; subst this
    cases ha with
    | slice _ b o _ _ cap _ _ f hs hn hcap hf hc h =>
      have := hf rfl; subst this
      exact .val hM (v := .int .i64 (std.ofNat _)) (by simp [Builtin.cap_, run_underlying g.und, goInt, std]) (.int _ _ _ (wf _ (by omega)))
    | slice0 _ a cap _ _ _ hcap hf =>
      have := hf rfl; subst this
      exact .val hM (v := .int .i64 (std.ofNat _)) (by simp [Builtin.cap_, run_underlying g.und, goInt, std]) (.int _ _ _ (wf _ (by omega)))
  · rename_i e u x htd
    obtain ⟨_, _, _, g⟩ := hT.of_d htd (by simp)
    have hd := g.d; rw [htd] at hd
    have := td_slice hd.symm; subst this
    obtain ⟨a, cap, rfl, hn, hcap, hf, _⟩ := (Le.un _ _ _ _ ha).slice_inv
    have := hf rfl; subst this
    exact .val hM (v := .int .i64 (std.ofNat _)) (by simp [Builtin.cap_, run_underlying g.und, goInt, std]) (.int _ _ _ (wf _ (by omega)))
  · rename_i e htd
    obtain ⟨_, _, _, g⟩ := hT.of_d htd (by simp)
    have hd := g.d; rw [htd] at hd
    have := td_slice hd.symm; subst this
    cases ha
    exact .val hM (by simp [Builtin.cap_, run_underlying g.und, goInt]) (.int _ _ _ (by decide))
  · rename_i e htd
    obtain ⟨_, _, _, g⟩ := hT.of_d htd (by simp)
    have hd := g.d; rw [htd] at hd
    have := td_slice hd.symm; subst this
    cases ha
    exact .val hM (by simp [Builtin.cap_, run_underlying g.und, goInt]) (.int _ _ _ (by decide))
  · exact (not_bad hk).elim

end Go.Eng
