/- Contracts out of trees: functions and loops. -/
import Derived.Test.YtapnoaalcbcmaaaTrCa
namespace Go.Eng
open Go Go.RowKit

variable {P : Program} {T : Tab}

theorem AWp.pre_le {c : Code} {Q : Exit → AS → Prop} {A B : AS} (h : ALe A B) (hB : AWp P c Q B) : AWp P c Q A := by
  refine ⟨fun base w S m a hM hA => ?_⟩
  obtain ⟨S', m', h1, h2, h3, h4⟩ := h base w S m a hM hA
  exact Code.wp_mono (fun e a w' hl => Lift.step (Prot.refl _ _) h1 h2 hl) (hB.sem base w S' m' a h3 h4)
theorem AWp.post_le {c : Code} {Q : Exit → AS → Prop} {A : AS} (h : AWp P c (fun e A' => ∃ B', ALe A' B' ∧ Q e B') A) : AWp P c Q A := by
  refine ⟨fun base w S m a hM hA => Code.wp_mono ?_ (h.sem base w S m a hM hA)⟩
  rintro e a' w' ⟨A', S', m', ⟨B', hle, hq⟩, h1, h2, h3, h4, h5⟩
  obtain ⟨S'', m'', k1, k2, k3, k4⟩ := hle base w' S' m' a' h4 h5
  exact ⟨B', S'', m'', hq, h1, fun b h => k1 b (h2 b h), fun b h => (k2 b h).elim (h3 b) .inr, k3, k4⟩

/-- Slot by slot. -/
def LeS (l k : List AV) : Prop := lenA l = lenA k ∧ ∀ i, Le (nth l i) (nth k i)
theorem LeS.refl (l : List AV) : LeS l l := ⟨rfl, fun _ => Le.refl _⟩
theorem LeS.one {a b : AV} (h : Le a b) : LeS [a] [b] := ⟨rfl, fun i => by cases i with | zero => exact h | succ i => exact Le.refl _⟩
theorem LeS.cat {a b c d : List AV} (h : LeS a b) (k : LeS c d) : LeS (catA a c) (catA b d) := by
  refine ⟨by rw [lenA_cat, lenA_cat, h.1, k.1], fun i => ?_⟩
  rw [nth_cat, nth_cat, h.1]
  split
  · exact h.2 i
  · exact k.2 _

theorem dc1_ok {α : Type} {f : AV → Option α} {e : α → AV} (hf : ∀ v x, f v = some x → Le v (e x)) {l r : List AV} {x : α} (h : dc1 f l = some (x, r)) : ∃ pre, l = catA pre r ∧ LeS pre [e x] := by
  cases l with
  | nil => cases h
  | cons v l =>
    simp only [dc1] at h
    split at h
    · rename_i y hy; cases h; exact ⟨[v], rfl, LeS.one (hf _ _ hy)⟩
    · cases h

theorem rdV_ok {g : Bool} {t : Ty} {v : AV} {x : El t} (h : rdV g t v = some x) : Le v (encS g t x) := by
  cases g with
  | true =>
    simp only [rdV] at h
    split at h
    · obtain ⟨h1, h2⟩ := rdE_ok h
      refine Le.agg (h1.trans (lenA_cellsT _ _).symm) fun i hi => h2 i (by rw [lenA_cellsT] at hi; exact hi)
    · cases h
  | false =>
    simp only [rdV] at h
    obtain ⟨h1, h2⟩ := rdE_ok h
    exact h2 0 (szT_pos t)

theorem Le.cptr {n k : Nat} {c d : Nat → AV} (hk : k ≤ n) (h : ∀ j, j < k → Le (c j) (d j)) : Le (.cptr n c) (.cptr k d) := by
  intro w S m v hr
  cases hr with
  | cptr _ b o _ _ f hs hc hr => exact .cptr _ _ _ _ _ f hs (fun j hj => hc j (by omega)) (fun j hj => h j hj _ _ _ _ (hr j (by omega)))

theorem Le.fn {f : Fn} {a b c d : List AV} (h : LeS a b) (k : LeS c d) : Le (.fn f a c) (.fn f b d) := by
  intro w S m v hr
  cases hr with
  | fn _ _ fs cs _ _ hl hl' h1 h1' hr hr' =>
    exact .fn _ _ _ _ _ _ (hl.trans h.1) (hl'.trans k.1) (fun i hi => h1 i (by rw [h.1]; exact hi)) (fun i hi => h1' i (by rw [k.1]; exact hi))
      (fun i hi => h.2 i _ _ _ _ (hr i (by rw [h.1]; exact hi))) (fun i hi => k.2 i _ _ _ _ (hr' i (by rw [k.1]; exact hi)))

theorem Le.lst {k : Nat} {a b : List AV} (h : LeS a b) : Le (.lst k a) (.lst k b) := by
  intro w S m v hr
  cases hr with
  | lst0 _ x o n _ f hs hn hl hc hr => exact .lst0 _ _ _ _ _ f hs hn (hl.trans h.1) (fun j hj => hc j (by rw [h.1]; exact hj)) fun j hj => h.2 j _ _ _ _ (hr j (by rw [h.1]; exact hj))
  | lst1 _ x o i _ f hs hi hc hr => exact .lst1 _ _ _ _ _ f hs (by rw [← h.1]; exact hi) (fun j hj => hc j (by rw [h.1]; exact hj)) fun j hj => h.2 j _ _ _ _ (hr j (by rw [h.1]; exact hj))
theorem Le.undef' {b : AV} (h : b = .undef) : Le .undef b := by rw [h]; exact Le.refl _
theorem Le.selfN (b : Nat) : Le .nilptr (.selfp b) := fun _ _ _ _ h => by cases h; exact .selfp0 _ _
theorem Le.selfR (b : Nat) : Le (.ref b 0) (.selfp b) := fun _ _ _ _ h => by cases h with | ref _ _ _ l h => exact .selfp _ _ l h
theorem decP_ok {p : PS} {l r : List AV} {x : ElP p} (h : decP p l = some (x, r)) : ∃ pre, l = catA pre r ∧ LeS pre (encP p x) := by
  induction p generalizing l r with
  | val g t => exact dc1_ok (e := encS g t) (fun v x => rdV_ok) h
  | ptr t =>
    refine dc1_ok (e := fun x => .cptr (szT t) (nth (cellsT t x))) (fun v x hv => ?_) h
    unfold dcPtr at hv
    split at hv
    · split at hv
      · rename_i n c _ hn
        obtain ⟨h1, h2⟩ := rdE_ok hv
        refine Le.cptr (Nat.le_of_ble_eq_true hn) fun j hj => ?_
        have := h2 j hj
        rw [nth_tab _ _ _ _ hj, Nat.zero_add] at this
        exact this
      · cases hv
    · cases hv
  | mv t u =>
    refine dc1_ok (e := fun x => .mv t u x) (fun v x hv => ?_) h
    unfold dcMv at hv
    split at hv
    · obtain ⟨e1, rfl⟩ := castL_some hv
      cases e1
      exact Le.refl _
    · cases hv
  | full t =>
    refine dc1_ok (e := fun x => .tsl t x true) (fun v x hv => ?_) h
    unfold dcFull at hv
    split at hv
    · obtain ⟨e1, rfl⟩ := castL_some hv
      cases e1
      exact Le.refl _
    · cases hv
  | nilm =>
    refine dc1_ok (e := fun _ => .nilmap) (fun v x hv => ?_) h
    unfold dcNilm at hv
    split at hv
    · exact Le.refl _
    · cases hv
  | flat t =>
    obtain ⟨pre, h1, h2, h3⟩ := rdT_ok h
    refine ⟨pre, h1, h2.trans (lenA_cellsT _ _).symm, fun i => ?_⟩
    by_cases hi : i < szT t
    · exact h3 i hi
    · rw [nth_out pre i (by omega)]; exact Le.undef' (nth_out _ i (by show lenA (cellsT t x) ≤ i; rw [lenA_cellsT]; omega))
  | cp a ih =>
    simp only [decP] at h
    split at h
    · rename_i n c r'
      split at h
      · rename_i x1 ha
        cases h
        obtain ⟨p1, q1, r1⟩ := ih ha
        rw [catA_eq, List.append_nil] at q1
        subst q1
        refine ⟨[_], rfl, LeS.one (Le.cptr ?_ fun j hj => ?_)⟩
        · rw [← r1.1, lenA_tab]; exact Nat.le_refl _
        · rw [← r1.1, lenA_tab] at hj
          have := r1.2 j
          rw [nth_tab _ _ _ _ hj, Nat.zero_add] at this
          exact this
      · cases h
    · cases h
  | nilp =>
    refine dc1_ok (e := fun _ => .nilptr) (fun v x hv => ?_) h
    unfold dcNil at hv
    split at hv
    · exact Le.refl _
    · cases hv
  | nils =>
    refine dc1_ok (e := fun _ => .nilsl) (fun v x hv => ?_) h
    unfold dcNils at hv
    split at hv
    · exact Le.refl _
    · cases hv
  | ref b off =>
    refine dc1_ok (e := fun _ => .ref b off) (fun v x hv => ?_) h
    unfold dcRef at hv
    split at hv
    · split at hv
      · rename_i h1 h2
        rw [← Nat.eq_of_beq_eq_true h1, ← Nat.eq_of_beq_eq_true h2]; exact Le.refl _
      · cases hv
    · cases hv
  | selfp b =>
    refine dc1_ok (e := fun _ => .selfp b) (fun v x hv => ?_) h
    unfold dcSelf at hv
    split at hv
    · exact Le.selfN b
    · split at hv
      · rename_i h1; rw [Nat.eq_of_beq_eq_true h1]; exact Le.refl _
      · cases hv
    · split at hv
      · rename_i h1; rw [Nat.eq_of_beq_eq_true h1]; exact Le.selfR _
      · cases hv
    · cases hv
  | mp b =>
    refine dc1_ok (e := fun _ => .mp b) (fun v x hv => ?_) h
    unfold dcMp at hv
    split at hv
    · split at hv
      · rename_i h1; rw [← Nat.eq_of_beq_eq_true h1]; exact Le.refl _
      · cases hv
    · cases hv
  | own b =>
    refine dc1_ok (e := fun _ => .ownT b) (fun v x hv => ?_) h
    unfold dcOwn at hv
    split at hv
    · split at hv
      · rename_i h1; rw [← Nat.eq_of_beq_eq_true h1]; exact Le.refl _
      · cases hv
    · cases hv
  | any => exact dc1_ok (e := fun _ => .undef) (fun v x _ => Le.undef _) h
  | fn id f c ihf ihc =>
    simp only [decP] at h
    split at h
    · rename_i id' a b r' 
      split at h
      · rename_i x1 y1 hid ha hb
        cases h
        have hid := Nat.eq_of_beq_eq_true hid
        subst hid
        obtain ⟨p1, q1, r1⟩ := ihf ha
        obtain ⟨p2, q2, r2⟩ := ihc hb
        rw [catA_eq, List.append_nil] at q1 q2
        subst q1 q2
        exact ⟨[_], rfl, LeS.one (Le.fn r1 r2)⟩
      · cases h
    · cases h
  | lst a ih =>
    simp only [decP] at h
    split at h
    · rename_i vs r'
      split at h
      · rename_i x1 ha
        cases h
        obtain ⟨p1, q1, r1⟩ := ih ha
        rw [catA_eq, List.append_nil] at q1
        subst q1
        exact ⟨[_], rfl, LeS.one (Le.lst r1)⟩
      · cases h
    · cases h
  | nil => cases h; exact ⟨[], rfl, LeS.refl _⟩
  | cons a b iha ihb =>
    simp only [decP] at h
    split at h
    · rename_i x1 r1 h1
      split at h
      · rename_i y1 r2 h2
        cases h
        obtain ⟨p1, rfl, l1⟩ := iha h1
        obtain ⟨p2, rfl, l2⟩ := ihb h2
        exact ⟨catA p1 p2, by simp [catA_eq], LeS.cat l1 l2⟩
      · cases h
    · cases h

theorem decP_all {p : PS} {l : List AV} {x : ElP p} (h : decP p l = some (x, [])) : LeS l (encP p x) := by
  obtain ⟨pre, h1, h2⟩ := decP_ok h
  rw [catA_eq, List.append_nil] at h1
  rw [h1]; exact h2

/-! Memory. -/
def BLe (B C : ABlk) : Prop := (∀ w S m l, BRel w S m l B → BRel w S m l C) ∧ (isCells B = true → isCells C = true)
theorem BLe.refl (B : ABlk) : BLe B B := ⟨fun _ _ _ _ h => h, fun h => h⟩

theorem BLe.cells {e : Nat} {cs ds : List AV} (h : LeS cs ds) : BLe (.cells e cs) (.cells e ds) := by
  refine ⟨fun w S m l hb => ?_, fun h => h⟩
  cases l with
  | none => exact hb
  | some l =>
    obtain ⟨vs, h1, h2, h3, h4⟩ := hb
    exact ⟨vs, h1, h2.trans h.1, fun i hi => h3 i (by rw [h.1]; exact hi), fun i hi => h.2 i _ _ _ _ (h4 i (by rw [h.1]; exact hi))⟩

theorem rdM_ok {q : PM} {M r : Mem} {x : ElM q} (h : rdM q M = some (x, r)) : lenM (encM q x) + lenM r = lenM M ∧ ∀ i, i < lenM (encM q x) → BLe (blk M i) (blk (encM q x) i) := by
  induction q generalizing M r with
  | nil => cases h; exact ⟨by simp [encM, lenM], fun i hi => absurd hi (Nat.not_lt_zero i)⟩
  | cells e p q ih =>
    simp only [rdM] at h
    split at h
    · cases h
    · rename_i B l
      split at h
      · rename_i y z r' hd hr
        cases h
        obtain ⟨h1, h2⟩ := ih hr
        refine ⟨by simp only [encM, lenM]; omega, fun i hi => ?_⟩
        cases i with
        | zero =>
          show BLe B (.cells e (encP p y))
          unfold dcCells at hd
          split at hd
          · split at hd
            · rename_i he hc
              injection hd with hd; subst hd
              have he := Nat.eq_of_beq_eq_true he
              subst he
              exact BLe.cells (decP_all hc)
            · cases hd
          · cases hd
        | succ i => exact h2 i (by simp only [encM, lenM] at hi; omega)
      · cases h
  | rows e t q ih =>
    simp only [rdM] at h
    split at h
    · cases h
    · rename_i B l
      split at h
      · rename_i y z r' hd hr
        cases h
        obtain ⟨h1, h2⟩ := ih hr
        refine ⟨by simp only [encM, lenM]; omega, fun i hi => ?_⟩
        cases i with
        | zero =>
          show BLe B (.trows e t y)
          unfold dcRows at hd
          split at hd
          · split at hd
            · rename_i he
              have he := Nat.eq_of_beq_eq_true he
              obtain ⟨e1, rfl⟩ := castL_some hd
              subst e1 he
              exact BLe.refl _
            · cases hd
          · cases hd
        | succ i => exact h2 i (by simp only [encM, lenM] at hi; omega)
      · cases h
  | map t u q ih =>
    simp only [rdM] at h
    split at h
    · cases h
    · rename_i B l
      split at h
      · rename_i y z r' hd hr
        cases h
        obtain ⟨h1, h2⟩ := ih hr
        refine ⟨by simp only [encM, lenM]; omega, fun i hi => ?_⟩
        cases i with
        | zero =>
          show BLe B (.map t u y)
          unfold dcMap at hd
          split at hd
          · obtain ⟨e1, rfl⟩ := castL_some hd
            cases e1
            exact BLe.refl _
          · cases hd
        | succ i => exact h2 i (by simp only [encM, lenM] at hi; omega)
      · cases h
  | arr e t q ih =>
    simp only [rdM] at h
    split at h
    · cases h
    · rename_i B l
      split at h
      · rename_i y z r' hd hr
        cases h
        obtain ⟨h1, h2⟩ := ih hr
        refine ⟨by simp only [encM, lenM]; omega, fun i hi => ?_⟩
        cases i with
        | zero =>
          show BLe B (.arr e t y)
          unfold dcArr at hd
          split at hd
          · split at hd
            · rename_i he
              have he := Nat.eq_of_beq_eq_true he
              obtain ⟨e1, rfl⟩ := castL_some hd
              subst e1 he
              exact BLe.refl _
            · cases hd
          · cases hd
        | succ i => exact h2 i (by simp only [encM, lenM] at hi; omega)
      · cases h
  | fro e t q ih =>
    simp only [rdM] at h
    split at h
    · cases h
    · rename_i B l
      split at h
      · rename_i y z r' hd hr
        cases h
        obtain ⟨h1, h2⟩ := ih hr
        refine ⟨by simp only [encM, lenM]; omega, fun i hi => ?_⟩
        cases i with
        | zero =>
          show BLe B (.fro e t y)
          unfold dcFro at hd
          split at hd
          · split at hd
            · rename_i he
              have he := Nat.eq_of_beq_eq_true he
              obtain ⟨e1, rfl⟩ := castL_some hd
              subst e1 he
              exact BLe.refl _
            · cases hd
          · cases hd
        | succ i => exact h2 i (by simp only [encM, lenM] at hi; omega)
      · cases h
  | dead q ih =>
    simp only [rdM] at h
    split at h
    · cases h
    · rename_i B l
      split at h
      · cases h
      · rename_i hB
        obtain ⟨h1, h2⟩ := ih h
        refine ⟨by simp only [encM, lenM]; omega, fun i hi => ?_⟩
        cases i with
        | zero => exact ⟨fun _ _ _ l _ => by cases l <;> trivial, fun h => by rw [show isCells (blk (B :: l) 0) = isCells B from rfl, hB] at h; cases h⟩
        | succ i => exact h2 i (by simp only [encM, lenM] at hi; omega)
  | siter q ih =>
    simp only [rdM] at h
    split at h
    · cases h
    · rename_i B l
      split at h
      · rename_i y z r' hd hr
        cases h
        obtain ⟨h1, h2⟩ := ih hr
        refine ⟨by simp only [encM, lenM]; omega, fun i hi => ?_⟩
        cases i with
        | zero =>
          show BLe B (.siter y.1 y.2)
          unfold dcIter at hd
          split at hd
          · cases hd; exact BLe.refl _
          · cases hd
        | succ i => exact h2 i (by simp only [encM, lenM] at hi; omega)
      · cases h
  | fam q ih =>
    simp only [rdM] at h
    split at h
    · cases h
    · rename_i B l
      split at h
      · rename_i y z r' hd hr
        cases h
        obtain ⟨h1, h2⟩ := ih hr
        refine ⟨by simp only [encM, lenM]; omega, fun i hi => ?_⟩
        cases i with
        | zero =>
          show BLe B (.fam y.1 y.2)
          unfold dcFam at hd
          split at hd
          · cases hd; exact BLe.refl _
          · cases hd
        | succ i => exact h2 i (by simp only [encM, lenM] at hi; omega)
      · cases h

theorem rdA_le {p : PS} {q : PM} {np : Nat} {A : AS} {z : ElA p q} (h : rdA p q np A = some z) : ALe A (encA p q np z) := by
  unfold rdA at h
  split at h
  case h_2 => cases h
  rename_i x y l hnp hts hm
  have hnp := Nat.eq_of_beq_eq_true hnp
  have hts := decP_all hts
  obtain ⟨hlen, hblk⟩ := rdM_ok hm
  intro base w S m a hM hA
  have key : (x, y) = z → (l = [] ∨ (Nat.ble np (lenM (encM q y)) = true ∧ closedL (lenM (encM q y)) (encP p x) = true ∧ closedM (lenM (encM q y)) (encM q y) = true)) → ∃ S' m', (∀ b, S b → S' b) ∧ (∀ b, S' b → S b ∨ ¬ base.Z b) ∧ MA base w S' m' (encA p q np z) ∧ ARel base.old w S' m' a (encA p q np z).ts := by
    rintro rfl hl
    have hA1 : ARel base.old w S m a (encP p x) := ⟨hA.1.trans hts.1, hA.2.1, fun t => hts.2 t _ _ _ _ (hA.2.2 t)⟩
    rcases hl with rfl | ⟨c1, c2, c3⟩
    · have hlen : lenM (encM q y) = lenM A.m := by simpa [lenM] using hlen
      refine ⟨S, m, fun _ h => h, fun _ h => .inl h, ⟨hM.rel.to hlen (fun i l hi hb => ?_) (fun i hc => ?_), fun i l hi => hnp ▸ hM.pins i l hi⟩, hA1⟩
      · have hlt : i < lenM (encM q y) := by rw [hlen, ← hM.rel.len]; exact (List.getElem?_eq_some_iff.1 hi).1
        exact (hblk i hlt).1 _ _ _ _ hb
      · by_cases hlt : i < lenM (encM q y)
        · exact (hblk i hlt).2 hc
        · have : blk A.m i = .dead := by rw [blk_eq]; rw [lenM_eq] at hlen hlt; simp [List.getD, List.getElem?_eq_none (Nat.le_of_not_lt (by rw [lenM_eq] at hlen; omega : ¬ i < A.m.length))]
          rw [this] at hc; cases hc
    · have c1 := Nat.le_of_ble_eq_true c1
      have hle : lenM (encM q y) ≤ lenM A.m := by omega
      have hp : ∀ i l, base.pin i = some l → i < lenM (encM q y) := fun i l hi => Nat.lt_of_lt_of_le (hnp ▸ hM.pins i l hi) c1
      have hml : (m.take (lenM (encM q y))).length = lenM (encM q y) := by rw [List.length_take, hM.rel.len]; omega
      have hs' : ∀ {i : Nat} {l : Option Loc}, (m.take (lenM (encM q y)))[i]? = some l → i < lenM (encM q y) ∧ m[i]? = some l := fun {i l} h' => by
        have hlt : i < lenM (encM q y) := by have := (List.getElem?_eq_some_iff.1 h').1; omega
        rw [List.getElem?_take_of_lt hlt] at h'; exact ⟨hlt, h'⟩
      refine ⟨S, m.take (lenM (encM q y)), fun _ h => h, fun _ h => .inl h, ⟨⟨hml, hM.rel.sb, fun i l hi => ?_, fun i l hi => hM.rel.lt i l (hs' hi).2, fun i j l l' hi hj => hM.rel.inj i j l l' (hs' hi).2 (hs' hj).2, hM.rel.base_le, hM.rel.gok, fun i l hi => ?_, fun i l hi => (hM.rel.ext i l (hs' hi).2).to (fun _ _ h => h) (Nat.le_refl _) (fun _ _ h => .inl h) fun j l' hj => .inl ⟨l', (hs' hj).2, rfl, .inl rfl⟩⟩, fun i l hi => hnp ▸ hM.pins i l hi⟩, ⟨hA1.1, hA1.2.1, fun t => ?_⟩⟩
      · obtain ⟨hlt, hi⟩ := hs' hi
        exact ((hblk i hlt).1 _ _ _ _ (hM.rel.bk i l hi)).take (fun e cs he => closedM_blk c3 he)
      · obtain ⟨q1, q2⟩ := hM.rel.pin i l hi
        have hlt := hp i l hi
        rw [List.getElem?_take_of_lt hlt]
        exact ⟨q1, (hblk i hlt).2 q2⟩
      · show Rel w S _ _ (nth (encP p x) t)
        by_cases ht : t < lenA (encP p x)
        · exact (hA1.2.2 t).take 4 (closedL_nth c2 ht)
        · rw [nth_out _ _ (by omega)]; exact .undef _ _
  split at h
  · injection h with h; exact key h (.inl rfl)
  · split at h
    · rename_i c1 c2 c3; injection h with h; exact key h (.inr ⟨c1, c2, c3⟩)
    · cases h

theorem isX_ok {x : Nat} {e : Exit} (h : isX x e = true) : e = exitOf x := by
  cases e <;> cases x <;> simp [isX] at h <;> first | rfl | (rename_i i j; have := Nat.eq_of_beq_eq_true h; subst this; rfl) | (subst h; rfl)

theorem rdX_le {np : Nat} {e : Exit} {A : AS} {xs : XS} {z : ElX xs} (h : rdX np e A xs = some z) : ∃ B, (encX np xs z).run = some (e, B) ∧ ALe A B := by
  induction xs with
  | one x pre p q =>
    simp only [rdX] at h
    split at h
    · rename_i hx
      rw [isX_ok hx]
      exact ⟨_, rfl, (preA_le pre A).trans (rdA_le h)⟩
    · cases h
  | norm p q => cases h
  | more x pre p q r ih =>
    simp only [rdX] at h
    split at h
    · rename_i hx
      split at h
      · rename_i z' hz
        cases h
        rw [isX_ok hx]
        exact ⟨_, rfl, (preA_le pre A).trans (rdA_le hz)⟩
      · cases h
    · split at h
      · rename_i z' hz
        cases h
        exact ih hz
      · cases h

end Go.Eng
