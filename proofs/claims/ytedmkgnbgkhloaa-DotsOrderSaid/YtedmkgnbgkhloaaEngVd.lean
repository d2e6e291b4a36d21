/- Memory of one's own that is given away: from now on it is only read. -/
import Derived.Test.YtedmkgnbgkhloaaEngVc
namespace Go.Eng
open Go Go.RowKit

/-- The place of the block that is given. -/
def SG (S : Nat → Prop) (ol : Option Loc) (g : Nat) : Prop := S g ∨ ∃ l, ol = some l ∧ g = l.g

variable {P : Program} {T : Tab} {base : Env} {w : World} {S : Nat → Prop} {m : Locs} {M : Mem}

/-- A value in which block b is only read. -/
def frz0 (b : Nat) (B : ABlk) : AV → AV
  | .ref b' o => match Nat.beq b b', B with
    | true, .cells _ cs => .cptr (lenA cs - o) (fun j => nth cs (o + j))
    | true, _ => .undef
    | false, _ => .ref b' o
  | .own b' n => match Nat.beq b b', B with
    | true, .rows _ sz _ c => .slice sz n false c
    | true, .trows _ u l => .tsl u (l.take n) false
    | true, _ => .undef
    | false, _ => .own b' n
  | .eref b' i o => match Nat.beq b b' with | true => .undef | false => .eref b' i o
  | .ownT b' => match Nat.beq b b', B with
    | true, .trows _ u l => .tsl u l false
    | true, _ => .undef
    | false, _ => .ownT b'
  | .tail b' lo n => match Nat.beq b b', B with
    | true, .trows _ u l => .tsl u ((l.drop lo).take n) false
    | true, _ => .undef
    | false, _ => .tail b' lo n
  | .agg _ => .undef
  | .fn _ _ _ => .undef
  | .tup _ => .undef
  | v => v
def frz (b : Nat) (B : ABlk) : AV → AV
  | .agg cs => .agg (mapA (frz0 b B) cs)
  | .fn f x y => .fn f (mapA (frz0 b B) x) (mapA (frz0 b B) y)
  | .tup _ => .undef
  | v => frz0 b B v
def frzB (b : Nat) (B : ABlk) : ABlk → ABlk
  | .cells e cs => .cells e (mapA (frz0 b B) cs)
  | x => x
def frzM (b : Nat) (B : ABlk) : Mem → Mem
  | [] => []
  | x :: l => frzB b B x :: frzM b B l

theorem lenM_frz (b : Nat) (B : ABlk) (l : Mem) : lenM (frzM b B l) = lenM l := by induction l with | nil => rfl | cons a l ih => simp [frzM, lenM, ih]
theorem blk_frz (b : Nat) (B : ABlk) (l : Mem) (i : Nat) : blk (frzM b B l) i = frzB b B (blk l i) := by
  induction l generalizing i with
  | nil => rfl
  | cons a l ih => cases i with
    | zero => rfl
    | succ i => exact ih i

/-- Its content lies outside. -/
def plainB : ABlk → Bool
  | .cells _ cs => allOutside cs
  | .rows _ _ _ _ => true
  | .trows _ _ _ => true
  | _ => false

theorem Rel.frz0 {b : Nat} {ol : Option Loc} {B : ABlk} (hm : m[b]? = some ol) (hB : BRel w S m ol B) (hp : plainB B = true) {v : Value} {a : AV} (h : Rel w S m v a) :
    Rel w (SG S ol) (m.set b none) v (Eng.frz0 b B a) := by
  have hS : ∀ g, S g → SG S ol g := fun _ h => .inl h
  have hset : ∀ {i : Nat} {x : Option Loc}, b ≠ i → m[i]? = some x → (m.set b none)[i]? = some x := fun hne h => by rw [List.getElem?_set_ne hne]; exact h
  cases h with
  | ref _ i off l' h =>
    simp only [Eng.frz0]
    by_cases e : b = i
    · subst e
      rw [Nat.beq_refl]
      rw [hm] at h; injection h with h; subst h
      cases B with
      | cells ee cs =>
        obtain ⟨vs, h1, h2, h3, h4⟩ := hB
        refine .cptr _ _ _ _ _ (fun j => vs.getD (off + j) Go.undef) (.inr ⟨_, rfl, rfl⟩) (fun j hj => ⟨blk_cell h1 (by omega), h3 _ (by omega)⟩) (fun j hj => ?_)
        exact ((h4 (off + j) (by omega)).out (allOutside_nth hp (by omega)) []).mono hS (fun _ _ => rfl) _ (fun _ _ h => h)
      | _ => exact .undef _ _
    · rw [nbeq_ne e]; exact .ref _ _ _ _ (hset e h)
  | eref _ i r off l' h hr =>
    simp only [Eng.frz0]
    by_cases e : b = i
    · subst e; rw [Nat.beq_refl]; exact .undef _ _
    · rw [nbeq_ne e]; exact .eref _ _ _ _ _ (hset e h) hr
  | own _ i n l' h hn hc =>
    simp only [Eng.frz0]
    by_cases e : b = i
    · subst e
      rw [Nat.beq_refl]
      rw [hm] at h; injection h with h; subst h
      cases B with
      | rows ee sz k c =>
        obtain ⟨rfl, rfl, q3, q4, vs, q5, q6, q7⟩ := hB
        refine .slice _ _ _ _ _ _ _ _ (fun i j => vs.getD (i * l'.sz + j) Go.undef) (.inr ⟨_, rfl, rfl⟩) (by omega) hc.2 (fun h => by simp at h) (fun i hi j hj => ⟨?_, (q7 i (by omega) j hj).1⟩) (fun i hi j hj => (q7 i (by omega) j hj).2.mono hS (fun _ _ => rfl) _ (fun _ _ h => h))
        rw [Nat.zero_add]
        refine blk_cell q5 ?_
        have := eref_lt (off := j) (k := 1) (show i < l'.n by omega) (show j + 1 ≤ l'.sz by omega)
        have h8 : l'.n * l'.sz ≤ l'.cap * l'.sz := Nat.mul_le_mul_right _ q3
        omega
      | trows ee u x =>
        obtain ⟨q1, q2, q3, q4, vs, q5, q6, q7⟩ := hB
        refine Le.tsl (n := n) (c := fun i j => vw u x i j) id rfl (by rw [List.length_take]; omega) (fun i hi j hj => by rw [vw_take _ _ _ _ _ hi]; exact Le.refl _) _ _ _ _ ?_
        refine .slice _ _ _ _ _ _ _ _ (fun i j => vs.getD (i * szT u + j) Go.undef) (.inr ⟨_, rfl, rfl⟩) (by omega) hc.2 (fun h => by simp at h) (fun i hi j hj => ⟨?_, (q7 i (by omega) j hj).1⟩) (fun i hi j hj => (q7 i (by omega) j hj).2.mono hS (fun _ _ => rfl) _ (fun _ _ h => h))
        rw [Nat.zero_add]
        refine blk_cell q5 ?_
        have := eref_lt (off := j) (k := 1) (show i < l'.n by omega) (show j + 1 ≤ szT u by omega)
        have h8 : l'.n * szT u ≤ l'.cap * szT u := Nat.mul_le_mul_right _ hc.1
        omega
      | _ => exact .undef _ _
    · rw [nbeq_ne e]; exact .own _ _ _ _ (hset e h) hn hc
  | own0 _ aa i h =>
    simp only [Eng.frz0]
    by_cases e : b = i
    · subst e
      rw [Nat.beq_refl]
      rw [hm] at h; injection h with h; subst h
      cases B with
      | rows ee sz k c => exact .slice0 _ _ _ _ _ _ (Nat.zero_le _) (fun h => by simp at h)
      | trows ee u x => exact Le.tsl id rfl (by simp) (fun _ _ _ _ => Le.refl _) _ _ _ _ (.slice0 _ _ _ _ _ _ (Nat.zero_le _) (fun h => by simp at h))
      | _ => exact .undef _ _
    · rw [nbeq_ne e]; exact .own0 _ _ _ (hset e h)
  | tsl _ t l g _ h => exact .tsl _ _ _ _ _ ((h.slice_m []).mono hS (fun _ _ => rfl) _ (fun i l h => by simp at h))
  | ownT _ i l' h hc =>
    simp only [Eng.frz0]
    by_cases e : b = i
    · subst e
      rw [Nat.beq_refl]
      rw [hm] at h; injection h with h; subst h
      cases B with
      | trows ee u x =>
        obtain ⟨q1, q2, q3, q4, vs, q5, q6, q7⟩ := hB
        refine Le.tsl id rfl q2 (fun _ _ _ _ => Le.refl _) _ _ _ _ ?_
        refine .slice _ _ _ _ _ _ _ _ (fun i j => vs.getD (i * szT u + j) Go.undef) (.inr ⟨_, rfl, rfl⟩) (by omega) hc.2 (fun h => by simp at h) (fun i hi j hj => ⟨?_, (q7 i (by omega) j hj).1⟩) (fun i hi j hj => (q7 i (by omega) j hj).2.mono hS (fun _ _ => rfl) _ (fun _ _ h => h))
        rw [Nat.zero_add]
        refine blk_cell q5 ?_
        have := eref_lt (off := j) (k := 1) (show i < l'.n by omega) (show j + 1 ≤ szT u by omega)
        have h8 : l'.n * szT u ≤ l'.cap * szT u := Nat.mul_le_mul_right _ hc.1
        omega
      | _ => exact .undef _ _
    · rw [nbeq_ne e]; exact .ownT _ _ _ (hset e h) hc
  | ownT0 _ aa i h =>
    simp only [Eng.frz0]
    by_cases e : b = i
    · subst e
      rw [Nat.beq_refl]
      rw [hm] at h; injection h with h; subst h
      cases B with
      | trows ee u x =>
        have hB : x.length = 0 := hB
        exact Le.tsl id rfl hB.symm (fun _ _ _ _ => Le.refl _) _ _ _ _ (.slice0 _ _ _ _ _ _ (Nat.zero_le _) (fun h => by simp at h))
      | _ => exact .undef _ _
    · rw [nbeq_ne e]; exact .ownT0 _ _ _ (hset e h)
  | tail _ aa i lo n cp hn h =>
    simp only [Eng.frz0]
    by_cases e : b = i
    · subst e
      rw [Nat.beq_refl]
      cases B with
      | trows ee u x =>
        by_cases hn0 : n = 0
        · subst hn0
          exact Le.tsl id rfl (by simp) (fun _ _ _ _ => Le.refl _) _ _ _ _ (.slice0 _ _ _ _ _ _ (by omega) (fun h => by simp at h))
        · obtain ⟨l', h1, rfl, h2⟩ := h (by omega)
          rw [hm] at h1; injection h1 with h1; subst h1
          obtain ⟨q1, q2, q3, q4, vs, q5, q6, q7⟩ := hB
          refine Le.tsl (n := n) (c := fun i j => vw u x (lo + i) j) id rfl (by rw [List.length_take, List.length_drop]; omega) (fun i hi j hj => by rw [vw_take _ _ _ _ _ hi, vw_drop]; exact Le.refl _) _ _ _ _ ?_
          refine .slice _ _ _ _ _ _ _ _ (fun i j => vs.getD ((lo + i) * szT u + j) Go.undef) (.inr ⟨_, rfl, rfl⟩) (by omega) (by omega) (fun h => by simp at h) (fun i hi j hj => ⟨?_, (q7 (lo + i) (by omega) j hj).1⟩) (fun i hi j hj => (q7 (lo + i) (by omega) j hj).2.mono hS (fun _ _ => rfl) _ (fun _ _ h => h))
          rw [q1, ← Nat.add_mul]
          refine blk_cell q5 ?_
          have := eref_lt (off := j) (k := 1) (show lo + i < x.length by omega) (show j + 1 ≤ szT u by omega)
          have h8 : x.length * szT u ≤ l'.cap * szT u := Nat.mul_le_mul_right _ q3
          omega
      | _ => exact .undef _ _
    · rw [nbeq_ne e]; exact .tail _ _ _ _ _ _ hn fun h0 => let ⟨l, h1, h2⟩ := h h0; ⟨l, hset e h1, h2⟩
  | agg => exact .undef _ _
  | fn => exact .undef _ _
  | tup => exact .undef _ _
  | undef => exact .undef _ _
  | int _ k n h => exact .int _ _ _ h
  | bool => exact .bool _ _
  | str _ s h => exact .str _ _ h
  | nilptr => exact .nilptr _
  | cptr _ b o n c f hs hc h => exact (Rel.cptr _ b o n c f hs hc h : Rel w S [] _ _).mono hS (fun _ _ => rfl) _ (fun i l h => by simp at h)
  | slice _ b o sz n cap full c f hs hn hcap hf hc h => exact (Rel.slice _ b o sz n cap full c f hs hn hcap hf hc h : Rel w S [] _ _).mono hS (fun _ _ => rfl) _ (fun i l h => by simp at h)
  | slice0 _ a cap sz full c hcap hf => exact .slice0 _ _ _ _ _ _ hcap hf
  | nilsl => exact .nilsl _
  | emp _ a => exact .emp _ _
  | nilfn => exact .nilfn _
  | nilmap => exact .nilmap _
  | niliface => exact .niliface _
  | nxtT _ vs cs hl h0 h => exact .nxtT _ _ _ hl h0 fun i hi => (h i hi).mono hS (fun _ _ => rfl) _ (fun _ _ h => h)
  | clo _ id fs cs as0 bs hl0 hl h0 h => exact .clo _ _ _ _ _ _ hl0 hl (fun i hi => (h0 i hi).mono hS (fun _ _ => rfl) _ (fun _ _ h => h)) fun i hi => (h i hi).mono hS (fun _ _ => rfl) _ (fun _ _ h => h)
  | nilB _ b n h => exact .nilB _ _ _ h
  | nxtF => exact .nxtF _ _

theorem Rel.frz {b : Nat} {ol : Option Loc} {B : ABlk} (hm : m[b]? = some ol) (hB : BRel w S m ol B) (hp : plainB B = true) {v : Value} {a : AV} (h : Rel w S m v a) :
    Rel w (SG S ol) (m.set b none) v (Eng.frz b B a) := by
  cases a with
  | agg cs =>
    cases h with
    | agg _ vs _ hl h1 h =>
      exact .agg _ _ _ (by rw [lenA_mapA]; exact hl) (fun i hi => h1 i (by rwa [lenA_mapA] at hi)) fun i hi => by
        rw [lenA_mapA] at hi; rw [nth_mapA _ _ _ hi]; exact (h i hi).frz0 hm hB hp
  | fn f x y =>
    cases h with
    | fn _ _ fs cs _ _ hl hl' h1 h1' h h' =>
      exact .fn _ _ _ _ _ _ (by rw [lenA_mapA]; exact hl) (by rw [lenA_mapA]; exact hl') (fun i hi => h1 i (by rwa [lenA_mapA] at hi)) (fun i hi => h1' i (by rwa [lenA_mapA] at hi))
        (fun i hi => by rw [lenA_mapA] at hi; rw [nth_mapA _ _ _ hi]; exact (h i hi).frz0 hm hB hp) (fun i hi => by rw [lenA_mapA] at hi; rw [nth_mapA _ _ _ hi]; exact (h' i hi).frz0 hm hB hp)
  | tup vs => exact .undef _ _
  | _ => exact h.frz0 hm hB hp

/-- Of what the first state tells, the second one tells no more. -/
def ALe (A B : AS) : Prop := ∀ (base : Env) (w : World) (S : Nat → Prop) (m : Locs) (a : Act), MA base w S m A → ARel w S m a A.ts →
  ∃ S' m', (∀ b, S b → S' b) ∧ (∀ b, S' b → S b ∨ ¬ base.Z b) ∧ MA base w S' m' B ∧ ARel w S' m' a B.ts
theorem ALe.refl (A : AS) : ALe A A := fun _ _ S m _ hM hA => ⟨S, m, fun _ h => h, fun _ h => .inl h, hM, hA⟩
theorem ALe.trans {A B C : AS} (h : ALe A B) (k : ALe B C) : ALe A C := by
  intro base w S m a hM hA
  obtain ⟨S1, m1, a1, a2, a3, a4⟩ := h base w S m a hM hA
  obtain ⟨S2, m2, b1, b2, b3, b4⟩ := k base w S1 m1 a a3 a4
  exact ⟨S2, m2, fun b h => b1 b (a1 b h), fun b h => (b2 b h).elim (a2 b) .inr, b3, b4⟩

/-- A block of one's own is given away. -/
theorem ALe.freeze {A : AS} (b : Nat) {B : ABlk} (hb : blk A.m b = B) (hp : plainB B = true) (hnp : Nat.ble A.np b = true ∨ isCells B = false) : ALe A ⟨mapA (frz b B) A.ts, frzM b B (setBlk A.m b .dead), A.np⟩ := by
  intro base w S m a hM hA
  have hM' := hM.rel
  have hblt : b < lenM A.m := blk_lt _ _ (by rw [hb]; intro e; subst e; simp [plainB] at hp)
  obtain ⟨ol, hol⟩ : ∃ ol, m[b]? = some ol := ⟨m[b]'(by rw [hM'.len]; exact hblt), List.getElem?_eq_getElem _⟩
  have hBr := hM'.bk b ol hol
  rw [hb] at hBr
  have hlt : ∀ l, ol = some l → _ := fun l e => hM'.lt b l (e ▸ hol)
  have hset : ∀ {i : Nat} {x : Option Loc}, (m.set b none)[i]? = some x → (i ≠ b ∧ m[i]? = some x) ∨ (i = b ∧ x = none) := fun {i x} hi => by
    by_cases e : i = b
    · subst e; rw [List.getElem?_set_self (by rw [hM'.len]; exact hblt)] at hi; injection hi with hi; exact .inr ⟨rfl, hi.symm⟩
    · rw [List.getElem?_set_ne (Ne.symm e)] at hi; exact .inl ⟨e, hi⟩
  have hN : MRel base w (SG S ol) (m.set b none) (frzM b B (setBlk A.m b .dead)) := by
    refine ⟨by rw [List.length_set, lenM_frz, lenM_set]; exact hM'.len, fun g hg => hg.elim (hM'.sb g) (fun ⟨l, e, h⟩ => h ▸ (hlt l e).2.1), fun i l' hi => ?_, fun i l' hi => ?_, fun i j l1 l2 hi hj e => ?_, hM'.base_le, fun i l' hi => ?_⟩
    · rw [blk_frz, blk_set]
      rcases hset hi with ⟨hne, hi⟩ | ⟨rfl, rfl⟩
      · rw [if_neg (fun x => hne x.1.symm)]
        have hB := hM'.bk i l' hi
        have hrel : ∀ v x, Rel w S m v x → Rel w (SG S ol) (m.set b none) v (frz0 b B x) := fun v x hr => hr.frz0 hol hBr hp
        have hrel0 : ∀ v x, Rel w S [] v x → Rel w (SG S ol) [] v x := fun v x hr => hr.mono (fun _ h => .inl h) (fun _ _ => rfl) _ (fun _ _ h => h)
        cases l' with
        | none => revert hB; cases blk A.m i <;> exact fun h => h
        | some l' =>
          revert hB
          cases blk A.m i with
          | dead => exact fun h => h
          | cells e cs => rintro ⟨vs, h1, h2, h3, h4⟩; exact ⟨vs, h1, by rw [lenA_mapA]; exact h2, fun i hi => h3 i (by rwa [lenA_mapA] at hi), fun i hi => by rw [lenA_mapA] at hi; rw [nth_mapA _ _ _ hi]; exact hrel _ _ (h4 i hi)⟩
          | rows e sz n c => rintro ⟨h0, h1, h2, h3, vs, h4, h5, h6⟩; exact ⟨h0, h1, h2, h3, vs, h4, h5, fun i hi j hj => ⟨(h6 i hi j hj).1, hrel0 _ _ (h6 i hi j hj).2⟩⟩
          | trows e ty x => rintro ⟨h0, h1, h2, h3, vs, h4, h5, h6⟩; exact ⟨h0, h1, h2, h3, vs, h4, h5, fun i hi j hj => ⟨(h6 i hi j hj).1, hrel0 _ _ (h6 i hi j hj).2⟩⟩
          | siter s pos => exact fun h => h
      · rw [if_pos ⟨rfl, hblt⟩]; trivial
    · rcases hset hi with ⟨hne, hi⟩ | ⟨_, e⟩
      · have q := hM'.lt i l' hi
        exact ⟨q.1, q.2.1, fun hs => hs.elim q.2.2 (fun ⟨l, e, h⟩ => hne (hM'.inj i b l' l hi (e ▸ hol) h))⟩
      · cases e
    · rcases hset hi with ⟨_, hi⟩ | ⟨_, e1⟩
      · rcases hset hj with ⟨_, hj⟩ | ⟨_, e2⟩
        · exact hM'.inj i j l1 l2 hi hj e
        · cases e2
      · cases e1
    · obtain ⟨q1, q2⟩ := hM'.pin i l' hi
      have hne : i ≠ b := fun e => by
        rcases hnp with hnp | hnp
        · have := Nat.le_of_ble_eq_true hnp
          have := hM.pins i l' hi; omega
        · rw [e, hb, hnp] at q2; cases q2
      refine ⟨by rw [List.getElem?_set_ne (Ne.symm hne)]; exact q1, ?_⟩
      rw [blk_frz, blk_set, if_neg (fun x => hne x.1.symm)]
      revert q2; cases blk A.m i <;> exact fun h => h
  have hA' : ARel w (SG S ol) (m.set b none) a (mapA (Eng.frz b B) A.ts) := by
    refine ⟨by rw [lenA_mapA]; exact hA.1, hA.2.1, fun t => ?_⟩
    by_cases ht : t < lenA A.ts
    · rw [nth_mapA _ _ _ ht]; exact (hA.2.2 t).frz hol hBr hp
    · rw [nth_out _ _ (by rw [lenA_mapA]; omega)]; exact .undef _ _
  exact ⟨SG S ol, m.set b none, fun g hg => .inl hg, fun g hg => hg.elim .inl (fun ⟨l, e, h⟩ => .inr (h ▸ (hlt l e).1)), ⟨hN, hM.pins⟩, hA'⟩

/-- A slice that is nil, taken as one of the call's own. -/
theorem ALe.own {A : AS} (i : Nat) (e : TypeId) (u : Ty) (hi : nth A.ts i = .nilsl ∨ nth A.ts i = .emp) : ALe A ⟨put A.ts i (.ownT (lenM A.m)), snocM A.m (.trows e u []), A.np⟩ := by
  intro base w S m a hM hA
  obtain ⟨ht, hm⟩ := hM.rel.allocN (.trows e u []) rfl
  refine ⟨S, m ++ [none], fun _ h => h, fun _ h => .inl h, ⟨hm, hM.pins⟩, ⟨by rw [lenA_put]; exact hA.1, hA.2.1, fun t => ?_⟩⟩
  have hr := hA.2.2 t
  rw [nth_put]
  split
  · rename_i e'
    obtain ⟨rfl, _⟩ := e'
    have hlast : (m ++ [none])[lenM A.m]? = some none := by rw [← hM.rel.len]; simp
    rcases hi with hi | hi <;> rw [hi] at hr <;> (generalize a.tmps.getD i Go.undef = v at hr; cases hr; exact .ownT0 _ _ _ hlast)
  · exact ht.rel hr

/-- The same of a part of a block. -/
theorem ALe.ownC {A : AS} (b j e : Nat) (u : Ty) {e' : Nat} {cs : List AV} (hb : blk A.m b = .cells e' cs) (hj : nth cs j = .nilsl ∨ nth cs j = .emp) :
    ALe A ⟨A.ts, setBlk (snocM A.m (.trows e u [])) b (.cells e' (put cs j (.ownT (lenM A.m)))), A.np⟩ := by
  intro base w S m a hM hA
  obtain ⟨ht, hm⟩ := hM.rel.allocN (.trows e u []) rfl
  have hblt : b < lenM A.m := blk_lt _ _ (by rw [hb]; intro e; cases e)
  have hbm : blk (snocM A.m (.trows e u [])) b = .cells e' cs := by rw [blk_snoc, if_neg (by omega), hb]
  have hlast : (m ++ [none])[lenM A.m]? = some none := by rw [← hM.rel.len]; simp
  refine ⟨S, m ++ [none], fun _ h => h, fun _ h => .inl h, ⟨⟨by rw [lenM_set]; exact hm.len, hm.sb, fun i l hi => ?_, hm.lt, hm.inj, hm.base_le, fun i l hi => ?_⟩, hM.pins⟩, ⟨hA.1, hA.2.1, fun t => ht.rel (hA.2.2 t)⟩⟩
  · have hB := hm.bk i l hi
    rw [blk_set]
    split
    · rename_i e1
      obtain ⟨rfl, _⟩ := e1
      rw [hbm] at hB
      cases l with
      | none => exact hB
      | some l =>
        obtain ⟨vs, h1, h2, h3, h4⟩ := hB
        refine ⟨vs, h1, by rw [lenA_put]; exact h2, fun i hi => h3 i (by rwa [lenA_put] at hi), fun i hi => ?_⟩
        rw [lenA_put] at hi
        have hr := h4 i hi
        rw [nth_put]
        split
        · rename_i e2
          obtain ⟨rfl, _⟩ := e2
          rcases hj with hj | hj <;> rw [hj] at hr <;> (generalize vs.getD j Go.undef = v at hr; cases hr; exact .ownT0 _ _ _ hlast)
        · exact hr
    · exact hB
  · obtain ⟨q1, q2⟩ := hm.pin i l hi
    refine ⟨q1, ?_⟩
    rw [blk_set]
    split
    · rfl
    · exact q2

/-! Before a piece of code. -/
inductive Pre where
  | own (i e : Nat) (u : Ty)
  | ownC (b j e : Nat) (u : Ty)
  | frz (b : Nat)
  | spl (i n : Nat)
def frzOk (A : AS) (b : Nat) : Bool :=
  match isCells (blk A.m b) with
  | false => true
  | true => Nat.ble A.np b
def pre1A : Pre → AS → AS
  | .own i e u, A => match nth A.ts i with
    | .nilsl => ⟨put A.ts i (.ownT (lenM A.m)), snocM A.m (.trows e u []), A.np⟩
    | .emp => ⟨put A.ts i (.ownT (lenM A.m)), snocM A.m (.trows e u []), A.np⟩
    | _ => A
  | .frz b, A => match plainB (blk A.m b), frzOk A b with
    | true, true => ⟨mapA (frz b (blk A.m b)) A.ts, frzM b (blk A.m b) (setBlk A.m b .dead), A.np⟩
    | _, _ => A
  | .spl _ _, A => A
  | .ownC b j e u, A => match blk A.m b with
    | .cells e' cs => match nth cs j with
      | .nilsl => ⟨A.ts, setBlk (snocM A.m (.trows e u [])) b (.cells e' (put cs j (.ownT (lenM A.m)))), A.np⟩
      | .emp => ⟨A.ts, setBlk (snocM A.m (.trows e u [])) b (.cells e' (put cs j (.ownT (lenM A.m)))), A.np⟩
      | _ => A
    | _ => A
def preA : List Pre → AS → AS
  | [], A => A
  | x :: l, A => preA l (pre1A x A)
theorem put_nth (l : List AV) (i : Nat) : put l i (nth l i) = l := by
  induction l generalizing i with
  | nil => rfl
  | cons a l ih => cases i with
    | zero => rfl
    | succ i => simp only [nth, put, ih i]
theorem pre1A_le (x : Pre) (A : AS) : ALe A (pre1A x A) := by
  cases x with
  | own i e u =>
    simp only [pre1A]
    split
    · rename_i h; exact ALe.own i e u (.inl h)
    · rename_i h; exact ALe.own i e u (.inr h)
    · exact ALe.refl _
  | frz b =>
    simp only [pre1A]
    split
    · rename_i h1 h2
      refine ALe.freeze b rfl h1 ?_
      unfold frzOk at h2
      cases hc : isCells (blk A.m b) with
      | false => exact .inr rfl
      | true => rw [hc] at h2; exact .inl h2
    · exact ALe.refl _
  | spl i n => exact ALe.refl _
  | ownC b j e u =>
    simp only [pre1A]
    split
    · rename_i e' cs hb
      split
      · rename_i h; exact ALe.ownC b j e u hb (.inl h)
      · rename_i h; exact ALe.ownC b j e u hb (.inr h)
      · exact ALe.refl _
    · exact ALe.refl _
theorem preA_le : ∀ (l : List Pre) (A : AS), ALe A (preA l A)
  | [], A => ALe.refl A
  | x :: l, A => (pre1A_le x A).trans (preA_le l _)

end Go.Eng
