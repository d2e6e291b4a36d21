/- A contract with memory holds in every larger memory: the frame. -/
import Derived.Test.YtedmkgnbgkhloaaEngVb
namespace Go.Eng
open Go Go.RowKit

variable {P : Program} {T : Tab} {base : Env} {w : World} {S : Nat → Prop} {m : Locs} {M : Mem}

/-- What is handed back is laid where it came from; what is new, behind all. -/
def setLs (m : Locs) : List Nat → Locs → Locs
  | j :: κ, l :: k => setLs (m.set j l) κ k
  | _, k => m ++ k
def setMs (M : Mem) : List Nat → Mem → Mem
  | j :: κ, B :: k => setMs (setBlk M j B) κ k
  | _, [] => M
  | [], B :: k => setMs (snocM M B) [] k

def newKs (n : Nat) : Nat → List Nat
  | 0 => []
  | k + 1 => n :: newKs (n + 1) k
theorem nthN_newKs : ∀ (k n i : Nat), i < k → nthN (newKs n k) i = some (n + i)
  | k + 1, n, 0, _ => rfl
  | k + 1, n, i + 1, h => by
    show nthN (newKs (n + 1) k) i = _
    rw [nthN_newKs k (n + 1) i (by omega)]; congr 1; omega

theorem setLs_nil (m k : Locs) : setLs m [] k = m ++ k := by unfold setLs; rfl

def catN : List Nat → List Nat → List Nat
  | [], l => l
  | a :: k, l => a :: catN k l
theorem catN_eq (k l : List Nat) : catN k l = k ++ l := by induction k with | nil => rfl | cons a k ih => simp [catN, ih]

/-- Where the j-th block of the larger memory comes from. -/
theorem setLs_get : ∀ (κ : List Nat) (m k : Locs), κ.Nodup → (∀ j ∈ κ, j < m.length) → κ.length ≤ k.length →
    (setLs m κ k).length = m.length + (k.length - κ.length) ∧
    (∀ i j : Nat, κ[i]? = some j → (setLs m κ k)[j]? = k[i]?) ∧ (∀ j : Nat, j < m.length → j ∉ κ → (setLs m κ k)[j]? = m[j]?) ∧ (∀ i : Nat, κ.length ≤ i → (setLs m κ k)[m.length + (i - κ.length)]? = k[i]?) := by
  intro κ
  induction κ with
  | nil =>
    intro m k _ _ _
    rw [setLs_nil]
    refine ⟨by simp, fun i j h => by simp at h, fun j hj _ => List.getElem?_append_left hj, fun i _ => ?_⟩
    rw [List.getElem?_append_right (by simp)]; simp
  | cons a κ ih =>
    intro m k hnd hlt hlen
    cases k with
    | nil => simp at hlen
    | cons l k =>
      rw [List.nodup_cons] at hnd
      have ha := hlt a (by simp)
      obtain ⟨q0, q1, q2, q3⟩ := ih (m.set a l) k hnd.2 (fun j hj => by rw [List.length_set]; exact hlt j (by simp [hj])) (by simpa using hlen)
      rw [List.length_set] at q0 q2 q3
      refine ⟨by rw [setLs, q0]; simp, fun i j hi => ?_, fun j hj hn => ?_, fun i hi => ?_⟩
      · cases i with
        | zero =>
          simp at hi; subst hi
          rw [setLs, q2 a ha hnd.1, List.getElem?_set_self ha]; rfl
        | succ i => rw [setLs, q1 i j (by simpa using hi)]; simp
      · simp at hn
        rw [setLs, q2 j hj hn.2, List.getElem?_set_ne (fun e => hn.1 e.symm)]
      · cases i with
        | zero => simp at hi
        | succ i =>
          have := q3 i (by simpa using hi)
          simp only [List.length_cons, setLs, Nat.add_sub_add_right, List.getElem?_cons_succ]
          exact this

theorem setMs_get : ∀ (κ : List Nat) (M k : Mem), κ.Nodup → (∀ j ∈ κ, j < lenM M) → κ.length ≤ lenM k →
    lenM (setMs M κ k) = lenM M + (lenM k - κ.length) ∧
    (∀ i j : Nat, κ[i]? = some j → blk (setMs M κ k) j = blk k i) ∧ (∀ j : Nat, j < lenM M → j ∉ κ → blk (setMs M κ k) j = blk M j) ∧ (∀ i, κ.length ≤ i → i < lenM k → blk (setMs M κ k) (lenM M + (i - κ.length)) = blk k i) := by
  intro κ
  induction κ with
  | nil =>
    intro M k
    induction k generalizing M with
    | nil => intro _ _ _; exact ⟨by simp [setMs, lenM], fun i j h => by simp at h, fun _ _ _ => rfl, fun i _ h => by simp [lenM] at h⟩
    | cons B k ih =>
      intro hnd hlt hlen
      obtain ⟨q0, q1, q2, q3⟩ := ih (snocM M B) hnd (fun j hj => by simp at hj) (by simp)
      rw [lenM_snoc] at q0 q2 q3
      refine ⟨by simp only [setMs, q0, lenM, List.length_nil]; omega, fun i j h => by simp at h, fun j hj hn => ?_, fun i _ hi => ?_⟩
      · rw [setMs, q2 j (by omega) hn, blk_snoc, if_neg (by omega)]
      · cases i with
        | zero =>
          rw [setMs]
          simp only [List.length_nil, Nat.sub_zero, Nat.add_zero]
          rw [q2 (lenM M) (by omega) (by simp), blk_snoc, if_pos rfl]; rfl
        | succ i =>
          have := q3 i (by simp) (by simp [lenM] at hi; omega)
          simp only [List.length_nil, Nat.sub_zero, setMs] at this ⊢
          rw [show lenM M + (i + 1) = lenM M + 1 + i by omega]
          exact this
  | cons a κ ih =>
    intro M k hnd hlt hlen
    cases k with
    | nil => simp [lenM] at hlen
    | cons B k =>
      rw [List.nodup_cons] at hnd
      have ha := hlt a (by simp)
      obtain ⟨q0, q1, q2, q3⟩ := ih (setBlk M a B) k hnd.2 (fun j hj => by rw [lenM_set]; exact hlt j (by simp [hj])) (by simpa [lenM] using hlen)
      rw [lenM_set] at q0 q2 q3
      refine ⟨by rw [setMs, q0]; simp [lenM], fun i j hi => ?_, fun j hj hn => ?_, fun i hi hi' => ?_⟩
      · cases i with
        | zero =>
          simp at hi; subst hi
          rw [setMs, q2 a ha hnd.1, blk_set, if_pos ⟨rfl, ha⟩]; rfl
        | succ i => rw [setMs, q1 i j (by simpa using hi)]; rfl
      · simp at hn
        rw [setMs, q2 j hj hn.2, blk_set, if_neg (fun e => hn.1 e.1.symm)]
      · cases i with
        | zero => simp at hi
        | succ i =>
          have := q3 i (by simpa using hi) (by simp [lenM] at hi'; omega)
          simp only [List.length_cons, setMs, Nat.add_sub_add_right]
          exact this

def mapM' (f : ABlk → ABlk) : Mem → Mem
  | [] => []
  | B :: l => f B :: mapM' f l
theorem lenM_map (f : ABlk → ABlk) (l : Mem) : lenM (mapM' f l) = lenM l := by induction l with | nil => rfl | cons a l ih => simp [mapM', lenM, ih]
theorem blk_map (f : ABlk → ABlk) (l : Mem) (i : Nat) (hi : i < lenM l) : blk (mapM' f l) i = f (blk l i) := by
  induction l generalizing i with
  | nil => simp [lenM] at hi
  | cons a l ih => cases i with
    | zero => rfl
    | succ i => exact ih i (by simp [lenM] at hi; omega)

/-- What a call comes to that is handed the blocks κ of M. -/
def frameR (κ : List Nat) (M M0 : Mem) (r : R) : R where
  v := renN .undef (catN κ (newKs (lenM M) (lenM r.m - lenM M0))) 4 r.v
  m := setMs (match r.inv with | some i => (match nthN κ i with | some j => invalMs j M | none => M) | none => M) κ (mapM' (renB .undef (catN κ (newKs (lenM M) (lenM r.m - lenM M0)))) r.m)
  ks := r.ks
  inv := match r.inv with | some i => nthN κ i | none => none

theorem Via.mono {f : FuncId} {vs : Array Value} {R R' : Ending → World → Prop} (h : Via P f vs w R) (hr : ∀ e w', R e w' → R' e w') : Via P f vs w R' := by
  rcases h with ⟨h1, h2⟩ | ⟨v, w', h1, h2⟩
  · exact .inl ⟨h1, h2.mono hr⟩
  · exact .inr ⟨v, w', h1, hr _ _ h2⟩

theorem SCalls.frame {f : Nat} {args0 args : List AV} {M0 : Mem} {r : R} (h : SCalls P f args0 M0 r) (hge : lenM M0 ≤ lenM r.m) (κ : List Nat) (hlen : κ.length = lenM M0) (hnd : κ.Nodup)
    (hblk : ∀ i j, κ[i]? = some j → j < lenM M ∧ renB badV κ (blk M0 i) = blk M j) (hargs : args = mapA (renN badV κ 4) args0) (hinv : ∀ i, r.inv = some i → i < lenM M0) : SCalls P f args M (frameR κ M M0 r) := by
  intro Z w S m vs hM hr
  subst hargs
  have hnth : ∀ i j, nthN κ i = some j ↔ κ[i]? = some j := fun i j => by rw [nthN_eq]
  have hmlen := hM.len
  -- what lies beside
  let oth : Nat → Prop := fun g => ∃ i l, m[i]? = some (some l) ∧ i ∉ κ ∧ l.g = g
  let E : Env := ⟨fun g => Z.Z g ∨ S g ∨ oth g, fun i => match isCells (blk M0 i) with | true => ((selL m κ)[i]?).join | false => none⟩
  have hE : ∀ i l, E.pin i = some l ↔ isCells (blk M0 i) = true ∧ (selL m κ)[i]? = some (some l) := fun i l => by
    show (match isCells (blk M0 i) with | true => ((selL m κ)[i]?).join | false => none) = some l ↔ _
    cases hic : isCells (blk M0 i) with
    | false => simp
    | true => simp [Option.join_eq_some_iff]
  have hsel : ∀ i l, (selL m κ)[i]? = some l → ∃ j, κ[i]? = some j ∧ m[j]? = some l := fun i l hi => by
    have hlt : i < κ.length := by rw [← selL_len m κ]; exact (List.getElem?_eq_some_iff.1 hi).1
    have e : κ[i]? = some κ[i] := List.getElem?_eq_getElem hlt
    obtain ⟨hj, _⟩ := hblk i _ e
    have hj' : κ[i] < m.length := by rw [hmlen]; exact hj
    refine ⟨_, e, ?_⟩
    rw [selL_get ((hnth _ _).2 e)] at hi
    rw [List.getElem?_eq_getElem hj'] at hi ⊢
    simpa using hi
  have hM0 : MRel E w S (selL m κ) M0 := by
    refine ⟨(selL_len m κ).trans hlen, hM.sb, fun i l hi => ?_, fun i l hi => ?_, fun i i' l l' hi hi' e => ?_, fun g hg => ?_, fun i l hi => ⟨((hE i l).1 hi).2, ((hE i l).1 hi).1⟩⟩
    · obtain ⟨j, q1, q2⟩ := hsel i l hi
      have := hM.bk j l q2
      rw [← (hblk i j q1).2] at this
      exact this.down
    · obtain ⟨j, q1, q2⟩ := hsel i _ hi
      have q := hM.lt j l q2
      refine ⟨?_, q.2.1, q.2.2⟩
      rintro (hz | hs | ⟨i', l', p1, p2, p3⟩)
      · exact q.1 hz
      · exact q.2.2 hs
      · exact p2 (hM.inj i' j l' l p1 q2 p3 ▸ List.mem_of_getElem? q1)
    · obtain ⟨j, q1, q2⟩ := hsel i _ hi
      obtain ⟨j', q1', q2'⟩ := hsel i' _ hi'
      have := hM.inj j j' l l' q2 q2' e
      subst this
      have hi1 : i < κ.length := (List.getElem?_eq_some_iff.1 q1).1
      exact (List.getElem?_inj hi1 hnd).1 (q1.trans q1'.symm)
    · rcases hg with h | h | ⟨i', l', p1, _, p3⟩
      · exact hM.base_le g h
      · exact hM.sb g h
      · rw [← p3]; exact (hM.lt i' l' p1).2.1
  have hr0 : RelL w S (selL m κ) vs args0 := by
    refine ⟨by rw [hr.1, lenA_mapA], fun i hi => ?_⟩
    have := hr.2 i (by rw [lenA_mapA]; exact hi)
    rw [nth_mapA _ _ _ hi] at this
    exact this.down 4
  refine (h E w S (selL m κ) vs hM0 hr0).mono ?_
  rintro e w' ⟨v, S', m0, he, ht, hm, hv⟩
  -- the larger memory
  have hm0 : m0.length = lenM r.m := hm.len
  have hk1 : ∀ j ∈ κ, j < m.length := fun j hj => by
    obtain ⟨i, hi⟩ := List.getElem?_of_mem hj
    rw [hmlen]; exact (hblk i j hi).1
  obtain ⟨L0, L1, L2, L3⟩ := setLs_get κ m m0 hnd hk1 (by rw [hm0, hlen]; exact hge)
  let κ' : List Nat := catN κ (newKs (lenM M) (lenM r.m - lenM M0))
  have hκ' : ∀ i, i < lenM r.m → ∃ j, nthN κ' i = some j ∧ (setLs m κ m0)[j]? = m0[i]? := fun i hi => by
    by_cases hlt : i < κ.length
    · have e : κ[i]? = some κ[i] := List.getElem?_eq_getElem hlt
      refine ⟨κ[i], ?_, L1 i _ e⟩
      rw [nthN_eq]
      show (catN κ _)[i]? = _
      rw [catN_eq, List.getElem?_append_left hlt]; exact e
    · have e : nthN κ' i = some (lenM M + (i - κ.length)) := by
        rw [nthN_eq]
        show (catN κ _)[i]? = _
        rw [catN_eq, List.getElem?_append_right (by omega), ← nthN_eq]
        exact nthN_newKs _ _ _ (by omega)
      refine ⟨_, e, ?_⟩
      rw [← hmlen]; exact L3 i (by omega)
  have hup : ∀ i l, m0[i]? = some l → ∃ j, nthN κ' i = some j ∧ (setLs m κ m0)[j]? = some l := fun i l hi => by
    obtain ⟨j, q1, q2⟩ := hκ' i (by rw [← hm0]; exact (List.getElem?_eq_some_iff.1 hi).1)
    exact ⟨j, q1, q2.trans hi⟩
  let inv' : Option Nat := match r.inv with | some i => nthN κ i | none => none
  let M1 : Mem := match r.inv with | some i => (match nthN κ i with | some j => invalMs j M | none => M) | none => M
  have hM1 : ∀ j, blk M1 j = (match inv' with | some i => invalB i (blk M j) | none => blk M j) ∧ lenM M1 = lenM M := fun j => by
    show blk (match r.inv with | some i => (match nthN κ i with | some j => invalMs j M | none => M) | none => M) j = (match (match r.inv with | some i => nthN κ i | none => none) with | some i => invalB i (blk M j) | none => blk M j) ∧ lenM (match r.inv with | some i => (match nthN κ i with | some j => invalMs j M | none => M) | none => M) = lenM M
    cases r.inv with
    | none => exact ⟨rfl, rfl⟩
    | some i =>
      cases hn : nthN κ i with
      | none => simp only [hn]; trivial
      | some q => simp only [hn]; exact ⟨blk_invalMs _ _ _, lenM_invalMs _ _⟩
  have hlen1 : lenM M1 = lenM M := (hM1 0).2
  obtain ⟨N0, N1, N2, N3⟩ := setMs_get κ M1 (mapM' (renB .undef κ') r.m) hnd (fun j hj => by rw [hlen1, ← hmlen]; exact hk1 j hj) (by rw [lenM_map, hlen]; exact hge)
  rw [lenM_map, hlen1] at N0 N3
  rw [hlen1] at N2
  have hfr : (frameR κ M M0 r).m = setMs M1 κ (mapM' (renB .undef κ') r.m) := rfl
  have hlm : ∀ (i : Nat) (l : Option Loc), inv' ≠ some i → m[i]? = some l → (setLs m κ m0)[i]? = some l := fun i l hne hi => by
    have hilt : i < m.length := (List.getElem?_eq_some_iff.1 hi).1
    by_cases hik : i ∈ κ
    · obtain ⟨t, htk⟩ := List.getElem?_of_mem hik
      rw [L1 t i htk]
      refine ht.lm t l (fun e' => hne ?_) ?_
      · show (match r.inv with | some i => nthN κ i | none => none) = some i
        rw [e']; exact (hnth _ _).2 htk
      · rw [selL_get ((hnth _ _).2 htk), hi]; rfl
    · rw [L2 i hilt hik]; exact hi
  have hst : ∀ g, S g → w'.heap[g]? = w.heap[g]? := fun g hg => ht.below.block g (.inr (.inl hg))
  have hoth : ∀ i l, m[i]? = some (some l) → i ∉ κ → E.Z l.g := fun i l hi hn => .inr (.inr ⟨i, l, hi, hn, rfl⟩)
  -- where a place of the larger memory comes from
  have hplace : ∀ j l, (setLs m κ m0)[j]? = some l → (∃ i, i < lenM r.m ∧ m0[i]? = some l ∧ blk (setMs M1 κ (mapM' (renB .undef κ') r.m)) j = renB .undef κ' (blk r.m i) ∧ (i < κ.length → κ[i]? = some j) ∧ (κ.length ≤ i → j = m.length + (i - κ.length))) ∨
      (j ∉ κ ∧ m[j]? = some l ∧ blk (setMs M1 κ (mapM' (renB .undef κ') r.m)) j = blk M1 j) := fun j l hj => by
    by_cases hjk : j ∈ κ
    · obtain ⟨i, hi⟩ := List.getElem?_of_mem hjk
      have hil : i < κ.length := (List.getElem?_eq_some_iff.1 hi).1
      have hir : i < lenM r.m := by omega
      refine .inl ⟨i, hir, (L1 i j hi).symm.trans hj, ?_, fun _ => hi, fun h => by omega⟩
      rw [N1 i j hi, blk_map _ _ _ hir]
    · by_cases hjm : j < m.length
      · exact .inr ⟨hjk, (L2 j hjm hjk).symm.trans hj, N2 j (by rw [← hmlen]; exact hjm) hjk⟩
      · have hjl : j < m.length + (m0.length - κ.length) := by rw [← L0]; exact (List.getElem?_eq_some_iff.1 hj).1
        obtain ⟨i, hi1, hi2, hi3⟩ : ∃ i, j = m.length + (i - κ.length) ∧ κ.length ≤ i ∧ i < lenM r.m := ⟨j - m.length + κ.length, by omega, by omega, by omega⟩
        subst hi1
        refine .inl ⟨i, hi3, (L3 i hi2).symm.trans hj, ?_, fun h => by omega, fun _ => rfl⟩
        have := N3 i hi2 hi3
        rw [hmlen, this, blk_map _ _ _ hi3]
  have hnz : ∀ g, ¬ E.Z g → ¬ Z.Z g := fun g h h' => h (.inl h')
  have holdS : ∀ g, E.Z g → ¬ S g → ¬ S' g := fun g hz hs hs' => (ht.up g hs').elim hs (fun h => h hz)
  refine ⟨v, S', setLs m κ m0, he, ⟨ht.below.mono fun g h => .inl h, ht.sub, fun g h => (ht.up g h).imp id (hnz g), hst, hlm⟩, ?_, hv.up hup 4⟩
  rw [hfr]
  refine ⟨by rw [L0, N0, hm0, hmlen], hm.sb, fun j l hj => ?_, fun j l hj => ?_, fun i j l l' hi hj e => ?_, fun g hg => Nat.lt_of_lt_of_le (hM.base_le g hg) ht.below.size, fun i l hi => ?_⟩
  · rcases hplace j l hj with ⟨i, _, hi, hb, _, _⟩ | ⟨hjk, hjm, hb⟩
    · rw [hb]; exact (hm.bk i l hi).up hup
    · rw [hb, (hM1 j).1]
      have hB := hM.bk j l hjm
      have hheap : ∀ l₀, l = some l₀ → w'.heap[l₀.g]? = w.heap[l₀.g]? := fun l₀ e => ht.below.block _ (hoth j l₀ (e ▸ hjm) hjk)
      have hrel0 : ∀ v a, Rel w S [] v a → Rel w' S' [] v a := fun v a hr => hr.mono ht.sub hst _ (fun _ _ h => h)
      cases hinv' : inv' with
      | none =>
        have hrel : ∀ v a, Rel w S m v a → Rel w' S' (setLs m κ m0) v a := fun v a hr => hr.mono ht.sub hst _ fun i l h => hlm i l (by rw [hinv']; simp) h
        cases l with
        | none => revert hB; cases blk M j <;> exact fun h => h
        | some l₀ =>
          have hh := hheap l₀ rfl
          revert hB
          cases blk M j with
          | dead => exact fun h => h
          | cells e cs => rintro ⟨vs, h1, h2, h3, h4⟩; exact ⟨vs, hh.trans h1, h2, h3, fun i hi => hrel _ _ (h4 i hi)⟩
          | rows e sz n c => rintro ⟨h0, h1, h2, h3, vs, h4, h5, h6⟩; exact ⟨h0, h1, h2, h3, vs, hh.trans h4, h5, fun i hi j hj => ⟨(h6 i hi j hj).1, hrel0 _ _ (h6 i hi j hj).2⟩⟩
          | trows e ty x => rintro ⟨h0, h1, h2, h3, vs, h4, h5, h6⟩; exact ⟨h0, h1, h2, h3, vs, hh.trans h4, h5, fun i hi j hj => ⟨(h6 i hi j hj).1, hrel0 _ _ (h6 i hi j hj).2⟩⟩
          | siter s pos => rintro ⟨h1, h2⟩; exact ⟨hh.trans h1, h2⟩
      | some x =>
        have hrel : ∀ v a, Rel w S m v a → v.oneCell' = true → Rel w' S' (setLs m κ m0) v (inval0 x a) := fun v a hr h1 => hr.inval0 ht.sub hst (fun i l hne h => hlm i l (by rw [hinv']; simpa using fun e => hne e.symm) h) (hr.no_agg h1)
        show BRel w' S' (setLs m κ m0) l (invalB x (blk M j))
        cases l with
        | none => revert hB; cases blk M j <;> exact fun h => h
        | some l₀ =>
          have hh := hheap l₀ rfl
          revert hB
          cases blk M j with
          | dead => exact fun h => h
          | cells e cs =>
            rintro ⟨vs, h1, h2, h3, h4⟩
            refine ⟨vs, hh.trans h1, by rw [lenA_inval0s]; exact h2, fun i hi => h3 i (by rwa [lenA_inval0s] at hi), fun i hi => ?_⟩
            rw [lenA_inval0s] at hi
            rw [nth_inval0s]; exact hrel _ _ (h4 i hi) (h3 i hi)
          | rows e sz n c => rintro ⟨h0, h1, h2, h3, vs, h4, h5, h6⟩; exact ⟨h0, h1, h2, h3, vs, hh.trans h4, h5, fun i hi j hj => ⟨(h6 i hi j hj).1, hrel0 _ _ (h6 i hi j hj).2⟩⟩
          | trows e ty x => rintro ⟨h0, h1, h2, h3, vs, h4, h5, h6⟩; exact ⟨h0, h1, h2, h3, vs, hh.trans h4, h5, fun i hi j hj => ⟨(h6 i hi j hj).1, hrel0 _ _ (h6 i hi j hj).2⟩⟩
          | siter s pos => rintro ⟨h1, h2⟩; exact ⟨hh.trans h1, h2⟩
  · rcases hplace j _ hj with ⟨i, _, hi, _, _, _⟩ | ⟨hjk, hjm, _⟩
    · have q := hm.lt i l hi
      exact ⟨hnz _ q.1, q.2⟩
    · have q := hM.lt j l hjm
      exact ⟨q.1, Nat.lt_of_lt_of_le q.2.1 ht.below.size, holdS _ (hoth j l hjm hjk) q.2.2⟩
  · rcases hplace i _ hi with ⟨t, ht1, ht2, _, ht3, ht4⟩ | ⟨hik, him, _⟩ <;> rcases hplace j _ hj with ⟨t', ht1', ht2', _, ht3', ht4'⟩ | ⟨hjk, hjm, _⟩
    · have := hm.inj t t' l l' ht2 ht2' e
      subst this
      by_cases hlt : t < κ.length
      · have e1 := (ht3 hlt).symm.trans (ht3' hlt); injection e1
      · rw [ht4 (by omega), ht4' (by omega)]
    · exact absurd (e ▸ hoth j l' hjm hjk) (hm.lt t l ht2).1
    · exact absurd (e ▸ hoth i l him hik) (hm.lt t' l' ht2').1
    · exact hM.inj i j l l' him hjm e
  · obtain ⟨q1, q2⟩ := hM.pin i l hi
    have hilt : i < m.length := (List.getElem?_eq_some_iff.1 q1).1
    by_cases hik : i ∈ κ
    · obtain ⟨t, htk⟩ := List.getElem?_of_mem hik
      have htl : t < κ.length := (List.getElem?_eq_some_iff.1 htk).1
      have hic : isCells (blk M0 t) = true := by
        have := (hblk t i htk).2
        rw [← isCells_ren badV κ, this]; exact q2
      obtain ⟨p1, p2⟩ := hm.pin t l ((hE t l).2 ⟨hic, by rw [selL_get ((hnth _ _).2 htk), q1]; rfl⟩)
      refine ⟨(L1 t i htk).trans p1, ?_⟩
      rw [N1 t i htk, blk_map _ _ _ (by omega), isCells_ren]; exact p2
    · refine ⟨(L2 i hilt hik).trans q1, ?_⟩
      rw [N2 i (by rw [← hmlen]; exact hilt) hik, (hM1 i).1]
      cases inv' with
      | none => exact q2
      | some x => show isCells (invalB x (blk M i)) = true; rw [isCells_inval]; exact q2

end Go.Eng
