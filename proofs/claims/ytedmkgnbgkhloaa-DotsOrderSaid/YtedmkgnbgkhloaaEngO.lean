/- A region that may go in any order: the proof that each order comes to the same. -/
import Derived.Test.YtedmkgnbgkhloaaEngN
namespace Go.Eng
open Go Go.RowKit

variable {P : Program} {T : Tab} {base : Env} {w : World} {S : Nat → Prop} {m : Locs} {M : Mem}

def predsOf (o : Oper) : List Nat := (o.after.toList.filter fun e => Region.binds .any e).map (·.on)

/-- The check of a region's text, one operation against all. -/
def drawOk1 (ops : Array Oper) (i : Nat) (o : Oper) : Bool :=
  (predsOf o).all (fun j => Nat.blt j i) &&
  (match o.guard with | some (g, _) => (predsOf o).contains g | none => true) &&
  (List.range ops.size).all fun j => match ops[j]? with
    | none => true
    | some o' => match o'.dst with
      | none => true
      | some d => (j == i || o.dst != some d) && (!(o.looksAt ops).contains d || (predsOf o).contains j || (predsOf o').contains i)

def drawOk (ops : Array Oper) : Bool :=
  (List.range ops.size).all fun i => match ops[i]? with
    | none => true
    | some o => drawOk1 ops i o

structure DrawOk (ops : Array Oper) : Prop where
  back : ∀ (i : Nat) (o : Oper), ops[i]? = some o → ∀ j ∈ predsOf o, j < i
  guard : ∀ (i : Nat) (o : Oper) (g : Nat) (b : Bool), ops[i]? = some o → o.guard = some (g, b) → g ∈ predsOf o
  one : ∀ (i j : Nat) (o o' : Oper) (d : Nat), ops[i]? = some o → ops[j]? = some o' → o'.dst = some d → j ≠ i → o.dst ≠ some d
  look : ∀ (i j : Nat) (o o' : Oper) (d : Nat), ops[i]? = some o → ops[j]? = some o' → o'.dst = some d → d ∈ o.looksAt ops → j ∈ predsOf o ∨ i ∈ predsOf o'

theorem DrawOk.of {ops : Array Oper} (h : drawOk ops = true) : DrawOk ops := by
  have h1 : ∀ (i : Nat) (o : Oper), ops[i]? = some o → drawOk1 ops i o = true := fun i o hi => by
    unfold drawOk at h
    rw [List.all_eq_true] at h
    have := h i (by rw [List.mem_range]; exact (Array.getElem?_eq_some_iff.1 hi).1)
    simpa only [hi] using this
  have h2 : ∀ (i j : Nat) (o o' : Oper) (d : Nat), ops[i]? = some o → ops[j]? = some o' → o'.dst = some d → ((j == i || o.dst != some d) && (!(o.looksAt ops).contains d || (predsOf o).contains j || (predsOf o').contains i)) = true := fun i j o o' d hi hj hd => by
    have := h1 i o hi
    unfold drawOk1 at this
    rw [Bool.and_eq_true, Bool.and_eq_true, List.all_eq_true (l := List.range ops.size)] at this
    have := this.2 j (by rw [List.mem_range]; exact (Array.getElem?_eq_some_iff.1 hj).1)
    simpa only [hj, hd] using this
  refine ⟨fun i o hi j hj => ?_, fun i o g b hi hg => ?_, fun i j o o' d hi hj hd hne he => ?_, fun i j o o' d hi hj hd hl => ?_⟩
  · have := h1 i o hi
    unfold drawOk1 at this
    rw [Bool.and_eq_true, Bool.and_eq_true, List.all_eq_true] at this
    have := this.1.1 j hj
    exact Nat.blt_eq ▸ this
  · have := h1 i o hi
    unfold drawOk1 at this
    rw [Bool.and_eq_true, Bool.and_eq_true] at this
    have := this.1.2
    rw [hg] at this
    simpa using this
  · have := h2 i j o o' d hi hj hd
    simp [hne, he] at this
  · have := h2 i j o o' d hi hj hd
    rw [Bool.and_eq_true] at this
    have := this.2
    simp [hl] at this
    exact this

def Wr (ops : Array Oper) (L : Nat → Prop) (t : Nat) : Prop := ∃ j o, L j ∧ ops[j]? = some o ∧ o.dst = some t

/-- A state in which just the operations of L are done. -/
structure Hyb (ops : Array Oper) (s0 sn : St) (L : Nat → Prop) (h : St) : Prop where
  m : h.m = s0.m
  len : lenA h.ts = lenA s0.ts
  wr : ∀ t, Wr ops L t → nth h.ts t = nth sn.ts t ∧ tagOf h.tg t = tagOf sn.tg t
  un : ∀ t, ¬ Wr ops L t → nth h.ts t = nth s0.ts t ∧ tagOf h.tg t = []
  tg : ∀ t C, (t, C) ∈ h.tg → ∀ s b, (s, b) ∈ C → Wr ops L s
  ks : AllT h.ks

theorem mem_tagOf {tg : Tags} {t s : Nat} {b : Bool} (h : (s, b) ∈ tagOf tg t) : ∃ C, (t, C) ∈ tg ∧ (s, b) ∈ C := by
  induction tg with
  | nil => simp [tagOf] at h
  | cons x tg ih =>
    obtain ⟨u, C⟩ := x
    simp only [tagOf] at h
    split at h
    · rename_i e
      have e := Nat.eq_of_beq_eq_true e
      subst e
      exact ⟨C, by simp, h⟩
    · obtain ⟨C', h1, h2⟩ := ih h
      exact ⟨C', List.mem_cons_of_mem _ h1, h2⟩

theorem mem_setTag {tg : Tags} {d t : Nat} {C C' : Chain} (h : (t, C') ∈ setTag tg d C) : (t = d ∧ C' = C) ∨ (t, C') ∈ tg := by
  unfold setTag at h
  split at h
  · exact .inr h
  · rcases List.mem_cons.1 h with h | h
    · injection h with h1 h2; exact .inl ⟨h1, h2⟩
    · exact .inr h

theorem mentions_false {d : Nat} {C : Chain} (h : ∀ s b, (s, b) ∈ C → d ≠ s) : mentions d C = false := by
  induction C with
  | nil => rfl
  | cons x C ih =>
    obtain ⟨s, b⟩ := x
    simp only [mentions]
    rw [nbeq_ne (h s b (by simp))]
    exact ih fun s b hm => h s b (List.mem_cons_of_mem _ hm)

theorem mentioned_false {d : Nat} {tg : Tags} (h : ∀ t C, (t, C) ∈ tg → ∀ s b, (s, b) ∈ C → d ≠ s) : mentioned d tg = false := by
  induction tg with
  | nil => rfl
  | cons x tg ih =>
    obtain ⟨t, C⟩ := x
    simp only [mentioned]
    rw [mentions_false fun s b hm => h t C (by simp) s b hm]
    exact ih fun t C hm => h t C (List.mem_cons_of_mem _ hm)

/-- An operation more. -/
theorem Hyb.step {ops : Array Oper} (hd : DrawOk ops) {s0 sn h : St} {L : Nat → Prop} (hh : Hyb ops s0 sn L h) {i : Nat} {o : Oper} (hi : ops[i]? = some o) (hL : ¬ L i) {C : Chain} {v : AV} {ks : List Bool} (hk : AllT ks)
    (hC : ∀ s b, (s, b) ∈ C → Wr ops L s) (hsn : ∀ d, o.dst = some d → nth sn.ts d = nth (put s0.ts d v) d ∧ tagOf sn.tg d = C) :
    Hyb ops s0 sn (fun j => L j ∨ j = i) (layE h o.dst (some (C, v, ks))) := by
  have fresh : ∀ d, o.dst = some d → ¬ Wr ops L d := fun d hdst ⟨j, o', hj, ho', hd'⟩ => hd.one i j o o' d hi ho' hd' (fun e => hL (e ▸ hj)) hdst
  have wmono : ∀ t, Wr ops L t → Wr ops (fun j => L j ∨ j = i) t := fun t ⟨j, o', hj, h'⟩ => ⟨j, o', .inl hj, h'⟩
  have wcase : ∀ t, Wr ops (fun j => L j ∨ j = i) t → Wr ops L t ∨ o.dst = some t := fun t ⟨j, o', hj, ho', hd'⟩ => by
    rcases hj with hj | rfl
    · exact .inl ⟨j, o', hj, ho', hd'⟩
    · rw [hi] at ho'; injection ho' with ho'; subst ho'; exact .inr hd'
  cases hdst : o.dst with
  | none =>
    have e : layE h none (some (C, v, ks)) = ⟨h.ts, h.m, h.tg, catB h.ks ks⟩ := rfl
    rw [e]
    refine ⟨hh.m, hh.len, fun t ht => ?_, fun t ht => hh.un t fun hw => ht (wmono t hw), fun t C hm s b hs => wmono _ (hh.tg t C hm s b hs), ?_⟩
    · rcases wcase t ht with ht | ht
      · exact hh.wr t ht
      · rw [hdst] at ht; simp at ht
    · rw [AllT.cat]; exact ⟨hh.ks, hk⟩
  | some d =>
    have hfr := fresh d hdst
    have e : layE h (some d) (some (C, v, ks)) = ⟨put h.ts d v, h.m, setTag h.tg d C, catB h.ks ks⟩ := by
      show lay h C (some d) v h.m ks none = _
      have q1 : mentioned d h.tg = false := mentioned_false fun t C hm s b hs (e : d = s) => hfr (e ▸ hh.tg t C hm s b hs)
      have q2 : mentions d C = false := mentions_false fun s b hs (e : d = s) => hfr (e ▸ hC s b hs)
      unfold lay
      simp only [q1, q2]
    rw [e]
    obtain ⟨k1, k2⟩ := hsn d hdst
    refine ⟨hh.m, by rw [lenA_put]; exact hh.len, fun t ht => ?_, fun t ht => ?_, fun t C' hm s b hs => ?_, ?_⟩
    · simp only
      rw [tagOf_set, nth_put]
      by_cases et : d = t
      · subst et
        rw [if_pos rfl, k2, k1, nth_put, hh.len]
        refine ⟨?_, rfl⟩
        by_cases hlt : d < lenA s0.ts
        · rw [if_pos ⟨rfl, hlt⟩, if_pos ⟨rfl, hlt⟩]
        · rw [if_neg (fun x => hlt x.2), if_neg (fun x => hlt x.2)]; exact (hh.un d hfr).1
      · rw [if_neg et, if_neg (fun x => et x.1)]
        rcases wcase t ht with ht | ht
        · exact hh.wr t ht
        · rw [hdst] at ht; injection ht with ht; exact absurd ht et
    · simp only
      have et : d ≠ t := fun et => ht ⟨i, o, .inr rfl, hi, et ▸ hdst⟩
      rw [tagOf_set, nth_put, if_neg et, if_neg (fun x => et x.1)]
      exact hh.un t fun hw => ht (wmono t hw)
    · rcases mem_setTag hm with ⟨_, rfl⟩ | hm
      · exact wmono _ (hC s b hs)
      · exact wmono _ (hh.tg t C' hm s b hs)
    · simp only
      rw [AllT.cat]; exact ⟨hh.ks, hk⟩

theorem layE_ks {s : St} {d : Option Nat} {e : Option (Chain × AV × List Bool)} (h : AllT (layE s d e).ks) : ∃ C v ks, e = some (C, v, ks) ∧ AllT s.ks ∧ AllT ks := by
  cases e with
  | none => exact (fail_ks h).elim
  | some e => obtain ⟨C, v, ks⟩ := e; exact ⟨C, v, ks, rfl, lay_ks h⟩

def putO (ts : List AV) (d : Option Nat) (v : AV) (t : Nat) : AV := match d with | some d => nth (put ts d v) t | none => nth ts t
def tagO (tg : Tags) (d : Option Nat) (C : Chain) (t : Nat) : Chain := match d with | some d => (if d = t then C else tagOf tg t) | none => tagOf tg t

theorem layE_form {s : St} {d : Option Nat} {C : Chain} {v : AV} {ks : List Bool} (h : AllT (layE s d (some (C, v, ks))).ks) :
    (∀ t, nth (layE s d (some (C, v, ks))).ts t = putO s.ts d v t) ∧ (∀ t, tagOf (layE s d (some (C, v, ks))).tg t = tagO s.tg d C t) ∧
      lenA (layE s d (some (C, v, ks))).ts = lenA s.ts ∧ (layE s d (some (C, v, ks))).m = s.m := by
  cases d with
  | none => exact ⟨fun _ => rfl, fun _ => rfl, rfl, rfl⟩
  | some d =>
    simp only [layE] at h ⊢
    unfold lay at h ⊢
    simp only at h ⊢
    split at h
    case h_2 => exact (fail_ks h).elim
    exact ⟨fun _ => rfl, fun t => tagOf_set _ _ _ _, lenA_put _ _ _, rfl⟩

/-- The state before operation k, in the order of the text. -/
def stAt (p : Prims) (T : Tab) (call : Oracle) (ops : Array Oper) (s0 : St) (k : Nat) : St := aOpsQ p T call ops.toList (ops.toList.take k) s0

theorem aOpsQ_append {p : Prims} {call : Oracle} {all : List Oper} : ∀ (l k : List Oper) (s : St), aOpsQ p T call all (l ++ k) s = aOpsQ p T call all k (aOpsQ p T call all l s) := by
  intro l
  induction l with
  | nil => intro k s; rfl
  | cons o l ih => intro k s; exact ih k _

theorem stAt_succ {p : Prims} {call : Oracle} {ops : Array Oper} {s0 : St} {k : Nat} {o : Oper} (h : ops[k]? = some o) : stAt p T call ops s0 (k + 1) = aOperQ p T call ops.toList (stAt p T call ops s0 k) o := by
  unfold stAt
  have : ops.toList[k]? = some o := by rw [Array.getElem?_toList]; exact h
  rw [List.take_add_one, this, aOpsQ_append]
  rfl

section
variable {p : Prims} {call : Oracle} {ops : Array Oper} {s0 : St}

theorem stAt_ks (hk : AllT (stAt p T call ops s0 ops.size).ks) : ∀ d k, k + d = ops.size → AllT (stAt p T call ops s0 k).ks := by
  intro d
  induction d with
  | zero => intro k h; have h : k = ops.size := h; rw [h]; exact hk
  | succ d ih =>
    intro k h
    have h1 := ih (k + 1) (by omega)
    have hlt : k < ops.size := by omega
    rw [stAt_succ (Array.getElem?_eq_getElem hlt)] at h1
    obtain ⟨C, v, ks, _, h2, _⟩ := layE_ks h1
    exact h2

theorem stAt_ks' (hk : AllT (stAt p T call ops s0 ops.size).ks) {k : Nat} (h : k ≤ ops.size) : AllT (stAt p T call ops s0 k).ks := stAt_ks hk (ops.size - k) k (by omega)

/-- A slot that is not written from k on. -/
theorem stAt_keep (hk : AllT (stAt p T call ops s0 ops.size).ks) {t : Nat} : ∀ d k, k + d = ops.size → (∀ j o, k ≤ j → ops[j]? = some o → o.dst ≠ some t) →
    nth (stAt p T call ops s0 ops.size).ts t = nth (stAt p T call ops s0 k).ts t ∧ tagOf (stAt p T call ops s0 ops.size).tg t = tagOf (stAt p T call ops s0 k).tg t := by
  intro d
  induction d with
  | zero => intro k h _; have h : k = ops.size := h; rw [h]; exact ⟨rfl, rfl⟩
  | succ d ih =>
    intro k h hno
    have hlt : k < ops.size := by omega
    have hg := Array.getElem?_eq_getElem hlt
    obtain ⟨e1, e2⟩ := ih (k + 1) (by omega) (fun j o hj => hno j o (by omega))
    have hks := stAt_ks' hk (k := k + 1) (by omega)
    rw [e1, e2]
    rw [stAt_succ hg] at hks ⊢
    unfold aOperQ at hks ⊢
    obtain ⟨C, v, ks, he, _, _⟩ := layE_ks hks
    rw [he] at hks ⊢
    obtain ⟨f1, f2, _, _⟩ := layE_form hks
    rw [f1, f2]
    have hn := hno k _ (Nat.le_refl _) hg
    generalize ops[k].dst = d at hn
    cases d with
    | none => exact ⟨rfl, rfl⟩
    | some d =>
      have hne : d ≠ t := fun e => hn (e ▸ rfl)
      simp only [putO, tagO]
      rw [nth_put, if_neg (fun x => hne x.1), if_neg hne]
      exact ⟨rfl, rfl⟩

theorem stAt_same (hk : AllT (stAt p T call ops s0 ops.size).ks) : ∀ k, k ≤ ops.size → (stAt p T call ops s0 k).m = s0.m ∧ lenA (stAt p T call ops s0 k).ts = lenA s0.ts := by
  intro k
  induction k with
  | zero => intro _; exact ⟨rfl, rfl⟩
  | succ k ih =>
    intro h
    have hlt : k < ops.size := by omega
    have hg := Array.getElem?_eq_getElem hlt
    have hks := stAt_ks' hk h
    obtain ⟨i1, i2⟩ := ih (by omega)
    rw [stAt_succ hg] at hks ⊢
    unfold aOperQ at hks ⊢
    obtain ⟨C, v, ks, he, _, _⟩ := layE_ks hks
    rw [he] at hks ⊢
    obtain ⟨_, _, f3, f4⟩ := layE_form hks
    rw [f3, f4]; exact ⟨i1, i2⟩

theorem guard_chain {all : List Oper} {tg : Tags} {g : Option (Nat × Bool)} {C : Chain} (h : chainOf all tg g = some C) :
    C = [] ∧ g = none ∨ ∃ j b o d, g = some (j, b) ∧ all[j]? = some o ∧ o.dst = some d ∧ C = tagOf tg d ++ [(d, b)] := by
  cases g with
  | none => injection h with h; exact .inl ⟨h.symm, rfl⟩
  | some jb =>
    obtain ⟨j, b⟩ := jb
    simp only [chainOf] at h
    split at h
    case h_2 => simp at h
    rename_i d op ty pos af gu hd
    injection h with h
    rw [nthO_eq] at hd
    exact .inr ⟨j, b, _, d, rfl, hd, rfl, by rw [← h, catC_eq]⟩

/-- What text order comes to. -/
theorem stAt_hyb (hd : DrawOk ops) (h0 : s0.tg = []) (hk : AllT (stAt p T call ops s0 ops.size).ks) : ∀ k, k ≤ ops.size → Hyb ops s0 (stAt p T call ops s0 ops.size) (fun j => j < k) (stAt p T call ops s0 k) := by
  intro k
  induction k with
  | zero =>
    intro _
    have e : stAt p T call ops s0 0 = s0 := by simp [stAt, aOpsQ]
    rw [e]
    refine ⟨rfl, rfl, fun t ⟨j, o, hj, _⟩ => absurd hj (Nat.not_lt_zero _), fun t _ => ⟨rfl, by rw [h0]; rfl⟩, fun t C hm => by rw [h0] at hm; simp at hm, ?_⟩
    have := stAt_ks' hk (k := 0) (by omega)
    rwa [e] at this
  | succ k ih =>
    intro h
    have hlt : k < ops.size := by omega
    have hg := Array.getElem?_eq_getElem hlt
    have hks := stAt_ks' hk h
    have hh := ih (by omega)
    have es := stAt_succ (T := T) (p := p) (call := call) (s0 := s0) hg
    rw [es] at hks ⊢
    unfold aOperQ at hks ⊢
    obtain ⟨C, v, ks, he, _, hkk⟩ := layE_ks hks
    rw [he] at hks ⊢
    have hC : ∀ s b, (s, b) ∈ C → Wr ops (fun j => j < k) s := fun s b hm => by
      unfold eff at he
      split at he
      · simp at he
      rename_i C' hC'
      have e : C' = C := by
        unfold eff2 at he
        split at he
        · split at he
          · cases he; rfl
          · simp at he
        · unfold effVal at he
          split at he
          · simp only at he
            split at he
            · cases he; rfl
            · simp at he
          · simp at he
      subst e
      rcases guard_chain hC' with ⟨rfl, _⟩ | ⟨j, b', o', d, hgd, hj, hd', rfl⟩
      · simp at hm
      · rcases List.mem_append.1 hm with hm | hm
        · obtain ⟨C'', h1, h2⟩ := mem_tagOf hm
          exact hh.tg _ _ h1 _ _ h2
        · simp at hm
          obtain ⟨rfl, rfl⟩ := hm
          exact ⟨j, o', hd.back k _ hg _ (hd.guard k _ j b hg hgd), by rw [← Array.getElem?_toList]; exact hj, hd'⟩
    have hst := hh.step hd hg (Nat.lt_irrefl k) hkk hC (v := v) fun d hdst => by
      have hkeep := stAt_keep (t := d) hk (ops.size - (k + 1)) (k + 1) (by omega) fun j o hj ho hod => hd.one k j _ o d hg ho hod (by omega) hdst
      rw [es] at hkeep
      unfold aOperQ at hkeep
      rw [he] at hkeep
      obtain ⟨f1, f2, _, _⟩ := layE_form hks
      rw [f1, f2, hdst] at hkeep
      simp only [putO, tagO, if_true] at hkeep
      refine ⟨hkeep.1.trans ?_, hkeep.2⟩
      rw [nth_put, nth_put, hh.len]
      by_cases hlt : d < lenA s0.ts
      · rw [if_pos ⟨rfl, hlt⟩, if_pos ⟨rfl, hlt⟩]
      · rw [if_neg (fun x => hlt x.2), if_neg (fun x => hlt x.2), nth_out _ _ (by rw [hh.len]; exact Nat.le_of_not_lt hlt), nth_out _ _ (Nat.le_of_not_lt hlt)]
    have eL : (fun j => j < k ∨ j = k) = (fun j => j < k + 1) := by funext j; apply propext; omega
    rw [eL] at hst
    exact hst

end

end Go.Eng
