/- Laws in plain Lean: d39. -/
import Derived.Test.YtapnoaalcbcmaaaB39
namespace Go.Eng
open Go Go.Proofs Go.RowKit

/-! How the two are alike. -/
def Srt (L : OvL) : Prop := L.Pairwise fun a b => ltS a.2.1 b.2.1 = true
def fL (L : OvL) (q : Str) : Option R39_Over := L.find? fun x => x.2.1 == q
theorem fL_cons (x : R39_Over) (L : OvL) (q : Str) : fL (x :: L) q = if x.2.1 = q then some x else fL L q := by
  unfold fL
  rw [List.find?_cons]
  by_cases e : x.2.1 = q
  · rw [if_pos e, beq_iff_eq.2 e]
  · rw [if_neg e, beq_eq_false_iff_ne.2 e]
theorem fL_some {L : OvL} {q : Str} {x : R39_Over} (h : fL L q = some x) : x ∈ L ∧ x.2.1 = q :=
  ⟨List.mem_of_find?_eq_some h, beq_iff_eq.1 (by have := List.find?_some h; exact this)⟩
theorem fL_none {L : OvL} {q : Str} (h : ∀ x ∈ L, x.2.1 ≠ q) : fL L q = none := List.find?_eq_none.2 fun x hx => by
  have := h x hx
  rw [beq_eq_false_iff_ne.2 this]; exact fun h => by cases h
theorem fL_iff {L : OvL} {q : Str} : fL L q ≠ none ↔ q ∈ L.map (·.2.1) := by
  constructor
  · intro h
    cases hf : fL L q with
    | none => exact absurd hf h
    | some x => exact List.mem_map.2 ⟨x, (fL_some hf).1, (fL_some hf).2⟩
  · intro h hn
    obtain ⟨x, hx, e⟩ := List.mem_map.1 h
    have := List.find?_eq_none.1 hn x hx
    exact this (beq_iff_eq.2 e)
theorem fL_append (A B : OvL) (q : Str) : fL (A ++ B) q = (fL A q).or (fL B q) := List.find?_append
theorem rdropL_eq (L : OvL) (k : Str) : rdropL L k = L.filter fun x => !(x.2.1 == k) := by
  unfold rdropL
  induction L with
  | nil => rfl
  | cons x L ih =>
    rw [List.flatMap_cons, List.filter_cons, ih]
    by_cases e : x.2.1 = k
    · rw [if_pos e, beq_iff_eq.2 e]; rfl
    · rw [if_neg e, beq_eq_false_iff_ne.2 e]; rfl
theorem fL_drop (L : OvL) (k q : Str) : fL (rdropL L k) q = if q = k then none else fL L q := by
  rw [rdropL_eq]
  induction L with
  | nil => show (none : Option R39_Over) = _; split <;> rfl
  | cons x L ih =>
    rw [List.filter_cons]
    by_cases e : x.2.1 = k
    · rw [beq_iff_eq.2 e]
      show fL (L.filter _) q = _
      rw [ih, fL_cons]
      by_cases e2 : q = k
      · rw [if_pos e2, if_pos e2]
      · rw [if_neg e2, if_neg e2, if_neg (fun h => e2 (h.symm.trans e))]
    · rw [beq_eq_false_iff_ne.2 e]
      show fL (x :: L.filter _) q = _
      rw [fL_cons, fL_cons, ih]
      by_cases e2 : q = k
      · rw [if_pos e2, if_pos e2, if_neg (fun h => e (h.trans e2))]
      · rw [if_neg e2, if_neg e2]
theorem tkO_place (number : Int) (node : Str) (x : R39_Over) : (tkO number node x).2.1 = x.2.1 := by unfold tkO; split <;> rfl
theorem fL_map (L : OvL) (number : Int) (node q : Str) : fL (L.map (tkO number node)) q = (fL L q).map (tkO number node) := by
  induction L with
  | nil => rfl
  | cons x L ih =>
    rw [List.map_cons, fL_cons, fL_cons, tkO_place, ih]
    split <;> rfl
theorem srt_drop {L : OvL} (h : Srt L) (k : Str) : Srt (rdropL L k) := by
  rw [rdropL_eq]; exact List.Pairwise.sublist List.filter_sublist h
theorem srt_map {L : OvL} (h : Srt L) (number : Int) (node : Str) : Srt (L.map (tkO number node)) := by
  unfold Srt
  rw [List.pairwise_map]
  refine h.imp fun {a b} hab => ?_
  rw [tkO_place, tkO_place]; exact hab
theorem srt_ins {M : OvL} (h : Srt M) {k : Str} (hk : ∀ x ∈ M, x.2.1 ≠ k) {o : R39_Over} (ho : o.2.1 = k) : Srt (insP M k o) := by
  have hle := geP_le M k
  have hM : M.take (geP M k) ++ M.drop (geP M k) = M := List.take_append_drop _ _
  have h0 : (M.take (geP M k) ++ M.drop (geP M k)).Pairwise (fun a b => ltS a.2.1 b.2.1 = true) := by rw [hM]; exact h
  obtain ⟨hA, hB, hAB⟩ := List.pairwise_append.1 h0
  have ha : ∀ a ∈ M.take (geP M k), ltS a.2.1 k = true := fun a ha => by
    obtain ⟨i, hi, rfl⟩ := List.getElem_of_mem ha
    rw [List.length_take] at hi
    rw [List.getElem_take]
    have hig : i < geP M k := by omega
    have := geI_lt ltS k (M.map fun x : R39_Over => x.2.1) i hig (by rw [List.length_map]; omega)
    rw [List.getElem_map] at this
    exact this
  have hb : ∀ b ∈ M.drop (geP M k), ltS k b.2.1 = true := fun b hb => by
    obtain ⟨i, hi, rfl⟩ := List.getElem_of_mem hb
    rw [List.length_drop] at hi
    have hj : geP M k < M.length := by omega
    have hat := geI_at ltS k (M.map (·.2.1)) (by rw [List.length_map]; exact hj)
    rw [List.getElem_map] at hat
    have hk0 : ltS k M[geP M k].2.1 = true := by
      cases hq : ltS k M[geP M k].2.1 with
      | true => rfl
      | false => exact absurd (soS.tot _ _ hat hq) (hk _ (List.getElem_mem hj))
    rw [List.getElem_drop]
    by_cases hi0 : i = 0
    · subst hi0; exact hk0
    · exact soS.tr _ _ _ hk0 (List.pairwise_iff_getElem.1 h (geP M k) (geP M k + i) hj (by omega) (by omega))
  unfold Srt insP
  rw [List.append_assoc]
  refine List.pairwise_append.2 ⟨hA, List.pairwise_cons.2 ⟨fun b hb' => by rw [ho]; exact hb b hb', hB⟩, fun a ha' b hb' => ?_⟩
  rcases List.mem_cons.1 hb' with e | hb'
  · subst e; rw [ho]; exact ha a ha'
  · exact hAB a ha' b hb'
theorem rdropL_ne {L : OvL} {k : Str} : ∀ x ∈ rdropL L k, x.2.1 ≠ k := fun x hx e => by
  rw [rdropL_eq] at hx
  have := (List.mem_filter.1 hx).2
  rw [beq_iff_eq.2 e] at this; cases this
theorem fL_start (L : OvL) (k : Str) (n : Int) (d q : Str) : fL (rstartL L k n d) q = if q = k then some (n, (k, (d, []))) else fL L q := by
  unfold rstartL insP
  rw [List.append_assoc, fL_append, show [((n, (k, (d, []))) : R39_Over)] ++ (rdropL L k).drop (geP (rdropL L k) k) = (n, (k, (d, []))) :: (rdropL L k).drop (geP (rdropL L k) k) from rfl, fL_cons]
  have hall : fL (rdropL L k) q = (fL ((rdropL L k).take (geP (rdropL L k) k)) q).or (fL ((rdropL L k).drop (geP (rdropL L k) k)) q) := by rw [← fL_append, List.take_append_drop]
  have hd := fL_drop L k q
  by_cases e : q = k
  · subst e
    rw [if_pos rfl, if_pos rfl]
    rw [fL_none (fun x hx => rdropL_ne x (List.mem_of_mem_take hx))]; rfl
  · rw [if_neg e, if_neg (show ¬ ((n, (k, (d, []))) : R39_Over).2.1 = q from fun h => e h.symm), ← hall, hd, if_neg e]

def RO : Option (El viewT) → Option R39_Over → Prop
  | some e, some x => e.1 = x.1 ∧ e.2.1 = x.2.2.1 ∧ ∀ s, hasS e.2.2 s = x.2.2.2.any fun y => y == s
  | none, none => True
  | _, _ => False
structure HR (n : Nat) (F : Fam) (L : OvL) : Prop where
  ok : FOk n F
  srt : Srt L
  len : L.length ≤ n
  nod : ∀ x ∈ L, x.2.2.2.length ≤ n
  eq : ∀ q, RO (gF F q) (fL L q)
theorem HR.nil : HR 0 ([], []) [] := ⟨FOk.nil, List.Pairwise.nil, Nat.le_refl _, (fun _ h => by cases h), fun _ => trivial⟩
theorem HR.mono {n n' : Nat} {F : Fam} {L : OvL} (h : HR n F L) (hn : n ≤ n') : HR n' F L := ⟨h.ok.mono hn, h.srt, Nat.le_trans h.len hn, fun x hx => Nat.le_trans (h.nod x hx) hn, h.eq⟩
theorem HR.drop {n : Nat} {F : Fam} {L : OvL} (h : HR n F L) (k : Str) : HR n (dropF F k) (rdropL L k) :=
  ⟨drop_ok h.ok k, srt_drop h.srt k, Nat.le_trans (rdropL_len L k) h.len, fun x hx => h.nod x (by rw [rdropL_eq] at hx; exact (List.mem_filter.1 hx).1), fun q => by
    rw [drop_gF h.ok, fL_drop]
    split
    · trivial
    · exact h.eq q⟩
theorem hasS_nil (s : Str) : hasS [] s = false := rfl
theorem hasS_put (m : SM) (t s : Str) : hasS (putM .str (.int .i64) m t (1 : Int)) s = (t == s || hasS m s) := by
  unfold hasS
  rw [gM_put]
  by_cases e : s = t
  · rw [if_pos e, beq_iff_eq.2 e.symm]; rfl
  · rw [if_neg e, beq_eq_false_iff_ne.2 (fun h => e h.symm)]; rfl
theorem HR.start {n : Nat} {F : Fam} {L : OvL} (h : HR n F L) (k : Str) (a : Int) (d : Str) : HR (n + 1) (startF F k a d) (rstartL L k a d) := by
  refine ⟨start_ok h.ok k a d, srt_ins (srt_drop h.srt k) rdropL_ne rfl, ?_, fun x hx => ?_, fun q => ?_⟩
  · unfold rstartL insP
    have h1 := rdropL_len L k
    have h2 := geP_le (rdropL L k) k
    have h3 := h.len
    rw [List.length_append, List.length_append, List.length_take, List.length_drop, List.length_singleton]
    omega
  · unfold rstartL insP at hx
    have hd : ∀ x ∈ rdropL L k, x.2.2.2.length ≤ n + 1 := fun x hx => Nat.le_succ_of_le (h.nod x (by rw [rdropL_eq] at hx; exact (List.mem_filter.1 hx).1))
    rcases List.mem_append.1 hx with hx | hx
    · rcases List.mem_append.1 hx with hx | hx
      · exact hd x (List.mem_of_mem_take hx)
      · rw [List.mem_singleton.1 hx]; exact Nat.zero_le _
    · exact hd x (List.mem_of_mem_drop hx)
  · rw [start_gF h.ok, fL_start]
    split
    · exact ⟨rfl, rfl, fun s => rfl⟩
    · exact h.eq q
theorem HR.taken {n : Nat} {F : Fam} {L : OvL} (h : HR n F L) (hn : n ≤ 1000) (number : Int) (node : Str) : HR (n + 1) (takenF F number node) (L.map (tkO number node)) := by
  refine ⟨taken_ok h.ok hn number node, srt_map h.srt number node, by rw [List.length_map]; exact Nat.le_succ_of_le h.len, fun x hx => ?_, fun q => ?_⟩
  · obtain ⟨y, hy, rfl⟩ := List.mem_map.1 hx
    have := h.nod y hy
    unfold tkO
    split
    · show (y.2.2.2 ++ [node]).length ≤ _
      rw [List.length_append, List.length_singleton]; omega
    · exact Nat.le_succ_of_le this
  · rw [taken_gF h.ok, fL_map]
    have := h.eq q
    revert this
    cases gF F q with
    | none =>
      cases fL L q with
      | none => exact fun h => h
      | some x => exact fun h => h.elim
    | some e =>
      cases fL L q with
      | none => exact fun h => h.elim
      | some x =>
        rintro ⟨h1, h2, h3⟩
        show RO (some (if e.1 = number then _ else e)) (some (tkO number node x))
        unfold tkO
        by_cases en : e.1 = number
        · rw [if_pos en, if_pos (h1 ▸ en)]
          refine ⟨h1, h2, fun s => ?_⟩
          show hasS (putM .str (.int .i64) e.2.2 node (1 : Int)) s = (x.2.2.2 ++ [node]).any fun y => y == s
          rw [hasS_put, h3 s, List.any_append, List.any_cons, List.any_nil, Bool.or_false, Bool.or_comm]
        · rw [if_neg en, if_neg (h1 ▸ en)]
          exact ⟨h1, h2, h3⟩
theorem HR.places {n : Nat} {F : Fam} {L : OvL} (h : HR n F L) : keysF F = L.map (·.2.1) := by
  refine soS.uniq ?_ (List.pairwise_map.2 h.srt) fun z => ?_
  · have h1 : (keysF F).Pairwise fun a b => leS a b = true := isortB_sorted leS_trans leS_total _
    refine (List.Pairwise.and h1 (keysF_nd h.ok)).imp fun {a b} hab => ?_
    obtain ⟨h4, h5⟩ := hab
    unfold leS at h4
    cases hl : ltS a b with
    | true => rfl
    | false => exact absurd (soS.tot a b hl (by simpa using h4)) h5
  · rw [keysF_mem h.ok, ← fL_iff]
    have := h.eq z
    rw [gF_eq] at this
    revert this
    cases getM .str famU F.1 z with
    | none =>
      cases fL L z with
      | none => exact fun _ => ⟨(fun h => absurd rfl h), (fun h => absurd rfl h)⟩
      | some x => exact fun h => h.elim
    | some e =>
      cases fL L z with
      | none => exact fun h => h.elim
      | some x => exact fun _ => ⟨(fun _ h => by cases h), (fun _ h => by cases h)⟩
theorem find_two {L : OvL} (h : Srt L) (k d : Str) : (L.find? fun x => x.2.1 == k && x.2.2.1 == d) = (fL L k).bind fun x => if x.2.2.1 = d then some x else none := by
  induction L with
  | nil => rfl
  | cons x L ih =>
    obtain ⟨h1, h2⟩ := List.pairwise_cons.1 h
    rw [List.find?_cons, fL_cons, ih h2]
    by_cases e : x.2.1 = k
    · rw [if_pos e, beq_iff_eq.2 e, Bool.true_and]
      have hn : fL L k = none := fL_none fun y hy ey => by
        have := h1 y hy
        rw [e, ey, soS.irr] at this; cases this
      by_cases e2 : x.2.2.1 = d
      · rw [beq_iff_eq.2 e2]; show some x = if x.2.2.1 = d then some x else none; rw [if_pos e2]
      · rw [beq_eq_false_iff_ne.2 e2, hn]; show none = if x.2.2.1 = d then some x else none; rw [if_neg e2]
    · rw [if_neg e, beq_eq_false_iff_ne.2 e, Bool.false_and]
theorem HR.ready {n : Nat} {F : Fam} {L : OvL} (h : HR n F L) (k d : Str) (ns : List Str) : readyV (gF F k) d ns = rreadyL L k d ns := by
  unfold rreadyL
  rw [find_two h.srt]
  have := h.eq k
  revert this
  cases gF F k with
  | none =>
    cases fL L k with
    | none => exact fun _ => rfl
    | some x => exact fun h => h.elim
  | some e =>
    cases fL L k with
    | none => exact fun h => h.elim
    | some x =>
      rintro ⟨h1, h2, h3⟩
      show (e.2.1 == d && decide (0 < ns.length) && ns.all fun s => hasS e.2.2 s) = match (if x.2.2.1 = d then some x else none) with | some x => okO x ns | none => false
      by_cases ed : x.2.2.1 = d
      · rw [if_pos ed, beq_iff_eq.2 (h2.trans ed), Bool.true_and]
        show _ = (decide (0 < ns.length) && ns.all fun s => x.2.2.2.any fun y => y == s)
        have : (fun s => hasS e.2.2 s) = fun s => x.2.2.2.any fun y => y == s := funext h3
        rw [this]
      · rw [if_neg ed, beq_eq_false_iff_ne.2 (fun h => ed (h2.symm.trans h))]; rfl

end Go.Eng

