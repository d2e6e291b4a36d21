/- Laws in plain Lean: e10chk e10get e10put e10set e10setr z10. -/
import Derived.Test.YtgghplnoelkhlaaDoorK09
import Derived.Test.YtgghplnoelkhlaaDoorN21
namespace Go.Eng
open Go Go.Proofs Go.RowKit

/-! Entries: may they be? -/
def SmallE (l : List Entry) : Prop := l.length ≤ 10000 ∧ ∀ x ∈ l, x.1.length ≤ 1000 ∧ x.2.2.1.length ≤ 1000 ∧ x.2.2.2.length ≤ 1000
def entB (x : Entry) : Bool := (decide (1 ≤ x.1.length) && decide (x.1.length ≤ 128)) && regB x.2
def ppB (p : Option Str) (s : Str) : Bool := match p with | none => true | some p => ltS p s
def entG (p : Option Str) (x : Entry) : Bool := entB x && ppB p x.1
def mayB (l : List Entry) : Bool := decide (l.length ≤ 4096) && chain entG (fun _ x => some x.1) none l
theorem isEntry_run (x : Entry) : (registry_isEntry_T x).run = some (entB x) := by
  unfold registry_isEntry_T entB
  simp only [Tree.run, regCheck_run, Option.isNone_some, Bool.and_false, cond_false, Option.getD_some]
  have f1 : (!(x.1 == ([] : Str))) = decide (1 ≤ x.1.length) := by cases x.1 <;> rfl
  have f2 : decide ((x.1.length : Int) ≤ 128) = decide (x.1.length ≤ 128) := by rw [decide_eq_decide]; omega
  rw [f1, f2]
  cases regB x.2 <;> rfl
theorem rIsEntry_run (x : Entry) (h : x.2.2.1.length ≤ 1000) : (r10_isEntry_T x).run = some (entB x) := by
  unfold r10_isEntry_T entB
  simp only [Tree.run, regMay_run x.2 (by omega), Option.isNone_some, Bool.and_false, cond_false, Option.getD_some]
  have f1 : decide ((1 : Int) ≤ (x.1.length : Int)) = decide (1 ≤ x.1.length) := by rw [decide_eq_decide]; omega
  have f2 : decide ((x.1.length : Int) ≤ 128) = decide (x.1.length ≤ 128) := by rw [decide_eq_decide]; omega
  rw [f1, f2]
def ppOf (c : List Entry) (i : Nat) : Option Str := if i = 0 then none else (c[i - 1]?).map fun x => x.1
theorem pp_ok (c : List Entry) (hc : c.length ≤ 10000) (i : Nat) (hi : i < c.length) (y : Bool) : ((!((!(!y)) && (decide ((0 : Int) < (i : Int))))) || inb (w64 ((i : Int) - 1)) c.length) = true := by
  cases i with
  | zero => simp
  | succ i =>
    have e1 : w64 (((i + 1 : Nat) : Int) - 1) = (i : Int) := by
      show IntKind.i64.wrap _ = _
      rw [IntKind.wrap_i64]; omega
    have hi' : i < c.length := by omega
    rw [e1, inb_nat, decide_eq_true hi', Bool.or_true]
theorem pp_lt (c : List Entry) (hc : c.length ≤ 10000) (i : Nat) (hi : i < c.length) (s : Str) : ((decide ((0 : Int) < (i : Int))) && (!ltS (c.getD ((w64 ((i : Int) - 1)).toNat) (dfl tEntry : Entry)).1 s)) = !ppB (ppOf c i) s := by
  cases i with
  | zero => rfl
  | succ i =>
    have e1 : w64 (((i + 1 : Nat) : Int) - 1) = (i : Int) := by
      show IntKind.i64.wrap _ = _
      rw [IntKind.wrap_i64]; omega
    have hi' : i < c.length := by omega
    have e0 : decide ((0 : Int) < ((i + 1 : Nat) : Int)) = true := by rw [decide_eq_true_eq]; omega
    rw [e1, e0, Int.toNat_natCast, getD_lt _ _ _ hi']
    unfold ppOf
    rw [if_neg (by omega), Nat.add_sub_cancel, List.getElem?_eq_getElem hi']
    rfl
theorem pp_next (c : List Entry) (i : Nat) (hi : i < c.length) : some c[i].1 = ppOf c (i + 1) := by
  unfold ppOf
  rw [if_neg (by omega), Nat.add_sub_cancel, List.getElem?_eq_getElem hi]; rfl
theorem regChk_run (l : List Entry) (hl : SmallE l) : (registry_Check_T l).run = some (bif mayB l then 0 else 1) := by
  unfold registry_Check_T mayB
  have f : decide ((4096 : Int) < (l.length : Int)) = !decide (l.length ≤ 4096) := by rw [← decide_not]; congr 1; rw [eq_iff_iff]; omega
  simp only [Tree.run, f]
  rw [chain_loop (st := fun v => (registry_Check_L4_step l l (l.length : Int) v).run) l entG (fun _ x => some x.1) (fun i _ => (i : Int)) (fun i g => g = ppOf l i) (Sum.inl 1 : Int ⊕ Unit) (.inr ()) (fun i g hi hg => by
    subst hg
    have hl1 := hl.1
    refine ⟨?_, fun _ => pp_next l i hi⟩
    unfold registry_Check_L4_step entG
    simp only [Tree.run, Int.ofNat_lt, hi, decide_true, cond_true, inb_nat, Int.toNat_natCast, getD_lt _ _ _ hi, isEntry_run, Option.bind_some, w64_i i (by omega), pp_ok l hl1 i hi, pp_lt l hl1 i hi]
    cases entB l[i] <;> cases ppB (ppOf l i) l[i].1 <;> rfl) (fun g _ => by unfold registry_Check_L4_step; simp [Tree.run]) none rfl (s0 := (0 : Int)) rfl]
  cases decide (l.length ≤ 4096) <;> cases chain entG (fun _ x => some x.1) none l <;> rfl
theorem regM_run (l : List Entry) (hl : SmallE l) : (r10_May_T l).run = some (mayB l) := by
  unfold r10_May_T mayB
  have f : decide ((4096 : Int) < (l.length : Int)) = !decide (l.length ≤ 4096) := by rw [← decide_not]; congr 1; rw [eq_iff_iff]; omega
  simp only [Tree.run, f]
  rw [chain_loop (st := fun v => (r10_May_L4_step l v).run) l entG (fun _ x => some x.1) (fun i _ => (i : Int)) (fun i g => g = ppOf l i) (Sum.inl false : Bool ⊕ Unit) (.inr ()) (fun i g hi hg => by
    subst hg
    have hl1 := hl.1
    refine ⟨?_, fun _ => pp_next l i hi⟩
    unfold r10_May_L4_step entG
    simp only [Tree.run, Int.ofNat_lt, hi, decide_true, cond_true, inb_nat, Int.toNat_natCast, getD_lt _ _ _ hi, Bool.or_true, rIsEntry_run _ (hl.2 l[i] (List.getElem_mem hi)).2.1, Option.bind_some, w64_i i (by omega), pp_ok l hl1 i hi, pp_lt l hl1 i hi]
    cases entB l[i] <;> cases ppB (ppOf l i) l[i].1 <;> rfl) (fun g _ => by unfold r10_May_L4_step; simp [Tree.run]) none rfl (s0 := (0 : Int)) rfl]
  cases decide (l.length ≤ 4096) <;> cases chain entG (fun _ x => some x.1) none l <;> rfl

/-- Rising by their keys. -/
def Srt (l : List Entry) : Prop := l.Pairwise fun x y => ltS x.1 y.1 = true
theorem chain_srt {l : List Entry} {p : Option Str} (h : chain entG (fun _ x => some x.1) p l = true) : (∀ x ∈ l, ppB p x.1 = true) ∧ Srt l ∧ ∀ x ∈ l, entB x = true := by
  induction l generalizing p with
  | nil => exact ⟨fun x hx => absurd hx (by simp), List.Pairwise.nil, fun x hx => absurd hx (by simp)⟩
  | cons x l ih =>
    simp only [chain, Bool.and_eq_true] at h
    obtain ⟨h1, h2⟩ := h
    obtain ⟨k1, k2, k3⟩ := ih h2
    unfold entG at h1
    simp only [Bool.and_eq_true] at h1
    refine ⟨fun y hy => ?_, List.Pairwise.cons k1 k2, fun y hy => ?_⟩
    · rcases List.mem_cons.1 hy with rfl | hy
      · exact h1.2
      · have hxy : ltS x.1 y.1 = true := k1 y hy
        cases p with
        | none => rfl
        | some p => exact less_trans h1.2 hxy
    · rcases List.mem_cons.1 hy with rfl | hy
      · exact h1.1
      · exact k3 y hy
theorem srt_chain {l : List Entry} {p : Option Str} (hp : ∀ x ∈ l, ppB p x.1 = true) (hs : Srt l) (he : ∀ x ∈ l, entB x = true) : chain entG (fun _ x => some x.1) p l = true := by
  induction l generalizing p with
  | nil => rfl
  | cons x l ih =>
    have hs := List.pairwise_cons.1 hs
    simp only [chain, Bool.and_eq_true]
    refine ⟨?_, ih (fun y hy => hs.1 y hy) hs.2 (fun y hy => he y (by simp [hy]))⟩
    unfold entG
    rw [he x (by simp), hp x (by simp)]; rfl
theorem mayB_iff (l : List Entry) : mayB l = true ↔ l.length ≤ 4096 ∧ Srt l ∧ ∀ x ∈ l, entB x = true := by
  unfold mayB
  rw [Bool.and_eq_true, decide_eq_true_eq]
  exact ⟨fun h => ⟨h.1, (chain_srt h.2).2⟩, fun h => ⟨h.1, srt_chain (fun _ _ => rfl) h.2.1 h.2.2⟩⟩
/-! What a key has. -/
def findR (l : List Entry) (k : Str) : Option Reg := (l.find? fun x => x.1 == k).map fun x => x.2
def getR (l : List Entry) (k : Str) : Reg := (findR l k).getD (0, ([], []))
theorem rGet_run (l : List Entry) (k : Str) (hl : l.length ≤ 1000000) : (r10_Get_T l k).run = some (getR l k) := by
  unfold r10_Get_T
  simp only [Tree.run]
  have h := loopF_find (st := fun v => (r10_Get_L2_step l k (0, ([], [])) v).run) l (fun x => x.1 == k) (fun i => (i : Int)) (fun i => (Sum.inl (l.getD i ([], (0, ([], [])))).2 : Reg ⊕ Unit)) (.inr ()) (fun i hi => by
    unfold r10_Get_L2_step
    simp only [Tree.run, Int.ofNat_lt, hi, decide_true, cond_true, inb_nat, Int.toNat_natCast, getD_lt _ _ _ hi, w64_i i (by omega)]
    cases l[i].1 == k <;> rfl) (by unfold r10_Get_L2_step; simp [Tree.run]) (s0 := (0 : Int)) rfl
  unfold getR findR
  rcases h with ⟨h, n⟩ | ⟨i, hi, h, n, _, n2⟩
  · rw [h]
    have : l.find? (fun x => x.1 == k) = none := by
      rw [List.find?_eq_none]; intro x hx
      have := List.any_eq_false.1 n x hx; exact this
    rw [this]; rfl
  · rw [h]
    have : l.find? (fun x => x.1 == k) = some l[i] := by
      rw [List.find?_eq_some_iff_getElem]
      exact ⟨n, i, hi, rfl, fun j hj => by have := n2 j hj; simpa using this⟩
    rw [this]
    show some (l.getD i _).2 = some l[i].2
    rw [getD_lt _ _ _ hi]
theorem get_run (l : List Entry) (k : Str) (hl : l.length ≤ 1000000) : (registry_Get_T l k).run = some (getR l k) := by
  unfold registry_Get_T
  simp only [Tree.run]
  rw [slices_IndexFunc_Entry_registry_Get_1_run l k (fun x => x.1 == k) hl (fun x _ => rfl)]
  unfold getR findR
  simp only [Option.bind_some]
  rcases idxI_cases (fun x : Entry => x.1 == k) l with ⟨h, n⟩ | ⟨i, hi, h, n, _, n2⟩
  · rw [h]
    have : l.find? (fun x => x.1 == k) = none := by
      rw [List.find?_eq_none]; intro x hx
      have := List.any_eq_false.1 n x hx; exact this
    rw [this]; rfl
  · rw [h]
    have : l.find? (fun x => x.1 == k) = some l[i] := by
      rw [List.find?_eq_some_iff_getElem]
      exact ⟨n, i, hi, rfl, fun j hj => by have := n2 j hj; simpa using this⟩
    rw [this]
    have hn : ¬ ((i : Int) < 0) := by omega
    simp only [hn, decide_false, cond_false, inb_nat, hi, decide_true, cond_true, Int.toNat_natCast, getD_lt _ _ _ hi]
    rfl
theorem find_mem {l : List Entry} {k : Str} {r : Reg} (h : findR l k = some r) : (k, r) ∈ l := by
  unfold findR at h
  cases hf : l.find? (fun x => x.1 == k) with
  | none => rw [hf] at h; cases h
  | some x =>
    rw [hf] at h; cases h
    have h1 := List.find?_some hf
    have h2 := List.mem_of_find?_eq_some hf
    have e : x.1 = k := by simpa using h1
    rw [← e]; exact h2

/-! One entry more, in the reference's words. -/
def lowB (k : Str) (x : Entry) : Bool := ltS x.1 k
def putE (l : List Entry) (x : Entry) : List Entry := match l.dropWhile (lowB x.1) with
  | [] => l.takeWhile (lowB x.1) ++ [x]
  | y :: r => bif y.1 == x.1 then (l.takeWhile (lowB x.1) ++ [(x.1, joinR y.2 x.2)]) ++ r else (l.takeWhile (lowB x.1) ++ [x]) ++ y :: r
theorem putE_len (l : List Entry) (x : Entry) : (putE l x).length ≤ l.length + 1 := by
  have h := congrArg List.length (List.takeWhile_append_dropWhile (p := lowB x.1) (l := l))
  rw [List.length_append] at h
  unfold putE
  cases hd : l.dropWhile (lowB x.1) with
  | nil => rw [hd] at h; simp at h ⊢; omega
  | cons y r =>
    rw [hd] at h
    simp only [List.length_cons] at h
    dsimp only
    cases y.1 == x.1 <;> simp <;> omega
theorem take_takeWhile {α : Type} (p : α → Bool) (l : List α) : l.take (l.takeWhile p).length = l.takeWhile p := by
  conv => lhs; rw [← List.takeWhile_append_dropWhile (p := p) (l := l)]
  rw [List.take_append_of_le_length (by rw [List.takeWhile_append_dropWhile]; exact Nat.le_refl _), List.takeWhile_append_dropWhile, List.take_of_length_le (Nat.le_refl _)]
theorem drop_takeWhile {α : Type} (p : α → Bool) (l : List α) : l.drop (l.takeWhile p).length = l.dropWhile p := by
  have h := List.takeWhile_append_dropWhile (p := p) (l := l)
  have : l.drop (l.takeWhile p).length = (l.takeWhile p ++ l.dropWhile p).drop (l.takeWhile p).length := by rw [h]
  rw [this, List.drop_left]
theorem putE_run (l : List Entry) (x : Entry) (hl : l.length ≤ 100000) : (r10_put_T l x).run = some (putE l x) := by
  have hst : ∀ i (hi : i < l.length), (r10_put_L2_step l x (i : Int)).run = some (bif lowB x.1 l[i] then .inl ((i + 1 : Nat) : Int) else .inr (i : Int)) := by
    intro i hi
    unfold r10_put_L2_step lowB
    simp only [Tree.run, Int.ofNat_lt, hi, decide_true, cond_true, inb_nat, Int.toNat_natCast, getD_lt _ _ _ hi, Bool.or_true, Bool.true_and, w64_i i (by omega)]
    cases ltS l[i].1 x.1 <;> rfl
  have hend : (r10_put_L2_step l x (l.length : Int)).run = some (.inr (l.length : Int)) := by unfold r10_put_L2_step; simp [Tree.run]
  have hloop : loopF (fun v => (r10_put_L2_step l x v).run) 0 = some ((l.takeWhile (lowB x.1)).length : Int) := by
    have key : ∀ d i, i + d = l.length → loopF (fun v => (r10_put_L2_step l x v).run) (i : Int) = some ((i + ((l.drop i).takeWhile (lowB x.1)).length : Nat) : Int) := by
      intro d
      induction d with
      | zero =>
        intro i hi
        have : i = l.length := hi
        subst this
        rw [loopF_eq, hend, List.drop_length]; rfl
      | succ d ih =>
        intro i hi
        have hlt : i < l.length := by omega
        rw [loopF_eq, hst i hlt, List.drop_eq_getElem_cons hlt, List.takeWhile_cons]
        cases lowB x.1 l[i] with
        | true =>
          simp only [cond_true, Option.bind_some, loopStep, if_true, List.length_cons]
          rw [ih (i + 1) (by omega)]; congr 2; omega
        | false => rfl
    have := key l.length 0 (by omega)
    simpa using this
  have hk : (l.takeWhile (lowB x.1)).length ≤ l.length := (List.takeWhile_prefix _).length_le
  unfold r10_put_T putE
  simp only [Tree.run, hloop, Option.bind_some, inbe_nat, hk, decide_true, cond_true, Int.toNat_natCast, take_takeWhile, inb_nat, room_le _ 56 (show (l.takeWhile (lowB x.1)).length ≤ 1000000 by omega) (by omega)]
  have hsplit := congrArg List.length (List.takeWhile_append_dropWhile (p := lowB x.1) (l := l))
  rw [List.length_append] at hsplit
  have f1 : decide (((l.takeWhile (lowB x.1)).length : Int) < (l.length : Int)) = decide ((l.takeWhile (lowB x.1)).length < l.length) := by rw [decide_eq_decide]; omega
  rw [f1]
  cases hd : l.dropWhile (lowB x.1) with
  | nil =>
    rw [hd] at hsplit
    simp only [List.length_nil] at hsplit
    have h1 : decide ((l.takeWhile (lowB x.1)).length < l.length) = false := by rw [decide_eq_false_iff_not]; omega
    have h2 : decide ((l.takeWhile (lowB x.1) ++ [x]).length * 56 ≤ roomNat) = true := room_le _ _ (by simp; omega) (by omega)
    have h3 : decide (((l.takeWhile (lowB x.1) ++ [x]) ++ l.drop (l.takeWhile (lowB x.1)).length).length * 56 ≤ roomNat) = true := room_le _ _ (by simp; omega) (by omega)
    simp only [h1, Bool.not_false, Bool.true_or, cond_true, Bool.false_and, cond_false, h2, h3]
    rw [drop_takeWhile, hd, List.append_nil]
  | cons y r =>
    rw [hd] at hsplit
    simp only [List.length_cons] at hsplit
    have hlt : (l.takeWhile (lowB x.1)).length < l.length := by omega
    have hy : l[(l.takeWhile (lowB x.1)).length] = y := by
      have := drop_takeWhile (lowB x.1) l
      rw [hd, List.drop_eq_getElem_cons hlt] at this
      injection this
    have hr : l.drop ((l.takeWhile (lowB x.1)).length + 1) = r := by
      have := drop_takeWhile (lowB x.1) l
      rw [hd, List.drop_eq_getElem_cons hlt] at this
      injection this
    have h2 : decide ((l.takeWhile (lowB x.1) ++ [x]).length * 56 ≤ roomNat) = true := room_le _ _ (by simp; omega) (by omega)
    have h3 : decide (((l.takeWhile (lowB x.1) ++ [x]) ++ l.drop (l.takeWhile (lowB x.1)).length).length * 56 ≤ roomNat) = true := room_le _ _ (by simp; omega) (by omega)
    have h4 : decide ((l.takeWhile (lowB x.1) ++ [(x.1, joinR y.2 x.2)]).length * 56 ≤ roomNat) = true := room_le _ _ (by simp; omega) (by omega)
    have h5 : decide (((l.takeWhile (lowB x.1) ++ [(x.1, joinR y.2 x.2)]) ++ r).length * 56 ≤ roomNat) = true := room_le _ _ (by simp; omega) (by omega)
    have h6 : (l.takeWhile (lowB x.1)).length + 1 ≤ l.length := by omega
    simp only [hlt, decide_true, Bool.or_true, cond_true, Bool.true_and, getD_lt _ _ _ hlt, hy, rRegJoin_run, Option.bind_some, h2, h3, h4, w64_i _ (show (l.takeWhile (lowB x.1)).length ≤ 1000000 by omega), inbe_nat, h6, Int.toNat_natCast, hr, h5]
    rw [drop_takeWhile, hd]
    cases y.1 == x.1 <;> rfl

theorem srt_find {l : List Entry} {k : Str} (hs : ∀ x ∈ l, ltS k x.1 = true) : findR l k = none := by
  unfold findR
  rw [List.find?_eq_none.2]
  · rfl
  · intro x hx e
    have e : x.1 = k := by simpa using e
    have := hs x hx; rw [e, ltS_irrefl'] at this; cases this
theorem findR_cons (x : Entry) (l : List Entry) (k : Str) : findR (x :: l) k = bif x.1 == k then some x.2 else findR l k := by
  unfold findR
  rw [List.find?_cons]
  cases h : x.1 == k <;> rfl
theorem findR_append (a b : List Entry) (k : Str) : findR (a ++ b) k = (findR a k).or (findR b k) := by
  induction a with
  | nil => simp [findR]
  | cons x a ih =>
    rw [List.cons_append, findR_cons, findR_cons, ih]
    cases x.1 == k <;> rfl
/-- Two that rise, and tell the same of each key, are the same. -/
theorem srt_ext {a b : List Entry} (ha : Srt a) (hb : Srt b) (h : ∀ k, findR a k = findR b k) : a = b := by
  induction a generalizing b with
  | nil =>
    cases b with
    | nil => rfl
    | cons y b => have := h y.1; rw [findR_cons, beq_self_eq_true] at this; cases this
  | cons x a ih =>
    have ha := List.pairwise_cons.1 ha
    cases b with
    | nil => have := h x.1; rw [findR_cons, beq_self_eq_true] at this; cases this
    | cons y b =>
      have hb := List.pairwise_cons.1 hb
      have hxy : x.1 = y.1 := by
        cases e1 : Op.bytesLess x.1 y.1 with
        | true =>
          have h1 := h x.1
          rw [findR_cons, beq_self_eq_true] at h1
          have : findR (y :: b) x.1 = none := srt_find fun z hz => by
            rcases List.mem_cons.1 hz with rfl | hz
            · exact e1
            · exact less_trans e1 (hb.1 z hz)
          rw [this] at h1; cases h1
        | false =>
          cases e2 : Op.bytesLess y.1 x.1 with
          | true =>
            have h1 := h y.1
            have : findR (x :: a) y.1 = none := srt_find fun z hz => by
              rcases List.mem_cons.1 hz with rfl | hz
              · exact e2
              · exact less_trans e2 (ha.1 z hz)
            rw [this, findR_cons, beq_self_eq_true] at h1; cases h1
          | false => exact less_total e1 e2
      have h1 := h x.1
      rw [findR_cons, findR_cons, beq_self_eq_true, ← hxy, beq_self_eq_true] at h1
      have h2 : x.2 = y.2 := by injection h1
      have hab : a = b := ih ha.2 hb.2 fun k => by
        have h3 := h k
        rw [findR_cons, findR_cons, ← hxy] at h3
        cases e : x.1 == k with
        | false => rw [e] at h3; exact h3
        | true =>
          have e : x.1 = k := by simpa using e
          rw [srt_find fun z hz => e ▸ ha.1 z hz, srt_find fun z hz => by rw [← e, hxy]; exact hb.1 z hz]
      rw [Prod.ext hxy h2, hab]

def joinO : Option Reg → Option Reg → Option Reg
  | none, y => y
  | some x, none => some x
  | some x, some y => some (joinR x y)
theorem joinO_comm (a b : Option Reg) : joinO a b = joinO b a := by
  cases a <;> cases b <;> first | rfl | (simp only [joinO]; rw [joinR_comm])
theorem joinO_assoc (a b c : Option Reg) : joinO (joinO a b) c = joinO a (joinO b c) := by
  cases a <;> cases b <;> cases c <;> first | rfl | (simp only [joinO]; rw [joinR_assoc])
theorem joinO_idem (a : Option Reg) : joinO a a = a := by
  cases a <;> first | rfl | (simp only [joinO]; rw [joinR_idem])

theorem putE_spec {l : List Entry} (hs : Srt l) (x : Entry) : Srt (putE l x) ∧ ∀ k, findR (putE l x) k = bif x.1 == k then joinO (findR l k) (some x.2) else findR l k := by
  have hsp := List.takeWhile_append_dropWhile (p := lowB x.1) (l := l)
  have hlow : ∀ y ∈ l.takeWhile (lowB x.1), ltS y.1 x.1 = true := fun y hy => by
    have := List.all_takeWhile (p := lowB x.1) (l := l)
    exact List.all_eq_true.1 this y hy
  have hs' : Srt (l.takeWhile (lowB x.1) ++ l.dropWhile (lowB x.1)) := by rw [hsp]; exact hs
  obtain ⟨s1, s2, s3⟩ := List.pairwise_append.1 hs'
  have hpre : ∀ k, x.1 = k → findR (l.takeWhile (lowB x.1)) k = none := fun k e => by
    unfold findR
    rw [List.find?_eq_none.2]
    · rfl
    · intro y hy e2
      have e2 : y.1 = k := by simpa using e2
      have := hlow y hy
      rw [e2, e, ltS_irrefl'] at this; cases this
  have hfl : ∀ k, findR l k = (findR (l.takeWhile (lowB x.1)) k).or (findR (l.dropWhile (lowB x.1)) k) := fun k => by
    rw [← findR_append, hsp]
  unfold putE
  cases hd : l.dropWhile (lowB x.1) with
  | nil =>
    refine ⟨List.pairwise_append.2 ⟨s1, List.pairwise_singleton _ _, fun y hy z hz => by rw [List.mem_singleton.1 hz]; exact hlow y hy⟩, fun k => ?_⟩
    rw [findR_append, hfl k, hd, findR_cons]
    cases e : x.1 == k with
    | false => rfl
    | true =>
      have e : x.1 = k := by simpa using e
      rw [hpre k e]; rfl
  | cons y r =>
    rw [hd] at s2 s3
    have s2' := List.pairwise_cons.1 s2
    have hyx : ltS y.1 x.1 = false := by
      have h0 : ∃ t, l.dropWhile (lowB x.1) = y :: t := ⟨r, hd⟩
      have := List.head?_dropWhile_not (lowB x.1) l
      rw [hd] at this
      simpa [lowB] using this
    dsimp only
    cases hyk : y.1 == x.1 with
    | true =>
      have hyk : y.1 = x.1 := by simpa using hyk
      simp only [cond_true]
      refine ⟨?_, fun k => ?_⟩
      · rw [List.append_assoc]
        refine List.pairwise_append.2 ⟨s1, ?_, fun z hz w hw => ?_⟩
        · exact List.Pairwise.cons (fun z hz => by show ltS x.1 z.1 = true; rw [← hyk]; exact s2'.1 z hz) s2'.2
        · rcases List.mem_cons.1 hw with rfl | hw
          · exact hlow z hz
          · exact s3 z hz w (List.mem_cons_of_mem _ hw)
      · rw [List.append_assoc, findR_append, hfl k, hd]
        show (findR _ k).or (findR ((x.1, joinR y.2 x.2) :: r) k) = _
        rw [findR_cons, findR_cons, hyk]
        cases e : x.1 == k with
        | false => rfl
        | true =>
          have e : x.1 = k := by simpa using e
          rw [hpre k e]; rfl
    | false =>
      have hne : y.1 ≠ x.1 := by simpa using hyk
      have hxy : ltS x.1 y.1 = true := by
        cases e : Op.bytesLess x.1 y.1 with
        | true => exact e
        | false => exact absurd (less_total hyx e) hne
      simp only [cond_false]
      refine ⟨?_, fun k => ?_⟩
      · rw [List.append_assoc]
        refine List.pairwise_append.2 ⟨s1, ?_, fun z hz w hw => ?_⟩
        · refine List.Pairwise.cons (fun z hz => ?_) s2
          rcases List.mem_cons.1 hz with rfl | hz
          · exact hxy
          · exact less_trans hxy (s2'.1 z hz)
        · rcases List.mem_cons.1 hw with rfl | hw
          · exact hlow z hz
          · exact s3 z hz w hw
      · rw [List.append_assoc, findR_append, hfl k, hd]
        show (findR _ k).or (findR (x :: y :: r) k) = _
        rw [findR_cons]
        cases e : x.1 == k with
        | false => rfl
        | true =>
          have e : x.1 = k := by simpa using e
          have : findR (y :: r) k = none := srt_find fun z hz => by
            rw [← e]
            rcases List.mem_cons.1 hz with rfl | hz
            · exact hxy
            · exact less_trans hxy (s2'.1 z hz)
          rw [hpre k e, this]; rfl

/-! The entry that gives a key another value. -/
def setP (l : List Entry) (b k v : Str) : Entry × Int × Unit := bif (!mayB l || !(decide (1 ≤ k.length))) || decide (128 < k.length) then (([], (0, ([], []))), 1, ()) else bif !decide ((nextB (getR l k) b v).2.1 = 0) then (([], (0, ([], []))), (nextB (getR l k) b v).2.1, ()) else ((k, (nextB (getR l k) b v).1), 0, ())
theorem set_run (l : List Entry) (b k v : Str) (hl : SmallE l) : (registry_Set_T l b k v).run = some (setP l b k v) := by
  unfold registry_Set_T setP
  have hl1 := hl.1
  have f1 : (k == ([] : Str)) = !decide (1 ≤ k.length) := by cases k <;> rfl
  have f2 : decide ((128 : Int) < (k.length : Int)) = decide (128 < k.length) := by rw [decide_eq_decide]; omega
  simp only [Tree.run, regChk_run l hl, get_run l k (by omega), next_run, Option.bind_some, f1, f2]
  cases mayB l
  · rfl
  · cases decide (1 ≤ k.length) <;> cases decide (128 < k.length) <;> first | rfl | (cases decide ((nextB (getR l k) b v).2.1 = 0) <;> rfl)

theorem getR_small {l : List Entry} (hl : SmallE l) (k : Str) : (getR l k).2.1.length ≤ 1000 ∧ (getR l k).2.2.length ≤ 1000 := by
  unfold getR
  cases h : findR l k with
  | none => exact ⟨by simp, by simp⟩
  | some r => exact (hl.2 _ (find_mem h)).2
theorem rSet_run (l : List Entry) (b k v : Str) (hl : SmallE l) (hb : b.length ≤ 1000) : (r10_Set_T l b k v).run = some (setP l b k v) := by
  unfold r10_Set_T setP
  have hl1 := hl.1
  have f1 : decide ((k.length : Int) < 1) = !decide (1 ≤ k.length) := by rw [← decide_not, decide_eq_decide]; omega
  have f2 : decide ((128 : Int) < (k.length : Int)) = decide (128 < k.length) := by rw [decide_eq_decide]; omega
  simp only [Tree.run, regM_run l hl, rGet_run l k (by omega), rNext_run (getR l k) b v (by have := (getR_small hl k).1; omega) (by omega), Option.bind_some, f1, f2]
  cases mayB l
  · rfl
  · cases decide (1 ≤ k.length) <;> cases decide (128 < k.length) <;> first | rfl | (cases decide ((nextB (getR l k) b v).2.1 = 0) <;> rfl)

def q10 (x : Entry) : Bool := (decide ((200 : Int) < (x.1.length : Int))) || !((decide ((x.2.2.1.length : Int) ≤ 100)) && (decide ((x.2.2.2.length : Int) ≤ 300)))
theorem few10_run (l : List Entry) (most : Nat) (hm : most ≤ 1000) (m' : Int) (hm' : m' = (most : Int)) : (r10_Few_T l m').run = some (fewB q10 most l) := by
  unfold r10_Few_T
  refine few_tree l most q10 (fun v => r10_Few_L2_step l m' v) (by omega) m' hm' (fun i hi hm => ?_) (fun i hi => ?_)
  · have h4 : (i : Int) < m' := by omega
    unfold r10_Few_L2_step r09_Few_T q10
    simp only [Tree.run, Int.ofNat_lt, hi, h4, decide_true, cond_true, inb_nat, Int.toNat_natCast, getD_lt _ _ _ hi, Bool.and_true, Bool.or_true, Option.isNone_some, Bool.and_false, cond_false, Option.getD_some]
    generalize ((decide ((200 : Int) < (l[i].1.length : Int))) || !((decide ((l[i].2.2.1.length : Int) ≤ 100)) && (decide ((l[i].2.2.2.length : Int) ≤ 300)))) = z
    cases z <;> rfl
  · have : (decide ((i : Int) < (l.length : Int)) && decide ((i : Int) < m')) = false := by
      simp only [Bool.and_eq_false_iff, decide_eq_false_iff_not]; omega
    unfold r10_Few_L2_step
    simp only [Tree.run, this, cond_false]
theorem few10_mem {l : List Entry} {most : Nat} (h : fewB q10 most l = true) : ∀ x ∈ l, x.1.length ≤ 1000 ∧ x.2.2.1.length ≤ 1000 ∧ x.2.2.2.length ≤ 1000 := by
  intro x hx
  have := fewB_mem h hx
  unfold q10 at this
  simp only [Bool.or_eq_false_iff, Bool.not_eq_false', Bool.and_eq_true, decide_eq_true_eq, decide_eq_false_iff_not] at this
  omega
theorem few10_small {l : List Entry} {most : Nat} (hm : most ≤ 1000) (h : fewB q10 most l = true) : SmallE l := ⟨by have := fewB_len h; omega, few10_mem h⟩

end Go.Eng

