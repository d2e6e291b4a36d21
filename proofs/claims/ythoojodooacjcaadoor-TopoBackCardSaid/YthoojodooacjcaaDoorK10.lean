/- Laws in plain Lean: e10chk e10get e10und z10. -/
import Derived.Test.YthoojodooacjcaaDoorK09
import Derived.Test.YthoojodooacjcaaDoorTrM
namespace Go.Eng
open Go Go.Proofs Go.RowKit

/-! Entries: may they be? -/
def SmallE (l : List Entry) : Prop := l.length ≤ 10000 ∧ ∀ x ∈ l, x.1.length ≤ 1000 ∧ x.2.2.1.length ≤ 1000 ∧ x.2.2.2.length ≤ 1000
def entB (x : Entry) : Bool := (decide (1 ≤ x.1.length) && decide (x.1.length ≤ 128)) && regB x.2
def ppB (p : Option Str) (s : Str) : Bool := match p with | none => true | some p => ltS p s
def entG (p : Option Str) (x : Entry) : Bool := entB x && ppB p x.1
def mayB (l : List Entry) : Bool := decide (l.length ≤ 4096) && chain entG (fun _ x => some x.1) none l
def ppOf (c : List Entry) (i : Nat) : Option Str := if i = 0 then none else (c[i - 1]?).map fun x => x.1
theorem pp_ok (c : List Entry) (hc : c.length ≤ 10000) (i : Nat) (hi : i < c.length) (y : Bool) : ((!((!(!y)) && (decide ((0 : Int) < (i : Int))))) || inb (w64 ((i : Int) - 1)) c.length) = true := by
  cases i with
  | zero => simp
  | succ i =>
    have e1 : w64 (((i + 1 : Nat) : Int) - 1) = (i : Int) := by
      show IntKind.i64.wrap _ = _
      rw [IntKind.wrap_i64]; omega
    have hi' : i < c.length := by omega
    rw [e1, inb_nat, decide_eq_true hi', Bool.or_true]
theorem pp_lt (c : List Entry) (hc : c.length ≤ 10000) (i : Nat) (hi : i < c.length) (s : Str) : ((decide ((0 : Int) < (i : Int))) && (!ltS (c.getD ((w64 ((i : Int) - 1)).toNat) (dfl tEntry : Entry)).1 s)) = !ppB (ppOf c i) s := by
  cases i with
  | zero => rfl
  | succ i =>
    have e1 : w64 (((i + 1 : Nat) : Int) - 1) = (i : Int) := by
      show IntKind.i64.wrap _ = _
      rw [IntKind.wrap_i64]; omega
    have hi' : i < c.length := by omega
    have e0 : decide ((0 : Int) < ((i + 1 : Nat) : Int)) = true := by rw [decide_eq_true_eq]; omega
    rw [e1, e0, Int.toNat_natCast, getD_lt _ _ _ hi']
    unfold ppOf
    rw [if_neg (by omega), Nat.add_sub_cancel, List.getElem?_eq_getElem hi']
    rfl
theorem pp_next (c : List Entry) (i : Nat) (hi : i < c.length) : some c[i].1 = ppOf c (i + 1) := by
  unfold ppOf
  rw [if_neg (by omega), Nat.add_sub_cancel, List.getElem?_eq_getElem hi]; rfl
/-- Rising by their keys. -/
def Srt (l : List Entry) : Prop := l.Pairwise fun x y => ltS x.1 y.1 = true
theorem chain_srt {l : List Entry} {p : Option Str} (h : chain entG (fun _ x => some x.1) p l = true) : (∀ x ∈ l, ppB p x.1 = true) ∧ Srt l ∧ ∀ x ∈ l, entB x = true := by
  induction l generalizing p with
  | nil => exact ⟨fun x hx => absurd hx (by simp), List.Pairwise.nil, fun x hx => absurd hx (by simp)⟩
  | cons x l ih =>
    simp only [chain, Bool.and_eq_true] at h
    obtain ⟨h1, h2⟩ := h
    obtain ⟨k1, k2, k3⟩ := ih h2
    unfold entG at h1
    simp only [Bool.and_eq_true] at h1
    refine ⟨fun y hy => ?_, List.Pairwise.cons k1 k2, fun y hy => ?_⟩
    · rcases List.mem_cons.1 hy with rfl | hy
      · exact h1.2
      · have hxy : ltS x.1 y.1 = true := k1 y hy
        cases p with
        | none => rfl
        | some p => exact less_trans h1.2 hxy
    · rcases List.mem_cons.1 hy with rfl | hy
      · exact h1.1
      · exact k3 y hy
theorem srt_chain {l : List Entry} {p : Option Str} (hp : ∀ x ∈ l, ppB p x.1 = true) (hs : Srt l) (he : ∀ x ∈ l, entB x = true) : chain entG (fun _ x => some x.1) p l = true := by
  induction l generalizing p with
  | nil => rfl
  | cons x l ih =>
    have hs := List.pairwise_cons.1 hs
    simp only [chain, Bool.and_eq_true]
    refine ⟨?_, ih (fun y hy => hs.1 y hy) hs.2 (fun y hy => he y (by simp [hy]))⟩
    unfold entG
    rw [he x (by simp), hp x (by simp)]; rfl
theorem mayB_iff (l : List Entry) : mayB l = true ↔ l.length ≤ 4096 ∧ Srt l ∧ ∀ x ∈ l, entB x = true := by
  unfold mayB
  rw [Bool.and_eq_true, decide_eq_true_eq]
  exact ⟨fun h => ⟨h.1, (chain_srt h.2).2⟩, fun h => ⟨h.1, srt_chain (fun _ _ => rfl) h.2.1 h.2.2⟩⟩
/-! What a key has. -/
def findR (l : List Entry) (k : Str) : Option Reg := (l.find? fun x => x.1 == k).map fun x => x.2
def getR (l : List Entry) (k : Str) : Reg := (findR l k).getD (0, ([], []))
theorem find_mem {l : List Entry} {k : Str} {r : Reg} (h : findR l k = some r) : (k, r) ∈ l := by
  unfold findR at h
  cases hf : l.find? (fun x => x.1 == k) with
  | none => rw [hf] at h; cases h
  | some x =>
    rw [hf] at h; cases h
    have h1 := List.find?_some hf
    have h2 := List.mem_of_find?_eq_some hf
    have e : x.1 = k := by simpa using h1
    rw [← e]; exact h2

/-! What lies under a path. -/
def underB (p : Str) (x : Entry) : Bool := (p ++ ([47] : Str)).isPrefixOf x.1
theorem prefix_run (s p : Str) : (strings_HasPrefix_T s p).run = some (p.isPrefixOf s) := by
  unfold strings_HasPrefix_T stringslite_HasPrefix_T
  have e : subS s 0 (p.length : Int).toNat = s.take p.length := by simp [subS, std]
  have h1 : ((!(decide ((p.length : Int) ≤ (s.length : Int)))) || inbe (p.length : Int) s.length) = true := by
    rw [inbe_nat]
    have : decide ((p.length : Int) ≤ (s.length : Int)) = decide (p.length ≤ s.length) := by rw [decide_eq_decide]; omega
    rw [this]; cases decide (p.length ≤ s.length) <;> rfl
  simp only [Tree.run, h1, cond_true, Option.bind_some, e]
  congr 1
  rw [Bool.eq_iff_iff, Bool.and_eq_true, decide_eq_true_eq, beq_iff_eq, List.isPrefixOf_iff_prefix]
  constructor
  · rintro ⟨_, h⟩; rw [← h]; exact List.take_prefix _ _
  · intro h
    exact ⟨by have := h.length_le; omega, List.prefix_iff_eq_take.1 h |>.symm⟩
theorem under_run (l : List Entry) (p : Str) (hl : SmallE l) (hp : p.length ≤ 1000) : (registry_Under_T l p).run = some (l.filter (underB p)) := by
  unfold registry_Under_T
  simp only [Tree.run, slices_Clone_Entry_run l (by have := hl.1; omega), Option.bind_some]
  rw [slices_DeleteFunc_Entry_registry_Under_1_run l p (fun x => !underB p x) (by have := hl.1; omega) (fun x _ => by
    have h1 : decide (p.length + ([47] : Str).length ≤ 9223372036854775807) = true := by rw [decide_eq_true_eq]; simp; omega
    unfold registry_Under_1_T underB
    simp only [Tree.run, h1, cond_true, prefix_run, Option.bind_some])]
  simp only [Option.bind_some, Bool.not_not]
theorem rUnder_run (l : List Entry) (p : Str) (hl : SmallE l) (hp : p.length ≤ 1000) : (r10_Under_T l p).run = some (l.filter (underB p)) := by
  unfold r10_Under_T
  simp only [Tree.run]
  rw [filter_loop l (underB p) (fun v => r10_Under_L3_step l p v.1 v.2) (by have := hl.1; omega) (fun i c hi hc => by
    have hl1 := hl.1
    have hr : decide ((c ++ [l[i]]).length * 56 ≤ roomNat) = true := room_le _ _ (by simp; omega) (by omega)
    generalize hx : l[i] = x at hr ⊢
    have e : subS x.1 0 p.length = x.1.take p.length := by simp [subS, std]
    have f1 : decide ((p.length : Int) < (x.1.length : Int)) = decide (p.length < x.1.length) := by rw [decide_eq_decide]; omega
    have h1 : ((!(decide (p.length < x.1.length))) || inbe (p.length : Int) x.1.length) = true := by
      rw [inbe_nat]
      by_cases h : p.length < x.1.length
      · rw [decide_eq_true h, decide_eq_true (by omega)]; rfl
      · rw [decide_eq_false h]; rfl
    have h2 : ((!(decide (p.length < x.1.length) && (x.1.take p.length == p))) || decide (p.length < x.1.length)) = true := by
      cases decide (p.length < x.1.length) <;> simp
    have h3 : ((decide (p.length < x.1.length) && (x.1.take p.length == p)) && decide (sgetI x.1 (p.length : Int) = 47)) = underB p x := by
      unfold underB
      rw [Bool.eq_iff_iff, Bool.and_eq_true, Bool.and_eq_true, decide_eq_true_eq, decide_eq_true_eq, beq_iff_eq, List.isPrefixOf_iff_prefix]
      constructor
      · rintro ⟨⟨a1, a2⟩, a3⟩
        rw [List.prefix_iff_eq_take]
        have hg : sgetI x.1 (p.length : Int) = (x.1[p.length].toNat : Int) := by simp [sgetI, std, List.getD, a1]
        rw [hg] at a3
        have h47 : x.1[p.length] = 47 := by
          apply UInt8.toNat_inj.1
          have : x.1[p.length].toNat = 47 := by omega
          rw [this]; rfl
        rw [List.length_append, List.length_singleton, List.take_add_one, a2, List.getElem?_eq_getElem a1, h47]; rfl
      · intro h
        have hlen := h.length_le
        simp only [List.length_append, List.length_singleton] at hlen
        have ht := List.prefix_iff_eq_take.1 h
        rw [List.length_append, List.length_singleton, List.take_add_one, List.getElem?_eq_getElem (by omega)] at ht
        have h4 := List.append_inj' ht rfl
        refine ⟨⟨by omega, h4.1.symm⟩, ?_⟩
        have hg : sgetI x.1 (p.length : Int) = (x.1[p.length].toNat : Int) := by simp [sgetI, std, List.getD, show p.length < x.1.length by omega]
        have h5 : (47 : UInt8) = x.1[p.length] := by have := h4.2; simpa using this
        rw [hg, ← h5]; rfl
    unfold r10_Under_L3_step
    simp only [Tree.run, Int.ofNat_lt, hi, decide_true, cond_true, inb_nat, Int.toNat_natCast, getD_lt _ _ _ hi, hx, hr]
    simp only [e, f1, h1, h2, h3, cond_true]
    cases underB p x <;> rfl) (fun c => by unfold r10_Under_L3_step; simp [Tree.run])]
  rfl

def q10 (x : Entry) : Bool := (decide ((200 : Int) < (x.1.length : Int))) || !((decide ((x.2.2.1.length : Int) ≤ 100)) && (decide ((x.2.2.2.length : Int) ≤ 300)))
theorem few10_run (l : List Entry) (most : Nat) (hm : most ≤ 1000) (m' : Int) (hm' : m' = (most : Int)) : (r10_Few_T l m').run = some (fewB q10 most l) := by
  unfold r10_Few_T
  refine few_tree l most q10 (fun v => r10_Few_L2_step l m' v) (by omega) m' hm' (fun i hi hm => ?_) (fun i hi => ?_)
  · have h4 : (i : Int) < m' := by omega
    unfold r10_Few_L2_step r09_Few_T q10
    simp only [Tree.run, Int.ofNat_lt, hi, h4, decide_true, cond_true, inb_nat, Int.toNat_natCast, getD_lt _ _ _ hi, Bool.and_true, Bool.or_true, Option.isNone_some, Bool.and_false, cond_false, Option.getD_some]
    generalize ((decide ((200 : Int) < (l[i].1.length : Int))) || !((decide ((l[i].2.2.1.length : Int) ≤ 100)) && (decide ((l[i].2.2.2.length : Int) ≤ 300)))) = z
    cases z <;> rfl
  · have : (decide ((i : Int) < (l.length : Int)) && decide ((i : Int) < m')) = false := by
      simp only [Bool.and_eq_false_iff, decide_eq_false_iff_not]; omega
    unfold r10_Few_L2_step
    simp only [Tree.run, this, cond_false]
theorem few10_mem {l : List Entry} {most : Nat} (h : fewB q10 most l = true) : ∀ x ∈ l, x.1.length ≤ 1000 ∧ x.2.2.1.length ≤ 1000 ∧ x.2.2.2.length ≤ 1000 := by
  intro x hx
  have := fewB_mem h hx
  unfold q10 at this
  simp only [Bool.or_eq_false_iff, Bool.not_eq_false', Bool.and_eq_true, decide_eq_true_eq, decide_eq_false_iff_not] at this
  omega
theorem few10_small {l : List Entry} {most : Nat} (hm : most ≤ 1000) (h : fewB q10 most l = true) : SmallE l := ⟨by have := fewB_len h; omega, few10_mem h⟩

end Go.Eng

