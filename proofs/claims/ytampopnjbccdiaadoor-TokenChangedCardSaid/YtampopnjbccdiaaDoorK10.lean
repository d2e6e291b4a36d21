/- Laws in plain Lean: e10chk e10get path z10. -/
import Derived.Test.YtampopnjbccdiaaDoorK09
import Derived.Test.YtampopnjbccdiaaDoorN24
namespace Go.Eng
open Go Go.Proofs Go.RowKit

/-! Entries: may they be? -/
def SmallE (l : List Entry) : Prop := l.length ≤ 10000 ∧ ∀ x ∈ l, x.1.length ≤ 1000 ∧ x.2.2.1.length ≤ 1000 ∧ x.2.2.2.length ≤ 1000
def entB (x : Entry) : Bool := (decide (1 ≤ x.1.length) && decide (x.1.length ≤ 128)) && regB x.2
def ppB (p : Option Str) (s : Str) : Bool := match p with | none => true | some p => ltS p s
def entG (p : Option Str) (x : Entry) : Bool := entB x && ppB p x.1
def mayB (l : List Entry) : Bool := decide (l.length ≤ 4096) && chain entG (fun _ x => some x.1) none l
def ppOf (c : List Entry) (i : Nat) : Option Str := if i = 0 then none else (c[i - 1]?).map fun x => x.1
theorem pp_ok (c : List Entry) (hc : c.length ≤ 10000) (i : Nat) (hi : i < c.length) (y : Bool) : ((!((!(!y)) && (decide ((0 : Int) < (i : Int))))) || inb (w64 ((i : Int) - 1)) c.length) = true := by
  cases i with
  | zero => simp
  | succ i =>
    have e1 : w64 (((i + 1 : Nat) : Int) - 1) = (i : Int) := by
      show IntKind.i64.wrap _ = _
      rw [IntKind.wrap_i64]; omega
    have hi' : i < c.length := by omega
    rw [e1, inb_nat, decide_eq_true hi', Bool.or_true]
theorem pp_lt (c : List Entry) (hc : c.length ≤ 10000) (i : Nat) (hi : i < c.length) (s : Str) : ((decide ((0 : Int) < (i : Int))) && (!ltS (c.getD ((w64 ((i : Int) - 1)).toNat) (dfl tEntry : Entry)).1 s)) = !ppB (ppOf c i) s := by
  cases i with
  | zero => rfl
  | succ i =>
    have e1 : w64 (((i + 1 : Nat) : Int) - 1) = (i : Int) := by
      show IntKind.i64.wrap _ = _
      rw [IntKind.wrap_i64]; omega
    have hi' : i < c.length := by omega
    have e0 : decide ((0 : Int) < ((i + 1 : Nat) : Int)) = true := by rw [decide_eq_true_eq]; omega
    rw [e1, e0, Int.toNat_natCast, getD_lt _ _ _ hi']
    unfold ppOf
    rw [if_neg (by omega), Nat.add_sub_cancel, List.getElem?_eq_getElem hi']
    rfl
theorem pp_next (c : List Entry) (i : Nat) (hi : i < c.length) : some c[i].1 = ppOf c (i + 1) := by
  unfold ppOf
  rw [if_neg (by omega), Nat.add_sub_cancel, List.getElem?_eq_getElem hi]; rfl
/-- Rising by their keys. -/
def Srt (l : List Entry) : Prop := l.Pairwise fun x y => ltS x.1 y.1 = true
theorem chain_srt {l : List Entry} {p : Option Str} (h : chain entG (fun _ x => some x.1) p l = true) : (∀ x ∈ l, ppB p x.1 = true) ∧ Srt l ∧ ∀ x ∈ l, entB x = true := by
  induction l generalizing p with
  | nil => exact ⟨fun x hx => absurd hx (by simp), List.Pairwise.nil, fun x hx => absurd hx (by simp)⟩
  | cons x l ih =>
    simp only [chain, Bool.and_eq_true] at h
    obtain ⟨h1, h2⟩ := h
    obtain ⟨k1, k2, k3⟩ := ih h2
    unfold entG at h1
    simp only [Bool.and_eq_true] at h1
    refine ⟨fun y hy => ?_, List.Pairwise.cons k1 k2, fun y hy => ?_⟩
    · rcases List.mem_cons.1 hy with rfl | hy
      · exact h1.2
      · have hxy : ltS x.1 y.1 = true := k1 y hy
        cases p with
        | none => rfl
        | some p => exact less_trans h1.2 hxy
    · rcases List.mem_cons.1 hy with rfl | hy
      · exact h1.1
      · exact k3 y hy
theorem srt_chain {l : List Entry} {p : Option Str} (hp : ∀ x ∈ l, ppB p x.1 = true) (hs : Srt l) (he : ∀ x ∈ l, entB x = true) : chain entG (fun _ x => some x.1) p l = true := by
  induction l generalizing p with
  | nil => rfl
  | cons x l ih =>
    have hs := List.pairwise_cons.1 hs
    simp only [chain, Bool.and_eq_true]
    refine ⟨?_, ih (fun y hy => hs.1 y hy) hs.2 (fun y hy => he y (by simp [hy]))⟩
    unfold entG
    rw [he x (by simp), hp x (by simp)]; rfl
theorem mayB_iff (l : List Entry) : mayB l = true ↔ l.length ≤ 4096 ∧ Srt l ∧ ∀ x ∈ l, entB x = true := by
  unfold mayB
  rw [Bool.and_eq_true, decide_eq_true_eq]
  exact ⟨fun h => ⟨h.1, (chain_srt h.2).2⟩, fun h => ⟨h.1, srt_chain (fun _ _ => rfl) h.2.1 h.2.2⟩⟩
/-! What a key has. -/
def findR (l : List Entry) (k : Str) : Option Reg := (l.find? fun x => x.1 == k).map fun x => x.2
def getR (l : List Entry) (k : Str) : Reg := (findR l k).getD (0, ([], []))
theorem get_run (l : List Entry) (k : Str) (hl : l.length ≤ 1000000) : (registry_Get_T l k).run = some (getR l k) := by
  unfold registry_Get_T
  simp only [Tree.run]
  rw [slices_IndexFunc_Entry_registry_Get_1_run l k (fun x => x.1 == k) hl (fun x _ => rfl)]
  unfold getR findR
  simp only [Option.bind_some]
  rcases idxI_cases (fun x : Entry => x.1 == k) l with ⟨h, n⟩ | ⟨i, hi, h, n, _, n2⟩
  · rw [h]
    have : l.find? (fun x => x.1 == k) = none := by
      rw [List.find?_eq_none]; intro x hx
      have := List.any_eq_false.1 n x hx; exact this
    rw [this]; rfl
  · rw [h]
    have : l.find? (fun x => x.1 == k) = some l[i] := by
      rw [List.find?_eq_some_iff_getElem]
      exact ⟨n, i, hi, rfl, fun j hj => by have := n2 j hj; simpa using this⟩
    rw [this]
    have hn : ¬ ((i : Int) < 0) := by omega
    simp only [hn, decide_false, cond_false, inb_nat, hi, decide_true, cond_true, Int.toNat_natCast, getD_lt _ _ _ hi]
    rfl
theorem find_mem {l : List Entry} {k : Str} {r : Reg} (h : findR l k = some r) : (k, r) ∈ l := by
  unfold findR at h
  cases hf : l.find? (fun x => x.1 == k) with
  | none => rw [hf] at h; cases h
  | some x =>
    rw [hf] at h; cases h
    have h1 := List.find?_some hf
    have h2 := List.mem_of_find?_eq_some hf
    have e : x.1 = k := by simpa using h1
    rw [← e]; exact h2

def lenAll (l : List Str) : Nat := (l.map List.length).sum
theorem joinS_len (l : List Str) : (joinS ([47] : Str) l).length ≤ lenAll l + l.length := by
  have key : ∀ r : List Str, ((r.map fun y => ([47] : Str) ++ y).flatten).length = lenAll r + r.length := fun r => by
    unfold lenAll
    induction r with
    | nil => rfl
    | cons y r ih => simp only [List.map_cons, List.flatten_cons, List.length_append, List.length_cons, List.length_nil, List.sum_cons, ih]; omega
  cases l with
  | nil => exact Nat.zero_le _
  | cons x l =>
    show (x ++ _).length ≤ _
    rw [List.length_append, key]
    unfold lenAll
    simp only [List.map_cons, List.sum_cons, List.length_cons]; omega
theorem path_run (l : List Str) (hl : l.length ≤ 1000000) (hs : lenAll l ≤ 1000000) : (name_Path_T l).run = some (joinS ([47] : Str) l) := by
  have hj : (strings_Join_T l ([47] : Str)).run = some (joinS ([47] : Str) l) := by
    show (joinT _ _).run = _
    unfold joinT
    have := joinS_len l
    exact (run_ask (decide_eq_true (by omega))).trans ((run_ask (decide_eq_true (by omega))).trans rfl)
  unfold name_Path_T
  exact (run_bnd hj).trans rfl
theorem nameS_ne {x : Str} (h : nameS x = true) : x ≠ [] := by rintro rfl; cases h
theorem nameS_len {x : Str} (h : nameS x = true) : x.length ≤ 16 := by
  unfold nameS at h
  simp only [Bool.and_eq_true, decide_eq_true_eq] at h
  exact h.1.2
def q10 (x : Entry) : Bool := (decide ((200 : Int) < (x.1.length : Int))) || !((decide ((x.2.2.1.length : Int) ≤ 100)) && (decide ((x.2.2.2.length : Int) ≤ 300)))
theorem few10_mem {l : List Entry} {most : Nat} (h : fewB q10 most l = true) : ∀ x ∈ l, x.1.length ≤ 1000 ∧ x.2.2.1.length ≤ 1000 ∧ x.2.2.2.length ≤ 1000 := by
  intro x hx
  have := fewB_mem h hx
  unfold q10 at this
  simp only [Bool.or_eq_false_iff, Bool.not_eq_false', Bool.and_eq_true, decide_eq_true_eq, decide_eq_false_iff_not] at this
  omega
theorem few10_small {l : List Entry} {most : Nat} (hm : most ≤ 1000) (h : fewB q10 most l = true) : SmallE l := ⟨by have := fewB_len h; omega, few10_mem h⟩

end Go.Eng

