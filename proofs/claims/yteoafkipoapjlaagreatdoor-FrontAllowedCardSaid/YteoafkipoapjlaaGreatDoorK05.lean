/- Names: name.Is and the reference's Is come to one plain function. -/
import Derived.Test.YteoafkipoapjlaaGreatDoorL40
import Derived.Test.YteoafkipoapjlaaGreatDoorTrI
import Derived.Laws.RangeAny
namespace Go.Eng
open Go Go.Proofs Go.RowKit

def isLetterS (x : Int) : Bool := decide (97 ≤ x ∧ x ≤ 122 ∨ 48 ≤ x ∧ x ≤ 57 ∨ x = 45)
def okB (b : UInt8) : Bool := isLetterS (b.toNat : Int)
/-- May a text be a name? -/
def nameS (s : Str) : Bool := !(s == []) && decide (s.length ≤ 16) && s.all okB

theorem rune_ok (s : List UInt8) (pos : Nat) (h : pos < s.length) : isLetterS (std.rune s pos) = okB s[pos] ∧ (isLetterS (std.rune s pos) = true → std.npos s pos = pos + 1) := by
  have hb : pos < (bytes s).size := by simpa [bytes, ByteArray.size] using h
  have hg : (bytes s)[pos]'hb = s[pos] := rfl
  by_cases ha : (s[pos]).toNat < 128
  · have hd := decode_ascii (bytes s) pos hb (by rw [hg]; exact ha)
    rw [hg] at hd
    have e1 : std.rune s pos = ((s[pos]).toNat : Int) := congrArg (fun x : Nat × Nat => (x.1 : Int)) hd
    have e2 : std.npos s pos = pos + 1 := by
      show (if pos < s.length then pos + (Utf8.decode (bytes s) pos).2 else pos) = _
      rw [if_pos h, hd]
    exact ⟨by rw [e1]; rfl, fun _ => e2⟩
  · have hd := decode_high (bytes s) pos hb (by rw [hg]; omega)
    have e1 : 128 ≤ std.rune s pos := by show (128 : Int) ≤ ((Utf8.decode (bytes s) pos).1 : Int); exact_mod_cast hd.1
    have f1 : isLetterS (std.rune s pos) = false := by
      unfold isLetterS
      exact decide_eq_false (by omega)
    have f2 : okB s[pos] = false := by
      unfold okB isLetterS
      exact decide_eq_false (by omega)
    exact ⟨f1.trans f2.symm, by rw [f1]; simp⟩

theorem isLetter_run (x : Int) : (name_isLetter_T x).run = some (isLetterS x) := by
  unfold name_isLetter_T isLetterS
  simp only [Tree.run]
  congr 1
  simp only [Bool.decide_or, Bool.decide_and, Bool.or_assoc]

theorem nameIs_run (s : Str) : (name_Is_T s).run = some (nameS s) := by
  unfold name_Is_T
  simp only [Tree.run]
  by_cases h0 : s = []
  · subst h0; rfl
  by_cases h1 : (16 : Int) < (s.length : Int)
  · have : ¬ s.length ≤ 16 := by omega
    simp [h1, nameS, this]
  · have h2 : s.length ≤ 16 := by omega
    have h3 : ((s == ([] : Str)) || decide ((16 : Int) < (s.length : Int))) = false := by simp [h0, h1]
    simp only [h3, cond_false]
    have key : ∀ d i, i + d = s.length → (s.take i).all okB = true → loopF (fun v => (name_Is_L4_step s v).run) i = some (bif s.all okB then .inr () else .inl false) := by
      intro d
      induction d with
      | zero =>
        intro i hi ha
        have hi : i = s.length := hi
        subst hi
        rw [List.take_length] at ha
        rw [loopF_eq, ha]
        unfold name_Is_L4_step
        simp [Tree.run, loopStep]
      | succ d ih =>
        intro i hi ha
        have hlt : i < s.length := by omega
        obtain ⟨r1, r2⟩ := rune_ok s i hlt
        have hst : (name_Is_L4_step s i).run = some (bif okB s[i] then .inl (std.npos s i) else .inr (.inl false)) := by
          unfold name_Is_L4_step
          simp only [Tree.run, Int.ofNat_lt, hlt, decide_true, cond_true, isLetter_run, Option.bind_some, r1]
          cases okB s[i] <;> rfl
        rw [loopF_eq, hst]
        cases hb : okB s[i] with
        | false =>
          have : s.all okB = false := List.all_eq_false.2 ⟨s[i], List.getElem_mem hlt, by rw [hb]; simp⟩
          rw [this]; rfl
        | true =>
          have e := r2 (r1.trans hb)
          rw [e]
          refine ih (i + 1) (by omega) ?_
          rw [List.take_add_one, List.getElem?_eq_getElem hlt, List.all_append, ha]
          simp [hb]
    rw [key s.length 0 (by omega) (by simp)]
    have : nameS s = s.all okB := by simp [nameS, h0, h2]
    rw [this]
    cases s.all okB <;> rfl

theorem okB_not (b : UInt8) : okB b = !(((decide ((b.toNat : Int) < 97) || decide ((122 : Int) < (b.toNat : Int))) && (decide ((b.toNat : Int) < 48) || decide ((57 : Int) < (b.toNat : Int)))) && !decide ((b.toNat : Int) = 45)) := by
  unfold okB isLetterS
  rw [Bool.eq_iff_iff]
  simp only [decide_eq_true_eq, Bool.not_eq_true', Bool.and_eq_false_iff, Bool.or_eq_false_iff, decide_eq_false_iff_not, Bool.not_eq_false']
  omega

theorem any_loopB {α β : Type} (l : List α) (p : α → Bool) (st : Int → Tree (Int ⊕ β)) (y z : β) (hl : l.length ≤ 9223372036854775807)
    (h : ∀ i (hi : i < l.length), (st (i : Int)).run = some (bif p l[i] then .inr y else .inl (w64 ((i : Int) + 1)))) (h0 : (st (l.length : Int)).run = some (.inr z)) :
    loopF (fun v => (st v).run) 0 = some (bif l.any p then y else z) :=
  loopF_any (st := fun v => (st v).run) l p (fun i => (i : Int)) y z (fun i hi => by rw [h i hi, w64_nat i (by omega)]) h0 rfl
theorem r05Is_runB (s : Str) (hs : s.length ≤ 9223372036854775807) : (r05_Is_T s).run = some (nameS s) := by
  unfold r05_Is_T
  have h := any_loopB s (fun b => !okB b) (fun v => r05_Is_L2_step s v) (Sum.inl false : Bool ⊕ Unit) (.inr ()) hs (fun i hi => by
    have e : sgetI s (i : Int) = (s[i].toNat : Int) := by simp [sgetI, std, List.getD, hi]
    unfold r05_Is_L2_step
    simp only [Tree.run, Int.ofNat_lt, hi, decide_true, cond_true, inb_nat, Bool.or_true, e, okB_not]
    rw [Bool.not_not]
    generalize ((((decide ((s[i].toNat : Int) < 97)) || (decide ((122 : Int) < (s[i].toNat : Int)))) && ((decide ((s[i].toNat : Int) < 48)) || (decide ((57 : Int) < (s[i].toNat : Int))))) && (!decide ((s[i].toNat : Int) = 45))) = c
    cases c <;> rfl) (by unfold r05_Is_L2_step; simp [Tree.run])
  simp only [Tree.run]
  rw [h]
  have hn : nameS s = (!(s.any fun b => !okB b) && (decide ((1 : Int) ≤ (s.length : Int)) && decide ((s.length : Int) ≤ 16))) := by
    have ha : s.all okB = !(s.any fun b => !okB b) := by rw [List.all_eq_not_any_not]
    unfold nameS
    rw [ha, Bool.and_comm]
    congr 1
    cases s with
    | nil => rfl
    | cons x l =>
      have h1 : ((x :: l) == ([] : Str)) = false := rfl
      have h2 : (1 : Int) ≤ ((x :: l).length : Int) := by simp only [List.length_cons]; omega
      rw [h1, decide_eq_true h2]
      simp only [Bool.not_false, Bool.true_and, decide_eq_decide]
      omega
  rw [hn]
  cases s.any fun b => !okB b <;> rfl
theorem r05Is_run (s : Str) (hs : s.length ≤ 1000000) : (r05_Is_T s).run = some (nameS s) := r05Is_runB s (by omega)

end Go.Eng

