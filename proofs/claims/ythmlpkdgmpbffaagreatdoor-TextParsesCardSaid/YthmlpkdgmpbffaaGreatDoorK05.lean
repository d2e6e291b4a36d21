/- Names: name.Is and the reference's Is come to one plain function. -/
import Derived.Test.YthmlpkdgmpbffaaGreatDoorL52z
import Derived.Test.YthmlpkdgmpbffaaGreatDoorTrI
import Derived.Laws.RangeAny
namespace Go.Eng
open Go Go.Proofs Go.RowKit

def isLetterS (x : Int) : Bool := decide (97 ≤ x ∧ x ≤ 122 ∨ 48 ≤ x ∧ x ≤ 57 ∨ x = 45)
def okB (b : UInt8) : Bool := isLetterS (b.toNat : Int)
/-- May a text be a name? -/
def nameS (s : Str) : Bool := !(s == []) && decide (s.length ≤ 16) && s.all okB

theorem rune_ok (s : List UInt8) (pos : Nat) (h : pos < s.length) : isLetterS (std.rune s pos) = okB s[pos] ∧ (isLetterS (std.rune s pos) = true → std.npos s pos = pos + 1) := by
  have hb : pos < (bytes s).size := by simpa [bytes, ByteArray.size] using h
  have hg : (bytes s)[pos]'hb = s[pos] := rfl
  by_cases ha : (s[pos]).toNat < 128
  · have hd := decode_ascii (bytes s) pos hb (by rw [hg]; exact ha)
    rw [hg] at hd
    have e1 : std.rune s pos = ((s[pos]).toNat : Int) := congrArg (fun x : Nat × Nat => (x.1 : Int)) hd
    have e2 : std.npos s pos = pos + 1 := by
      show (if pos < s.length then pos + (Utf8.decode (bytes s) pos).2 else pos) = _
      rw [if_pos h, hd]
    exact ⟨by rw [e1]; rfl, fun _ => e2⟩
  · have hd := decode_high (bytes s) pos hb (by rw [hg]; omega)
    have e1 : 128 ≤ std.rune s pos := by show (128 : Int) ≤ ((Utf8.decode (bytes s) pos).1 : Int); exact_mod_cast hd.1
    have f1 : isLetterS (std.rune s pos) = false := by
      unfold isLetterS
      exact decide_eq_false (by omega)
    have f2 : okB s[pos] = false := by
      unfold okB isLetterS
      exact decide_eq_false (by omega)
    exact ⟨f1.trans f2.symm, by rw [f1]; simp⟩

theorem okB_not (b : UInt8) : okB b = !(((decide ((b.toNat : Int) < 97) || decide ((122 : Int) < (b.toNat : Int))) && (decide ((b.toNat : Int) < 48) || decide ((57 : Int) < (b.toNat : Int)))) && !decide ((b.toNat : Int) = 45)) := by
  unfold okB isLetterS
  rw [Bool.eq_iff_iff]
  simp only [decide_eq_true_eq, Bool.not_eq_true', Bool.and_eq_false_iff, Bool.or_eq_false_iff, decide_eq_false_iff_not, Bool.not_eq_false']
  omega

theorem any_loopB {α β : Type} (l : List α) (p : α → Bool) (st : Int → Tree (Int ⊕ β)) (y z : β) (hl : l.length ≤ 9223372036854775807)
    (h : ∀ i (hi : i < l.length), (st (i : Int)).run = some (bif p l[i] then .inr y else .inl (w64 ((i : Int) + 1)))) (h0 : (st (l.length : Int)).run = some (.inr z)) :
    loopF (fun v => (st v).run) 0 = some (bif l.any p then y else z) :=
  loopF_any (st := fun v => (st v).run) l p (fun i => (i : Int)) y z (fun i hi => by rw [h i hi, w64_nat i (by omega)]) h0 rfl
